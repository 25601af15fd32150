/- Lemmas on the way to the law PathMenger (part 12): Wf Jb -/
import Derived.Test.YtahpdkkpnkhnhaaGreatDoorPathMengerP07
import Derived.Test.YtahpdkkpnkhnhaaGreatDoorPathMengerP04
import Derived.Test.YtahpdkkpnkhnhaaGreatDoorPathMengerP08
import Derived.Test.YtahpdkkpnkhnhaaGreatDoorBA27
import Derived.Test.YtahpdkkpnkhnhaaGreatDoorBA29
import Derived.Test.YtahpdkkpnkhnhaaGreatDoorPathMengerP09
import Derived.Test.YtahpdkkpnkhnhaaGreatDoorPathMengerP10
import Derived.Test.YtahpdkkpnkhnhaaGreatDoorPathMengerP11
import Derived.Test.YtahpdkkpnkhnhaaGreatDoorPathMengerP03
import Derived.Test.YtahpdkkpnkhnhaaGreatDoorPathMengerP02
set_option linter.unusedVariables false
set_option linter.unusedSimpArgs false

/- Walks: the law PathMenger. -/
namespace Go.Proofs.YtahpdkkpnkhnhaaGreatDoor
open Go Go.Proofs Go.RowKit Go.Shelf
def tupA (v : Value) (i : Nat) : Value := match v with | .tuple a => a.getD i undef | _ => undef
theorem tupA_0 (a b : Value) : tupA (.tuple #[a, b]) 0 = a := rfl
theorem tupA_1 (a b : Value) : tupA (.tuple #[a, b]) 1 = b := rfl
theorem menger_law {p : Pl} {src snk : List Int} {rm : List Int} {n : Int} (hok : OkP p) (hoe : OkE p src snk) (hm : MostR p src snk rm n) :
    (∀ L, (∃ R n' ord, MaxF p src snk R n' ord ∧ Chns p src snk R L) → (L.length : Int) = n ∧ disE p src snk L = 0 ∧ L.length ≤ p.ms.length) ∧
    (∀ l, (∃ R n' ord, MaxF p src snk R n' ord ∧ l = cutL p ord) → (l.length : Int) = n ∧ cutB p src snk l = false ∧ (∀ x ∈ l, inN p.ms.length x = true)) := by
  obtain ⟨ord, hx⟩ := hm.max hok hoe
  refine ⟨fun L h => ?_, fun l h => ?_⟩
  · obtain ⟨R, n', ord', h1, h2⟩ := h
    obtain ⟨k1, k2⟩ := h2.ok h1.1
    have h3 := h1.unique hx
    refine ⟨by omega, k1, ?_⟩
    have h4 : L.length = (FlP.heads src R).length := by rw [← h2.hd, List.length_map]
    have h5 : (FlP.heads src R).Nodup := hoe.n1.sublist List.filter_sublist
    have h6 := nodup_inn h5 (fun x hx => hoe.in1 x (List.mem_filter.1 hx).1)
    omega
  · obtain ⟨R, n', ord', h1, rfl⟩ := h
    have h3 := h1.unique hx
    have h4 := h1.1.value_cut h1.2
    exact ⟨by omega, h1.1.cut_ok h1.2, cutL_in⟩
theorem any_take {l : List Int} {k : Nat} (f : Int → Bool) (h : k < l.length) : (l.take (k + 1)).any f = ((l.take k).any f || f l[k]) := by
  rw [List.take_succ_eq_append_getElem h, List.any_append]; simp
set_option maxRecDepth 100000 in
set_option maxHeartbeats 4000000 in
theorem menger15 (w : World) (a1 a2 s1 s2 : Option Addr) (n1 n2 m1 m2 c1 c2 d1 d2 : Nat) (p : Pl) (src snk : List Int) (hwd : WdR w) (hn1 : n1 ≤ 9223372036854775807) (hn2 : n2 ≤ 9223372036854775807)
    (hp : n1 ≤ 70 → Sl Mc.enc 2 w w.heap.size (.slice a1 n1 c1) p.ms ∧ p.ms.length = n1) (hq : n2 ≤ 260 → Sl Ar.enc 2 w w.heap.size (.slice a2 n2 c2) p.arcs ∧ p.arcs.length = n2)
    (hs : SlL encI 1 w w.heap.size (.slice s1 m1 d1) src ∧ src.length = m1) (ht : SlL encI 1 w w.heap.size (.slice s2 m2 d2) snk ∧ snk.length = m2) :
    Calls Tryz.prog 15 #[.agg #[.slice a1 n1 c1, .slice a2 n2 c2], .agg #[.slice s1 m1 d1, .slice s2 m2 d2]] w (Ret (.bool true) w) := by
  have HWD := Lib.hid hwd
  have HPM := Lib.hid hp
  have HPA := Lib.hid hq
  have HSL := Lib.hid hs.1
  have HTL := Lib.hid ht.1
  have HSN := Lib.hid hs.2
  have HTN := Lib.hid ht.2
  clear hwd hp hq hs ht
  have HB := Lib.hid (((Below.refl w.heap.size w).alloc (Nat.le_refl _) (.cells #[.slice a1 n1 c1, .slice a2 n2 c2] 25)).alloc (by simp) (.cells #[.slice s1 m1 d1, .slice s2 m2 d2] 84))
  have HX := Lib.hid ((Box.new w #[.slice a1 n1 c1, .slice a2 n2 c2] 25).alloc (.cells #[.slice s1 m1 d1, .slice s2 m2 d2] 84))
  have HY := Lib.hid (Box.newAt (w.alloc (.cells #[.slice a1 n1 c1, .slice a2 n2 c2] 25)) #[.slice s1 m1 d1, .slice s2 m2 d2] 84 (by simp : _ = w.heap.size + 1))
  go_enter Tryz.func15, Tryz.ntmps15
  go_wp2_with fail
  refine (awake16 _ (HWD.out.later HB.out)).mono ?_
  rintro e2 w2 ⟨rfl, hb⟩
  have HB2 := Lib.hid (HB.out.trans (hb.mono HB.out.size))
  have HX2 := Lib.hid (HX.out.later hb)
  have HY2 := Lib.hid (HY.out.later hb)
  clear hb
  obtain ⟨x0, x1, xf, xz⟩ := HX2.out.v2
  obtain ⟨y0, y1, yf, yz⟩ := HY2.out.v2
  by_cases h8 : (8 : Int) < (n1 : Int)
  · go_wp2_with fail
    refine (few67_no _ a1 n1 c1 _ 8 h8 hn1).mono ?_
    rintro e3 w3 ⟨rfl, hb⟩
    have HB3 := Lib.hid (HB2.out.trans (hb.mono HB2.out.size))
    have HX3 := Lib.hid (HX2.out.later hb)
    have HY3 := Lib.hid (HY2.out.later hb)
    clear hb x0 x1 xf xz y0 y1 yf yz HB2 HX2 HY2
    obtain ⟨x0, x1, xf, xz⟩ := HX3.out.v2
    obtain ⟨y0, y1, yf, yz⟩ := HY3.out.v2
    go_wp2_with fail
    refine (awake16 _ (HWD.out.later HB3.out)).mono ?_
    rintro e4 w4 ⟨rfl, hb⟩
    have HB4 := Lib.hid (HB3.out.trans (hb.mono HB3.out.size))
    have HX4 := Lib.hid (HX3.out.later hb)
    have HY4 := Lib.hid (HY3.out.later hb)
    clear hb x0 x1 xf xz y0 y1 yf yz HB3 HX3 HY3
    obtain ⟨x0, x1, xf, xz⟩ := HX4.out.v2
    obtain ⟨y0, y1, yf, yz⟩ := HY4.out.v2
    go_wp2_with fail
    go_ret
    exact ⟨rfl, HB4.out⟩
  obtain ⟨hpm, hpm1⟩ := HPM.out (by omega)
  have hn8 : n1 ≤ 8 := by omega
  have hHM := Lib.hid hpm
  have HPM1 := Lib.hid hpm1
  clear hpm hpm1 HPM h8
  by_cases h256 : 256 < n2
  · have C67 := Lib.hid (fun (w1 : World) (hb : Below w.heap.size w w1) => few67_many w1 (.slice a1 n1 c1) a2 n2 c2 p 8 (hHM.out.later hb) h256 hn2 (by rw [HPM1.out]; omega))
    go_wp2_with fail
    refine (C67.out _ HB2.out).mono ?_
    rintro e5 w5 ⟨rfl, hb⟩
    have HB5 := Lib.hid (HB2.out.trans (hb.mono HB2.out.size))
    have HX5 := Lib.hid (HX2.out.later hb)
    have HY5 := Lib.hid (HY2.out.later hb)
    clear hb x0 x1 xf xz y0 y1 yf yz HB2 HX2 HY2
    obtain ⟨x0, x1, xf, xz⟩ := HX5.out.v2
    obtain ⟨y0, y1, yf, yz⟩ := HY5.out.v2
    go_wp2_with fail
    refine (awake16 _ (HWD.out.later HB5.out)).mono ?_
    rintro e6 w6 ⟨rfl, hb⟩
    have HB6 := Lib.hid (HB5.out.trans (hb.mono HB5.out.size))
    have HX6 := Lib.hid (HX5.out.later hb)
    have HY6 := Lib.hid (HY5.out.later hb)
    clear hb x0 x1 xf xz y0 y1 yf yz HB5 HX5 HY5
    obtain ⟨x0, x1, xf, xz⟩ := HX6.out.v2
    obtain ⟨y0, y1, yf, yz⟩ := HY6.out.v2
    go_wp2_with fail
    go_ret
    exact ⟨rfl, HB6.out⟩
  obtain ⟨hpa, hpa1⟩ := HPA.out (by omega)
  have HPA1 := Lib.hid hpa1
  have HPL := Lib.hid (show PlR w w.heap.size (.slice a1 n1 c1) (.slice a2 n2 c2) p from ⟨hHM.out, hpa⟩)
  clear hpa hpa1 HPA hHM
  have hn260 : n2 ≤ 256 := by omega
  clear h256
  have C67 := Lib.hid (fun (w1 : World) (hb : Below w.heap.size w w1) => few67 w1 _ _ p 8 (HPL.out.later hb))
  have C63 := Lib.hid (fun (w1 : World) (hb : Below w.heap.size w w1) => checkEnds63L w1 _ _ _ _ p src snk (HPL.out.later hb) (HSL.out.later hb) (HTL.out.later hb) (by rw [HPM1.out]; omega))
  obtain ⟨fb, hfb⟩ : ∃ b, fewB p 8 = b := ⟨_, rfl⟩
  rw [hfb] at C67
  have HFB := Lib.hid hfb
  obtain ⟨en, hen⟩ : ∃ c, endsE p src snk = c := ⟨_, rfl⟩
  rw [hen] at C63
  have HEN := Lib.hid hen
  clear hfb hen
  go_wp2_with fail
  refine (C67.out _ HB2.out).mono ?_
  rintro e7 w7 ⟨rfl, hb⟩
  have HB7 := Lib.hid (HB2.out.trans (hb.mono HB2.out.size))
  have HX7 := Lib.hid (HX2.out.later hb)
  have HY7 := Lib.hid (HY2.out.later hb)
  clear hb x0 x1 xf xz y0 y1 yf yz HB2 HX2 HY2
  obtain ⟨x0, x1, xf, xz⟩ := HX7.out.v2
  obtain ⟨y0, y1, yf, yz⟩ := HY7.out.v2
  cases fb with
  | true =>
    by_cases h16 : (16 : Int) < (n2 : Int)
    · have d4 : decide ((16 : Int) < (n2 : Int)) = true := decide_eq_true h16
      have d5 : decide (16 < n2) = true := decide_eq_true (by omega)
      clear h16
      go_wp2_with fail
      refine (awake16 _ (HWD.out.later HB7.out)).mono ?_
      rintro e8 w8 ⟨rfl, hb⟩
      have HB8 := Lib.hid (HB7.out.trans (hb.mono HB7.out.size))
      have HX8 := Lib.hid (HX7.out.later hb)
      have HY8 := Lib.hid (HY7.out.later hb)
      clear hb x0 x1 xf xz y0 y1 yf yz HB7 HX7 HY7
      obtain ⟨x0, x1, xf, xz⟩ := HX8.out.v2
      obtain ⟨y0, y1, yf, yz⟩ := HY8.out.v2
      go_wp2_with fail
      go_ret
      exact ⟨rfl, HB8.out⟩
    have d4 : decide ((16 : Int) < (n2 : Int)) = false := decide_eq_false h16
    have d5 : decide (16 < n2) = false := decide_eq_false (by omega)
    clear h16
    go_wp2_with fail
    refine (C63.out _ HB7.out).mono ?_
    rintro e9 w9 ⟨rfl, hb⟩
    have HB9 := Lib.hid (HB7.out.trans (hb.mono HB7.out.size))
    have HX9 := Lib.hid (HX7.out.later hb)
    have HY9 := Lib.hid (HY7.out.later hb)
    clear hb x0 x1 xf xz y0 y1 yf yz HB7 HX7 HY7
    obtain ⟨x0, x1, xf, xz⟩ := HX9.out.v2
    obtain ⟨y0, y1, yf, yz⟩ := HY9.out.v2
    by_cases h0 : en = 0
    rotate_left
    · have d6 : (en != 0) = true := bne_iff_ne.2 h0
      clear h0
      go_wp2_with fail
      refine (awake16 _ (HWD.out.later HB9.out)).mono ?_
      rintro e10 w10 ⟨rfl, hb⟩
      have HB10 := Lib.hid (HB9.out.trans (hb.mono HB9.out.size))
      have HX10 := Lib.hid (HX9.out.later hb)
      have HY10 := Lib.hid (HY9.out.later hb)
      clear hb x0 x1 xf xz y0 y1 yf yz HB9 HX9 HY9
      obtain ⟨x0, x1, xf, xz⟩ := HX10.out.v2
      obtain ⟨y0, y1, yf, yz⟩ := HY10.out.v2
      go_wp2_with fail
      go_ret
      exact ⟨rfl, HB10.out⟩
    subst h0
    have hck : ckPlant p = 0 := by
      have h := HFB.out
      unfold fewB at h
      rw [Bool.and_eq_true] at h
      exact eq_of_beq h.2
    have hok := ckPlant_ok hck
    have hoe : OkE p src snk := endsE_ok HEN.out
    have hs64 := nodup_inn hoe.n1 hoe.in1
    have ht64 := nodup_inn hoe.n2 hoe.in2
    rw [HPM1.out, HSN.out] at hs64
    rw [HPM1.out, HTN.out] at ht64
    have hls := HSL.out.short (by rw [HSN.out]; omega)
    have hlt := HTL.out.short (by rw [HTN.out]; omega)
    have hbe0 : bothE p src snk = 0 := by unfold bothE; rw [if_neg (by simp [hck]), HEN.out]
    have HCK := Lib.hid hck
    have HOK := Lib.hid hok
    have HOE := Lib.hid hoe
    have HS := Lib.hid hls
    have HTT := Lib.hid hlt
    clear hck hok hoe hls hlt HSL HTL C63 C67 HFB d4 d5
    have C60 := Lib.hid (fun (w1 : World) (hb : Below w.heap.size w w1) => most60 w1 _ _ _ _ p src snk (HWD.out.later hb) (HPL.out.later hb) (HS.out.later hb) (HTT.out.later hb))
    have C61 := Lib.hid (fun (w1 : World) (hb : Below w.heap.size w w1) => disjoint61 w1 _ _ _ _ p src snk (HWD.out.later hb) (HPL.out.later hb) (HS.out.later hb) (HTT.out.later hb))
    have C62 := Lib.hid (fun (w1 : World) (hb : Below w.heap.size w w1) => cut62 w1 _ _ _ _ p src snk (HWD.out.later hb) (HPL.out.later hb) (HS.out.later hb) (HTT.out.later hb))
    have C74 := Lib.hid (fun (w1 : World) (hb : Below w.heap.size w w1) => fun v L (hu : PtR w1 w1.heap.size v L) h20 h80 => checkDisjoint74 w1 _ _ _ _ v p src snk L (HWD.out.later hb) (HPL.out.later hb) (HS.out.later hb) (HTT.out.later hb) hu h20 h80)
    have C75 := Lib.hid (fun (w1 : World) (hb : Below w.heap.size w w1) => fun v c (hu : Sl encI 1 w1 w1.heap.size v c) => checkCut75 w1 _ _ _ _ v p src snk c (HWD.out.later hb) (HPL.out.later hb) (HS.out.later hb) (HTT.out.later hb) hu)
    have C77 := Lib.hid (fun (w1 : World) (hb : Below w.heap.size w w1) => fun v l (hu : Sl encI 1 w1 w1.heap.size v l) h1 h2 h3 => ways77 p HOK.out 20 w1 _ _ v l (HPL.out.later hb) hu h1 h2 h3 (by rw [HPM1.out]; omega) (by omega))
    have C18 := Lib.hid (fun (w1 : World) (hb : Below w.heap.size w w1) => fun fr to L c (h : RtOut p [] fr to L c) (hl : L.length ≤ 64) => (route18 w1 _ _ (.slice none 0 0) p [] fr to (HWD.out.later hb) (HPL.out.later hb) (Sl.nil _ _ _ _ _ _) (by simp) L c h).mono fun e w9 h => RtPost.sl h (by omega))
    have C34 := Lib.hid (fun (w1 : World) (hb : Below w.heap.size w w1) => fun v l (hu : Sl encI 1 w1 w1.heap.size v l) => time34 w1 _ _ v p l (HWD.out.later hb) (HPL.out.later hb) hu)
    have C24 := Lib.hid (fun (w1 : World) (hb : Below w.heap.size w w1) => fun v l x (hu : Sl encI 1 w1 w1.heap.size v l) => in24 v l x w1 hu)
    unfold MostE at C60
    unfold DisP at C61
    unfold CutP at C62
    rw [hbe0] at C60 C61 C62
    have HB0 := Lib.hid hbe0
    clear hbe0
    go_wp2_with fail
    refine (C61.out _ HB9.out).mono ?_
    intro e11 w11 hh
    obtain ⟨v6, L6, rfl, hp6, hz6, hg6, h646, hb⟩ := id hh
    have HG6 := Lib.hid (hg6 (by first | rfl | trivial))
    obtain ⟨n6, hn6⟩ : ∃ n, L6.length = n := ⟨_, rfl⟩
    obtain ⟨a6, c6, hv6, _, _⟩ := id hp6.sl
    rw [hn6] at hv6
    subst hv6
    have HP6 := Lib.hid hp6
    have H64 := Lib.hid h646
    have HN6 := Lib.hid hn6
    clear hz6 hg6 hp6 h646 hn6
    clear hh
    have HB11 := Lib.hid (HB9.out.trans (hb.mono HB9.out.size))
    have HX11 := Lib.hid (HX9.out.later hb)
    have HY11 := Lib.hid (HY9.out.later hb)
    clear hb x0 x1 xf xz y0 y1 yf yz HB9 HX9 HY9
    obtain ⟨x0, x1, xf, xz⟩ := HX11.out.v2
    obtain ⟨y0, y1, yf, yz⟩ := HY11.out.v2
    go_wp2_with fail
    refine (C62.out _ HB11.out).mono ?_
    intro e12 w12 hh
    obtain ⟨v7, l7, rfl, hp7, hz7, hg7, hb⟩ := id hh
    have HG7 := Lib.hid (hg7 (by first | rfl | trivial))
    obtain ⟨n7, hn7⟩ : ∃ n, l7.length = n := ⟨_, rfl⟩
    obtain ⟨a7, c7, hv7, _, _⟩ := id hp7
    rw [hn7] at hv7
    subst hv7
    have HP7 := Lib.hid hp7
    have HN7 := Lib.hid hn7
    clear hz7 hg7 hp7 hn7
    clear hh
    have HB12 := Lib.hid (HB11.out.trans (hb.mono HB11.out.size))
    have HX12 := Lib.hid (HX11.out.later hb)
    have HY12 := Lib.hid (HY11.out.later hb)
    have HP6n := Lib.hid (HP6.out.later hb)
    clear HP6
    have HP6 := HP6n
    clear HP6n
    clear hb x0 x1 xf xz y0 y1 yf yz HB11 HX11 HY11
    obtain ⟨x0, x1, xf, xz⟩ := HX12.out.v2
    obtain ⟨y0, y1, yf, yz⟩ := HY12.out.v2
    go_wp2_with fail
    refine (C60.out _ HB12.out).mono ?_
    intro e13 w13 hh
    obtain ⟨n0, rfl, hz0, hg0, hb⟩ := id hh
    obtain ⟨rm, hr⟩ := hg0 (by first | rfl | trivial)
    obtain ⟨hl1, hl2⟩ := menger_law HOK.out HOE.out hr
    obtain ⟨r1, r2, r3⟩ := hl1 L6 HG6.out
    obtain ⟨r4, r5, r6⟩ := hl2 l7 HG7.out
    have HN6e := HN6.out
    have HN7e := HN7.out
    obtain rfl : n6 = n7 := by omega
    obtain rfl : n0 = (n6 : Int) := by omega
    have hn69 : n6 ≤ 8 := by rw [HPM1.out] at r3; omega
    have HD6 := Lib.hid (show disBE p src snk L6 = 0 by unfold disBE; rw [HB0.out, if_neg (by simp)]; exact r2)
    have HC7 := Lib.hid (show cutE p src snk l7 = 0 by
      unfold cutE; rw [HB0.out, if_neg (by simp)]
      have hu : unkE p.ms.length l7 = 0 := by
        unfold unkE
        rw [if_neg]
        rw [Bool.not_eq_true, List.any_eq_false]
        intro x hx
        rw [r6 x hx]; simp
      rw [hu, if_neg (by simp), r5]; rfl)
    have HCB := Lib.hid r5
    clear hz0 hg0 hr hl1 hl2 r1 r2 r3 r4 r5 r6 HN6e HN7e HG6 HG7
    clear hh
    have HB13 := Lib.hid (HB12.out.trans (hb.mono HB12.out.size))
    have HX13 := Lib.hid (HX12.out.later hb)
    have HY13 := Lib.hid (HY12.out.later hb)
    have HP6n := Lib.hid (HP6.out.later hb)
    clear HP6
    have HP6 := HP6n
    clear HP6n
    have HP7n := Lib.hid (HP7.out.later hb)
    clear HP7
    have HP7 := HP7n
    clear HP7n
    clear hb x0 x1 xf xz y0 y1 yf yz HB12 HX12 HY12
    obtain ⟨x0, x1, xf, xz⟩ := HX13.out.v2
    obtain ⟨y0, y1, yf, yz⟩ := HY13.out.v2
    clear C60 C61 C62
    go_wp2_with fail
    refine (C74.out _ HB13.out _ L6 HP6.out (by rw [HN6.out]; omega) (fun t ht => by have := H64.out t ht; omega)).mono ?_
    intro e14 w14 hh
    obtain ⟨rfl, hb⟩ := id hh
    rw [HD6.out]
    clear hh
    have HB14 := Lib.hid (HB13.out.trans (hb.mono HB13.out.size))
    have HX14 := Lib.hid (HX13.out.later hb)
    have HY14 := Lib.hid (HY13.out.later hb)
    have HP6n := Lib.hid (HP6.out.later hb)
    clear HP6
    have HP6 := HP6n
    clear HP6n
    have HP7n := Lib.hid (HP7.out.later hb)
    clear HP7
    have HP7 := HP7n
    clear HP7n
    clear hb x0 x1 xf xz y0 y1 yf yz HB13 HX13 HY13
    obtain ⟨x0, x1, xf, xz⟩ := HX14.out.v2
    obtain ⟨y0, y1, yf, yz⟩ := HY14.out.v2
    clear HP6 H64 HN6 HD6
    go_wp2_with fail
    refine (C75.out _ HB14.out _ l7 HP7.out).mono ?_
    intro e15 w15 hh
    obtain ⟨rfl, hb⟩ := id hh
    rw [HC7.out]
    clear hh
    have HB15 := Lib.hid (HB14.out.trans (hb.mono HB14.out.size))
    have HX15 := Lib.hid (HX14.out.later hb)
    have HY15 := Lib.hid (HY14.out.later hb)
    have HP7n := Lib.hid (HP7.out.later hb)
    clear HP7
    have HP7 := HP7n
    clear HP7n
    clear hb x0 x1 xf xz y0 y1 yf yz HB14 HX14 HY14
    obtain ⟨x0, x1, xf, xz⟩ := HX15.out.v2
    obtain ⟨y0, y1, yf, yz⟩ := HY15.out.v2
    clear C74 C75 HC7
    go_wp2_with fail
    clear x0 x1 xf xz y0 y1 yf yz
    go_loopw [11] (fun i wr => ∃ k : Nat, k ≤ m1 ∧ i = .int .i64 k ∧ Below w15.heap.size w15 wr) (fun i _ => m1 - (intOf i).toNat)
    case atStart => exact ⟨0, by omega, rfl, Below.refl _ _⟩
    case round =>
      obtain ⟨k, hk, rfl, hbe⟩ := hrel
      obtain ⟨U1, hU1⟩ : ∃ U : World, U = wr := ⟨_, rfl⟩
      subst hU1
      have HB1 := Lib.hid (HB15.out.trans (hbe.mono HB15.out.size))
      have HX1 := Lib.hid (HX15.out.later hbe)
      have HY1 := Lib.hid (HY15.out.later hbe)
      have HP1 := Lib.hid (HP7.out.later hbe)
      have HK1 := Lib.hid hbe
      clear hbe
      obtain ⟨x0, x1, xf, xz⟩ := HX1.out.v2
      obtain ⟨y0, y1, yf, yz⟩ := HY1.out.v2
      by_cases hlt : k < m1
      rotate_left
      · obtain rfl : m1 = k := by omega
        go_wp2_with fail
        go_ret
        exact ⟨rfl, HB1.out⟩
      have hkl : k < src.length := by rw [HSN.out]; exact hlt
      obtain ⟨sa, sc, e5, _, hAs⟩ := id HS.out
      rw [HSN.out] at e5
      cases e5
      obtain ⟨bs, os, rfl, hbbs, hcs⟩ := hAs (by omega)
      have HCS := Lib.hid (fun (u : World) (hb : Below w.heap.size w u) => show u.cell? ⟨bs, os + k, none⟩ = some (.int .i64 src[k]) from by
        have h := ((hcs k hkl).below hb hbbs).c1
        rw [Nat.mul_one] at h
        exact h)
      have HBS := Lib.hid (fun (u : World) (hb : Below w.heap.size w u) => show bs < u.heap.size from Nat.lt_of_lt_of_le hbbs hb.size)
      have s0 := HCS.out _ HB1.out
      have hbsz := HBS.out _ HB1.out
      have HFS := Lib.hid (List.getElem_mem hkl)
      clear hAs hcs
      generalize src[k] = fr at *
      have HIF := Lib.hid (HOE.out.in1 _ HFS.out)
      go_wp2_with fail
      refine wp_region_allocflow 7 6 _ (fun v u => Sl encI 1 u u.heap.size v [fr]) (by kernel_rfl) (by kernel_rfl) rfl (fun v u u' h hb => h.later hb) ?_
      apply Exists.intro
      refine ⟨fun Y => ?_, fun wa hwa => ⟨.slice (some ⟨wa.heap.size, 0, none⟩) 1 1, wa.alloc (.cells #[.int .i64 fr] 3), ?_, Sl.lit encI_len [fr] wa #[.int .i64 fr] 3 1 rfl rfl (by simp), (Below.refl _ _).alloc (Nat.le_refl _) _⟩, fun vl w2 hb hD => ?_⟩
      · simp only [headsOf, List.take_succ_cons, List.drop_succ_cons, List.take_zero, List.drop_zero, Nat.reduceSub, List.cons_append, List.nil_append]
        repeat go_big_quiet_step (fail)
        exact wpQuiet_nil rfl
      · go_simp
        first | done | rfl | (go_ints; rfl)
      simp only [Act.put, List.setIfInBounds_toArray, List.set_cons_succ, List.set_cons_zero, List.drop_succ_cons, List.drop_zero]
      obtain ⟨al, cl, rfl, _, _⟩ := id hD
      rw [show ([fr] : List Int).length = 1 from rfl] at hD ⊢
      have HD := Lib.hid hD
      have HB2 := Lib.hid (HB1.out.trans (hb.mono HB1.out.size))
      have HK2 := Lib.hid (HK1.out.trans (hb.mono HK1.out.size))
      have HX2 := Lib.hid (HX1.out.later hb)
      have HY2 := Lib.hid (HY1.out.later hb)
      have HP2 := Lib.hid (HP1.out.later hb)
      clear hb hD x0 x1 xf xz y0 y1 yf yz s0 hbsz HB1 HK1 HX1 HY1 HP1
      obtain ⟨x0, x1, xf, xz⟩ := HX2.out.v2
      obtain ⟨y0, y1, yf, yz⟩ := HY2.out.v2
      go_wp2_with fail
      refine (C77.out _ HB2.out _ [fr] HD.out (by simp) (fun x hx => by rw [List.mem_singleton] at hx; subst hx; exact HIF.out) (by simp)).mono ?_
      rintro e3 U3 ⟨v3, rfl, hll, hb⟩
      have HB3 := Lib.hid (HB2.out.trans (hb.mono HB2.out.size))
      have HK3 := Lib.hid (HK2.out.trans (hb.mono HK2.out.size))
      have HX3 := Lib.hid (HX2.out.later hb)
      have HY3 := Lib.hid (HY2.out.later hb)
      have HP3 := Lib.hid (HP2.out.later hb)
      clear hb x0 x1 xf xz y0 y1 yf yz HB2 HK2 HX2 HY2 HP2 HD
      obtain ⟨x0, x1, xf, xz⟩ := HX3.out.v2
      obtain ⟨y0, y1, yf, yz⟩ := HY3.out.v2
      have HRT := Lib.hid (fun to (ht : to ∈ snk) hl => menger_route HCK.out HOE.out HFS.out ht (f := 20) (by rw [HPM1.out]; omega) hl)
      have HWS := Lib.hid (fun x (hx : x ∈ waysF p 20 [fr]) => ways_spec HOK.out hx)
      have HWL := Lib.hid (waysF_len p 20 [fr])
      obtain ⟨AL, hAL⟩ : ∃ A, waysF p 20 [fr] = A := ⟨_, rfl⟩
      rw [hAL] at hll HRT HWS HWL
      clear hAL
      obtain ⟨HL, hown, hHL, hin⟩ := hll
      obtain ⟨av, cv, hsh⟩ := hown.shape
      subst hsh
      obtain ⟨nA, hnA⟩ : ∃ n, AL.length = n := ⟨_, rfl⟩
      have hHn : HL.length = nA := by omega
      have hA10 : nA ≤ 20000 := by have := HWL.out; omega
      have hSA := hown.toSl Hdp.enc_len (by omega)
      have hSE : ∀ i (h : i < HL.length) (h2 : i < AL.length), Sl encI 1 U3 U3.heap.size HL[i].v AL[i] := fun i h h2 => (hin i h h2).toSl encI_len (by
        have := (HWS.out _ (List.getElem_mem h2)).2.2.2.2
        rw [HPM1.out] at this; omega)
      rw [hHn] at hown hSA ⊢
      have HSA := Lib.hid hSA
      have HSE := Lib.hid hSE
      have HNA := Lib.hid hnA
      have HHN := Lib.hid hHn
      clear hown hHL hin hSA hSE hnA hHn
      by_cases h5 : (500 : Int) < (nA : Int)
      · have d4 : decide ((500 : Int) < (nA : Int)) = true := decide_eq_true h5
        have d5 : decide (500 < nA) = true := decide_eq_true (by omega)
        clear h5
        go_wp2_with fail
        go_ret
        exact ⟨rfl, HB3.out⟩
      have d4 : decide ((500 : Int) < (nA : Int)) = false := decide_eq_false h5
      have d5 : decide (500 < nA) = false := decide_eq_false (by omega)
      have HA5 := Lib.hid (show AL.length ≤ 500 by rw [HNA.out]; omega)
      clear h5
      go_wp2_with fail
      clear d4 d5 x0 x1 xf xz y0 y1 yf yz
      go_loopw [13] (fun i wr => ∃ kk : Nat, kk ≤ m2 ∧ i = .int .i64 kk ∧ Below U3.heap.size U3 wr) (fun i _ => m2 - (intOf i).toNat)
      case atStart => exact ⟨0, by omega, rfl, Below.refl _ _⟩
      case round =>
        obtain ⟨kk, hkk, rfl, hbe⟩ := hrel
        obtain ⟨U4, hU4⟩ : ∃ U : World, U = wr := ⟨_, rfl⟩
        subst hU4
        have HB4 := Lib.hid (HB3.out.trans (hbe.mono HB3.out.size))
        have HK4 := Lib.hid (HK3.out.trans (hbe.mono HK3.out.size))
        have HJ4 := Lib.hid hbe
        have HX4 := Lib.hid (HX3.out.later hbe)
        have HY4 := Lib.hid (HY3.out.later hbe)
        clear hbe
        obtain ⟨x0, x1, xf, xz⟩ := HX4.out.v2
        obtain ⟨y0, y1, yf, yz⟩ := HY4.out.v2
        by_cases hlt2 : kk < m2
        rotate_left
        · obtain rfl : m2 = kk := by omega
          go_wp2_with fail
          go_roundw
          case rel => exact ⟨k + 1, by omega, by go_num, HK4.out⟩
          case measure => simp [intOf]; omega
        have hkl2 : kk < snk.length := by rw [HTN.out]; exact hlt2
        obtain ⟨ta, tc, e5, _, hAt⟩ := id HTT.out
        rw [HTN.out] at e5
        cases e5
        obtain ⟨bt, ot, rfl, hbbt, hct⟩ := hAt (by omega)
        have HCT := Lib.hid (fun (u : World) (hb : Below w.heap.size w u) => show u.cell? ⟨bt, ot + kk, none⟩ = some (.int .i64 snk[kk]) from by
          have h := ((hct kk hkl2).below hb hbbt).c1
          rw [Nat.mul_one] at h
          exact h)
        have HBT := Lib.hid (fun (u : World) (hb : Below w.heap.size w u) => show bt < u.heap.size from Nat.lt_of_lt_of_le hbbt hb.size)
        have HTS := Lib.hid (List.getElem_mem hkl2)
        have s0 := HCS.out _ HB4.out
        have t0 := HCT.out _ HB4.out
        have hbsz := HBS.out _ HB4.out
        have hbtz := HBT.out _ HB4.out
        clear hAt hct
        generalize snk[kk] = to at *
        obtain ⟨RL, c4, hrt, hrl, hfin⟩ := HRT.out to HTS.out HA5.out
        have HFIN := Lib.hid hfin
        have C18k := Lib.hid (fun (w1 : World) (hb : Below w.heap.size w w1) => C18.out w1 hb fr to RL c4 hrt hrl)
        have HRL := Lib.hid hrl
        clear hrt hrl hfin
        go_wp2_with fail
        refine wp_region_partG 11 (fun i => decide (11 < i)) _ (fun v u => ∃ vL, v = .tuple #[vL, .int .i64 c4] ∧ Sl encI 1 u u.heap.size vL RL) (fun A v => (((((A.put (some 150) v).put (some 138) v).put (some 151) (tupA v 0)).put (some 152) (tupA v 1)).put (some 14) (tupA v 0)).put (some 15) (tupA v 1)) (by kernel_rfl) (by kernel_rfl) rfl (fun v u u' h hb => by obtain ⟨vL, e, h⟩ := h; exact ⟨vL, e, h.later hb⟩) ?_
        apply Exists.intro
        refine ⟨fun Y => ?_, fun wa hwa => ?_, fun v wa hwa hD => ?_, fun v U5 hb5 hD => ?_⟩
        · simp only [selF, Nat.reduceBEq, Nat.reduceLT, decide_true, decide_false, Bool.not_true, Bool.not_false, Bool.and_true, Bool.and_false, Bool.or_false, Bool.or_true, Bool.false_or, Bool.true_or, Bool.false_eq_true, if_true, if_false, Nat.reduceAdd, Nat.zero_add]
          repeat go_big_quiet_step (fail)
          exact wpQuiet_nil rfl
        · refine ⟨18, _, ?_, (C18k.out wa (HB4.out.trans (hwa.mono HB4.out.size))).mono ?_⟩
          · go_simp
            first | done | rfl
          · rintro e w6 ⟨vL, rfl, hs6, hb6⟩
            exact ⟨_, rfl, ⟨vL, rfl, hs6⟩, hb6⟩
        · obtain ⟨vL, rfl, hs6⟩ := hD
          simp only [selF, Nat.reduceBEq, Nat.reduceLT, decide_true, decide_false, Bool.not_true, Bool.not_false, Bool.and_true, Bool.and_false, Bool.or_false, Bool.or_true, Bool.false_or, Bool.true_or, Bool.false_eq_true, if_true, if_false, Nat.reduceAdd, Nat.zero_add, Act.put, List.setIfInBounds_toArray, List.set_cons_succ, List.set_cons_zero]
          repeat go_big_quiet_step (fail)
          exact wpQuiet_nil rfl
        obtain ⟨vL, rfl, hs6⟩ := hD
        simp only [Act.put, List.setIfInBounds_toArray, List.set_cons_succ, List.set_cons_zero, tupA_0, tupA_1]
        obtain ⟨ra, rc, rfl, _, _⟩ := id hs6
        have HRS := Lib.hid hs6
        have HB5 := Lib.hid (HB4.out.trans (hb5.mono HB4.out.size))
        have HJ5 := Lib.hid (HJ4.out.trans (hb5.mono HJ4.out.size))
        have HX5 := Lib.hid (HX4.out.later hb5)
        have HY5 := Lib.hid (HY4.out.later hb5)
        clear hs6 hb5 x0 x1 xf xz y0 y1 yf yz s0 t0 hbsz hbtz HB4 HK4 HJ4 HX4 HY4 C18k
        go_wp2_with fail
        go_loopw [16, 17] (fun a j wr => ∃ (jj : Nat) (aa : Int), jj ≤ nA ∧ j = .int .i64 jj ∧ a = .int .i64 aa ∧ Below U5.heap.size U5 wr ∧ LeastP p to AL jj aa) (fun _ j _ => nA - (intOf j).toNat)
        case atStart => exact ⟨0, -1, by omega, rfl, rfl, Below.refl _ _, LeastP.start _ _ _⟩
        case round =>
          obtain ⟨jj, aa, hjj, rfl, rfl, hbe, hlp⟩ := hrel
          obtain ⟨U6, hU6⟩ : ∃ U : World, U = wr := ⟨_, rfl⟩
          subst hU6
          have HB6 := Lib.hid (HB5.out.trans (hbe.mono HB5.out.size))
          have HJ6 := Lib.hid (HJ5.out.trans (hbe.mono HJ5.out.size))
          have HI6 := Lib.hid hbe
          have HX6 := Lib.hid (HX5.out.later hbe)
          have HY6 := Lib.hid (HY5.out.later hbe)
          have HLP := Lib.hid hlp
          obtain ⟨hab1, hab2⟩ := hlp.bd (fun x hx => by
            obtain ⟨k1, _, _, _, k5⟩ := HWS.out x hx
            have := (ways_time HCK.out k1).2.2
            rw [HPM1.out] at k5; omega)
          clear hbe hlp
          obtain ⟨x0, x1, xf, xz⟩ := HX6.out.v2
          obtain ⟨y0, y1, yf, yz⟩ := HY6.out.v2
          by_cases hlt3 : jj < nA
          rotate_left
          · obtain rfl : nA = jj := by omega
            obtain ⟨hf1, hf2⟩ := HFIN.out aa (by rw [HNA.out]; exact HLP.out)
            by_cases ha0 : aa < 0
            · have d4 : decide (aa < 0) = true := decide_eq_true ha0
              obtain rfl := hf1 ha0
              clear ha0 hf1 hf2
              go_wp2_with fail
              go_roundw
              case rel => exact ⟨kk + 1, by omega, by go_num, HJ6.out⟩
              case measure => simp [intOf]; omega
            · have d4 : decide (aa < 0) = false := decide_eq_false ha0
              obtain ⟨rfl, htv⟩ := hf2 (by omega)
              have C34k := Lib.hid (fun (w1 : World) (hb : Below w.heap.size w w1) v hu => C34.out w1 hb v RL hu)
              rw [htv] at C34k
              clear ha0 hf1 hf2 htv
              go_wp2_with fail
              refine (C34k.out _ HB6.out _ (HRS.out.later HI6.out)).mono ?_
              rintro e7 w7 ⟨rfl, hb⟩
              have HJ7 := Lib.hid (HJ6.out.trans (hb.mono HJ6.out.size))
              clear hb
              go_wp2_with fail
              go_roundw
              case rel => exact ⟨kk + 1, by omega, by go_num, HJ7.out⟩
              case measure => simp [intOf]; omega
          have hjl : jj < AL.length := by rw [HNA.out]; exact hlt3
          have hjh : jj < HL.length := by rw [HHN.out]; exact hlt3
          obtain ⟨hpb, hp0, hpi, hp2, hp8⟩ := HWS.out _ (List.getElem_mem hjl)
          obtain ⟨htm, ht0, ht1⟩ := ways_time HCK.out hpb
          rw [HPM1.out] at hp8
          have HPB := Lib.hid hpb
          have HP0 := Lib.hid hp0
          have HSX0 := Lib.hid (fun (u : World) (hb : Below U3.heap.size U3 u) => (HSE.out jj hjh hjl).later hb)
          obtain ⟨ga, gc, e5, _, hAg⟩ := id HSA.out
          rw [HHN.out] at e5
          cases e5
          obtain ⟨bg, og, rfl, hbbg, hcg⟩ := hAg (by rw [HHN.out]; omega)
          have HCG := Lib.hid (fun (u : World) (hb : Below U3.heap.size U3 u) => show u.cell? ⟨bg, og + jj, none⟩ = some HL[jj].v from by
            have h := ((hcg jj hjh).below hb hbbg).c1
            rw [Nat.mul_one] at h
            exact h)
          have HBG := Lib.hid (fun (u : World) (hb : Below U3.heap.size U3 u) => show bg < u.heap.size from Nat.lt_of_lt_of_le hbbg hb.size)
          have HSKIP := Lib.hid (fun h => HLP.out.skip hjl h)
          have HTAKE := Lib.hid (fun t h1 h2 h3 h4 => HLP.out.take (t := t) hjl h1 h2 h3 h4)
          have HKEEP := Lib.hid (fun t h1 h2 h3 => HLP.out.keep (t := t) hjl h1 h2 h3)
          clear hAg hcg hpb hp0 hpi
          generalize HL[jj]'hjh = hd at *
          generalize AL[jj]'hjl = lj at *
          obtain ⟨nx, hnx⟩ : ∃ n, lj.length = n := ⟨_, rfl⟩
          obtain ⟨ha, hn, hc⟩ := hd
          simp only [Hdp.v] at HSX0 HCG
          obtain ⟨hxa, hxc, e6, _, hAx⟩ := id (HSX0.out U3 (Below.refl _ _))
          rw [hnx] at e6 hp2 hp8 ht1
          injection e6 with q1 q2 q3
          subst q1 q2 q3
          obtain ⟨bx, ox, rfl, hbbx, hcx⟩ := hAx (by omega)
          have HLX := Lib.hid (fun (u : World) (hb : Below U3.heap.size U3 u) => show u.cell? ⟨bx, ox + (hn - 1), none⟩ = some (.int .i64 (lastI lj)) from by
            have h := ((hcx (hn - 1) (by omega)).below hb hbbx).c1
            rw [Nat.mul_one] at h
            rw [h]
            unfold lastI
            rw [List.getD_eq_getElem?_getD, List.getElem?_eq_getElem (show lj.length - 1 < lj.length by omega), Option.getD_some]
            have e : hn - 1 = lj.length - 1 := by omega
            simp only [e])
          obtain ⟨nx1, hnx1⟩ : ∃ x, hn - 1 = x := ⟨_, rfl⟩
          rw [hnx1] at HLX
          have HBX := Lib.hid (fun (u : World) (hb : Below U3.heap.size U3 u) => show bx < u.heap.size from Nat.lt_of_lt_of_le hbbx hb.size)
          have k1 : IntKind.i64.wrap ((hn : Int) - 1) = (nx1 : Int) := by rw [IntWalk.i64_in _ (by omega)]; omega
          have k2 : (nx1 : Int) < (hn : Int) := by omega
          have k3 : nx1 < hn := by omega
          clear hAx hcx hbbx hnx1
          have HNX := Lib.hid hnx
          clear hnx
          obtain ⟨la, hla⟩ : ∃ x, lastI lj = x := ⟨_, rfl⟩
          rw [hla] at HLX HSKIP HTAKE
          have HLA := Lib.hid hla
          obtain ⟨ts, hts⟩ : ∃ x, tSum p lj = x := ⟨_, rfl⟩
          rw [hts] at HTAKE HKEEP htm ht0 ht1
          have C34k := Lib.hid (fun (w1 : World) (hb : Below w.heap.size w w1) v hu => C34.out w1 hb v lj hu)
          rw [htm] at C34k
          clear hla hts htm
          have g0 := HCG.out _ HJ6.out
          have g1 := HLX.out _ HJ6.out
          have g2 := HBG.out _ HJ6.out
          have g3 := HBX.out _ HJ6.out
          have t0 := HCT.out _ HB6.out
          have t1 := HBT.out _ HB6.out
          by_cases hto : la = to
          rotate_left
          · have e1 : (la != to) = true := bne_iff_ne.2 hto
            have HSK := Lib.hid (HSKIP.out hto)
            clear hto HSKIP HTAKE HKEEP
            go_wp2_with fail
            go_quiet (fail)
            go_wp2_with fail
            go_roundw
            case rel => exact ⟨jj + 1, aa, by omega, by go_num, rfl, HI6.out.trans ((below_drewN (Below.refl _ _) nq).mono HI6.out.size), HSK.out⟩
            case measure => simp [intOf]; omega
          subst hto
          have e1 : (la != la) = false := by simp
          go_wp2_with fail
          go_quiet (fail)
          have hb : Below U6.heap.size U6 (U6.drewN nq) := below_drewN (Below.refl _ _) nq
          have HB7 := Lib.hid (HB6.out.trans (hb.mono HB6.out.size))
          have HJ7 := Lib.hid (HJ6.out.trans (hb.mono HJ6.out.size))
          have HI7 := Lib.hid (HI6.out.trans (hb.mono HI6.out.size))
          have HX7 := Lib.hid (HX6.out.later hb)
          have HY7 := Lib.hid (HY6.out.later hb)
          clear hb x0 x1 xf xz y0 y1 yf yz g0 g1 g2 g3 t0 t1 HB6 HJ6 HI6 HX6 HY6
          generalize U6.drewN nq = U7 at *
          go_wp2_with fail
          go_loopw [18, 19] (fun c mi wr => ∃ (mm : Nat) (cb : Bool), mm ≤ n6 ∧ mi = .int .i64 mm ∧ c = .bool cb ∧ Below U7.heap.size U7 wr ∧ (l7.take mm).any (fun y => lj.contains y) = cb) (fun _ mi _ => n6 - (intOf mi).toNat)
          case atStart => exact ⟨0, false, by omega, rfl, rfl, Below.refl _ _, by simp⟩
          case round =>
            obtain ⟨mm, cb, hmm, rfl, rfl, hbe, hcb⟩ := hrel
            obtain ⟨U8, hU8⟩ : ∃ U : World, U = wr := ⟨_, rfl⟩
            subst hU8
            have HB8 := Lib.hid (HB7.out.trans (hbe.mono HB7.out.size))
            have HJ8 := Lib.hid (HJ7.out.trans (hbe.mono HJ7.out.size))
            have HI8 := Lib.hid (HI7.out.trans (hbe.mono HI7.out.size))
            have HN8 := Lib.hid hbe
            have HX8 := Lib.hid (HX7.out.later hbe)
            have HY8 := Lib.hid (HY7.out.later hbe)
            have HCBk := Lib.hid hcb
            clear hbe hcb
            obtain ⟨x0, x1, xf, xz⟩ := HX8.out.v2
            obtain ⟨y0, y1, yf, yz⟩ := HY8.out.v2
            have g0 := HCG.out _ HJ8.out
            have g2 := HBG.out _ HJ8.out
            by_cases hlt4 : mm < n6
            rotate_left
            · obtain rfl : n6 = mm := by omega
              obtain rfl : cb = true := by
                obtain ⟨y, hy1, hy2⟩ := path_cut HOK.out HOE.out HCB.out HPB.out (by rw [HP0.out]; exact HFS.out) (by rw [HLA.out]; exact HTS.out)
                rw [← HCBk.out, List.take_of_length_le (by rw [HN7.out]; exact Nat.le_refl _), List.any_eq_true]
                exact ⟨y, hy1, by simpa using hy2⟩
              have HK34 := Lib.hid (fun (X : Later U8) => C34k.out X.w (HB8.out.trans (X.h.mono HB8.out.size)) _ (HSX0.out X.w (HJ8.out.trans (X.h.mono HJ8.out.size))))
              go_wp2_with fail
              refine wp_region_later (by kernel_rfl) (by kernel_rfl) ?_
              repeat go_big_quiet_step ((go_at_call 34; exact Calls.later (HK34.out _)))
              refine wpQuiet_nil ?_
              rintro U9 ⟨⟨_, hb⟩, rfl⟩
              have HI9 := Lib.hid (HI8.out.trans (hb.mono HI8.out.size))
              clear hb HK34 x0 x1 xf xz y0 y1 yf yz g0 g2
              by_cases ha0 : aa < 0
              · have d4 : decide (aa < 0) = true := decide_eq_true ha0
                have HV := Lib.hid (HTAKE.out ts (by first | rfl | trivial) (by first | rfl | trivial) ht0 (.inl ha0))
                clear ha0 HTAKE HKEEP HSKIP
                go_wp2_with fail
                go_roundw
                case rel => exact ⟨jj + 1, ts, by omega, by go_num, rfl, HI9.out, HV.out⟩
                case measure => simp [intOf]; omega
              have d4 : decide (aa < 0) = false := decide_eq_false ha0
              by_cases hta : ts < aa
              · have d5 : decide (ts < aa) = true := decide_eq_true hta
                have HV := Lib.hid (HTAKE.out ts (by first | rfl | trivial) (by first | rfl | trivial) ht0 (.inr hta))
                clear hta HTAKE HKEEP HSKIP
                go_wp2_with fail
                go_roundw
                case rel => exact ⟨jj + 1, ts, by omega, by go_num, rfl, HI9.out, HV.out⟩
                case measure => simp [intOf]; omega
              · have d5 : decide (ts < aa) = false := decide_eq_false hta
                have HV := Lib.hid (HKEEP.out ts (by first | rfl | trivial) (by omega) (by omega))
                clear hta HTAKE HKEEP HSKIP
                go_wp2_with fail
                go_roundw
                case rel => exact ⟨jj + 1, aa, by omega, by go_num, rfl, HI9.out, HV.out⟩
                case measure => simp [intOf]; omega
            have hml : mm < l7.length := by rw [HN7.out]; exact hlt4
            have HAN := Lib.hid (any_take (fun y => lj.contains y) hml)
            cases cb with
            | true =>
              have HV := Lib.hid (show (l7.take (mm + 1)).any (fun y => lj.contains y) = true by rw [HAN.out, HCBk.out]; rfl)
              clear HAN
              go_wp2_with fail
              refine wp_region_later (by kernel_rfl) (by kernel_rfl) ?_
              repeat go_big_quiet_step (fail)
              refine wpQuiet_nil ?_
              rintro U9 ⟨⟨_, hb⟩, rfl⟩
              have HN9 := Lib.hid (HN8.out.trans (hb.mono HN8.out.size))
              clear hb x0 x1 xf xz y0 y1 yf yz g0 g2
              go_wp2_with fail
              go_roundw
              case rel => exact ⟨mm + 1, true, by omega, by go_num, rfl, HN9.out, HV.out⟩
              case measure => simp [intOf]; omega
            | false =>
              obtain ⟨ca, cc, e7, _, hAc⟩ := id (HP3.out.later HJ8.out)
              rw [HN7.out] at e7
              cases e7
              obtain ⟨bc, oc, rfl, hbbc, hcc⟩ := hAc (by rw [HN7.out]; omega)
              have c0 := (hcc mm hml).c1
              rw [Nat.mul_one] at c0
              have hcz : bc < U8.heap.size := hbbc
              clear hAc hcc hbbc
              generalize l7[mm] = cm at *
              obtain ⟨q, hq⟩ : ∃ q, lj.contains cm = q := ⟨_, rfl⟩
              have HV := Lib.hid (show (l7.take (mm + 1)).any (fun y => lj.contains y) = q by rw [HAN.out, HCBk.out, ← hq]; rfl)
              have HK24 := Lib.hid (fun (X : Later U8) => C24.out X.w (HB8.out.trans (X.h.mono HB8.out.size)) _ lj cm (HSX0.out X.w (HJ8.out.trans (X.h.mono HJ8.out.size))))
              rw [hq] at HK24
              clear HAN hq
              go_wp2_with fail
              refine wp_region_later (by kernel_rfl) (by kernel_rfl) ?_
              repeat go_big_quiet_step ((go_at_call 24; exact Calls.later_same (HK24.out _)))
              refine wpQuiet_nil ?_
              rintro U9 ⟨⟨_, hb⟩, rfl⟩
              have HN9 := Lib.hid (HN8.out.trans (hb.mono HN8.out.size))
              clear hb x0 x1 xf xz y0 y1 yf yz g0 g2 c0 HK24
              go_wp2_with fail
              go_roundw
              case rel => exact ⟨mm + 1, q, by omega, by go_num, rfl, HN9.out, HV.out⟩
              case measure => simp [intOf]; omega
  | false =>
    go_wp2_with fail
    refine (awake16 _ (HWD.out.later HB7.out)).mono ?_
    rintro e16 w16 ⟨rfl, hb⟩
    have HB16 := Lib.hid (HB7.out.trans (hb.mono HB7.out.size))
    have HX16 := Lib.hid (HX7.out.later hb)
    have HY16 := Lib.hid (HY7.out.later hb)
    clear hb x0 x1 xf xz y0 y1 yf yz HB7 HX7 HY7
    obtain ⟨x0, x1, xf, xz⟩ := HX16.out.v2
    obtain ⟨y0, y1, yf, yz⟩ := HY16.out.v2
    go_wp2_with fail
    go_ret
    exact ⟨rfl, HB16.out⟩
end Go.Proofs.YtahpdkkpnkhnhaaGreatDoor
/- What the rows of the laws on states need: states of whatever length, and what is asked, opened. -/
namespace Go.Proofs.YtahpdkkpnkhnhaaGreatDoor
open Go Go.Proofs Go.RowKit Go.ChangeShapes Go.WideShapes Go.ChangeAt Go.Joins Go.Deep
section
variable {H : Type} {enc : TypeId × Value → H} {W W' : World}
theorem sl_makeL {α : Type} (f : α → List Value) (sz : Nat) (hsz : 0 < sz) (hf : ∀ x, (f x).length = sz) {n c : Nat} {a : Addr} (hn : n ≤ 9223372036854775807) (hc : n ≤ c) (x0 : α)
    (Q : α → Prop) (hx : ∀ i, i < n → ∃ x : α, (∀ j u, (f x)[j]? = some u → W.cell? (a.add (i * sz + j)) = some u) ∧ Q x) :
    ∃ l : List α, l.length = n ∧ SlL f sz W W.heap.size (.slice (some a) n c) l ∧ ∀ x ∈ l, Q x := by
  have hch : ∃ g : Nat → α, ∀ i, i < n → (∀ j u, (f (g i))[j]? = some u → W.cell? (a.add (i * sz + j)) = some u) ∧ Q (g i) := by
    refine ⟨fun i => if h : i < n then Classical.choose (hx i h) else x0, fun i hi => ?_⟩
    simp only [dif_pos hi]
    exact Classical.choose_spec (hx i hi)
  obtain ⟨g, hg⟩ := hch
  have hl : ((List.range n).map g).length = n := by simp
  refine ⟨(List.range n).map g, hl, ⟨some a, c, by rw [hl], by rw [hl]; exact ⟨hn, hc⟩, fun h0 => ?_⟩, fun x hx => ?_⟩
  · rw [hl] at h0
    have hne : (f (g 0)) ≠ [] := by intro e; have := hf (g 0); rw [e] at this; simp at this; omega
    obtain ⟨u0, us, e0⟩ := List.exists_cons_of_ne_nil hne
    have h00 := (hg 0 h0).1 0 u0 (by rw [e0]; rfl)
    obtain ⟨b, off, spot⟩ := a
    have hs2 : spot = none := by simpa [Addr.add] using World.cell?_spot h00
    subst hs2
    refine ⟨b, off, rfl, by simpa [Addr.add] using World.block_lt_of_cell? _ _ h00, fun i hi j u hu => ?_⟩
    have := (hg i (by rw [hl] at hi; exact hi)).1 j u (by simpa using hu)
    rw [add_at] at this
    rw [Nat.add_assoc]; exact this
  · simp only [List.mem_map, List.mem_range] at hx
    obtain ⟨i, hi, rfl⟩ := hx
    exact (hg i hi).2
theorem sl_openL {α : Type} {t e : TypeId} (f : α → List Value) (sz : Nat) (ht : Tryz.prog.underlying t = some (.slice e)) (hsz : 0 < sz) (hce : Tryz.prog.cellsOf e = sz) (hf : ∀ x, (f x).length = sz) (x0 : α) (Q : α → Prop)
    (hel : ∀ {fuel : Nat} {cs : List Value} {x : DataW H × List MemPlace}, DataW.trod enc Tryz.prog W 0 (fun _ => true) true fuel e cs = some x → ∃ y : α, cs = f y ∧ Q y)
    {fuel n c : Nat} {a : Option Addr} {x : DataW H × List MemPlace} (h : DataW.trod enc Tryz.prog W 0 (fun _ => true) true fuel t [.slice a n c] = some x) :
    ∃ l, l.length = n ∧ SlL f sz W W.heap.size (.slice a n c) l ∧ ∀ y ∈ l, Q y := by
  rcases open_slice ht h with ⟨hcs, _⟩ | ⟨a', len, cap, m, k, D, Pl, hcs, _, hl, hm, hz, _, hcell⟩
  · simp at hcs
    obtain ⟨rfl, rfl, rfl⟩ := hcs
    exact ⟨[], rfl, ⟨none, 0, rfl, by simp, fun h => absurd h (by simp)⟩, by simp⟩
  · simp at hcs
    obtain ⟨rfl, rfl, rfl⟩ := hcs
    simp only [if_true] at hz
    subst hz
    rw [hce] at hcell
    refine sl_makeL f sz hsz hf (by unfold maxLen at hm; omega) hl x0 Q (fun i hi => ?_)
    obtain ⟨cs', h0, h1⟩ := hcell i (by omega)
    obtain ⟨y, rfl, hy⟩ := hel h1
    obtain ⟨_, hcl, hat⟩ := World.cells?_some h0
    refine ⟨y, fun j u hu => ?_, hy⟩
    have hj : j < sz := by have := (List.getElem?_eq_some_iff.1 hu).1; rwa [hf] at this
    rw [← Go.Deep.add_add, hat j hj, hu]
end
end Go.Proofs.YtahpdkkpnkhnhaaGreatDoor
