/- Lemmas on the way to the law PathMenger (part 7): Vh Tb Tc Tf Tg Th -/
import Derived.Test.YtahpdkkpnkhnhaaGreatDoorPathMengerP06
import Derived.Test.YtahpdkkpnkhnhaaGreatDoorBA24
import Derived.Test.YtahpdkkpnkhnhaaGreatDoorPathMengerP03
import Derived.Test.YtahpdkkpnkhnhaaGreatDoorPathMengerP04
import Derived.Lib.AppendZeros
set_option linter.unusedVariables false
set_option linter.unusedSimpArgs false

/- Walks: Disjoint: the whole function. -/
namespace Go.Proofs.YtahpdkkpnkhnhaaGreatDoor
open Go Go.Proofs Go.RowKit Go.Shelf
def fr61o (N qf : Nat) (vs vt vo : Value) (ns j : Nat) (z : Nat → Value) : List Value := [z 0, vs, vt, .pointer (some ⟨N, 0, none⟩), z 4, z 5, z 6, z 7, z 8, .pointer (some ⟨qf, 0, none⟩), z 10, vo, z 12, z 13, z 14, z 15, z 16, z 17, z 18, z 19, z 20, z 21, z 22, z 23, z 24, z 25, z 26, z 27, z 28, z 29, z 30, vs, .int .i64 ns, .int .i64 j, z 34, z 35, z 36, z 37, z 38, z 39, z 40, z 41, z 42, z 43, z 44, z 45, z 46, z 47, z 48, z 49, z 50, z 51, z 52, z 53, z 54, z 55, z 56, z 57, z 58, z 59, z 60, z 61, z 62, z 63, z 64, z 65, z 66, z 67, z 68, z 69, z 70, z 71, z 72, z 73, z 74, z 75, z 76, z 77, z 78, z 79, z 80, z 81]
theorem fr61o_of (N qf : Nat) (vs vt vo : Value) (ns j : Nat) (L : List Value) (hL : L.length = 82) (h1 : L[1]? = some (vs)) (h2 : L[2]? = some (vt)) (h3 : L[3]? = some (.pointer (some ⟨N, 0, none⟩))) (h9 : L[9]? = some (.pointer (some ⟨qf, 0, none⟩))) (h11 : L[11]? = some (vo)) (h31 : L[31]? = some (vs)) (h32 : L[32]? = some (.int .i64 ns)) (h33 : L[33]? = some (.int .i64 j)) : ∃ z, L = fr61o N qf vs vt vo ns j z := by
  refine ⟨fun i => L.getD i undef, ?_⟩
  unfold fr61o
  have e := list_range L 82 hL
  have e1 : L.getD 1 undef = vs := by rw [List.getD_eq_getElem?_getD, h1]; rfl
  have e2 : L.getD 2 undef = vt := by rw [List.getD_eq_getElem?_getD, h2]; rfl
  have e3 : L.getD 3 undef = .pointer (some ⟨N, 0, none⟩) := by rw [List.getD_eq_getElem?_getD, h3]; rfl
  have e9 : L.getD 9 undef = .pointer (some ⟨qf, 0, none⟩) := by rw [List.getD_eq_getElem?_getD, h9]; rfl
  have e11 : L.getD 11 undef = vo := by rw [List.getD_eq_getElem?_getD, h11]; rfl
  have e31 : L.getD 31 undef = vs := by rw [List.getD_eq_getElem?_getD, h31]; rfl
  have e32 : L.getD 32 undef = .int .i64 ns := by rw [List.getD_eq_getElem?_getD, h32]; rfl
  have e33 : L.getD 33 undef = .int .i64 j := by rw [List.getD_eq_getElem?_getD, h33]; rfl
  have e' : L = L.getD 0 undef :: L.getD 1 undef :: L.getD 2 undef :: L.getD 3 undef :: L.getD 4 undef :: L.getD 5 undef :: L.getD 6 undef :: L.getD 7 undef :: L.getD 8 undef :: L.getD 9 undef :: L.getD 10 undef :: L.getD 11 undef :: L.getD 12 undef :: L.getD 13 undef :: L.getD 14 undef :: L.getD 15 undef :: L.getD 16 undef :: L.getD 17 undef :: L.getD 18 undef :: L.getD 19 undef :: L.getD 20 undef :: L.getD 21 undef :: L.getD 22 undef :: L.getD 23 undef :: L.getD 24 undef :: L.getD 25 undef :: L.getD 26 undef :: L.getD 27 undef :: L.getD 28 undef :: L.getD 29 undef :: L.getD 30 undef :: L.getD 31 undef :: L.getD 32 undef :: L.getD 33 undef :: L.getD 34 undef :: L.getD 35 undef :: L.getD 36 undef :: L.getD 37 undef :: L.getD 38 undef :: L.getD 39 undef :: L.getD 40 undef :: L.getD 41 undef :: L.getD 42 undef :: L.getD 43 undef :: L.getD 44 undef :: L.getD 45 undef :: L.getD 46 undef :: L.getD 47 undef :: L.getD 48 undef :: L.getD 49 undef :: L.getD 50 undef :: L.getD 51 undef :: L.getD 52 undef :: L.getD 53 undef :: L.getD 54 undef :: L.getD 55 undef :: L.getD 56 undef :: L.getD 57 undef :: L.getD 58 undef :: L.getD 59 undef :: L.getD 60 undef :: L.getD 61 undef :: L.getD 62 undef :: L.getD 63 undef :: L.getD 64 undef :: L.getD 65 undef :: L.getD 66 undef :: L.getD 67 undef :: L.getD 68 undef :: L.getD 69 undef :: L.getD 70 undef :: L.getD 71 undef :: L.getD 72 undef :: L.getD 73 undef :: L.getD 74 undef :: L.getD 75 undef :: L.getD 76 undef :: L.getD 77 undef :: L.getD 78 undef :: L.getD 79 undef :: L.getD 80 undef :: L.getD 81 undef :: [] := e
  rw [e1, e2, e3, e9, e11, e31, e32, e33] at e'
  exact e'
theorem fr61o_act (N qf : Nat) (vs vt vo : Value) (ns j : Nat) (A : Act) (ds : List Deferred) (hds : A.defers = ds) (hL : A.tmps.size = 82) (h1 : A.tmps[1]? = some (vs)) (h2 : A.tmps[2]? = some (vt)) (h3 : A.tmps[3]? = some (.pointer (some ⟨N, 0, none⟩))) (h9 : A.tmps[9]? = some (.pointer (some ⟨qf, 0, none⟩))) (h11 : A.tmps[11]? = some (vo)) (h31 : A.tmps[31]? = some (vs)) (h32 : A.tmps[32]? = some (.int .i64 ns)) (h33 : A.tmps[33]? = some (.int .i64 j)) : ∃ z, A = { tmps := (fr61o N qf vs vt vo ns j z).toArray, defers := ds } := by
  obtain ⟨z, e⟩ := fr61o_of N qf vs vt vo ns j A.tmps.toList (by rw [Array.length_toList]; exact hL) (by rw [Array.getElem?_toList]; exact h1) (by rw [Array.getElem?_toList]; exact h2) (by rw [Array.getElem?_toList]; exact h3) (by rw [Array.getElem?_toList]; exact h9) (by rw [Array.getElem?_toList]; exact h11) (by rw [Array.getElem?_toList]; exact h31) (by rw [Array.getElem?_toList]; exact h32) (by rw [Array.getElem?_toList]; exact h33)
  exact ⟨z, by cases A; subst hds; dsimp only at e ⊢; rw [← e]⟩
set_option maxRecDepth 100000 in
set_option maxHeartbeats 2000000 in
theorem rnd0_61_walk (w W : World) (qf fb Nn : Nat) (t vo : Value) (sa : Option Addr) (cs ns k : Nat) (a1 a2 : Option Addr) (n1 n2 c1 c2 : Nat) (p : Pl) (src snk : List Int) (rm : List Int) (n : Int) (L : List Pt) (Ds : List Nat) (z : Nat → Value)
    (hfl : FlP p src snk (matR rm) n) (hl : rm.length = 16900) (hs : Sl encI 1 w w.heap.size (.slice sa ns cs) src) (hns : src.length = ns) (ht : Sl encI 1 w w.heap.size t snk) (har : Sl Ar.enc 2 w w.heap.size (.slice a2 n2 c2) p.arcs)
    (hk : k ≤ ns) (hI : DsI w W qf fb Nn (.slice a1 n1 c1) (.slice a2 n2 c2) vo p src snk rm k L Ds) (Q : Exit → Act → World → Prop)
    (hend : k = ns → ∀ z', Q (.exit 0) { tmps := (fr61o w.heap.size qf (.slice sa ns cs) t vo ns k z').toArray, defers := marksOf Ds } W)
    (hgo : k < ns → ∀ z' W' vo' L' Ds', DsI w W' qf fb Nn (.slice a1 n1 c1) (.slice a2 n2 c2) vo' p src snk rm (k + 1) L' Ds' → Q .normal { tmps := (fr61o w.heap.size qf (.slice sa ns cs) t vo' ns (k + 1) z').toArray, defers := marksOf Ds' } W') :
    body0_61.wp Tryz.prog Q { tmps := (fr61o w.heap.size qf (.slice sa ns cs) t vo ns k z).toArray, defers := marksOf Ds } W := by
  have HE : Hid (k = ns → ∀ A, (∃ z', A = { tmps := (fr61o w.heap.size qf (.slice sa ns cs) t vo ns k z').toArray, defers := marksOf Ds }) → Q (.exit 0) A W) := Lib.hid (by rintro h A ⟨z', rfl⟩; exact hend h z')
  have HG : Hid (k < ns → ∀ A W' vo' L' Ds', (∃ z', A = { tmps := (fr61o w.heap.size qf (.slice sa ns cs) t vo' ns (k + 1) z').toArray, defers := marksOf Ds' }) → DsI w W' qf fb Nn (.slice a1 n1 c1) (.slice a2 n2 c2) vo' p src snk rm (k + 1) L' Ds' → Q .normal A W') := Lib.hid (by rintro h A W' vo' L' Ds' ⟨z', rfl⟩ h1; exact hgo h z' W' vo' L' Ds' h1)
  have HI := Lib.hid hI
  have HFL := Lib.hid hfl
  have HS := Lib.hid hs
  have HN := Lib.hid hns
  have HTT := Lib.hid ht
  have HAR := Lib.hid har
  have hll := hI.len
  have hsl := hfl.e.n1
  clear hend hgo
  obtain ⟨B1, hB1⟩ : ∃ B, blk2_61 = B := ⟨_, rfl⟩
  have HB1 := Lib.hid hB1
  rw [body0_61_eq, in1_61_eq, hB1]
  by_cases hlt : k < ns
  rotate_left
  · obtain rfl : k = ns := by omega
    have HE2 := Lib.hid (HE.out rfl)
    clear HE hB1 hI hfl hs hns ht har hsl hll
    obtain ⟨B2, hB2⟩ : ∃ B, Code.block 1 (.seq r8_61 (.seq (.seq r9_61 if9_61) (.seq r10_61 (.seq (.seq r11_61 B1) r20_61)))) = B := ⟨_, rfl⟩
    rw [hB2]
    clear hB2
    simp only [r7_61, if7_61, r21_61, body0_61, c61, Tryz.f61, Option.getD, codeL, codeR, fr61o]
    go_wp2_with fail
    refine HE2.out _ ?_
    apply fr61o_act <;> rfl
  have hks : k < src.length := by rw [hns]; exact hlt
  have hsin := hfl.e.in1 _ (List.getElem_mem hks)
  have hmem := List.getElem_mem hks
  have HHT := Lib.hid (heads_take src (matR rm) k hks)
  obtain ⟨_, _, e5, _, hAs⟩ := id hs
  rw [hns] at e5
  cases e5
  obtain ⟨bs, os, rfl, hbb, hcs⟩ := hAs (by omega)
  have s0 := ((hcs k hks).below hI.bw hbb).c1
  rw [Nat.mul_one] at s0
  have hbz : bs < W.heap.size := Nat.lt_of_lt_of_le hbb hI.bw.size
  obtain ⟨m, hm, hmn⟩ := inN_nat hsin
  have hm : src[k] = (m : Int) := hm
  rw [hm] at s0 HHT hmem
  rw [Int.toNat_natCast] at HHT
  have hmd := hfl.thr hmn
  have hm64 : m < 64 := by have := hfl.pk.le; omega
  have HM := Lib.hid hmem
  have f0 := hI.fx.cell 0
  have fz := hI.fx.lt
  have r0 := (hI.rb.cell ((2 * m + 1) * 130 + 2 * m)).trans (roomV_get Nn hl (by omega) (by omega))
  have rz := hI.rb.lt
  simp only [List.getElem?_cons_zero] at f0
  obtain ⟨j0, hj0⟩ : ∃ j, 2 * m = j := ⟨_, rfl⟩
  obtain ⟨j1, hj1⟩ : ∃ j, 2 * m + 1 = j := ⟨_, rfl⟩
  have K21 := Lib.hid (fun W' => (entry121 (m : Int) W' (by omega)).mono (fun e w' h => (⟨h.1, h.2.symm⟩ : e = .returned (.int .i64 (2 * (m : Int))) ∧ W' = w')))
  have K20 := Lib.hid (fun W' => (exit120 (m : Int) W' (by omega)).mono (fun e w' h => (⟨h.1, h.2.symm⟩ : e = .returned (.int .i64 (2 * (m : Int) + 1)) ∧ W' = w')))
  rw [show (2 * (m : Int)) = (j0 : Int) by omega] at K21
  rw [show (2 * (m : Int) + 1) = (j1 : Int) by omega] at K20
  rw [hj1, hj0] at r0 hmd HHT
  obtain ⟨_, hy0, hy1⟩ := hmd
  have hjn0 : (j0 : Int) < 130 := by omega
  have hjn1 : (j1 : Int) < 130 := by omega
  have hjm0 : j0 < 130 := by omega
  have hjm1 : j1 < 130 := by omega
  have HTH := Lib.hid (show ∀ y, matR rm j1 j0 = y → y = 1 → matR rm (2 * (m : Int).toNat + 1) (2 * (m : Int).toNat) = 1 from fun y h1 h2 => by rw [Int.toNat_natCast, hj1, hj0, h1, h2])
  have HY := Lib.hid (show ∀ y, matR rm j1 j0 = y → matR rm j1 j0 = y from fun _ h => h)
  obtain ⟨y, hy⟩ : ∃ y, matR rm j1 j0 = y := ⟨_, rfl⟩
  have HTH := Lib.hid (fun h => HTH.out y hy h)
  rw [hy] at r0 hy0 hy1 HHT
  clear hB1 hI hfl hs hns ht har hsl hcs hAs hj0 hj1 hy HY hsin hmem
  simp only [r7_61, if7_61, r21_61, r8_61, r9_61, if9_61, r10_61, r11_61, r20_61, in1_61, body0_61, c61, Tryz.f61, Option.getD, codeL, codeR, fr61o]
  go_wp2_with fail
  refine wp_region_later (by kernel_rfl) (by kernel_rfl) ?_
  repeat go_big_quiet_step ((first | (go_at_call 121; exact Calls.later_same (K21.out _)) | (go_at_call 120; exact Calls.later_same (K20.out _))))
  refine wpQuiet_nil ?_
  rintro W2 ⟨⟨_, hb⟩, rfl⟩
  have HI2 := Lib.hid (HI.out.later hb)
  clear hb f0 fz r0 rz s0 hbz
  by_cases h0 : y = 0
  · subst h0
    have HV := Lib.hid (show FlP.heads (src.take (k + 1)) (matR rm) = FlP.heads (src.take k) (matR rm) by rw [HHT.out, if_neg (by simp)])
    clear HHT HTH
    go_wp2_with fail
    refine HG.out hlt _ W2 vo L Ds ?_ ⟨HI2.out.px, HI2.out.fx, HI2.out.rb, HI2.out.bw, HI2.out.o, HI2.out.ch, by rw [HV.out]; exact HI2.out.hd, HI2.out.mks, HI2.out.nd, HI2.out.ge⟩
    apply fr61o_act <;> rfl
  obtain rfl : y = 1 := by omega
  have HV := Lib.hid (show FlP.heads (src.take (k + 1)) (matR rm) = FlP.heads (src.take k) (matR rm) ++ [(m : Int)] by rw [HHT.out, if_pos (by simp)])
  have HT1 := Lib.hid (HTH.out rfl)
  have HLK : Hid (L.length ≤ 1000000) := Lib.hid (by
    have h1 := HFL.out.e.n1
    have h2 : src.length ≤ 64 := by
      have h3 : (src.map Int.toNat).Nodup := by
        rw [List.nodup_iff_pairwise_ne, List.pairwise_map]
        refine List.Pairwise.imp_of_mem ?_ (List.nodup_iff_pairwise_ne.1 h1)
        intro a b ha hb hab e
        have k1 := inN_lt (HFL.out.e.in1 a ha)
        have k2 := inN_lt (HFL.out.e.in1 b hb)
        exact hab (by omega)
      have h4 : (src.map Int.toNat).length ≤ (List.range p.ms.length).length := h3.length_le_of_subset fun x hx => by
        obtain ⟨y, hy, rfl⟩ := List.mem_map.1 hx
        exact List.mem_range.2 (inN_lt (HFL.out.e.in1 y hy)).1
      have := HFL.out.pk.le
      simp at h4
      omega
    omega)
  have HT : Hid (Tryz.prog.underlying 86 = some (.slice 26)) := Lib.hid Tryz.und86
  have HIF := Lib.hid Tryz.inf86
  clear HHT HTH h0
  go_wp2_with fail
  rw [← HB1.out]
  refine wp_of_ex (F := fun z => { tmps := (fr61 w.heap.size qf (.slice (some ⟨bs, os, none⟩) ns cs) t vo (.slice (some ⟨W2.heap.size, 0, none⟩) 1 1) (W2.heap.size + 1) ns k z).toArray, defers := marksOf Ds }) (by apply fr61_act <;> rfl) fun z' => ?_
  have b1' : Below W2.heap.size W2 (W2.alloc (.cells #[.int .i64 m] 3)) := (Below.refl _ _).alloc (Nat.le_refl _) _
  have o1 := Own.lit (f := encI) (sz := 1) (l := [(m : Int)]) encI_len 3 W2 #[.int .i64 m] 1 W2.heap.size rfl rfl (by simp) (Nat.le_refl _)
  have hs2 : (W2.alloc (.cells #[.int .i64 m] 3)).heap.size = W2.heap.size + 1 := by simp
  generalize W2.alloc (.cells #[.int .i64 m] 3) = W3 at *
  have b2' : Below W3.heap.size W3 (W3.alloc (.cells #[.int .i64 m] 3)) := (Below.refl _ _).alloc (Nat.le_refl _) _
  have bx2 := Box.new W3 #[.int .i64 m] 3
  rw [hs2] at bx2
  refine blk2_61_walk w W2 _ qf fb Nn _ t vo _ (W2.heap.size + 1) ns k a1 a2 n1 n2 c1 c2 p src snk rm n [(m : Int)] Ds z' HFL.out hl HTT.out HAR.out HI2.out.bw (b1'.trans (b2'.mono b1'.size)) HI2.out.px HI2.out.fx HI2.out.rb (Chn.start HM.out HT1.out) (o1.later b2') (fun k h => by cases h; exact Nat.ne_of_lt (Nat.lt_succ_self _)) (by omega) bx2 (HI2.out.mks.later (b1'.trans (b2'.mono b1'.size))) HI2.out.nd HI2.out.ge _ ?_
  intro z4 W4 vp4 mb4 l4 Ds4 k1 k2 k3 k4 k5 k6 k7 k8
  obtain ⟨ap, cp, rfl⟩ := k4.shape
  have HC4 := Lib.hid k1
  have HL4 := Lib.hid k2
  have HH4 := Lib.hid (show l4.getD 0 0 = (m : Int) from k3)
  have HO4 := Lib.hid (k4.lower HI2.out.bw.size)
  have HB4 := Lib.hid (HI2.out.bw.trans (k5.mono HI2.out.bw.size))
  have HP4 := Lib.hid (HI2.out.o.later k5)
  have HX4 := Lib.hid (And.intro (HI2.out.px.later k5) (And.intro (HI2.out.fx.later k5) (HI2.out.rb.later k5)))
  have HM4 := Lib.hid k6
  have HN4 := Lib.hid k7
  have HG4 := Lib.hid k8
  clear k1 k2 k3 k4 k5 k6 k7 k8 b1' b2' bx2 o1 hs2
  simp only [Exit.then, fr61]
  go_wp2_with (at_builtin; refine wpList_push Pt.enc 1 24 86 26 _ HT.out HIF.out rfl (by decide) (by decide) Pt.enc_len Pt.enc_one _ (⟨ap, cp, l4⟩ : Pt) w.heap.size _ _ rfl _ HP4.out.o HB4.out.size HLK.out rfl _ _ rfl rfl rfl ?_; intro v' w' hown' hg'; have HOW := Lib.hid (HP4.out.push (t := ⟨ap, cp, l4⟩) HO4.out hown' hg'); have HBG := Lib.hid (grown_below HB4.out hg' HB4.out.size (HP4.out.o.lt') (Nat.le_refl _)); have HXG := Lib.hid (show Box w' w.heap.size 25 [.slice a1 n1 c1, .slice a2 n2 c2] ∧ Box w' qf 143 [.pointer (some ⟨fb, 0, none⟩)] ∧ Box w' fb 150 (roomV rm Nn) from ⟨(hg'.block _ HX4.out.1.lt (fun e => HP4.out.o.other_type HX4.out.1 (by decide) e.symm)).trans HX4.out.1, (hg'.block _ HX4.out.2.1.lt (fun e => HP4.out.o.other_type HX4.out.2.1 (by decide) e.symm)).trans HX4.out.2.1, (hg'.block _ HX4.out.2.2.lt (fun e => HP4.out.o.other_type HX4.out.2.2 (by decide) e.symm)).trans HX4.out.2.2⟩); have HMG := Lib.hid (show MarksIn w' Ds4 from fun E hE => (hg'.block E (Array.getElem?_eq_some_iff.1 (HM4.out E hE)).1 (fun e => by
      have h1 := HM4.out E hE
      rcases HP4.out.o.2 with ⟨h2, _⟩ | ⟨g, cap, cur, h2, _, h3, _⟩
      · rw [h2] at e; cases e
      · rw [h2] at e; cases e; rw [h3] at h1; cases h1)).trans (HM4.out E hE)); clear hown' hg')
  refine HG.out hlt _ w' v' (L ++ [⟨ap, cp, l4⟩]) Ds4 ?_ ⟨HXG.out.1, HXG.out.2.1, HXG.out.2.2, HBG.out, HOW.out, fun t ht => ?_, ?_, HMG.out, HN4.out, HG4.out⟩
  · apply fr61o_act <;> rfl
  · rcases List.mem_append.1 ht with h | h
    · exact HI2.out.ch t h
    · rw [List.mem_singleton] at h
      subst h
      exact ⟨HC4.out, HL4.out⟩
  · rw [List.map_append, HI2.out.hd, HV.out]
    simp only [List.map_cons, List.map_nil, HH4.out]
def DisP (w : World) (p : Pl) (src snk : List Int) (e : Ending) (w' : World) : Prop :=
  ∃ v L, e = .returned (.tuple #[v, .int .i64 (bothE p src snk)]) ∧ PtR w' w'.heap.size v L ∧ (bothE p src snk ≠ 0 → L = []) ∧ (bothE p src snk = 0 → ∃ R n ord, MaxF p src snk R n ord ∧ Chns p src snk R L) ∧ (∀ t ∈ L, t.l.length ≤ 64) ∧ Below w.heap.size w w'
noncomputable def blk0_61 : Code := codeR (codeL (codeR (codeR (codeR (codeR c61)))))
theorem blk0_61_eq : blk0_61 = .block 0 (.loop body0_61) := rfl
set_option maxHeartbeats 1000000 in
theorem blk0_61_walk (w W : World) (qf fb Nn : Nat) (t : Value) (sa : Option Addr) (cs ns : Nat) (a1 a2 : Option Addr) (n1 n2 c1 c2 : Nat) (p : Pl) (src snk : List Int) (rm : List Int) (n : Int) (z : Nat → Value)
    (hfl : FlP p src snk (matR rm) n) (hl : rm.length = 16900) (hs : Sl encI 1 w w.heap.size (.slice sa ns cs) src) (hns : src.length = ns) (ht : Sl encI 1 w w.heap.size t snk) (har : Sl Ar.enc 2 w w.heap.size (.slice a2 n2 c2) p.arcs)
    (hI : DsI w W qf fb Nn (.slice a1 n1 c1) (.slice a2 n2 c2) (.slice none 0 0) p src snk rm 0 [] []) (Q : Exit → Act → World → Prop)
    (hQ : ∀ z' W' vo L Ds, DsI w W' qf fb Nn (.slice a1 n1 c1) (.slice a2 n2 c2) vo p src snk rm ns L Ds → Q .normal { tmps := (fr61o w.heap.size qf (.slice sa ns cs) t vo ns ns z').toArray, defers := marksOf Ds } W') :
    blk0_61.wp Tryz.prog Q { tmps := (fr61o w.heap.size qf (.slice sa ns cs) t (.slice none 0 0) ns 0 z).toArray, defers := [] } W := by
  rw [blk0_61_eq]
  refine wp_block (wp_loop_g (fun fu a W' => ∃ k vo L Ds z', a = { tmps := (fr61o w.heap.size qf (.slice sa ns cs) t vo ns k z').toArray, defers := marksOf Ds } ∧ DsI w W' qf fb Nn (.slice a1 n1 c1) (.slice a2 n2 c2) vo p src snk rm k L Ds ∧ k + fu = ns) ns ⟨0, _, [], [], z, rfl, hI, by omega⟩ ?_)
  rintro fu a W1 ⟨k, vo, L, Ds, z', rfl, h1, h2⟩
  refine rnd0_61_walk w W1 qf fb Nn t vo sa cs ns k a1 a2 n1 n2 c1 c2 p src snk rm n L Ds z' hfl hl hs hns ht har (by omega) h1 _ ?_ ?_
  · intro hk z2
    subst hk
    simp only [Exit.then, Exit.inBlock]
    exact hQ z2 W1 vo L Ds h1
  · intro hk z2 W2 vo2 L2 Ds2 h3
    simp only [Exit.then]
    exact ⟨fu - 1, by omega, k + 1, vo2, L2, Ds2, z2, rfl, h3, by omega⟩
theorem dis_end {w W : World} {Ds : List Nat} {A : Act} {v : Value} {L : List Pt} (h6 : A.tmps[6]? = some v) (h7 : A.tmps[7]? = some (.int .i64 0)) (hd : A.defers = marksOf Ds) (hm : MarksIn W Ds) (hn : Ds.Nodup) (hD : ∀ D ∈ Ds, w.heap.size ≤ D)
    (hO : PtsO W w.heap.size v L) (hb : Below w.heap.size w W) {R : Ending → World → Prop} (hR : ∀ W', PtsO W' w.heap.size v L → Below w.heap.size w W' → R (.returned (.tuple #[v, .int .i64 0])) W') :
    bodyPostM Fence.wide 9 Tryz.prog Tryz.f61 R .ret A W := by
  show LeavesInM Fence.wide 9 Tryz.prog Tryz.f61 A.tmps R A.defers .returning W
  rw [hd]
  refine leaves_marks (w0s := w.heap.size) (v := .tuple #[v, .int .i64 0]) (fun W => by rw [results_tmp2 (t := 6) (u := 7) rfl]; simp [Array.getD_eq_getD_getElem?, h6, h7]) (fun W' => PtsO W' w.heap.size v L ∧ Below w.heap.size w W') ?_ (fun W h => hR W h.1 h.2) Ds W hn hm hD ⟨hO, hb⟩
  rintro W D o ⟨h1, h2⟩ ho hc hND
  have hg := grownBy_putObj' W D (.deferred none)
  have hno : NoCells W (some D) := fun r e => by cases e; exact ⟨o, ho, hc⟩
  exact ⟨⟨h1.o.kept hg (hno.own h1.o), fun t ht => (h1.e t ht).kept hg (hno.own (h1.e t ht))⟩, h2.grown hg h2.size fun k e => by cases e; exact hND⟩
noncomputable def hd61 : Code := codeL c61
noncomputable def p1_61 : Code := codeL (codeR c61)
noncomputable def r4_61 : Code := codeL (codeR (codeR c61))
noncomputable def r5_61 : Code := codeL (codeR (codeR (codeR c61)))
noncomputable def r6_61 : Code := codeL (codeL (codeR (codeR (codeR (codeR c61)))))
noncomputable def r22_61 : Code := codeR (codeR (codeR (codeR (codeR c61))))
theorem c61_eq : c61 = .seq hd61 (.seq p1_61 (.seq r4_61 (.seq r5_61 (.seq (.seq r6_61 blk0_61) r22_61)))) := rfl
set_option maxRecDepth 100000 in
set_option maxHeartbeats 2000000 in
theorem disjoint61 (w : World) (v1 v2 s t : Value) (p : Pl) (src snk : List Int) (hwd : WdR w) (hv : PlR w w.heap.size v1 v2 p) (hs : Sl encI 1 w w.heap.size s src) (ht : Sl encI 1 w w.heap.size t snk) :
    Calls Tryz.prog 61 #[.agg #[v1, v2], s, t] w (DisP w p src snk) := by
  have HP := Lib.hid (fun (w1 : World) (hb : Below w.heap.size w w1) => checkBoth118 w1 _ _ s t p src snk (hwd.later hb) (hv.later hb) (hs.later hb) (ht.later hb))
  have HM := Lib.hid (fun (w1 : World) (hb : Below w.heap.size w w1) (h : bothE p src snk = 0) => most119 w1 _ _ s t p src snk (hwd.later hb) (hv.later hb) (hs.later hb) (ht.later hb) (bothE_ok h).1 (bothE_ok h).2.in1 (bothE_ok h).2.in2)
  have HOK := Lib.hid (fun h : bothE p src snk = 0 => bothE_ok h)
  have HS := Lib.hid hs
  have HTT := Lib.hid ht
  have HAR := Lib.hid hv.arcs
  refine callsIn_wide (n := 9) |>.1 ?_
  refine callsIn_of_wp_marks Tryz.func61 rfl trivial ?_ rfl
  refine wpIn_wide.2 ?_
  change Code.wp _ c61 _ _ _
  obtain ⟨a1, n1, a2, n2, rfl, rfl⟩ := hv.agg
  obtain ⟨sa, cs, rfl, _, _⟩ := id hs
  obtain ⟨ta, ct, rfl, _, _⟩ := id ht
  clear hwd hv hs ht
  obtain ⟨Q, hQ⟩ : ∃ Q, bodyPostM Fence.wide 9 Tryz.prog Tryz.f61 (DisP w p src snk) = Q := ⟨_, rfl⟩
  have hQ0 := hQ
  unfold DisP at hQ
  unfold MostPost at HM
  obtain ⟨c, hc⟩ : ∃ c, bothE p src snk = c := ⟨_, rfl⟩
  rw [hc] at HP hQ HM HOK
  have HBAD : Hid (c ≠ 0 → ∀ A W', A.tmps[6]? = some (.slice none 0 0) → A.tmps[7]? = some (.int .i64 c) → A.defers = [] → Below w.heap.size w W' → Q .ret A W') := Lib.hid (by
    intro h0 A W' k1 k2 k3 k4
    rw [← hQ]
    show LeavesInM Fence.wide 9 Tryz.prog Tryz.f61 A.tmps _ A.defers .returning W'
    rw [k3]
    refine ⟨.tuple #[.slice none 0 0, .int .i64 c], ?_, ⟨_, [], rfl, ⟨Sl.nil _ _ _ _ _ _, fun t ht => by cases ht⟩, fun _ => rfl, fun h => absurd h h0, fun t ht => (by cases ht), k4⟩⟩
    rw [results_tmp2 (t := 6) (u := 7) rfl]; simp [Array.getD_eq_getD_getElem?, k1, k2])
  have HGO : Hid (c = 0 → ∀ (rm : List Int) (nn : Int) (qf fb : Nat) A W' vo L Ds, MostR p src snk rm nn → A.tmps[6]? = some vo → A.tmps[7]? = some (.int .i64 0) → A.defers = marksOf Ds → DsI w W' qf fb (2 * p.ms.length + 2) (.slice a1 p.ms.length n1) (.slice a2 p.arcs.length n2) vo p src snk rm src.length L Ds → Q .ret A W') := Lib.hid (by
    intro h0 rm nn qf fb A W' vo L Ds hm k1 k2 k3 hI
    rw [← hQ]
    subst h0
    obtain ⟨hok, hoe⟩ := HOK.out rfl
    obtain ⟨ord, hmx⟩ := hm.max hok hoe
    have hln := hI.len
    have hl64 : ∀ t ∈ L, t.l.length ≤ 64 := fun t ht => Nat.le_trans ((hI.ch t ht).1.len hmx.1) hok.le
    have hsl : L.length ≤ 1000000000 := by
      obtain ⟨_, _, _, h, _⟩ := id HS.out
      omega
    refine dis_end k1 k2 k3 hI.mks hI.nd hI.ge hI.o hI.bw fun W2 m1 m2 => ⟨_, L, rfl, m1.read hsl (fun t ht => by have := hl64 t ht; omega), fun h => absurd rfl h, fun _ => ⟨_, _, ord, hmx, hI.ch, ?_⟩, hl64, m2⟩
    have := hI.hd
    rwa [List.take_length] at this)
  rw [hQ0]
  clear hQ hQ0
  have HB := Lib.hid ((Below.refl w.heap.size w).alloc (Nat.le_refl _) (.cells #[.slice a1 p.ms.length n1, .slice a2 p.arcs.length n2] 25))
  have HX := Lib.hid (Box.new w #[.slice a1 p.ms.length n1, .slice a2 p.arcs.length n2] 25)
  obtain ⟨n, hn⟩ : ∃ n, p.ms.length = n := ⟨_, rfl⟩
  obtain ⟨m, hm⟩ : ∃ n, p.arcs.length = n := ⟨_, rfl⟩
  obtain ⟨ns, hns⟩ : ∃ n, src.length = n := ⟨_, rfl⟩
  obtain ⟨nt, hnt⟩ : ∃ n, snk.length = n := ⟨_, rfl⟩
  have HN := Lib.hid hn
  have HNS := Lib.hid hns
  rw [hn, hm, hns, hnt] at HP
  rw [hm] at HAR
  rw [hns] at HS
  rw [hnt] at HTT
  rw [hn, hm] at HB HX
  rw [hn, hm, hns, hnt] at HM
  rw [hn, hm, hns] at HGO
  rw [hn, hm, hns, hnt]
  clear hn hm hns hnt hc
  obtain ⟨B0, hB0⟩ : ∃ B, blk0_61 = B := ⟨_, rfl⟩
  have HB0 := Lib.hid hB0
  rw [c61_eq, hB0]
  clear hB0
  simp only [Tryz.ntmps61, List.size_toArray, List.length_cons, List.length_nil, Nat.reduceAdd, Nat.reduceSub, Array.replicate_succ, Array.replicate_zero, List.push_toArray, List.append_toArray, List.nil_append, List.cons_append]
  simp only [hd61, p1_61, r4_61, r5_61, r6_61, r22_61, c61, Tryz.f61, Option.getD, codeL, codeR]
  by_cases h0 : c = 0
  rotate_left
  · have k0 : (c != 0) = true := bne_iff_ne.2 h0
    have HBD := Lib.hid (HBAD.out h0)
    clear HM HOK h0 HGO HBAD
    go_wp2_with (go_at_call 118; refine (HP.out _ HB.out).mono ?_; rintro e w2 ⟨rfl, hb2⟩; have HB2 := Lib.hid (HB.out.trans (hb2.mono HB.out.size)); have HX2 := Lib.hid (HX.out.later hb2); obtain ⟨x0, x1, xf, xz⟩ := HX2.out.v2; clear hb2)
    exact HBD.out _ _ rfl rfl rfl HB2.out
  subst h0
  obtain ⟨hok, hoe⟩ := HOK.out rfl
  have HOP := Lib.hid hok
  have HOE := Lib.hid hoe
  have HM2 := Lib.hid (fun w1 hb => HM.out w1 hb rfl)
  have HGG := Lib.hid (HGO.out rfl)
  clear HM HOK hok hoe HGO HBAD
  go_wp2_with (first | (go_at_call 118; refine (HP.out _ HB.out).mono ?_; rintro e w2 ⟨rfl, hb2⟩; have HB2 := Lib.hid (HB.out.trans (hb2.mono HB.out.size)); have HX2 := Lib.hid (HX.out.later hb2); obtain ⟨x0, x1, xf, xz⟩ := HX2.out.v2; clear hb2) | (go_at_call 119; refine (HM2.out _ HB2.out).mono ?_; rintro e w3 ⟨fb, rm, nn, rfl, hf, hl, hr, hge, hb3⟩; have HR := Lib.hid hr; have HB3 := Lib.hid (HB2.out.trans (hb3.mono HB2.out.size)); have HX3 := Lib.hid (HX2.out.later hb3); have HF := Lib.hid hf; clear hf hr hb3 x0 x1 xf xz))
  rw [← HB0.out]
  refine wp_of_ex (F := fun z => { tmps := (fr61o w.heap.size w3.heap.size (.slice sa ns cs) (.slice ta nt ct) (.slice none 0 0) ns 0 z).toArray, defers := [] }) (by apply fr61o_act <;> rfl) fun z => ?_
  have b3 : Below w3.heap.size w3 (w3.alloc (.cells #[.pointer (some ⟨fb, 0, none⟩)] 143)) := (Below.refl _ _).alloc (Nat.le_refl _) _
  have bx3 := Box.new w3 #[.pointer (some ⟨fb, 0, none⟩)] 143
  refine blk0_61_walk w _ w3.heap.size fb (2 * n + 2) (.slice ta nt ct) sa cs ns a1 a2 n m n1 n2 p src snk rm nn z (HR.out.flp HOP.out HOE.out) hl HS.out HNS.out HTT.out HAR.out ⟨HX3.out.later b3, bx3, HF.out.later b3, HB3.out.trans (b3.mono HB3.out.size), PtsO.nil _ _, fun t ht => (by cases ht), rfl, fun D hD => (by cases hD), List.nodup_nil, fun D hD => (by cases hD)⟩ _ ?_
  intro z' W' vo L Ds hI
  have HI := Lib.hid hI
  clear hI b3 bx3
  simp only [Exit.then, fr61o]
  go_wp2_with fail
  exact HGG.out rm nn w3.heap.size fb _ W' vo L Ds HR.out rfl rfl rfl HI.out
end Go.Proofs.YtahpdkkpnkhnhaaGreatDoor
/- Walks: the ends of the reference. -/
namespace Go.Proofs.YtahpdkkpnkhnhaaGreatDoor
open Go Go.Proofs Go.RowKit Go.Shelf
def endF (b : Bool) : ByteArray → Bool := if b then enB else bgB
end Go.Proofs.YtahpdkkpnkhnhaaGreatDoor
/- Walks: CheckEnds of the reference. -/
namespace Go.Proofs.YtahpdkkpnkhnhaaGreatDoor
open Go Go.Proofs Go.RowKit Go.Shelf
theorem any_both (a b : List Int) : a.any (fun x => b.contains x) = b.any (fun x => a.contains x) := by
  rw [Bool.eq_iff_iff, List.any_eq_true, List.any_eq_true]
  constructor <;> (rintro ⟨x, h1, h2⟩; exact ⟨x, by simpa using h2, by simpa using h1⟩)
end Go.Proofs.YtahpdkkpnkhnhaaGreatDoor
/- Walks: CheckDisjoint of the reference. -/
namespace Go.Proofs.YtahpdkkpnkhnhaaGreatDoor
open Go Go.Proofs Go.RowKit Go.Shelf
theorem flat_len {L : List Pt} (h : ∀ t ∈ L, t.l.length ≤ 80) : (L.flatMap Pt.l).length ≤ 80 * L.length := by
  induction L with
  | nil => simp
  | cons t r ih =>
    rw [List.flatMap_cons, List.length_append, List.length_cons]
    have h1 := h t (by simp)
    have h2 := ih fun x hx => h x (by simp [hx])
    omega
theorem flat_take (L : List Pt) (k : Nat) (h : k < L.length) : (L.take (k + 1)).flatMap Pt.l = (L.take k).flatMap Pt.l ++ L[k].l := by
  rw [List.take_add_one, List.getElem?_eq_getElem h, List.flatMap_append]
  simp
end Go.Proofs.YtahpdkkpnkhnhaaGreatDoor
/- Walks: slices.Grow of a nil slice. -/
namespace Go.Proofs.YtahpdkkpnkhnhaaGreatDoor
open Go Go.Proofs Go.RowKit Go.Shelf
def GrowPost (w : World) (e : Ending) (w' : World) : Prop := ∃ v, e = .returned v ∧ Own encI 1 3 w' w.heap.size v [] ∧ Below w.heap.size w w'
set_option maxRecDepth 100000 in
set_option maxHeartbeats 1000000 in
theorem grow151 (w : World) (n : Nat) (hn : n ≤ 1000000) : Calls Tryz.prog 151 #[.slice none 0 0, .int .i64 n] w (GrowPost w) := by
  obtain ⟨Q, hQ⟩ : ∃ Q, GrowPost w = Q := ⟨_, rfl⟩
  rw [hQ]
  have HQ : Hid (∀ (v : Value) (w' : World), Own encI 1 3 w' w.heap.size v [] → Below w.heap.size w w' → Q (.returned v) w') := Lib.hid (fun v w' h1 h2 => by rw [← hQ]; exact ⟨v, rfl, h1, h2⟩)
  clear hQ
  by_cases h0 : n = 0
  · subst h0
    go_enter Tryz.func151, Tryz.ntmps151
    go_wp2_with fail
    exact HQ.out _ _ (Own.nil _ _ _ _ _) (Below.refl _ _)
  have hpos : 0 < n := by omega
  clear h0
  obtain ⟨i, hi, hz, hs, hby⟩ := info_parts infoI
  have hr := fun ty => Lib.run_append_nil_zeros (P := Tryz.prog) w 26 3 ty 3 i (.int .i64 0) .i64 .i64 Tryz.underlying26 Tryz.underlying3 hi hz n hpos (by rw [hs]; decide) (by omega) (by rw [hby]; omega)
  have hge := grownCap_ge w n 0 3
  have hle := grownCap_le_maxLen w n 0 3 (by unfold maxLen; omega)
  obtain ⟨cp, hcp⟩ : ∃ c, grownCap w n 0 3 = c := ⟨_, rfl⟩
  rw [hcp] at hge hle
  simp only [hcp] at hr
  obtain ⟨cells, hcells⟩ : ∃ c, Builtin.zeroCells (Value.int IntKind.i64 0).cells n ++ Builtin.zeroCells (Value.int IntKind.i64 0).cells (cp - n) = c := ⟨_, rfl⟩
  have hcs : cells.size = cp * 1 := by
    rw [← hcells, Array.size_append, size_zeroCells, size_zeroCells]
    show n * 1 + (cp - n) * 1 = cp * 1
    omega
  rw [hcells] at hr
  have HR := Lib.hid hr
  have HOW := Lib.hid (show Own encI 1 3 (w.drew.alloc (.cells cells 3)) w.heap.size (.slice (some ⟨w.heap.size, 0, none⟩) 0 cp) [] from
    ⟨rfl, .inr ⟨w.heap.size, cp, cells, rfl, Nat.le_refl _, (by show (w.heap.push (.cells cells 3))[w.heap.size]? = _; simp), Nat.zero_le _, hle, hcs, rfl⟩⟩)
  have HBW := Lib.hid ((Below.refl w.heap.size w).drew.alloc (Nat.le_refl _) (.cells cells 3))
  clear hr hcells hcs hi hz hs hby hcp
  have hd : decide ((0 : Int) < (n : Int)) = true := decide_eq_true (by omega)
  go_enter Tryz.func151, Tryz.ntmps151
  go_wp2_with (at_builtin; refine Lib.wpList_append_run _ rfl _ _ _ _ rfl _ _ rfl rfl _ _ (HR.out _) ?_)
  exact HQ.out _ _ HOW.out HBW.out
end Go.Proofs.YtahpdkkpnkhnhaaGreatDoor
/- Walks: slices.Concat of paths. -/
namespace Go.Proofs.YtahpdkkpnkhnhaaGreatDoor
open Go Go.Proofs Go.RowKit Go.Shelf
set_option maxRecDepth 100000 in
set_option maxHeartbeats 2000000 in
theorem concat132 (w : World) (u : Value) (L : List Pt) (hu : PtR w w.heap.size u L) (h20 : L.length ≤ 20) (h80 : ∀ t ∈ L, t.l.length ≤ 80) (h1 : ∀ t ∈ L, 0 < t.l.length) :
    Calls Tryz.prog 132 #[u] w (fun e w' => ∃ v, e = .returned v ∧ Own encI 1 3 w' w.heap.size v (L.flatMap Pt.l) ∧ Below w.heap.size w w') := by
  obtain ⟨Q, hQ⟩ : ∃ Q : Ending → World → Prop, (fun e w' => ∃ v, e = .returned v ∧ Own encI 1 3 w' w.heap.size v (L.flatMap Pt.l) ∧ Below w.heap.size w w') = Q := ⟨_, rfl⟩
  rw [hQ]
  have HQ : Hid (∀ (v : Value) (w' : World), Own encI 1 3 w' w.heap.size v (L.flatMap Pt.l) → Below w.heap.size w w' → Q (.returned v) w') := Lib.hid (fun v w' h1 h2 => by rw [← hQ]; exact ⟨v, rfl, h1, h2⟩)
  clear hQ
  have HRD := Lib.hid hu.rd
  have HFT := Lib.hid (fun k => show ((L.take k).flatMap Pt.l).length ≤ 80 * (L.take k).length from flat_len fun t ht => h80 t (List.mem_of_mem_take ht))
  have H80 := Lib.hid h80
  have H1 := Lib.hid h1
  obtain ⟨a, c, rfl, hlen, hA⟩ := hu.sl
  have HA := Lib.hid hA
  clear hA hu h80 h1
  obtain ⟨hl, hlc⟩ := hlen
  obtain ⟨ln, hll⟩ : ∃ m, L.length = m := ⟨_, rfl⟩
  rw [hll] at hl hlc h20 ⊢
  have HLN := Lib.hid hll
  clear hll
  have HLE := Lib.hid (fun k => show ((L.take k).flatMap Pt.l).length ≤ 1600 from by
    have h1 := HFT.out k
    have h2 : (L.take k).length ≤ ln := by rw [List.length_take, HLN.out]; omega
    omega)
  go_enter Tryz.func132, Tryz.ntmps132
  go_wp2_with fail
  go_loopw [11, 3] (fun j z wr => ∃ k : Nat, k ≤ ln ∧ j = .int .i64 k ∧ z = .int .i64 (((L.take k).flatMap Pt.l).length : Nat) ∧ Below w.heap.size w wr) (fun j _ _ => ln - (intOf j).toNat)
  case atStart => exact ⟨0, by omega, rfl, rfl, Below.refl _ _⟩
  case round =>
    obtain ⟨k, hk, rfl, rfl, hbe⟩ := hrel
    have HB1 := Lib.hid hbe
    clear hbe
    by_cases hlt : k < ln
    · have hkl : k < L.length := by rw [HLN.out]; exact hlt
      obtain ⟨b, off, rfl, hbb, hcells⟩ := HA.out (by omega)
      have c0 := ((hcells k hkl).below HB1.out hbb).c1
      rw [Nat.mul_one] at c0
      have hbz : b < wr.heap.size := Nat.lt_of_lt_of_le hbb HB1.out.size
      have HT := Lib.hid (flat_take L k hkl)
      have hx80 := H80.out _ (List.getElem_mem hkl)
      clear hcells
      generalize L[k] = x at *
      obtain ⟨xa, xc, xl⟩ := x
      dsimp only at hx80 c0 HT
      have HLT := Lib.hid (show ((L.take (k + 1)).flatMap Pt.l).length = ((L.take k).flatMap Pt.l).length + xl.length by rw [HT.out, List.length_append])
      have hle := HLE.out k
      have hle2 := HLE.out (k + 1)
      obtain ⟨s0, hs0⟩ : ∃ n, ((L.take k).flatMap Pt.l).length = n := ⟨_, rfl⟩
      obtain ⟨s1, hs1⟩ : ∃ n, ((L.take (k + 1)).flatMap Pt.l).length = n := ⟨_, rfl⟩
      rw [hs0] at hle HLT ⊢
      rw [hs1] at hle2 HLT
      have HS1 := Lib.hid hs1
      obtain ⟨xn, hxn⟩ : ∃ n, xl.length = n := ⟨_, rfl⟩
      rw [hxn] at HLT c0 hx80
      clear hs0 hs1 hxn
      have d0 : decide ((s0 : Int) + (xn : Int) < 0) = false := decide_eq_false (by omega)
      go_wp2_with fail
      go_roundw
      case rel => exact ⟨k + 1, by omega, by go_num, by rw [HS1.out, HLT.out]; go_num, HB1.out⟩
      case measure => simp [intOf]; omega
    · obtain rfl : ln = k := by omega
      have hle := HLE.out ln
      obtain ⟨s0, hs0⟩ : ∃ n, ((L.take ln).flatMap Pt.l).length = n := ⟨_, rfl⟩
      rw [hs0] at hle ⊢
      clear hs0
      have HGR := Lib.hid (grow151 wr s0 (by omega))
      go_wp2_with fail
      refine (HGR.out).mono ?_
      rintro e w2 ⟨v2, rfl, ho2, hb⟩
      have HO2 := Lib.hid (ho2.lower HB1.out.size)
      have HB2 := Lib.hid (HB1.out.trans (hb.mono HB1.out.size))
      clear ho2 hb
      generalize wr = U at *
      go_wp2_with fail
      go_loopw [27, 6] (fun j v wr => ∃ k : Nat, k ≤ ln ∧ j = .int .i64 k ∧ Own encI 1 3 wr w.heap.size v ((L.take k).flatMap Pt.l) ∧ Below w.heap.size w wr) (fun j _ _ => ln - (intOf j).toNat)
      case atStart => exact ⟨0, by omega, rfl, HO2.out, HB2.out⟩
      case round =>
        obtain ⟨k, hk, rfl, hown, hbe⟩ := hrel
        have HB3 := Lib.hid hbe
        have HO3 := Lib.hid hown
        clear hbe hown
        by_cases hlt : k < ln
        · have hkl : k < L.length := by rw [HLN.out]; exact hlt
          obtain ⟨b, off, rfl, hbb, hcells⟩ := HA.out (by omega)
          have c0 := ((hcells k hkl).below HB3.out hbb).c1
          rw [Nat.mul_one] at c0
          have hbz : b < wr.heap.size := Nat.lt_of_lt_of_le hbb HB3.out.size
          have HT := Lib.hid (flat_take L k hkl)
          have hx80 := H80.out _ (List.getElem_mem hkl)
          have hx1 := H1.out _ (List.getElem_mem hkl)
          have hrd := HRD.out _ (List.getElem_mem hkl)
          clear hcells
          generalize L[k] = x at *
          obtain ⟨xa, xc, xl⟩ := x
          dsimp only at hx80 hx1 hrd c0 HT
          obtain ⟨a', c', e5, _, hAx⟩ := hrd
          cases e5
          obtain ⟨bx, ox, rfl, hbx, hcx⟩ := hAx hx1
          obtain ⟨q3, hq3⟩ : ∃ q, (⟨bx, ox, none⟩ : Addr) = q := ⟨_, rfl⟩
          have HAT := Lib.hid (show ∀ i (h : i < xl.length), ∀ j u, (encI xl[i])[j]? = some u → wr.cell? (q3.add (i * 1 + j)) = some u from by
            intro i h j u hu
            subst hq3
            have h1 := ((hcx i h).below HB3.out hbx) j u hu
            rw [Addr.add_lit, ← Nat.add_assoc]
            exact h1)
          rw [hq3] at c0
          have HLK := Lib.hid (show ((L.take k).flatMap Pt.l).length + xl.length ≤ 2000000000 from by
            have := HLE.out k
            omega)
          clear hcx hAx hq3
          go_wp2_with (at_builtin; refine wpList_cat encI 1 8 26 3 _ Tryz.underlying26 infoI rfl (by decide) (by decide) encI_len encI_one ((L.take k).flatMap Pt.l) xl w.heap.size wr _ HO3.out HB3.out.size HLK.out q3 _ HAT.out rfl _ _ rfl rfl rfl ?_; intro v' w' hown' hg')
          have HB4 := Lib.hid (grown_below HB3.out hg' HB3.out.size HO3.out.lt' (Nat.le_refl _))
          rw [← HT.out] at hown'
          go_wp2_with fail
          go_roundw
          case rel => exact ⟨k + 1, by omega, by go_num, hown', HB4.out⟩
          case measure => simp [intOf]; omega
        · obtain rfl : ln = k := by omega
          have HOF := Lib.hid (show Own encI 1 3 wr w.heap.size _ (L.flatMap Pt.l) from by
            have h := HO3.out
            rw [List.take_of_length_le (by rw [HLN.out]; omega)] at h
            exact h)
          go_wp2_with fail
          exact HQ.out _ _ HOF.out HB3.out
end Go.Proofs.YtahpdkkpnkhnhaaGreatDoor
