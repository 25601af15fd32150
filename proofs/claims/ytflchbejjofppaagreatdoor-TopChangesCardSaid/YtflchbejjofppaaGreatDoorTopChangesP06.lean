/- Lemmas on the way to the law TopChanges (part 6): WNo WNp WNq WC -/
import Derived.Test.YtflchbejjofppaaGreatDoorTopChangesP05
import Derived.Deep.MidRow
import Derived.Test.YtflchbejjofppaaGreatDoorTopChangesP02
import Derived.Test.YtflchbejjofppaaGreatDoorTopChangesP01
set_option linter.unusedVariables false
set_option linter.unusedSimpArgs false

/- Walks: augment: one augmenting way, or none, and then what was reached is closed. -/
namespace Go.Proofs.YtflchbejjofppaaGreatDoor
open Go Go.Proofs Go.RowKit Go.Shelf
def AugPost (w : World) (B nb : Nat) (v : Value) (l : List Ac) (tk pl u t : Nat) (most wo : Int) (e : Ending) (w' : World) : Prop :=
  ∃ m l' rc', e = .returned (.int .i64 m) ∧ NetR w' B nb v l' tk pl rc' ∧ Kept (Mine nb v) w w' ∧
    ((m = 0 ∧ l' = l ∧ Closed (fun x => rc'.getD x false) wo l ∧ rc'.getD u false = true ∧ rc'.getD t false = false) ∨
     (∃ p, Wy l wo t p u ∧ (p.map Prod.fst).Nodup ∧ (∀ s ∈ p, m ≤ roomOf l s) ∧ 0 < m ∧ m ≤ most ∧ l' = pushes l p m))
theorem PushW.putObj {w W : World} {N B nb : Nat} {v : Value} {lc : List Ac} {tk pl : Nat} {rc : List Bool} {byL : List St} {bkL : List Nat} {t : Nat} {Ds : List Nat} (h : PushW w W N B nb v lc tk pl rc byL bkL t Ds) {D : Nat} {o : Obj} (hD : W.heap[D]? = some o) (ho : o.isCells = false) (hN : N ≤ D) :
    NetR (W.putObj D (.deferred none)) B nb v lc tk pl rc ∧ Kept (Mine nb v) w (W.putObj D (.deferred none)) := by
  have hg := grownBy_putObj' W D (.deferred none)
  have hn : NoCells W (some D) := fun r e => by cases e; exact ⟨o, hD, ho⟩
  exact ⟨⟨h.net.box.grown hg (hn.box h.net.box), h.net.own.kept hg (hn.own h.net.own), h.net.ne, h.net.n36⟩, putObj_kept h.kept (by rw [← h.hN]; exact hN)⟩
theorem aug_end {w W : World} {N B nb : Nat} {v : Value} {lc : List Ac} {tk pl : Nat} {rc : List Bool} {Ds : List Nat} (hN : N = w.heap.size) (hnet : NetR W B nb v lc tk pl rc) (hk : Kept (Mine nb v) w W) (hm : MarksIn W Ds) (hn : Ds.Nodup) (hD : ∀ D ∈ Ds, N ≤ D)
    {tmps : Array Value} {x : Value} (hx : tmps.getD 10 undef = x) {R : Ending → World → Prop} (hR : ∀ W', NetR W' B nb v lc tk pl rc → Kept (Mine nb v) w W' → R (.returned x) W') :
    Exit.noGoto (bodyPostM Fence.wide 9 Tryz.prog Tryz.f61 R) .ret { tmps := tmps, defers := marksOf Ds } W := by
  show LeavesInM Fence.wide 9 Tryz.prog Tryz.f61 tmps R (marksOf Ds) .returning W
  refine leaves_marks (w0s := N) (v := x) (fun W => by rw [results_tmp rfl, hx]) (fun W => NetR W B nb v lc tk pl rc ∧ Kept (Mine nb v) w W) ?_ (fun W h => hR W h.1 h.2) Ds W hn hm hD ⟨hnet, hk⟩
  rintro W D o ⟨h1, h2⟩ ho hc hND
  have hg := grownBy_putObj' W D (.deferred none)
  have hno : NoCells W (some D) := fun r e => by cases e; exact ⟨o, ho, hc⟩
  exact ⟨⟨h1.box.grown hg (hno.box h1.box), h1.own.kept hg (hno.own h1.own), h1.ne, h1.n36⟩, putObj_kept h2 (by rw [← hN]; exact hND)⟩
noncomputable def a91 : Code := codeL rest91
noncomputable def r19 : Code := codeL (codeL (codeR rest91))
noncomputable def r23 : Code := codeL (codeL (codeR (codeR rest91)))
noncomputable def e91 : Code := codeR (codeR (codeR rest91))
theorem rest91_eq : rest91 = .seq a91 (.seq (.seq r19 blk4) (.seq (.seq r23 blk6) e91)) := rfl
set_option maxRecDepth 100000 in
set_option maxHeartbeats 1000000 in
theorem rest91_walk (w : World) (N B nb : Nat) (v : Value) (l : List Ac) (tk pl u t : Nat) (wo most : Int) (hl : l.length ≤ 1000) (hs : Small l 1000000000000) (hE : Ends 36 l) (hu : u < 36) (ht : t < 36) (hm1 : 0 < most) (hm2 : most ≤ 100000000000000) (A : Act) (W : World)
    (hF : Found w N B nb v l tk pl u t wo most A W) (hut : u ≠ t) :
    rest91.wp Tryz.prog (Exit.noGoto (bodyPostM Fence.wide 9 Tryz.prog Tryz.f61 (AugPost w B nb v l tk pl u t most wo))) A W := by
  obtain ⟨z, Ds, g, rc, byL, bkL, ord, qu, vq, rfl, h1, h2, h3, h4, h5, h6⟩ := hF
  obtain ⟨Q, hQ⟩ : ∃ Q, Exit.noGoto (bodyPostM Fence.wide 9 Tryz.prog Tryz.f61 (AugPost w B nb v l tk pl u t most wo)) = Q := ⟨_, rfl⟩
  rw [hQ]
  have HQ := Lib.hid hQ
  clear hQ
  have c5 := h1.b5.cell 0
  have c7 := h1.b7.cell 0
  have z5 := h1.b5.lt
  have z7 := h1.b7.lt
  have zn := h1.net.box.lt
  have n36 := h2.n1
  simp only [List.getElem?_cons_zero] at c5 c7
  have cr : W.cell? ⟨nb, 3 + t, none⟩ = some (.bool (rc.getD t false)) := by
    rw [h1.net.box.cell, show 3 + t = t + 1 + 1 + 1 by omega]
    simp only [netCells, List.getElem?_cons_succ, List.getElem?_map, List.getD_eq_getElem?_getD]
    rw [List.getElem?_eq_getElem (by omega)]; rfl
  have ti : (t : Int) < 36 := by omega
  have hmem := h2.mem t ht
  have hmemu := h2.mem u hu
  have hk2 : Kept (Mine nb v) w W := h1.kept.mono fun k hk => .inl hk
  have H3 := Lib.hid h3
  have H5 := Lib.hid h5
  have H6 := Lib.hid h6
  clear h3 h5 h6
  cases hr : rc.getD t false
  · rw [hr] at cr
    have hnt : t ∉ ord := fun h => by rw [hmem.2 h] at hr; cases hr
    have hcl := (H6.out.resolve_left hnt).2
    have hclosed := h2.closed hE hcl
    have hru := hmemu.2 h2.hd
    have HR := Lib.hid hr
    clear hr
    have HM := Lib.hid hmem
    clear hmem
    have HMU := Lib.hid hmemu
    clear hmemu
    have HC := Lib.hid hclosed
    clear hclosed
    have HRU := Lib.hid hru
    clear hru
    have HCL := Lib.hid hcl
    clear hcl
    clear h2
    simp only [rest91, Tryz.f61, Option.getD, codeL, codeR, fr91]
    go_wp2_with fail
    go_quiet (fail)
    go_wp2_with fail
    rw [← HQ.out]
    refine aug_end h1.hN (h1.net.later (below_drewN (Below.refl _ _) nq)) (hk2.below (below_drewN (Below.refl _ _) nq)) (H3.out.later (below_drewN (Below.refl _ _) nq)) h4 (fun D hD => (H5.out D hD).1) (x := .int .i64 0) rfl fun W' k1 k2 => ?_
    exact ⟨0, l, rc, rfl, k1, k2, .inl ⟨rfl, rfl, HC.out, HRU.out, HR.out⟩⟩
  · rw [hr] at cr
    have hto : t ∈ ord := hmem.1 hr
    obtain ⟨p, p1, p2, p3, p4, p5⟩ := h2.way' hto
    have hl1 := least_le l p most
    have hl2 := least_room l p most
    have hl3 := least_pos l p most hm1 p4
    have hav := p2.avoid
    obtain ⟨m0, hm0⟩ : ∃ m0, least l p most = m0 := ⟨_, rfl⟩
    rw [hm0] at hl1 hl2 hl3
    have STEP4 : ∀ A', (∃ z', A' = { tmps := (fr91t nb u t N most wo t z').toArray, defers := marksOf Ds }) → ∀ W1, Below W.heap.size W W1 → blk4.wp Tryz.prog (fun e a w' => e = .normal ∧ Below W1.heap.size W1 w' ∧ ∃ z, a = { tmps := (fr91t nb u t N m0 wo u z).toArray, defers := marksOf Ds }) A' W1 := by
      rintro A' ⟨z', rfl⟩ W1 hb
      exact blk4_walk w W1 N B nb v l tk pl u t wo hl hs rc byL bkL vq g qu (h1.later hb) h2.n2 h2.n3 m0 (marksOf Ds) p.length _ W1 hu ⟨z', t, p, most, rfl, p1, hm0, fun s hs => (hav s hs).1, Below.refl _ _, rfl, by omega, by omega⟩
    have STEP6 : ∀ A', (∃ z', A' = { tmps := (fr91u nb u t N m0 wo t z').toArray, defers := marksOf Ds }) → ∀ W1, Below W.heap.size W W1 → blk6.wp Tryz.prog (fun e a w' => e = .normal ∧ PushW w w' N B nb v (pushes l p m0) tk pl rc byL bkL t Ds ∧ ∃ z, a = { tmps := (fr91u nb u t N m0 wo u z).toArray, defers := marksOf Ds }) A' W1 := by
      rintro A' ⟨z', rfl⟩ W1 hb
      have h1' := h1.later hb
      exact blk6_walk w N B nb v l (pushes l p m0) tk pl u t wo hs rc byL bkL h2.n2 h2.n3 m0 (by omega) (by omega) Ds p.length _ W1 hu ⟨z', t, p, l, rfl, p1, fun s hs => ⟨(hav s hs).1, rfl⟩, p3,
        ⟨h1'.net, h1'.glt, h1'.nlt, h1'.hN, h1'.b5, h1'.b7, h1'.byB, h1'.bkB, h1'.kept.mono fun k hk => .inl hk, H3.out.later hb⟩, hl, rfl, rfl⟩
    have HS4 := Lib.hid STEP4
    have HS6 := Lib.hid STEP6
    have HP := Lib.hid (show Wy l wo t p u ∧ (p.map Prod.fst).Nodup ∧ (∀ s ∈ p, m0 ≤ roomOf l s) ∧ 0 < m0 ∧ m0 ≤ most from ⟨p2, p3, hl2, hl3, hl1⟩)
    have HR := Lib.hid hr
    clear hr
    have HM := Lib.hid hmem
    clear hmem
    have HMU := Lib.hid hmemu
    clear hmemu
    clear STEP4 STEP6 hav hl2 p1 p2 p3 p4 p5 hm0 hto h2
    rw [rest91_eq]
    refine wp_seq ?_
    obtain ⟨R1, hR1⟩ : ∃ R1 : Act → World → Prop, (Code.seq (.seq r19 blk4) (.seq (.seq r23 blk6) e91)).wp Tryz.prog Q = R1 := ⟨_, rfl⟩
    rw [hR1]
    have HR1 := Lib.hid hR1
    clear hR1
    simp only [a91, rest91, Tryz.f61, Option.getD, codeL, codeR, fr91]
    go_wp2_with fail
    go_quiet (fail)
    go_wp2_with fail
    rw [← HR1.out]
    refine wp_seq (wp_seq ?_)
    obtain ⟨R2, hR2⟩ : ∃ R2 : Act → World → Prop, blk4.wp Tryz.prog (Exit.then ((Code.seq (.seq r23 blk6) e91).wp Tryz.prog Q) Q) = R2 := ⟨_, rfl⟩
    rw [hR2]
    have HR2 := Lib.hid hR2
    clear hR2
    simp only [r19, rest91, Tryz.f61, Option.getD, codeL, codeR]
    go_wp2_with fail
    rw [← HR2.out]
    have HB1 : Below W.heap.size W (W.drewN nq) := below_drewN (Below.refl _ _) nq
    refine wp_mono (HS4.out _ ?_ _ HB1) ?_
    · apply fr91t_act <;> rfl
    rintro e a w4 ⟨rfl, hb4, z4, rfl⟩
    have hB4 := HB1.trans (hb4.mono HB1.size)
    have d7 := (h1.later hB4).b7.cell 0
    simp only [List.getElem?_cons_zero] at d7
    clear c5 c7 cr
    refine wp_seq (wp_seq ?_)
    obtain ⟨R3, hR3⟩ : ∃ R3 : Act → World → Prop, blk6.wp Tryz.prog (Exit.then (e91.wp Tryz.prog Q) Q) = R3 := ⟨_, rfl⟩
    rw [hR3]
    have HR3 := Lib.hid hR3
    clear hR3
    simp only [r23, rest91, Tryz.f61, Option.getD, codeL, codeR, fr91t]
    go_wp2_with fail
    rw [← HR3.out]
    refine wp_mono (HS6.out _ ?_ _ hB4) ?_
    · apply fr91u_act <;> rfl
    rintro e a w6 ⟨rfl, hp6, z6, rfl⟩
    simp only [Exit.then, e91, rest91, Tryz.f61, Option.getD, codeL, codeR, fr91u]
    go_wp2_with fail
    rw [← HQ.out]
    refine aug_end hp6.hN hp6.net hp6.kept hp6.marks h4 (fun D hD => (H5.out D hD).1) (x := .int .i64 m0) rfl fun W' k1 k2 => ?_
    exact ⟨m0, _, rc, rfl, k1, k2, .inr ⟨p, HP.out.1, HP.out.2.1, HP.out.2.2.1, HP.out.2.2.2.1, HP.out.2.2.2.2, rfl⟩⟩
theorem blk91_walk (w : World) (N B nb : Nat) (v : Value) (l : List Ac) (tk pl u t : Nat) (wo most : Int) (hl : l.length ≤ 1000) (hs : Small l 1000000000000) (hE : Ends 36 l) (ht : t < 36) (m : Nat) (A : Act) (W : World)
    (hI : LoopI w N B nb v l tk pl u t wo most m A W) : blk91.wp Tryz.prog (fun e a w' => e = .normal ∧ Found w N B nb v l tk pl u t wo most a w') A W := by
  have e : blk91 = .block 0 (.loop rnd91) := rfl
  rw [e]
  exact wp_block (wp_loop_g (LoopI w N B nb v l tk pl u t wo most) m hI fun m a w' h => rnd91_walk w N B nb v l tk pl u t wo most hl hs hE ht m a w' h)
noncomputable def sc91 : Code := codeL (codeR (Tryz.f61.body.getD .skip))
noncomputable def m91 : Code := .seq blk91 rest91
noncomputable def c91 (n : Nat) : Code := match n with
  | 1 => codeL sc91 | 2 => codeL (codeR sc91) | 3 => codeL (codeR (codeR sc91)) | 4 => codeL (codeR (codeR (codeR sc91))) | _ => codeL (codeR (codeR (codeR (codeR sc91))))
theorem sc91_eq : sc91 = .seq (c91 1) (.seq (c91 2) (.seq (c91 3) (.seq (c91 4) (.seq (c91 5) (.seq (.label 0) m91))))) := rfl
set_option maxRecDepth 100000 in
set_option maxHeartbeats 1000000 in
theorem aug91 (B nb : Nat) (v : Value) (l : List Ac) (tk pl : Nat) (rc : List Bool) (u t : Nat) (most wo : Int) (w : World) (hnet : NetR w B nb v l tk pl rc) (hl : l.length ≤ 1000) (hs : Small l 1000000000000) (hE : Ends 36 l)
    (hu : u < 36) (ht : t < 36) (hut : u ≠ t) (hm : 0 < most) (hm2 : most ≤ 100000000000000) :
    Calls Tryz.prog 61 #[.pointer (some ⟨nb, 0, none⟩), .int .i64 u, .int .i64 t, .int .i64 most, .int .i64 wo] w (AugPost w B nb v l tk pl u t most wo) := by
  refine callsIn_wide (n := 9) |>.1 ?_
  refine callsIn_of_wp_marks Tryz.func61 rfl trivial ?_ rfl
  simp only [Tryz.ntmps61, List.size_toArray, List.length_cons, List.length_nil, Nat.reduceAdd, Nat.reduceSub, Array.replicate_succ, Array.replicate_zero, List.push_toArray, List.append_toArray, List.nil_append, List.cons_append]
  have z0 := hnet.box.lt
  refine wpIn_wide.2 ?_
  go_wp2_with fail
  have hbld : ∀ (w : World), (Instr.build 94 #[]).run Tryz.prog w = .ok (.agg (List.replicate 36 (Value.bool false)).toArray) w := fun w => by kernel_rfl
  have hinf : (Tryz.prog.info? 94).map (·.size) = some 36 := by kernel_rfl
  have hth : ∀ (o1 o2 : Obj), ((w.alloc o1).alloc o2).there nb 3 36 := fun o1 o2 j hj => by
    have hbx := (hnet.box.alloc o1).alloc o2
    refine ⟨?_, hbx.frozen _⟩
    rw [hbx.cell]
    have hlen : (netCells v tk pl rc).length = 39 := by simp [netCells, hnet.n36]
    rw [List.getElem?_eq_getElem (by omega)]; rfl
  have HTH := Lib.hid hth
  have HINF := Lib.hid hinf
  clear hth hinf
  have HONE := Lib.hid (show ((List.replicate 36 (Value.bool false)).toArray.all (·.oneCell')) = true by simp [Value.oneCell'])
  have HMID : ∀ A W, (∃ z, A = { tmps := (fr91 nb u t w.heap.size most wo z).toArray, defers := [] }) → ∀ byA bkA, byA.toList = (List.replicate 36 ((0, false) : St)).flatMap encS → bkA.toList = ints (List.replicate 36 0) → (∃ W1, ((w.alloc (.cells #[.pointer (some ⟨nb, 0, none⟩)] 66)).alloc (.cells #[.int .i64 t] 3)).setCells nb 3 (List.replicate 36 (.bool false)) = W1 ∧
      W = (((((W1.setCell ⟨nb, 3 + u, none⟩ (.bool true)).alloc (.cells byA 134)).alloc (.cells bkA 112)).alloc (.cells #[.int .i64 u] 3)).alloc (.cells #[.slice (some ⟨w.heap.size + 1 + 1 + 1 + 1, 0, none⟩) 1 1] 26))) →
      m91.wp Tryz.prog (Exit.noGoto (bodyPostM Fence.wide 9 Tryz.prog Tryz.f61 (AugPost w B nb v l tk pl u t most wo))) A W := by
    rintro A W ⟨z, rfl⟩ byA bkA hby hbk ⟨W1, hW1, rfl⟩
    have h := bfsw_start w B nb v l tk pl rc hnet t u byA bkA W1 hW1
    rw [hby, hbk] at h
    refine wp_seq (wp_mono (blk91_walk w w.heap.size B nb v l tk pl u t wo most hl hs hE ht 36 _ _ ⟨z, [], [], [u], _, _, _, _, _, rfl, ⟨h, Bfs.start l wo u hu _ _ (by simp) (by simp), by simp⟩, by simpa using Ne.symm hut, fun _ h => by simp at h, by simp, by simp, by simp⟩) ?_)
    rintro e a w' ⟨rfl, hf⟩
    exact rest91_walk w w.heap.size B nb v l tk pl u t wo most hl hs hE hu ht hm hm2 a w' hf hut
  obtain ⟨Q, hQ⟩ : ∃ Q, Exit.noGoto (bodyPostM Fence.wide 9 Tryz.prog Tryz.f61 (AugPost w B nb v l tk pl u t most wo)) = Q := ⟨_, rfl⟩
  rw [hQ] at HMID
  have HM := Lib.hid HMID
  clear HMID
  go_step3
  change sc91.wp Tryz.prog (Exit.noGoto (bodyPostM Fence.wide 9 Tryz.prog Tryz.f61 (AugPost w B nb v l tk pl u t most wo))) _ _
  rw [hQ, sc91_eq]
  have HQ := Lib.hid hQ
  clear hQ
  apply wp_seq_k; intro K0 hK0
  simp only [c91, sc91, Tryz.f61, Option.getD, codeL, codeR] at hK0 ⊢
  apply wp_region_lit
  iterate 4
    refine wpList_step (fun K1 hK1 => ?_)
    go_simp
    apply hK1; clear hK1 K1
  refine wpList_store_mid (by rfl) 94 (.tmp 23) (.tmp 21) (by rfl) nb 3 (List.replicate 36 (Value.bool false)).toArray (by rfl) (by rfl) (HTH.out _ _) HINF.out HONE.out ?_
  apply wpList_nil
  simp only [Exit.then]
  apply hK0; clear hK0 K0
  simp only [Act.put]
  obtain ⟨W1, hW1⟩ : ∃ W1, ((w.alloc (.cells #[.pointer (some ⟨nb, 0, none⟩)] 66)).alloc (.cells #[.int .i64 t] 3)).setCells nb 3 (List.replicate 36 (.bool false)) = W1 := ⟨_, rfl⟩
  obtain ⟨hz, hn1, hb5, hb7, hk1⟩ := start_facts w B nb v l tk pl rc hnet t W1 hW1
  rw [hW1]
  have HW1 := Lib.hid hW1
  clear hW1
  have x0 := hb5.cell 0
  simp only [List.getElem?_cons_zero] at x0
  have x1 : W1.cell? ⟨nb, 3 + u, none⟩ = some (.bool false) := by
    rw [hn1.box.cell, show 3 + u = u + 1 + 1 + 1 by omega]
    simp only [netCells, List.getElem?_cons_succ, List.getElem?_map, List.getElem?_replicate]
    rw [if_pos hu]; rfl
  have x2 := hn1.box.frozen
  have zn0 : nb < W1.heap.size := by omega
  have zn1 : nb < w.heap.size + 1 + 1 := by omega
  have zn2 : nb < w.heap.size + 1 + 1 + 1 := by omega
  have zn3 : nb < w.heap.size + 1 + 1 + 1 + 1 := by omega
  go_wp2_with fail
  go_step3
  go_wp2_with fail
  refine HM.out _ _ ?_ _ _ ?_ ?_ ⟨W1, HW1.out, rfl⟩
  · apply fr91_act <;> rfl
  · kernel_rfl
  · rfl
end Go.Proofs.YtflchbejjofppaaGreatDoor
/- Walks: flood: as much flow from a node to another one as possible. -/
namespace Go.Proofs.YtflchbejjofppaaGreatDoor
open Go Go.Proofs Go.RowKit Go.Shelf
structure Flow (l l' : List Ac) (u t : Nat) (wo m : Int) : Prop where
  shape : shp l' = shp l
  fits : Fits l → Fits l'
  ex : ∀ x, exc x l' = exc x l + (if t = x then m else 0) - (if u = x then m else 0)
  wo : ∀ i : Nat, (i : Int) = wo → l'[i]? = l[i]?
theorem Flow.refl (l : List Ac) (u t : Nat) (wo : Int) : Flow l l u t wo 0 := ⟨rfl, id, fun x => by simp, fun _ _ => rfl⟩
theorem Flow.trans {l l' l'' : List Ac} {u t : Nat} {wo m n : Int} (h : Flow l l' u t wo m) (k : Flow l' l'' u t wo n) : Flow l l'' u t wo (m + n) :=
  ⟨k.shape.trans h.shape, fun f => k.fits (h.fits f), fun x => by rw [k.ex, h.ex]; split <;> split <;> omega, fun i hi => (k.wo i hi).trans (h.wo i hi)⟩
theorem Flow.way {l : List Ac} {u t : Nat} {wo m : Int} {p : List St} (hw : Wy l wo t p u) (hn : (p.map Prod.fst).Nodup) (hr : ∀ s ∈ p, m ≤ roomOf l s) (h0 : 0 ≤ m) : Flow l (pushes l p m) u t wo m :=
  ⟨shp_pushes m p l, fun f => fits_pushes h0 f hn hr, fun x => exc_pushes x m hw, fun i hi => pushes_get_other fun s hs e => (hw.avoid s hs).2 (by rw [e]; exact hi)⟩
def SmallS (l : List Ac) (c : Int) : Prop := ∀ a ∈ l, -c ≤ a.lo ∧ a.hi ≤ c
theorem SmallS.shp {c : Int} : ∀ {l l' : List Ac}, shp l' = shp l → SmallS l c → SmallS l' c
  | [], [], _, _ => fun _ h => by simp at h
  | [], _ :: _, h, _ => by simp [YtflchbejjofppaaGreatDoor.shp] at h
  | _ :: _, [], h, _ => by simp [YtflchbejjofppaaGreatDoor.shp] at h
  | a :: l, b :: l', h, hS => by
    simp only [YtflchbejjofppaaGreatDoor.shp, List.map_cons, List.cons.injEq] at h
    obtain ⟨_, _, e3, e4⟩ := bare_eq h.1
    intro x hx
    rcases List.mem_cons.1 hx with rfl | hx
    · have := hS a (by simp); omega
    · exact SmallS.shp h.2 (fun y hy => hS y (by simp [hy])) x hx
theorem small_of {l : List Ac} {c : Int} (h : SmallS l c) (f : Fits l) : Small l c := fun a ha => by
  have h1 := h a ha
  have h2 := f a ha
  omega
def FloodPost (w : World) (B nb : Nat) (v : Value) (l : List Ac) (tk pl u t : Nat) (most wo : Int) (e : Ending) (w' : World) : Prop :=
  ∃ m l' rc', e = .returned (.int .i64 m) ∧ NetR w' B nb v l' tk pl rc' ∧ Kept (Mine nb v) w w' ∧ Flow l l' u t wo m ∧ 0 ≤ m ∧ m ≤ most ∧
    (m = most ∨ (Closed (fun x => rc'.getD x false) wo l' ∧ rc'.getD u false = true ∧ rc'.getD t false = false))
set_option maxRecDepth 100000 in
set_option maxHeartbeats 400000 in
theorem flood90 (B nb : Nat) (v : Value) (l : List Ac) (tk pl : Nat) (rc : List Bool) (u t : Nat) (most wo : Int) (w : World) (hnet : NetR w B nb v l tk pl rc) (hl : l.length ≤ 1000) (hs : SmallS l 1000000000000) (hf : Fits l) (hE : Ends 36 l)
    (hu : u < 36) (ht : t < 36) (hut : u ≠ t) (hm : 0 ≤ most) (hm2 : most ≤ 100000000000000) :
    Calls Tryz.prog 60 #[.pointer (some ⟨nb, 0, none⟩), .int .i64 u, .int .i64 t, .int .i64 most, .int .i64 wo] w (FloodPost w B nb v l tk pl u t most wo) := by
  have HNET := Lib.hid hnet
  have HS := Lib.hid hs
  have HF := Lib.hid hf
  have HE := Lib.hid hE
  clear hnet hs hf hE
  go_enter Tryz.func60, Tryz.ntmps60
  go_wp2_with fail
  go_loopw [11] (fun s wr => ∃ (m : Int) (l1 : List Ac) (rc1 : List Bool), s = .int .i64 m ∧ 0 ≤ m ∧ m ≤ most ∧ NetR wr B nb v l1 tk pl rc1 ∧ Kept (Mine nb v) w wr ∧ Flow l l1 u t wo m) (fun s _ => (most - intOf s).toNat)
  case atStart => exact ⟨0, l, rc, rfl, by omega, hm, HNET.out, Kept.refl _ _, Flow.refl l u t wo⟩
  case round =>
    obtain ⟨m, l1, rc1, rfl, h0, h1, hn, hk, hfl⟩ := hrel
    have HFL := Lib.hid hfl
    have hlen : l1.length = l.length := shp_length hfl.shape
    have HC := Lib.hid (fun (hlt : m < most) => aug91 B nb v l1 tk pl rc1 u t (most - m) wo wr hn (by omega) (small_of (HS.out.shp hfl.shape) (hfl.fits HF.out)) (shp_ends hfl.shape.symm HE.out) hu ht hut (by omega) (by omega))
    have HLEN := Lib.hid hlen
    clear hlen
    clear hfl
    by_cases hlt : m < most
    · go_wp2_with fail
      refine (HC.out hlt).mono ?_
      rintro e w1 ⟨m1, l2, rc2, rfl, hn2, hk2, (⟨rfl, rfl, c1, c2, c3⟩ | ⟨p, p1, p2, p3, p4, p5, rfl⟩)⟩
      · have HCC := Lib.hid (show Closed (fun x => rc2.getD x false) wo l2 ∧ rc2.getD u false = true ∧ rc2.getD t false = false from ⟨c1, c2, c3⟩)
        clear c1 c2 c3
        go_wp2_with fail
        go_ret
        exact ⟨m, l2, rc2, rfl, hn2, hk.trans hk2, HFL.out, h0, h1, .inr HCC.out⟩
      · have HFW := Lib.hid (Flow.way p1 p2 p3 (by omega))
        clear p1 p2 p3
        have hne : (m1 == 0) = false := beq_eq_false_iff_ne.2 (by omega)
        go_wp2_with fail
        go_roundw
        case rel => exact ⟨m + m1, _, rc2, rfl, by omega, by omega, hn2, hk.trans hk2, HFL.out.trans HFW.out⟩
        case measure => simp [intOf]; omega
    · obtain rfl : m = most := by omega
      go_wp2_with fail
      go_ret
      exact ⟨m, l1, rc1, rfl, hn, hk, HFL.out, h0, h1, .inl rfl⟩
end Go.Proofs.YtflchbejjofppaaGreatDoor
/- The network of a book with a source and a sink: a flow that fills all arcs from the source gives a circulation; else what is reached is a cut. No program here. -/
namespace Go.Proofs.YtflchbejjofppaaGreatDoor
theorem tot_shp (f : Ac → Int) (hf : ∀ a b : Ac, a.bare = b.bare → f a = f b) : ∀ {l l' : List Ac}, shp l = shp l' → tot f l = tot f l'
  | [], [], _ => rfl
  | [], _ :: _, h => by simp [shp] at h
  | _ :: _, [], h => by simp [shp] at h
  | a :: l, b :: l', h => by
    simp only [shp, List.map_cons, List.cons.injEq] at h
    simp only [tot]
    rw [hf a b h.1, tot_shp f hf h.2]
theorem tot_flatMap {α β : Type} (f : β → Int) (g : α → List β) (l : List α) : tot f (l.flatMap g) = tot (fun x => tot f (g x)) l := by
  induction l with
  | nil => rfl
  | cons x l ih => simp [tot, tot_append, ih]
theorem tot_range (f : Nat → Int) (n : Nat) : tot f (List.range n) = sumN n f := by
  induction n with
  | zero => rfl
  | succ n ih => rw [List.range_succ, tot_append, ih]; simp [tot, sumN]
theorem tot_zero {α : Type} (f : α → Int) (l : List α) (h : ∀ x ∈ l, f x = 0) : tot f l = 0 := by
  rw [tot_congr f (fun _ => 0) l h]
  induction l with
  | nil => rfl
  | cons x l ih => simp only [tot]; rw [ih fun y hy => h y (by simp [hy])]; rfl
theorem tot_nonneg_zero {α : Type} (f : α → Int) : ∀ (l : List α), (∀ x ∈ l, 0 ≤ f x) → tot f l ≤ 0 → ∀ x ∈ l, f x = 0
  | [], _, _, x, hx => by simp at hx
  | y :: l, h, h0, x, hx => by
    have h1 := h y (by simp)
    have h2 : 0 ≤ tot f l := by
      have := tot_le (fun _ => 0) f l fun z hz => h z (by simp [hz])
      rw [tot_zero (fun _ => 0) l fun _ _ => rfl] at this
      exact this
    simp only [tot] at h0
    rcases List.mem_cons.1 hx with rfl | hx
    · omega
    · exact tot_nonneg_zero f l (fun z hz => h z (by simp [hz])) (by omega) x hx
theorem tot_sub {α : Type} (f g : α → Int) (l : List α) : tot (fun x => f x - g x) l = tot f l - tot g l := by
  induction l with
  | nil => rfl
  | cons x l ih => simp only [tot, ih]; omega
theorem exc_append (x : Nat) (l l' : List Ac) : exc x (l ++ l') = exc x l + exc x l' := tot_append _ _ _
theorem cross_append (R : Nat → Bool) (l l' : List Ac) : cross R (l ++ l') = cross R l + cross R l' := tot_append _ _ _
theorem exc_far {n x : Nat} {l : List Ac} (h : Ends n l) (hx : n ≤ x) : exc x l = 0 := by
  unfold exc
  refine tot_zero _ _ fun a ha => ?_
  obtain ⟨h1, h2⟩ := h a ha
  unfold Ac.at
  rw [if_neg (by omega), if_neg (by omega)]; rfl
theorem exc_all {n : Nat} {l : List Ac} (h : Ends n l) : sumN n (fun v => exc v l) = 0 := by
  have := sumN_cross n (fun _ => true) l h
  simp only [if_true] at this
  rw [this]
  unfold cross
  exact tot_zero _ _ fun a _ => by unfold Ac.into; simp
theorem sumN_one (n k : Nat) (c : Int) (hk : k < n) : sumN n (fun u => if u = k then c else 0) = c := by
  have := sumN_point n k c hk (fun _ => true)
  simp only [if_true] at this
  refine (sumN_congr _ _ _ fun v _ => ?_).trans this
  by_cases e : v = k
  · rw [if_pos e, if_pos e.symm]
  · rw [if_neg e, if_neg (Ne.symm e)]
theorem sumN_more (f : Nat → Int) (n m : Nat) (h : n ≤ m) (h0 : ∀ v, n ≤ v → v < m → f v = 0) : sumN m f = sumN n f := by
  induction m with
  | zero => obtain rfl : n = 0 := by omega
            rfl
  | succ m ih =>
    by_cases e : n = m + 1
    · rw [e]
    · simp only [sumN]
      rw [ih (by omega) fun v h1 h2 => h0 v h1 (by omega), h0 m (by omega) (by omega)]; omega
def Ac.full (a : Ac) : Ac := { a with fl := a.hi }
theorem full_shp : ∀ {l l' : List Ac}, shp l = shp l' → l.map Ac.full = l'.map Ac.full
  | [], [], _ => rfl
  | [], _ :: _, h => by simp [shp] at h
  | _ :: _, [], h => by simp [shp] at h
  | a :: l, b :: l', h => by
    simp only [shp, List.map_cons, List.cons.injEq] at h
    obtain ⟨e1, e2, e3, e4⟩ := bare_eq h.1
    simp only [List.map_cons, full_shp h.2]
    rw [show a.full = b.full by cases a; cases b; simp only [Ac.full] at *; simp_all]
section
variable (E : Nat → Int) (S T : Nat)
def extA (v : Nat) : List Ac := if 0 < E v then [⟨S, v, 0, E v, 0⟩] else if E v < 0 then [⟨v, T, 0, -E v, 0⟩] else []
def extras (k : Nat) : List Ac := (List.range k).flatMap (extA E S T)
theorem extras_succ (k : Nat) : extras E S T (k + 1) = extras E S T k ++ extA E S T k := by unfold extras; rw [List.range_succ, List.flatMap_append]; simp
def wantOf (k : Nat) : Int := sumN k fun v => if 0 < E v then E v else 0
theorem extras_mem {k : Nat} {a : Ac} (h : a ∈ extras E S T k) : ∃ v, v < k ∧ ((0 < E v ∧ a = ⟨S, v, 0, E v, 0⟩) ∨ (E v < 0 ∧ a = ⟨v, T, 0, -E v, 0⟩)) := by
  obtain ⟨v, hv, hm⟩ := List.mem_flatMap.1 h
  refine ⟨v, by simpa using hv, ?_⟩
  unfold extA at hm
  split at hm
  · exact .inl ⟨‹_›, by simpa using hm⟩
  · split at hm
    · exact .inr ⟨‹_›, by simpa using hm⟩
    · simp at hm
theorem extras_tot (f : Ac → Int) (k : Nat) : tot f (extras E S T k) = sumN k fun v => tot f (extA E S T v) := by
  unfold extras; rw [tot_flatMap, tot_range]
theorem extras_exc (x k : Nat) : exc x (extras E S T k) = 0 := by
  unfold exc
  refine tot_zero _ _ fun a ha => ?_
  obtain ⟨v, _, ⟨_, rfl⟩ | ⟨_, rfl⟩⟩ := extras_mem E S T ha <;> simp [Ac.at]
theorem map_extras (k : Nat) : (extras E S T k).map Ac.full = (List.range k).flatMap fun v => (extA E S T v).map Ac.full := by
  unfold extras; rw [List.map_flatMap]
theorem full_exc {v k : Nat} (hv : v < k) (hS : v ≠ S) (hT : v ≠ T) : exc v ((extras E S T k).map Ac.full) = E v := by
  unfold exc
  rw [map_extras, tot_flatMap, tot_range, ← sumN_one k v (E v) hv]
  refine sumN_congr _ _ _ fun u _ => ?_
  unfold extA
  by_cases e : u = v
  · subst e
    split
    · simp [tot, Ac.full, Ac.at, Ne.symm hS]
    · split
      · simp [tot, Ac.full, Ac.at, Ne.symm hT]
      · simp [tot]; omega
  · split
    · simp [tot, Ac.full, Ac.at, Ne.symm hS, e]
    · split
      · simp [tot, Ac.full, Ac.at, Ne.symm hT, e]
      · simp [tot, e]
theorem full_from {k : Nat} (hS : ¬ E S < 0) : tot (fun a => if a.fr = S then a.hi else 0) (extras E S T k) = wantOf E k := by
  rw [extras_tot]
  refine sumN_congr _ _ _ fun u _ => ?_
  unfold extA
  split
  · simp [tot]
  · split
    · have : u ≠ S := fun e => hS (by rw [← e]; assumption)
      simp [tot, this]
    · simp [tot]
theorem full_to {k : Nat} (hT : ¬ 0 < E T) : tot (fun a => if a.to = T then a.hi else 0) (extras E S T k) = sumN k fun v => if E v < 0 then -E v else 0 := by
  rw [extras_tot]
  refine sumN_congr _ _ _ fun u _ => ?_
  unfold extA
  split
  · have : u ≠ T := fun e => hT (by rw [← e]; assumption)
    rw [if_neg (by omega)]
    simp [tot, this]
  · split
    · simp [tot]
    · simp [tot]
theorem full_cross (R : Nat → Bool) (k : Nat) (hS : R S = true) (hT : R T = false) : cross R ((extras E S T k).map Ac.full) = sumN k fun u => if 0 < E u then (if R u = true then 0 else -E u) else if E u < 0 then (if R u = true then E u else 0) else 0 := by
  unfold cross
  rw [map_extras, tot_flatMap, tot_range]
  refine sumN_congr _ _ _ fun u _ => ?_
  unfold extA
  split
  · simp only [List.map_cons, List.map_nil, tot, Ac.full, Ac.into, hS, if_true]
    split <;> omega
  · split
    · simp only [List.map_cons, List.map_nil, tot, Ac.full, Ac.into, hT, if_false, Bool.false_eq_true]
      split <;> omega
    · simp [tot]
end
def Ac.least (R : Nat → Bool) (a : Ac) : Int := (if R a.to = true ∧ R a.fr = false then a.lo else 0) - (if R a.fr = true ∧ R a.to = false then a.hi else 0)
def cutv (R : Nat → Bool) (l : List Ac) : Int := tot (Ac.least R) l
theorem cutv_shp (R : Nat → Bool) {l l' : List Ac} (h : shp l = shp l') : cutv R l = cutv R l' :=
  tot_shp _ (fun a b e => by obtain ⟨e1, e2, e3, e4⟩ := bare_eq e; unfold Ac.least; rw [e1, e2, e3, e4]) h
theorem cutv_le (R : Nat → Bool) (l : List Ac) (h : Fits l) : cutv R l ≤ cross R l := by
  refine tot_le _ _ _ fun a ha => ?_
  obtain ⟨h1, h2⟩ := h a ha
  unfold Ac.least Ac.into
  cases R a.fr <;> cases R a.to <;> simp <;> omega
theorem cutv_ge (R : Nat → Bool) (l : List Ac) (h : ∀ a ∈ l, a.tight R) : cross R l ≤ cutv R l := by
  refine tot_le _ _ _ fun a ha => ?_
  obtain ⟨h1, h2⟩ := h a ha
  unfold Ac.least Ac.into
  cases h3 : R a.fr <;> cases h4 : R a.to
  · simp
  · have := h2 h4 h3; simp; omega
  · have := h1 h3 h4; simp; omega
  · simp
theorem no_circ {n : Nat} {l l' : List Ac} {R : Nat → Bool} (hs : shp l' = shp l) (hE : Ends n l) (h : 0 < cutv R l) : ¬ Circ n l' := fun hc => by
  have h1 := cutv_le R l' hc.fits
  rw [hc.cross (shp_ends hs.symm hE) R, cutv_shp R hs] at h1
  omega
section
variable {n : Nat} {A l' : List Ac} {got : Int}
theorem split_shp {A X l' : List Ac} (h : shp l' = shp (A ++ X)) : ∃ A' X', l' = A' ++ X' ∧ A'.length = A.length ∧ shp A' = shp A ∧ shp X' = shp X := by
  have hl := shp_length h
  rw [List.length_append] at hl
  have e : shp (l'.take A.length ++ l'.drop A.length) = shp (A ++ X) := by rw [List.take_append_drop]; exact h
  unfold shp at e
  rw [List.map_append, List.map_append] at e
  obtain ⟨e1, e2⟩ := List.append_inj e (by simp; omega)
  exact ⟨_, _, (List.take_append_drop _ _).symm, by simp; omega, e1, e2⟩
variable (hE : Ends n A) (hn : n + 3 ≤ 36)
include hE hn
theorem want_neg : sumN 36 (fun v => if exc v A < 0 then -exc v A else 0) = wantOf (fun v => exc v A) 36 := by
  have h := exc_all hE
  have h2 : sumN 36 (fun v => exc v A) = 0 := by rw [sumN_more _ n 36 (by omega) fun v h1 _ => exc_far hE h1, h]
  have h3 : sumN 36 (fun v => (if 0 < exc v A then exc v A else 0) - (if exc v A < 0 then -exc v A else 0)) = sumN 36 (fun v => exc v A) :=
    sumN_congr _ _ _ fun v _ => by split <;> split <;> omega
  rw [sumN_sub] at h3
  unfold wantOf
  dsimp only
  omega
theorem settle_ok (hs : shp l' = shp (A ++ extras (fun v => exc v A) (n + 1) (n + 2) 36)) (hf : Fits l') (hx : ∀ x, exc x l' = exc x (A ++ extras (fun v => exc v A) (n + 1) (n + 2) 36) + (if n + 2 = x then got else 0) - (if n + 1 = x then got else 0))
    (hg : got = wantOf (fun v => exc v A) 36) : ∃ A' X', l' = A' ++ X' ∧ A'.length = A.length ∧ shp A' = shp A ∧ Circ n A' := by
  obtain ⟨A', X', rfl, hl, hA, hX⟩ := split_shp hs
  refine ⟨A', X', rfl, hl, hA, fun a ha => hf a (List.mem_append_left _ ha), ?_⟩
  have hEA := shp_ends hA.symm hE
  have hfX : Fits X' := fun a ha => hf a (List.mem_append_right _ ha)
  have hends : ∀ a ∈ X', (a.fr = n + 1 ∧ a.to ≠ n + 1) ∨ (a.to = n + 2 ∧ a.fr ≠ n + 2 ∧ a.fr ≠ n + 1) := by
    intro a ha
    obtain ⟨i, hi, rfl⟩ := List.mem_iff_getElem.1 ha
    have hi2 := hi
    rw [shp_length hX] at hi2
    obtain ⟨e1, e2, _, _⟩ := bare_eq (shp_get hX i hi hi2)
    obtain ⟨v, hv, ⟨h1, h2⟩ | ⟨h1, h2⟩⟩ := extras_mem _ _ _ (List.getElem_mem hi2)
    · have hvn : v < n := Nat.lt_of_not_le fun h => by rw [exc_far hE h] at h1; omega
      rw [h2] at e1 e2
      exact .inl ⟨e1, by rw [e2]; dsimp only; omega⟩
    · have hvn : v < n := Nat.lt_of_not_le fun h => by rw [exc_far hE h] at h1; omega
      rw [h2] at e1 e2
      exact .inr ⟨e2, by rw [e1]; dsimp only; omega, by rw [e1]; dsimp only; omega⟩
  have hS := hx (n + 1)
  rw [exc_append, exc_append, exc_far hEA (by omega), exc_far hE (by omega), extras_exc, if_neg (by omega), if_pos rfl] at hS
  have hS2 : exc (n + 1) X' = - tot (fun a => if a.fr = n + 1 then a.fl else 0) X' := by
    have : exc (n + 1) X' = tot (fun a => 0 - (if a.fr = n + 1 then a.fl else 0)) X' := tot_congr _ _ _ fun a ha => by
      unfold Ac.at
      rcases hends a ha with ⟨h1, h2⟩ | ⟨h1, h2, h3⟩
      · rw [if_neg h2]
      · rw [if_neg (by omega)]
    rw [this, tot_sub, tot_zero (fun _ => 0) X' fun _ _ => rfl]; omega
  have hS3 : tot (fun a => if a.fr = n + 1 then a.hi else 0) X' = wantOf (fun v => exc v A) 36 := by
    rw [tot_shp _ (fun a b e => by obtain ⟨e1, _, _, e4⟩ := bare_eq e; rw [e1, e4]) hX, full_from]
    rw [exc_far hE (by omega)]; omega
  have hS4 : ∀ a ∈ X', a.fr = n + 1 → a.fl = a.hi := by
    have h := tot_nonneg_zero (fun a : Ac => (if a.fr = n + 1 then a.hi else 0) - (if a.fr = n + 1 then a.fl else 0)) X' (fun a ha => by have := hfX a ha; split <;> omega) (by rw [tot_sub, hS3]; omega)
    intro a ha hfr
    have := h a ha
    simp only [hfr, if_true] at this
    omega
  have hT := hx (n + 2)
  rw [exc_append, exc_append, exc_far hEA (by omega), exc_far hE (by omega), extras_exc, if_pos rfl, if_neg (by omega)] at hT
  have hT2 : exc (n + 2) X' = tot (fun a => if a.to = n + 2 then a.fl else 0) X' := by
    refine tot_congr _ _ _ fun a ha => ?_
    unfold Ac.at
    rcases hends a ha with ⟨h1, h2⟩ | ⟨h1, h2, h3⟩
    · rw [if_neg (show a.fr ≠ n + 2 by omega)]; omega
    · rw [if_neg h2]; omega
  have hT3 : tot (fun a => if a.to = n + 2 then a.hi else 0) X' = wantOf (fun v => exc v A) 36 := by
    rw [tot_shp _ (fun a b e => by obtain ⟨_, e1, _, e4⟩ := bare_eq e; rw [e1, e4]) hX, full_to, want_neg hE hn]
    rw [exc_far hE (by omega)]; omega
  have hT4 : ∀ a ∈ X', a.to = n + 2 → a.fl = a.hi := by
    have h := tot_nonneg_zero (fun a : Ac => (if a.to = n + 2 then a.hi else 0) - (if a.to = n + 2 then a.fl else 0)) X' (fun a ha => by have := hfX a ha; split <;> omega) (by rw [tot_sub, hT3]; omega)
    intro a ha hto
    have := h a ha
    simp only [hto, if_true] at this
    omega
  have hfull : X' = X'.map Ac.full := by
    have : X'.map Ac.full = X'.map id := List.map_congr_left fun a ha => by
      have hfl : a.fl = a.hi := by
        rcases hends a ha with ⟨h1, _⟩ | ⟨h1, _⟩
        · exact hS4 a ha h1
        · exact hT4 a ha h1
      cases a; simp only [Ac.full, id] at *; rw [hfl]
    rw [this, List.map_id]
  intro x hx0
  have h := hx x
  rw [exc_append, exc_append, extras_exc, if_neg (by omega), if_neg (by omega), hfull, full_shp hX, full_exc _ _ _ (by omega) (by omega) (by omega)] at h
  omega
theorem settle_cut {R : Nat → Bool} (hs : shp l' = shp (A ++ extras (fun v => exc v A) (n + 1) (n + 2) 36)) (hx : ∀ x, exc x l' = exc x (A ++ extras (fun v => exc v A) (n + 1) (n + 2) 36) + (if n + 2 = x then got else 0) - (if n + 1 = x then got else 0))
    (hg : got < wantOf (fun v => exc v A) 36) (hC : Closed R (-1) l') (hRS : R (n + 1) = true) (hRT : R (n + 2) = false) : 0 < cutv R A := by
  have htight : ∀ a ∈ l', a.tight R := fun a ha => by
    obtain ⟨i, hi, rfl⟩ := List.mem_iff_getElem.1 ha
    exact hC i hi (by omega)
  have hEX : Ends 36 (extras (fun v => exc v A) (n + 1) (n + 2) 36) := fun a ha => by
    obtain ⟨v, hv, ⟨_, rfl⟩ | ⟨_, rfl⟩⟩ := extras_mem _ _ _ ha <;> (dsimp only; omega)
  have hE' : Ends 36 l' := shp_ends hs.symm (fun a ha => by
    rcases List.mem_append.1 ha with ha | ha
    · have := hE a ha; omega
    · exact hEX a ha)
  have hcr := sumN_cross 36 R l' hE'
  obtain ⟨A', X', rfl, hl, hA, hX⟩ := split_shp hs
  have h1 := cutv_ge R A' fun a ha => htight a (List.mem_append_left _ ha)
  rw [cutv_shp R hA] at h1
  have h2 : cross R X' ≤ cross R ((extras (fun v => exc v A) (n + 1) (n + 2) 36).map Ac.full) := by
    rw [← full_shp hX]
    unfold cross
    rw [show tot (fun a => a.into R) (X'.map Ac.full) = tot (fun a => (a.full).into R) X' by
      clear h1 hcr hE' htight hC hx hs hl hX
      induction X' with
      | nil => rfl
      | cons y X' ih => simp only [List.map_cons, tot, ih]]
    refine tot_le _ _ _ fun a ha => ?_
    obtain ⟨t1, t2⟩ := htight a (List.mem_append_right _ ha)
    obtain ⟨i, hi, rfl⟩ := List.mem_iff_getElem.1 ha
    have hi2 := hi
    rw [shp_length hX] at hi2
    obtain ⟨e1, e2, _, _⟩ := bare_eq (shp_get hX i hi hi2)
    obtain ⟨v, hv, ⟨h3, h4⟩ | ⟨h3, h4⟩⟩ := extras_mem _ _ _ (List.getElem_mem hi2)
    · rw [h4] at e1 e2
      dsimp only at e1 e2
      rw [e1] at t1
      unfold Ac.into Ac.full
      dsimp only
      rw [e1, hRS]
      cases hR : R (X'[i]).to
      · have := t1 hRS hR; simp; omega
      · simp
    · rw [h4] at e1 e2
      dsimp only at e1 e2
      unfold Ac.into Ac.full
      dsimp only
      rw [e2, hRT]
      cases hR : R (X'[i]).fr
      · simp
      · have := t1 hR (by rw [e2]; exact hRT); simp; omega
  rw [full_cross _ _ _ R 36 hRS hRT] at h2
  rw [cross_append] at hcr
  have h3 : sumN 36 (fun v => if R v = true then exc v (A' ++ X') else 0) = sumN 36 (fun v => if R v = true then exc v A else 0) - got := by
    have e : sumN 36 (fun v => if R v = true then exc v (A' ++ X') else 0) = sumN 36 (fun v => (if R v = true then exc v A else 0) - (if R v = true then (if n + 1 = v then got else 0) else 0)) := sumN_congr _ _ _ fun v _ => by
      rw [hx v, exc_append, extras_exc]
      by_cases h : R v = true
      · simp only [h, if_true]
        rw [if_neg (fun e => by rw [← e, hRT] at h; cases h)]; omega
      · simp [h]
    rw [e, sumN_sub, sumN_point 36 (n + 1) got (by omega) R, hRS]; simp
  have h4 : sumN 36 (fun v => if R v = true then exc v A else 0) - (sumN 36 fun u => if 0 < exc u A then (if R u = true then 0 else -exc u A) else if exc u A < 0 then (if R u = true then exc u A else 0) else 0) = wantOf (fun v => exc v A) 36 := by
    rw [← sumN_sub]
    refine sumN_congr _ _ _ fun v _ => ?_
    dsimp only
    cases R v <;> simp <;> (repeat' split) <;> omega
  omega
end
end Go.Proofs.YtflchbejjofppaaGreatDoor
/- Leaf walks: errors of ranges and masses, first errors, quotients rounded down. -/
namespace Go.Proofs.YtflchbejjofppaaGreatDoor
open Go Go.Proofs Go.RowKit
def farB (n : Int) : Bool := decide (999999999 < n) || decide (n < -999999999)
theorem farB_eq (n : Int) (b : Bool) (h : b = true ↔ (999999999 < n ∨ n < -999999999)) : b = farB n := by
  unfold farB; rw [Bool.eq_iff_iff, h]; simp only [Bool.or_eq_true, decide_eq_true_eq]
theorem ret_bool {b b' : Bool} (h : b = b') : Ending.returned (.bool b) = .returned (.bool b') := by rw [h]
set_option maxHeartbeats 400000 in
theorem far65 (n : Int) (w : World)  : Calls Tryz.prog 56 #[.int .i64 n] w fun e w' => e = .returned (.bool (farB n)) ∧ w = w' := by
  go_enter Tryz.func56, Tryz.ntmps56
  by_cases h : 999999999 < n <;> by_cases h2 : n < -999999999
  all_goals
    go_wp2
    go_ret
    exact ⟨ret_bool (farB_eq n _ (by constructor <;> intro _ <;> first | rfl | omega | contradiction)), rfl⟩
set_option maxHeartbeats 400000 in
theorem far87 (n : Int) (w : World)  : Calls Tryz.prog 62 #[.int .i64 n] w fun e w' => e = .returned (.bool (farB n)) ∧ w = w' := by
  go_enter Tryz.func62, Tryz.ntmps62
  by_cases h : 999999999 < n <;> by_cases h2 : n < -999999999
  all_goals
    go_wp2
    go_ret
    exact ⟨ret_bool (farB_eq n _ (by constructor <;> intro _ <;> first | rfl | omega | contradiction)), rfl⟩
def ckRange (r : Rg) : Int := if farB r.lo || farB r.hi then 3 else if r.hi < r.lo then 11 else 0
set_option maxHeartbeats 400000 in
theorem ckRange20 (r : Rg) (w : World) : Calls Tryz.prog 28 #[.agg #[.int .i64 r.lo, .int .i64 r.hi]] w (Ret (.int .i64 (ckRange r)) w) := by
  unfold ckRange
  go_enter Tryz.func28, Tryz.ntmps28
  cases h1 : farB r.lo <;> cases h2 : farB r.hi <;> by_cases h3 : r.hi < r.lo
  all_goals go_wp2_with (go_at_call 56; refine (far65 _ _).mono ?_; rintro e w' ⟨rfl, rfl⟩)
  all_goals go_ret
  all_goals exact ⟨by simp [*], (Below.refl _ _).alloc (Nat.le_refl _) _⟩
set_option maxHeartbeats 400000 in
theorem ckRange54 (r : Rg) (w : World) : Calls Tryz.prog 38 #[.agg #[.int .i64 r.lo, .int .i64 r.hi]] w (Ret (.int .i64 (ckRange r)) w) := by
  unfold ckRange
  go_enter Tryz.func38, Tryz.ntmps38
  cases h1 : farB r.lo
  rotate_left
  cases h2 : farB r.hi
  by_cases h3 : r.hi < r.lo
  all_goals go_wp2_with (go_at_call 62; refine (far87 _ _).mono ?_; rintro e w' ⟨rfl, rfl⟩)
  all_goals go_ret
  all_goals exact ⟨by simp [*], (Below.refl _ _).alloc (Nat.le_refl _) _⟩
def ckMass (r : Rg) : Int := if ckRange r = 0 then (if r.lo < 0 then 3 else 0) else ckRange r
set_option maxHeartbeats 400000 in
theorem ckMass55 (x : Rg) (w : World) : Calls Tryz.prog 20 #[.agg #[.int .i64 x.lo, .int .i64 x.hi]] w (Ret (.int .i64 (ckMass x)) w) := by
  unfold ckMass
  go_enter Tryz.func20, Tryz.ntmps20
  have H := ckRange20 x
  generalize ckRange x = r at *
  have H' := Lib.hid H
  clear H
  by_cases h1 : r = 0 <;> by_cases h3 : x.lo < 0
  all_goals (go_wp2_with (go_at_call 28; refine (H'.out _).mono ?_; rintro e w' ⟨rfl, hb⟩; obtain ⟨hc, hf⟩ := bcell hb))
  all_goals go_ret
  all_goals exact Ret.mk (by simp [*]) (((Below.refl _ _).alloc (Nat.le_refl _) _).trans (hb.mono (by simp)))
set_option maxHeartbeats 400000 in
theorem ckMass70 (x : Rg) (w : World) : Calls Tryz.prog 55 #[.agg #[.int .i64 x.lo, .int .i64 x.hi]] w (Ret (.int .i64 (ckMass x)) w) := by
  unfold ckMass
  go_enter Tryz.func55, Tryz.ntmps55
  have H := ckRange54 x
  generalize ckRange x = r at *
  have H' := Lib.hid H
  clear H
  by_cases h1 : r = 0 <;> by_cases h3 : x.lo < 0
  all_goals (go_wp2_with (go_at_call 38; refine (H'.out _).mono ?_; rintro e w' ⟨rfl, hb⟩; obtain ⟨hc, hf⟩ := bcell hb))
  all_goals go_ret
  all_goals exact Ret.mk (by simp [*]) (((Below.refl _ _).alloc (Nat.le_refl _) _).trans (hb.mono (by simp)))
def firstNZ : List Int → Int
  | [] => 0
  | x :: l => if x = 0 then firstNZ l else x
theorem firstNZ_drop (l : List Int) (k : Nat) (h : k < l.length) : firstNZ (l.drop k) = if l[k] = 0 then firstNZ (l.drop (k + 1)) else l[k] := by
  rw [List.drop_eq_getElem_cons h]; rfl
set_option maxHeartbeats 400000 in
theorem first63 (v : Value) (l : List Int) (w : World) (hv : Sl encI 1 w w.heap.size v l) : Calls Tryz.prog 33 #[v] w fun e w' => e = .returned (.int .i64 (firstNZ l)) ∧ w = w' := by
  obtain ⟨a, c, rfl, hlen, hA⟩ := hv
  have hA := Lib.hid hA
  generalize hR : firstNZ l = R
  go_enter Tryz.func33, Tryz.ntmps33
  go_wp2_with fail
  go_loop [7] (fun i => ∃ k : Nat, k ≤ l.length ∧ i = .int .i64 k ∧ firstNZ (l.drop k) = R) (fun i => l.length - (intOf i).toNat)
  case atStart => exact ⟨0, by omega, rfl, hR⟩
  case round =>
    obtain ⟨k, hk, rfl, hrel⟩ := hrel
    have HR := Lib.hid hrel
    clear hrel hR
    by_cases hlt : k < l.length
    · obtain ⟨b, off, rfl, hbb, hcells⟩ := hA.out (by omega)
      have hd := Lib.hid (firstNZ_drop l k hlt)
      have c0 := (hcells k hlt).c1
      rw [Nat.mul_one] at c0
      clear hcells hA
      generalize l[k] = x at *
      by_cases hr : x = 0
      all_goals go_wp2_with fail
      · go_round
        case rel => exact ⟨k + 1, by omega, by go_num, by rw [← HR.out, hd.out, if_pos hr]⟩
        case measure => simp [intOf]; omega
      · go_ret
        exact ⟨by have := HR.out; rw [hd.out, if_neg hr] at this; simp [this], rfl⟩
    · obtain rfl : l.length = k := by omega
      go_wp2_with fail
      go_ret
      exact ⟨by have := HR.out; simp [firstNZ] at this; simp [this], rfl⟩
end Go.Proofs.YtflchbejjofppaaGreatDoor
