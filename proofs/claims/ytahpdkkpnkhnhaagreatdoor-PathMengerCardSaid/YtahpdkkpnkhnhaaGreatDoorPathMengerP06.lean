/- Lemmas on the way to the law PathMenger (part 6): Vf Vg -/
import Derived.Test.YtahpdkkpnkhnhaaGreatDoorPathMengerP05
import Derived.Test.YtahpdkkpnkhnhaaGreatDoorBA20
set_option linter.unusedVariables false
set_option linter.unusedSimpArgs false

/- Walks: Disjoint: one path. -/
namespace Go.Proofs.YtahpdkkpnkhnhaaGreatDoor
open Go Go.Proofs Go.RowKit Go.Shelf
theorem wp_of_ex2 {P : Program} {c : Code} {Q : Exit → Act → World → Prop} {A : Act} {W : World} {F : (Nat → Value) → Act} (h : ∃ z, A = F z) (h2 : ∀ z, A = F z → c.wp P Q (F z) W) : c.wp P Q A W := by
  obtain ⟨z, hz⟩ := h
  rw [hz]
  exact h2 z hz
noncomputable def r12_61 : Code := codeL (codeL body2_61)
noncomputable def if12_61 : Code := codeR (codeL body2_61)
noncomputable def r13_61 : Code := codeL (codeL in3_61)
noncomputable def r17_61 : Code := codeR in3_61
noncomputable def r18_61 : Code := codeL (codeR (codeR body2_61))
noncomputable def r19_61 : Code := codeR (codeR (codeR body2_61))
theorem body2_61_eq : body2_61 = .seq (.seq r12_61 if12_61) (.seq (.block 3 (.seq (.seq r13_61 (.block 4 rng61)) r17_61)) (.seq r18_61 r19_61)) := rfl
set_option maxRecDepth 100000 in
set_option maxHeartbeats 2000000 in
theorem rnd61_walk (w Wo W : World) (qf fb Nn : Nat) (vs t vo vp : Value) (mb ns j : Nat) (a1 a2 : Option Addr) (n1 n2 c1 c2 : Nat) (p : Pl) (src snk : List Int) (rm : List Int) (n : Int) (l : List Int) (Ds : List Nat) (z : Nat → Value)
    (hfl : FlP p src snk (matR rm) n) (hl : rm.length = 16900) (ht : Sl encI 1 w w.heap.size t snk) (har : Sl Ar.enc 2 w w.heap.size (.slice a2 n2 c2) p.arcs)
    (hwo : Below w.heap.size w Wo) (hbo : Below Wo.heap.size Wo W) (hpx : Box Wo w.heap.size 25 [.slice a1 n1 c1, .slice a2 n2 c2]) (hfx : Box Wo qf 143 [.pointer (some ⟨fb, 0, none⟩)]) (hrb : Box Wo fb 150 (roomV rm Nn))
    (hc : Chn p src snk (matR rm) l) (hop : Own encI 1 3 W Wo.heap.size vp l) (hne : ∀ k, vp.ownBlock = some k → k ≠ mb) (hmo : Wo.heap.size ≤ mb) (hmx : Box W mb 3 [.int .i64 (l.getD (l.length - 1) 0)]) (hDs : MarksIn W Ds) (Q : Exit → Act → World → Prop)
    (hend : l.getD (l.length - 1) 0 ∈ snk → ∀ z', Q (.exit 2) { tmps := (fr61 w.heap.size qf vs t vo vp mb ns j z').toArray, defers := marksOf Ds } W)
    (hgo : ∀ z' W' vp' mb' x D, Chn p src snk (matR rm) (l ++ [x]) → Own encI 1 3 W' Wo.heap.size vp' (l ++ [x]) → (∀ k, vp'.ownBlock = some k → k ≠ mb') → Wo.heap.size ≤ mb' → Box W' mb' 3 [.int .i64 x] → Below Wo.heap.size Wo W' → W.heap.size ≤ D → MarksIn W' (D :: Ds) →
      Q .normal { tmps := (fr61 w.heap.size qf vs t vo vp' mb' ns j z').toArray, defers := marksOf (D :: Ds) } W') :
    body2_61.wp Tryz.prog Q { tmps := (fr61 w.heap.size qf vs t vo vp mb ns j z).toArray, defers := marksOf Ds } W := by
  have hlp := hc.pos
  have hin := hc.ins hfl (l.length - 1) (by omega)
  have hll := hc.len hfl
  have hle := hfl.pk.le
  have hthr := hc.th
  have HC := Lib.hid hc
  have HFL := Lib.hid hfl
  have hbw : Below w.heap.size w W := hwo.trans (hbo.mono hwo.size)
  have HK := Lib.hid (contains82 t snk (l.getD (l.length - 1) 0) W (ht.later hbw))
  have HSN := Lib.hid (fun (x : Int) (h : Stp p src snk (matR rm) (l.getD (l.length - 1) 0) x) => hc.snoc hfl h)
  have HEX := Lib.hid (fun (h : l.getD (l.length - 1) 0 ∉ snk) => hfl.stp_ex hin hthr h)
  have HNO := Lib.hid (fun (h : snk.contains (l.getD (l.length - 1) 0) = false) => show l.getD (l.length - 1) 0 ∉ snk from fun hh => by rw [contains_iff.2 hh] at h; cases h)
  have HYE := Lib.hid (fun (h : snk.contains (l.getD (l.length - 1) 0) = true) => contains_iff.1 h)
  have hmx0 := hmx
  obtain ⟨m, hm, hmn⟩ := inN_nat hin
  have hm : l.getD (l.length - 1) 0 = (m : Int) := hm
  rw [hm] at HK HSN HEX HNO HYE hmx hend
  have m0 := hmx.cell 0
  have mz := hmx.lt
  obtain ⟨x0, x1, xf, xz⟩ := (hpx.later hbo).v2
  simp only [List.getElem?_cons_zero] at m0
  obtain ⟨R, hR⟩ : ∃ R, snk.contains (m : Int) = R := ⟨_, rfl⟩
  rw [hR] at HK HNO HYE
  clear hR
  cases R with
  | true =>
    have HE : Hid (∀ A, (∃ z', A = { tmps := (fr61 w.heap.size qf vs t vo vp mb ns j z').toArray, defers := marksOf Ds }) → Q (.exit 2) A W) := Lib.hid (by rintro A ⟨z', rfl⟩; exact hend (HYE.out rfl) z')
    clear hend hgo hmx hmx0 hop hc hfl HSN HEX HNO HYE
    obtain ⟨B3, hB3⟩ : ∃ B, Code.block 3 (.seq (.seq r13_61 (.block 4 rng61)) r17_61) = B := ⟨_, rfl⟩
    rw [body2_61_eq, hB3]
    clear hB3
    obtain ⟨nt, hnt⟩ : ∃ n, snk.length = n := ⟨_, rfl⟩
    simp only [r12_61, if12_61, r18_61, r19_61, body2_61, blk2_61, in1_61, body0_61, c61, Tryz.f61, Option.getD, codeL, codeR, fr61]
    go_wp2_with (go_at_call 82; refine HK.out.mono ?_; rintro e wx ⟨rfl, rfl⟩)
    refine HE.out _ ?_
    apply fr61_act <;> rfl
  | false =>
    obtain ⟨b, hb⟩ := HEX.out (HNO.out rfl)
    have HSB := Lib.hid hb
    have HG : Hid (∀ A W' vp' mb' x D, (∃ z', A = { tmps := (fr61 w.heap.size qf vs t vo vp' mb' ns j z').toArray, defers := marksOf (D :: Ds) }) → Chn p src snk (matR rm) (l ++ [x]) → Own encI 1 3 W' Wo.heap.size vp' (l ++ [x]) → (∀ k, vp'.ownBlock = some k → k ≠ mb') → Wo.heap.size ≤ mb' → Box W' mb' 3 [.int .i64 x] → Below Wo.heap.size Wo W' → W.heap.size ≤ D → MarksIn W' (D :: Ds) → Q .normal A W') := Lib.hid (by
      rintro A W' vp' mb' x D ⟨z', rfl⟩ h1 h2 h3 h4 h5 h6 h7 h8; exact hgo z' W' vp' mb' x D h1 h2 h3 h4 h5 h6 h7 h8)
    have HOP := Lib.hid hop
    have HNE := Lib.hid hne
    have HMX := Lib.hid hmx
    have HMO := Lib.hid hmo
    have HDS := Lib.hid hDs
    have HBO := Lib.hid hbo
    have HBW := Lib.hid hbw
    have HAR := Lib.hid har
    have HFX := Lib.hid (hfx.later hbo)
    have HRB := Lib.hid (hrb.later hbo)
    have HFN := Lib.hid (show qf ≠ mb ∧ fb ≠ mb from ⟨by have := hfx.lt; omega, by have := hrb.lt; omega⟩)
    have HOK := Lib.hid hfl.pk
    have H83 := Lib.hid (fun W' => next83 a1 n1 c1 a2 n2 c2 m W')
    have hm64 : m < 64 := by omega
    have HLK : Hid (l.length ≤ 1000000) := Lib.hid (by omega)
    obtain ⟨B4, hB4⟩ : ∃ B, Code.block 4 rng61 = B := ⟨_, rfl⟩
    have HB4 := Lib.hid hB4
    rw [body2_61_eq, hB4]
    have HT : Hid (Tryz.prog.underlying 26 = some (.slice 3)) := Lib.hid Tryz.underlying26
    have HI := Lib.hid infoI
    clear hend hgo hmx hmx0 hop hne hmo hDs hbo hbw har hfx hrb hfl hc hb hwo hpx hB4 HEX HNO HYE HC hthr hin hll hlp hle
    simp only [r12_61, if12_61, r13_61, r17_61, r18_61, r19_61, in3_61, body2_61, blk2_61, in1_61, body0_61, c61, Tryz.f61, Option.getD, codeL, codeR, fr61]
    go_wp2_with (first | (go_at_call 82; refine HK.out.mono ?_; rintro e wx ⟨rfl, rfl⟩) | (go_at_call 83; refine (H83.out _).mono ?_; rintro e w3 ⟨rfl, hw3⟩))
    rw [← HB4.out]
    refine wp_of_ex2 (F := fun z => { tmps := (fr61 w.heap.size qf vs t vo vp mb ns j z).toArray, defers := marksOf Ds }) (by apply fr61_act <;> rfl) fun z' hz' => ?_
    have h57 : z' 57 = .func (.func 139) #[] #[.pointer (some ⟨W.heap.size, 0, none⟩), .pointer (some ⟨W.heap.size + 1, 0, none⟩)] := (Option.some.inj (congrArg (fun a => a.tmps[57]?) hz')).symm
    clear hz'
    have b1' : Below W.heap.size W (W.alloc (.cells #[.slice a1 n1 c1, .slice a2 n2 c2] 25)) := (Below.refl _ _).alloc (Nat.le_refl _) _
    have bx1 := Box.new W #[.slice a1 n1 c1, .slice a2 n2 c2] 25
    have hs2 : (W.alloc (.cells #[.slice a1 n1 c1, .slice a2 n2 c2] 25)).heap.size = W.heap.size + 1 := by simp
    generalize W.alloc (.cells #[.slice a1 n1 c1, .slice a2 n2 c2] 25) = W2 at *
    have b2' : Below W2.heap.size W2 (W2.alloc (.cells #[.int .i64 m] 3)) := (Below.refl _ _).alloc (Nat.le_refl _) _
    have bx2 := Box.new W2 #[.int .i64 m] 3
    rw [hs2] at bx2
    have b12 : Below W.heap.size W (W2.alloc (.cells #[.int .i64 m] 3)) := b1'.trans (b2'.mono b1'.size)
    rw [hw3] at b2' bx2 b12
    have hkw : Kept (fun k => k = mb) W w3 := (Kept.refl _ W).below b12
    refine wp_block ?_
    refine rng61_walk w.heap.size qf fb Nn vs t vo vp mb ns j w W w3 W.heap.size a1 n1 c1 (.slice a2 n2 c2) p m rm Ds z' hl HOK.out hm64 HFX.out HRB.out HFN.out.1 HFN.out.2 (Nat.le_trans HBW.out.size b12.size) b12.size ⟨HMX.out.later b12, ⟨bx1.later b2', bx2, HAR.out.below (HBW.out.trans (b12.mono HBW.out.size)), Nat.le_trans HBW.out.size b12.size⟩, hkw, fun x hx => (by cases hx), HDS.out.later b12⟩ ⟨b, HSB.out.arc, by have := HSB.out.fl; rwa [Int.toNat_natCast] at this⟩ h57 _ ?_
    intro D x W4 hD hxa hxp hmx4 hk4 hD4 hm4
    have hx : x = b := by
      refine HFL.out.stp_fun (a := (m : Int)) ⟨hxa, ?_, by rw [Int.toNat_natCast]; exact hxp, HSB.out.no⟩ HSB.out
      obtain ⟨y1, y2, y3, y4, y5⟩ := HFL.out.arc_at hxa
      have hph := HFL.out.arc_ph y1 y3 y5
      rw [Int.toNat_natCast] at hph
      have hsh := HFL.out.shape (i := 2 * m + 1) (j := 2 * x.toNat) (by omega) (by omega) (by omega)
      generalize hi : 2 * m + 1 = i at hsh
      generalize hj : 2 * x.toNat = jj at hsh
      cases hsh with
      | t h1 => omega
      | s h1 => omega
      | @a a ha hk =>
        obtain ⟨fr, to⟩ := a
        obtain ⟨u1, u2, u3, u4, u5⟩ := HFL.out.arc_at ha
        dsimp only at hi hj
        obtain rfl : fr = (m : Int) := by omega
        obtain rfl : to = x := by omega
        exact hk
      | m h1 => omega
    subst hx
    have HCN := Lib.hid (HSN.out x HSB.out)
    have HM4 := Lib.hid hmx4
    have HK4 := Lib.hid hk4
    have HO4 := Lib.hid (HOP.out.keeps hk4 fun k h => HNE.out k h)
    have HDD := Lib.hid (show MarksIn W4 (D :: Ds) from fun E hE => by
      rcases List.mem_cons.1 hE with rfl | hE
      · exact hD4
      · exact hm4 E hE)
    have HDW := Lib.hid (show W.heap.size ≤ D from Nat.le_trans b12.size hD)
    have HB5 := Lib.hid (HBO.out.trans (hk4.toBelow HBO.out.size (fun k e => by rw [e]; exact HMO.out)))
    have m0 := hmx4.cell 0
    have mz := hmx4.lt
    simp only [List.getElem?_cons_zero] at m0
    clear hD hxa hxp hmx4 hk4 hD4 hm4 b1' b2' b12 bx1 bx2 hs2 hkw hw3 h57 x0 x1 xf xz
    simp only [Exit.inBlock, if_true, fr61]
    go_wp2_with (at_builtin; refine wpList_push encI 1 8 26 3 _ HT.out HI.out rfl (by decide) (by decide) encI_len encI_one _ x Wo.heap.size _ _ rfl _ HO4.out HB5.out.size HLK.out rfl _ _ rfl rfl rfl ?_; intro v' w' hown' hg'; have hm5 : Box w' mb 3 [.int .i64 x] := (hg'.block mb HM4.out.lt (fun e => HNE.out mb e.symm rfl)).trans HM4.out; have m5 := hm5.cell 0; have mz5 := hm5.lt; simp only [List.getElem?_cons_zero] at m5; have HOW := Lib.hid hown'; have HGR := Lib.hid (grown_below HB5.out hg' HB5.out.size (HO4.out.lt') (Nat.le_refl _)); have HDG := Lib.hid (show MarksIn w' (D :: Ds) from fun E hE => (hg'.block E (Array.getElem?_eq_some_iff.1 (HDD.out E hE)).1 (fun e => by
      have h1 := HDD.out E hE
      rcases HO4.out.2 with ⟨h2, _⟩ | ⟨g, cap, cur, h2, _, h3, _⟩
      · rw [h2] at e; cases e
      · rw [h2] at e; cases e; rw [h3] at h1; cases h1)).trans (HDD.out E hE)); clear hown' hg' hm5)
    refine HG.out _ _ v' w'.heap.size x D ?_ HCN.out (HOW.out.alloc _) (fun k h => ?_) HGR.out.size (Box.new w' #[.int .i64 x] 3) (HGR.out.alloc HGR.out.size _) HDW.out (HDG.out.later ((Below.refl _ _).alloc (Nat.le_refl _) _))
    · apply fr61_act <;> rfl
    · have := (World.ownsRow.lt HOW.out k h).2
      omega
end Go.Proofs.YtahpdkkpnkhnhaaGreatDoor
/- Walks: Disjoint. -/
namespace Go.Proofs.YtahpdkkpnkhnhaaGreatDoor
open Go Go.Proofs Go.RowKit Go.Shelf
theorem blk2_61_eq : blk2_61 = .block 2 (.loop body2_61) := rfl
theorem Pt.enc_one (t : Pt) : ∀ u ∈ t.enc, u.oneCell' = true := by intro u hu; simp [Pt.enc] at hu; subst hu; rfl
theorem Tryz.und86 : Tryz.prog.underlying 86 = some (.slice 26) := by kernel_rfl
theorem Tryz.inf86 : (Tryz.prog.info? 26).map (fun i => (i.zero, i.size, i.bytes)) = some (some (.slice none 0 0), 1, 24) := by kernel_rfl
structure PtsO (w : World) (base : Nat) (v : Value) (L : List Pt) : Prop where
  o : Own Pt.enc 1 26 w base v L
  e : ∀ t ∈ L, Own encI 1 3 w base (.slice t.a t.l.length t.c) t.l
theorem PtsO.later {w w' : World} {base : Nat} {v : Value} {L : List Pt} (h : PtsO w base v L) (hb : Below w.heap.size w w') : PtsO w' base v L := ⟨h.o.later hb, fun t ht => (h.e t ht).later hb⟩
theorem PtsO.nil (w : World) (base : Nat) : PtsO w base (.slice none 0 0) [] := ⟨Own.nil _ _ _ _ _, fun t ht => by cases ht⟩
theorem PtsO.push {w w' : World} {base : Nat} {v v' : Value} {L : List Pt} {t : Pt} (h : PtsO w base v L) (ht : Own encI 1 3 w base (.slice t.a t.l.length t.c) t.l) (ho : Own Pt.enc 1 26 w' base v' (L ++ [t])) (hg : w.grownBy w' v.ownBlock) : PtsO w' base v' (L ++ [t]) := by
  have kept : ∀ (q : Value) (l : List Int), Own encI 1 3 w base q l → Own encI 1 3 w' base q l := by
    intro q l hq
    refine hq.kept hg ?_
    rcases hqo : q.ownBlock with _ | k
    · exact .inl rfl
    · exact .inr fun e => hq.two_types h.o (by decide) k hqo e.symm
  refine ⟨ho, fun x hx => ?_⟩
  rcases List.mem_append.1 hx with hx | hx
  · exact kept _ _ (h.e x hx)
  · rw [List.mem_singleton] at hx
    subst hx
    exact kept _ _ ht
theorem PtsO.read {w : World} {base : Nat} {v : Value} {L : List Pt} (h : PtsO w base v L) (hl : L.length ≤ 1000000000) (hl2 : ∀ t ∈ L, t.l.length ≤ 1000000000) : PtR w w.heap.size v L :=
  ⟨h.o.toSl Pt.enc_len hl, fun t ht => (h.e t ht).toSl encI_len (hl2 t ht)⟩
set_option maxHeartbeats 1000000 in
theorem blk2_61_walk (w Wo W : World) (qf fb Nn : Nat) (vs t vo vp : Value) (mb ns j : Nat) (a1 a2 : Option Addr) (n1 n2 c1 c2 : Nat) (p : Pl) (src snk : List Int) (rm : List Int) (n : Int) (l : List Int) (Ds : List Nat) (z : Nat → Value)
    (hfl : FlP p src snk (matR rm) n) (hl : rm.length = 16900) (ht : Sl encI 1 w w.heap.size t snk) (har : Sl Ar.enc 2 w w.heap.size (.slice a2 n2 c2) p.arcs)
    (hwo : Below w.heap.size w Wo) (hbo : Below Wo.heap.size Wo W) (hpx : Box Wo w.heap.size 25 [.slice a1 n1 c1, .slice a2 n2 c2]) (hfx : Box Wo qf 143 [.pointer (some ⟨fb, 0, none⟩)]) (hrb : Box Wo fb 150 (roomV rm Nn))
    (hc : Chn p src snk (matR rm) l) (hop : Own encI 1 3 W Wo.heap.size vp l) (hne : ∀ k, vp.ownBlock = some k → k ≠ mb) (hmo : Wo.heap.size ≤ mb) (hmx : Box W mb 3 [.int .i64 (l.getD (l.length - 1) 0)]) (hDs : MarksIn W Ds) (hDn : Ds.Nodup) (hDw : ∀ D ∈ Ds, w.heap.size ≤ D) (Q : Exit → Act → World → Prop)
    (hQ : ∀ z' W' vp' mb' l' Ds', Chn p src snk (matR rm) l' → l'.getD (l'.length - 1) 0 ∈ snk → l'.getD 0 0 = l.getD 0 0 → Own encI 1 3 W' Wo.heap.size vp' l' → Below Wo.heap.size Wo W' → MarksIn W' Ds' → Ds'.Nodup → (∀ D ∈ Ds', w.heap.size ≤ D) →
      Q .normal { tmps := (fr61 w.heap.size qf vs t vo vp' mb' ns j z').toArray, defers := marksOf Ds' } W') :
    blk2_61.wp Tryz.prog Q { tmps := (fr61 w.heap.size qf vs t vo vp mb ns j z).toArray, defers := marksOf Ds } W := by
  have hle := hfl.pk.le
  have hlen := hc.len hfl
  rw [blk2_61_eq]
  refine wp_block (wp_loop_g (fun fu a W' => ∃ l' vp' mb' Ds' z', a = { tmps := (fr61 w.heap.size qf vs t vo vp' mb' ns j z').toArray, defers := marksOf Ds' } ∧ Chn p src snk (matR rm) l' ∧ l'.getD 0 0 = l.getD 0 0 ∧ Own encI 1 3 W' Wo.heap.size vp' l' ∧ (∀ k, vp'.ownBlock = some k → k ≠ mb') ∧ Wo.heap.size ≤ mb' ∧
    Box W' mb' 3 [.int .i64 (l'.getD (l'.length - 1) 0)] ∧ Below Wo.heap.size Wo W' ∧ MarksIn W' Ds' ∧ Ds'.Nodup ∧ (∀ D ∈ Ds', w.heap.size ≤ D) ∧ l'.length + fu = 70) (70 - l.length) ⟨l, vp, mb, Ds, z, rfl, hc, rfl, hop, hne, hmo, hmx, hbo, hDs, hDn, hDw, by omega⟩ ?_)
  rintro fu a W1 ⟨l', vp', mb', Ds', z', rfl, h1, h2, h3, h4, h5, h6, h7, h8, h9, h10, h11⟩
  have hlen' := h1.len hfl
  refine rnd61_walk w Wo W1 qf fb Nn vs t vo vp' mb' ns j a1 a2 n1 n2 c1 c2 p src snk rm n l' Ds' z' hfl hl ht har hwo h7 hpx hfx hrb h1 h3 h4 h5 h6 h8 _ ?_ ?_
  · intro hs z2
    simp only [Exit.then, Exit.inBlock]
    exact hQ z2 W1 vp' mb' l' Ds' h1 hs h2 h3 h7 h8 h9 h10
  · intro z2 W2 vp2 mb2 x D k1 k2 k3 k4 k5 k6 k7 k8
    simp only [Exit.then]
    have hpos := h1.pos
    refine ⟨fu - 1, by omega, l' ++ [x], vp2, mb2, D :: Ds', z2, rfl, k1, ?_, k2, k3, k4, ?_, k6, k8, ?_, ?_, by rw [List.length_append, List.length_singleton]; omega⟩
    · rw [Chn.getD_snoc, if_pos hpos]; exact h2
    · rw [List.length_append, List.length_singleton, Nat.add_sub_cancel, Chn.getD_snoc, if_neg (by omega), if_pos rfl]; exact k5
    · refine List.nodup_cons.2 ⟨fun h => ?_, h9⟩
      have := (Array.getElem?_eq_some_iff.1 (h8 D h)).1
      omega
    · intro E hE
      rcases List.mem_cons.1 hE with rfl | hE
      · have := hwo.size; have := h7.size; omega
      · exact h10 E hE
noncomputable def r8_61 : Code := codeL in1_61
noncomputable def r9_61 : Code := codeL (codeL (codeR in1_61))
noncomputable def if9_61 : Code := codeR (codeL (codeR in1_61))
noncomputable def r10_61 : Code := codeL (codeR (codeR in1_61))
noncomputable def r11_61 : Code := codeL (codeL (codeR (codeR (codeR in1_61))))
noncomputable def r20_61 : Code := codeR (codeR (codeR (codeR in1_61)))
theorem in1_61_eq : in1_61 = .seq r8_61 (.seq (.seq r9_61 if9_61) (.seq r10_61 (.seq (.seq r11_61 blk2_61) r20_61))) := rfl
noncomputable def r7_61 : Code := codeL body0_61
noncomputable def if7_61 : Code := codeL (codeR body0_61)
noncomputable def r21_61 : Code := codeR (codeR (codeR body0_61))
theorem body0_61_eq : body0_61 = .seq r7_61 (.seq if7_61 (.seq (.block 1 in1_61) r21_61)) := rfl
theorem heads_take (src : List Int) (R : Nat → Nat → Int) (k : Nat) (h : k < src.length) : FlP.heads (src.take (k + 1)) R = if R (2 * src[k].toNat + 1) (2 * src[k].toNat) ≠ 0 then FlP.heads (src.take k) R ++ [src[k]] else FlP.heads (src.take k) R := by
  unfold FlP.heads
  rw [take_snoc src k h, List.filter_append, List.filter_cons, List.filter_nil]
  by_cases e : R (2 * src[k].toNat + 1) (2 * src[k].toNat) ≠ 0
  · rw [if_pos e, if_pos (by simpa using e)]
  · rw [if_neg e, if_neg (by simpa using e), List.append_nil]
structure DsI (w W : World) (qf fb Nn : Nat) (v1 v2 vo : Value) (p : Pl) (src snk : List Int) (rm : List Int) (k : Nat) (L : List Pt) (Ds : List Nat) : Prop where
  px : Box W w.heap.size 25 [v1, v2]
  fx : Box W qf 143 [.pointer (some ⟨fb, 0, none⟩)]
  rb : Box W fb 150 (roomV rm Nn)
  bw : Below w.heap.size w W
  o : PtsO W w.heap.size vo L
  ch : ∀ t ∈ L, Chn p src snk (matR rm) t.l ∧ t.l.getD (t.l.length - 1) 0 ∈ snk
  hd : L.map (fun t => t.l.getD 0 0) = FlP.heads (src.take k) (matR rm)
  mks : MarksIn W Ds
  nd : Ds.Nodup
  ge : ∀ D ∈ Ds, w.heap.size ≤ D
theorem DsI.later {w W W' : World} {qf fb Nn : Nat} {v1 v2 vo : Value} {p : Pl} {src snk : List Int} {rm : List Int} {k : Nat} {L : List Pt} {Ds : List Nat} (h : DsI w W qf fb Nn v1 v2 vo p src snk rm k L Ds) (hb : Below W.heap.size W W') : DsI w W' qf fb Nn v1 v2 vo p src snk rm k L Ds :=
  ⟨h.px.later hb, h.fx.later hb, h.rb.later hb, h.bw.trans (hb.mono h.bw.size), h.o.later hb, h.ch, h.hd, h.mks.later hb, h.nd, h.ge⟩
theorem DsI.len {w W : World} {qf fb Nn : Nat} {v1 v2 vo : Value} {p : Pl} {src snk : List Int} {rm : List Int} {k : Nat} {L : List Pt} {Ds : List Nat} (h : DsI w W qf fb Nn v1 v2 vo p src snk rm k L Ds) : L.length ≤ src.length := by
  have h1 : L.length = (FlP.heads (src.take k) (matR rm)).length := by rw [← h.hd, List.length_map]
  rw [h1]
  unfold FlP.heads
  refine Nat.le_trans (List.length_filter_le _ _) ?_
  rw [List.length_take]; omega
end Go.Proofs.YtahpdkkpnkhnhaaGreatDoor
