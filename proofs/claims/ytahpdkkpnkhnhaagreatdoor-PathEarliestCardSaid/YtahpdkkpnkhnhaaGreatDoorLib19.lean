/- Lemmas on the way to the laws (part 19): Ci Cj Ck Cl -/
import Derived.Test.YtahpdkkpnkhnhaaGreatDoorLib18
import Derived.Deep.RegionHeld3
set_option linter.unusedVariables false
set_option linter.unusedSimpArgs false

/- Walks: Route: one round of the search. -/
namespace Go.Proofs.YtahpdkkpnkhnhaaGreatDoor
open Go Go.Proofs Go.RowKit Go.Shelf

noncomputable def tl18 : Code := codeR (codeR in18)
noncomputable def a18 : Code := codeL tl18
noncomputable def b18 : Code := codeL (codeR tl18)
noncomputable def r22 : Code := codeL (codeR (codeR tl18))
noncomputable def r23 : Code := codeL (codeR (codeR (codeR tl18)))
theorem tl18_eq : tl18 = .seq a18 (.seq b18 (.seq r22 (.seq r23 (.block 4 rng18)))) := rfl

def roundR (p : Pl) (bl : List Int) (to : Int) (s : RtS) : RtS :=
  (nextL p (pickTo s p.ms.length)).foldl (relax p bl to (pickTo s p.ms.length)) ⟨s.best, s.before, s.done.set (pickTo s p.ms.length).toNat true⟩

theorem RtB.mono {M M' : Int} {s : RtS} (h : RtB M s) (hM : M ≤ M') : RtB M' s := ⟨h.l1, h.l2, h.l3, fun x hx => by have := h.b1 x hx; omega, h.b2⟩
theorem nextL_len (p : Pl) (m : Int) : (nextL p m).length ≤ p.arcs.length := by
  unfold nextL; rw [List.length_map]; exact List.length_filter_le _ _

set_option maxRecDepth 100000 in
set_option maxHeartbeats 1000000 in
theorem tl18_walk (w W : World) (bb : Nat) (c1 b1 off1 : Nat) (v2 vb : Value) (p : Pl) (bl : List Int) (to fr : Int) (s : RtS) (M : Int) (z : Nat → Value) (mb : Nat) (hmb : bb + 1 + 1 < mb) (hmx : Box W mb 3 [.int .i64 (pickTo s p.ms.length)])
    (hM : M ≤ 100000000000) (hok : OkP p) (hwd : WdR w) (hbl : Sl encI 1 w w.heap.size vb bl) (hbb : b1 < w.heap.size) (hat : ∀ k (h : k < p.ms.length), At w b1 (off1 + k * 2) [.string p.ms[k].kind, .int .i64 p.ms[k].time])
    (hnc : p.ms.length ≤ c1 ∧ True) (har : Sl Ar.enc 2 w w.heap.size v2 p.arcs)
    (hrt : RtM w W bb (.slice (some ⟨b1, off1, none⟩) p.ms.length c1) v2 vb to s) (hb : RtB M s) (Ds : List Nat) (hDs : MarksIn W Ds) (Q : Exit → Act → World → Prop)
    (hneg : pickTo s p.ms.length < 0 → ∀ A W', A.defers = marksOf Ds → A.tmps[8]? = some (.slice none 0 0) → A.tmps[9]? = some (.int .i64 7) → A.tmps.size = 173 → RtM w W' bb (.slice (some ⟨b1, off1, none⟩) p.ms.length c1) v2 vb to s → MarksIn W' Ds → Q .ret A W')
    (hexit : pickTo s p.ms.length = to → ∀ z' W', RtM w W' bb (.slice (some ⟨b1, off1, none⟩) p.ms.length c1) v2 vb to s → MarksIn W' Ds → Q (.exit 0) { tmps := (fr18 w.heap.size bb fr z').toArray, defers := marksOf Ds } W')
    (hgo : 0 ≤ pickTo s p.ms.length → pickTo s p.ms.length ≠ to → ∀ z' W' D, W.heap.size ≤ D → RtM w W' bb (.slice (some ⟨b1, off1, none⟩) p.ms.length c1) v2 vb to (roundR p bl to s) → RtB (M + 100000 * 1000) (roundR p bl to s) → MarksIn W' (D :: Ds) → Q .normal { tmps := (fr18 w.heap.size bb fr z').toArray, defers := marksOf (D :: Ds) } W') :
    tl18.wp Tryz.prog Q { tmps := (fr18m w.heap.size bb fr mb z).toArray, defers := marksOf Ds } W := by
  have t0 := hrt.tx.cell 0
  obtain ⟨x0, x1, xf, xz⟩ := hrt.px.v2
  have m0 := hmx.cell 0
  have mz := hmx.lt
  simp only [List.getElem?_cons_zero] at t0 m0
  obtain ⟨hp0, hp1⟩ := pickTo_bd s p.ms.length
  have hple := hok.le
  have HN := Lib.hid hneg
  have HE := Lib.hid hexit
  have HG := Lib.hid hgo
  clear hneg hexit hgo
  have HDS := Lib.hid hDs
  have HRT := Lib.hid hrt
  have HX := Lib.hid hmx
  by_cases hn : pickTo s p.ms.length < 0
  · have k1 : decide (pickTo s p.ms.length < 0) = true := decide_eq_true hn
    have HN' := Lib.hid (HN.out hn)
    generalize pickTo s p.ms.length = m at *
    clear hDs hrt hmx hn
    simp only [tl18, in18, rnd18, blk18, Tryz.f18, Option.getD, codeL, codeR, fr18m]
    go_wp2_with fail
    refine HN'.out _ _ rfl rfl rfl rfl HRT.out HDS.out
  · have k1 : decide (pickTo s p.ms.length < 0) = false := decide_eq_false hn
    by_cases he : pickTo s p.ms.length = to
    · have k2 : (pickTo s p.ms.length == to) = true := beq_iff_eq.2 he
      have HE' : Hid (∀ A W', (∃ z', A = { tmps := (fr18 w.heap.size bb fr z').toArray, defers := marksOf Ds }) → RtM w W' bb (.slice (some ⟨b1, off1, none⟩) p.ms.length c1) v2 vb to s → MarksIn W' Ds → Q (.exit 0) A W') := Lib.hid (by rintro A W' ⟨z', rfl⟩; exact HE.out he z' W')
      clear hDs hrt hmx hn he HE HG HN
      generalize pickTo s p.ms.length = m at *
      simp only [tl18, in18, rnd18, blk18, Tryz.f18, Option.getD, codeL, codeR, fr18m]
      go_wp2_with fail
      refine HE'.out _ _ ?_ HRT.out HDS.out
      apply fr18_act <;> rfl
    · have k2 : (pickTo s p.ms.length == to) = false := beq_eq_false_iff_ne.2 he
      obtain ⟨m, hm⟩ : ∃ m : Nat, pickTo s p.ms.length = m := ⟨(pickTo s p.ms.length).toNat, by omega⟩
      have HG' := Lib.hid (HG.out (by omega) he)
      unfold roundR at HG'
      rw [hm] at HG' hp0 hp1 hmx m0 k1 k2 HX
      rw [Int.toNat_natCast] at HG'
      have hml : m < p.ms.length := by omega
      clear hn HE HG HN he
      obtain ⟨a2, c2, rfl, hlen, hA⟩ := har
      have HAR : Hid (Sl Ar.enc 2 w w.heap.size (.slice a2 p.arcs.length c2) p.arcs) := Lib.hid ⟨a2, c2, rfl, hlen, hA⟩
      have d0 : W.cell? ⟨bb + 1 + 1, m, none⟩ = some (.bool (s.done.getD m false)) := (hrt.dn.cell m).trans (bools_get (by rw [hb.l3]; omega))
      have df := hrt.dn.frozen
      have HB : Hid (∀ A W', (∃ z', A = { tmps := (fr18m w.heap.size bb fr mb z').toArray, defers := marksOf Ds }) → A.tmps[109]? = some (.func (.func 139) #[] #[.pointer (some ⟨W.heap.size, 0, none⟩), .pointer (some ⟨W.heap.size + 1, 0, none⟩)]) →
          ((W.setCell ⟨bb + 1 + 1, m, none⟩ (.bool true)).alloc (.cells #[.slice (some ⟨b1, off1, none⟩) p.ms.length c1, .slice a2 p.arcs.length c2] 25)).alloc (.cells #[.int .i64 m] 3) = W' → (Code.block 4 rng18).wp Tryz.prog Q A W') := Lib.hid (by
        rintro A W' ⟨z', rfl⟩ h109 rfl
        have h109' : z' 109 = .func (.func 139) #[] #[.pointer (some ⟨(W.setCell ⟨bb + 1 + 1, m, none⟩ (.bool true)).heap.size, 0, none⟩), .pointer (some ⟨(W.setCell ⟨bb + 1 + 1, m, none⟩ (.bool true)).heap.size + 1, 0, none⟩)] := by rw [World.size_setCell]; exact Option.some.inj h109
        have hrt1 := hrt.setDone m true
        have hks := (KeepsOthers.setCell W ⟨bb + 1 + 1, m, none⟩ (.bool true))
        have hmx1 := hmx.other (a := ⟨bb + 1 + 1, m, none⟩) (.bool true) (by dsimp only; omega)
        have hbz := hrt1.dn.lt
        have hsz : (W.setCell ⟨bb + 1 + 1, m, none⟩ (.bool true)).heap.size = W.heap.size := World.size_setCell _ _ _
        generalize W.setCell ⟨bb + 1 + 1, m, none⟩ (.bool true) = W1 at *
        have b1' : Below W1.heap.size W1 (W1.alloc (.cells #[.slice (some ⟨b1, off1, none⟩) p.ms.length c1, .slice a2 p.arcs.length c2] 25)) := (Below.refl _ _).alloc (Nat.le_refl _) _
        have bx1 := Box.new W1 #[.slice (some ⟨b1, off1, none⟩) p.ms.length c1, .slice a2 p.arcs.length c2] 25
        have hs2 : (W1.alloc (.cells #[.slice (some ⟨b1, off1, none⟩) p.ms.length c1, .slice a2 p.arcs.length c2] 25)).heap.size = W1.heap.size + 1 := by simp
        generalize W1.alloc (.cells #[.slice (some ⟨b1, off1, none⟩) p.ms.length c1, .slice a2 p.arcs.length c2] 25) = W2 at *
        have b2' : Below W2.heap.size W2 (W2.alloc (.cells #[.int .i64 m] 3)) := (Below.refl _ _).alloc (Nat.le_refl _) _
        have bx2 := Box.new W2 #[.int .i64 m] 3
        rw [hs2] at bx2
        have b12 : Below W1.heap.size W1 (W2.alloc (.cells #[.int .i64 m] 3)) := b1'.trans (b2'.mono b1'.size)
        refine wp_block ?_
        refine rng18_walk w _ bb mb W1.heap.size c1 b1 off1 _ vb p bl to fr m ⟨s.best, s.before, s.done.set m true⟩ M z' hM hok hwd hbl hbb hat hnc (by omega) hmb hbz ⟨hrt1.later b12, ?_, hmx1.later b12, ⟨bx1.later b2', bx2, HAR.out.below (hrt1.later b12).bw, (hrt1.later b12).bw.size⟩⟩ h109' Ds (hDs.keeps hks |>.later b12) _ ?_
        · refine ⟨hb.l1, hb.l2, (List.length_set).trans hb.l3, fun x hx => ?_, hb.b2⟩
          have := hb.b1 x hx
          have h0 : M + 100000 * ((([] : List (Nxt p m)).length : Nat) : Int) = M := by simp
          omega
        · intro D xs W' hD hxs hI hK hM'
          simp only [Exit.inBlock]
          obtain ⟨z4, e4⟩ := fr18_of w.heap.size bb fr (fr18m w.heap.size bb fr mb z') (by rfl) (by rfl) (by rfl) (by rfl) (by rfl) (by rfl) (by rfl) (by rfl)
          rw [e4]
          have hrt' := hI.rt
          have hbd' := hI.bd
          rw [hxs] at hrt' hbd'
          have hle := nextL_len p m
          have hle2 : xs.length = (nextL p m).length := by rw [← hxs, List.length_map]
          have := hok.ale
          refine HG'.out z4 W' D ?_ hrt' (hbd'.mono (by omega)) (fun E hE => ?_)
          · have := b12.size; omega
          · rcases List.mem_cons.1 hE with rfl | hE
            · exact hK
            · exact hM' E hE)
      have H83 := Lib.hid (fun W' => next83 (some ⟨b1, off1, none⟩) p.ms.length c1 a2 p.arcs.length c2 m W')
      rw [tl18_eq]
      have hbg := hrt.bg
      have hrt1 := hrt.setDone m true
      obtain ⟨y0, y1, yf, yz⟩ := hrt1.px.v2
      have u0 := (hmx.other (a := ⟨bb + 1 + 1, m, none⟩) (.bool true) (by dsimp only; omega)).cell 0
      simp only [List.getElem?_cons_zero] at u0
      clear hrt1
      clear hDs hrt hmx HAR hA HG' hb
      generalize Code.block 4 rng18 = B at *
      have m64 : (m : Int) < 64 := by omega
      simp only [a18, b18, r22, r23, tl18, in18, rnd18, blk18, Tryz.f18, Option.getD, codeL, codeR, fr18m]
      go_wp2_with (go_at_call 83; refine (H83.out _).mono ?_; rintro e w3 ⟨rfl, hw3⟩)
      refine HB.out _ _ ?_ rfl hw3
      apply fr18m_act <;> rfl

set_option maxRecDepth 100000 in
set_option maxHeartbeats 1000000 in
theorem rnd18_walk (w W : World) (bb : Nat) (c1 b1 off1 : Nat) (v2 vb : Value) (p : Pl) (bl : List Int) (to fr : Int) (s : RtS) (M : Int) (z : Nat → Value)
    (hM : M ≤ 100000000000) (hok : OkP p) (hwd : WdR w) (hbl : Sl encI 1 w w.heap.size vb bl) (hbb : b1 < w.heap.size) (hat : ∀ k (h : k < p.ms.length), At w b1 (off1 + k * 2) [.string p.ms[k].kind, .int .i64 p.ms[k].time])
    (hnc : p.ms.length ≤ c1 ∧ True) (har : Sl Ar.enc 2 w w.heap.size v2 p.arcs)
    (hrt : RtM w W bb (.slice (some ⟨b1, off1, none⟩) p.ms.length c1) v2 vb to s) (hb : RtB M s) (Ds : List Nat) (hDs : MarksIn W Ds) (Q : Exit → Act → World → Prop)
    (hneg : pickTo s p.ms.length < 0 → ∀ A W', A.defers = marksOf Ds → A.tmps[8]? = some (.slice none 0 0) → A.tmps[9]? = some (.int .i64 7) → A.tmps.size = 173 → RtM w W' bb (.slice (some ⟨b1, off1, none⟩) p.ms.length c1) v2 vb to s → MarksIn W' Ds → Q .ret A W')
    (hexit : pickTo s p.ms.length = to → ∀ z' W', RtM w W' bb (.slice (some ⟨b1, off1, none⟩) p.ms.length c1) v2 vb to s → MarksIn W' Ds → Q (.exit 0) { tmps := (fr18 w.heap.size bb fr z').toArray, defers := marksOf Ds } W')
    (hgo : 0 ≤ pickTo s p.ms.length → pickTo s p.ms.length ≠ to → ∀ z' W' D, W.heap.size ≤ D → RtM w W' bb (.slice (some ⟨b1, off1, none⟩) p.ms.length c1) v2 vb to (roundR p bl to s) → RtB (M + 100000 * 1000) (roundR p bl to s) → MarksIn W' (D :: Ds) → Q .normal { tmps := (fr18 w.heap.size bb fr z').toArray, defers := marksOf (D :: Ds) } W') :
    rnd18.wp Tryz.prog Q { tmps := (fr18 w.heap.size bb fr z).toArray, defers := marksOf Ds } W := by
  rw [rnd18_eq, in18_eq]
  refine wp_block (wp_seq ?_)
  have HQ : Hid (∀ mb A W', (∃ z', A = { tmps := (fr18m w.heap.size bb fr mb z').toArray, defers := marksOf Ds }) → W.heap.size ≤ mb → RtM w W' bb (.slice (some ⟨b1, off1, none⟩) p.ms.length c1) v2 vb to s → Box W' mb 3 [.int .i64 (-1)] → KeepsOthers W W' →
      (pk18.seq tl18).wp Tryz.prog (Exit.inBlock 1 Q) A W') := Lib.hid (by
    rintro mb A W' ⟨z', rfl⟩ hmb h1 h2 h3
    have hbz := hrt.dn.lt
    refine wp_seq ?_
    refine pk18_walk w W' bb mb _ _ c1 v2 vb to fr s M h1 hb hok.le (by omega) h2 (marksOf Ds) z' _ fun z2 W2 k1 k2 k3 k4 => ?_
    simp only [Exit.then]
    refine tl18_walk w W2 bb c1 b1 off1 v2 vb p bl to fr s M z2 mb (by omega) k2 hM hok hwd hbl hbb hat hnc har k1 hb Ds (hDs.keeps (h3.trans k3)) _ ?_ ?_ ?_
    · intro a A' W3 e1 e2 e3 e4 e5 e6
      exact hneg a A' W3 e1 e2 e3 e4 e5 e6
    · intro a z3 W3 e1 e2
      exact hexit a z3 W3 e1 e2
    · intro a b z3 W3 D hD e1 e2 e3
      exact hgo a b z3 W3 D (by have := (h3.trans k3).size; omega) e1 e2 e3)
  obtain ⟨K, hK⟩ : ∃ K, (pk18.seq tl18).wp Tryz.prog (Exit.inBlock 1 Q) = K := ⟨_, rfl⟩
  change Code.wp _ _ (Exit.then ((pk18.seq tl18).wp Tryz.prog (Exit.inBlock 1 Q)) _) _ _
  rw [hK] at HQ ⊢
  have HX := Lib.hid (Box.new W #[.int .i64 (-1)] 3)
  have HR := Lib.hid (hrt.later ((Below.refl W.heap.size W).alloc (Nat.le_refl _) (.cells #[.int .i64 (-1)] 3)))
  clear hneg hexit hgo hK
  simp only [in18, rnd18, blk18, Tryz.f18, Option.getD, codeL, codeR, fr18]
  go_wp2_with fail
  refine HQ.out W.heap.size _ _ ?_ (Nat.le_refl _) HR.out HX.out (KeepsOthers.alloc _ _)
  apply fr18m_act <;> rfl
end Go.Proofs.YtahpdkkpnkhnhaaGreatDoor

/- Walks: Route: the whole search. -/
namespace Go.Proofs.YtahpdkkpnkhnhaaGreatDoor
open Go Go.Proofs Go.RowKit Go.Shelf

/-- So many rounds at most. -/
def runR (p : Pl) (bl : List Int) (to : Int) : Nat → RtS → Option RtS
  | 0, _ => none
  | f + 1, s => if pickTo s p.ms.length < 0 ∨ pickTo s p.ms.length = to then some s else runR p bl to f (roundR p bl to s)

set_option maxHeartbeats 1000000 in
theorem blk18_walk (w W : World) (bb : Nat) (c1 b1 off1 : Nat) (v2 vb : Value) (p : Pl) (bl : List Int) (to fr : Int) (s sf : RtS) (f : Nat) (hf : runR p bl to f s = some sf) (hf9 : f ≤ 900) (hto : 0 ≤ to) (z : Nat → Value)
    (hok : OkP p) (hwd : WdR w) (hbl : Sl encI 1 w w.heap.size vb bl) (hbb : b1 < w.heap.size) (hat : ∀ k (h : k < p.ms.length), At w b1 (off1 + k * 2) [.string p.ms[k].kind, .int .i64 p.ms[k].time])
    (hnc : p.ms.length ≤ c1 ∧ True) (har : Sl Ar.enc 2 w w.heap.size v2 p.arcs)
    (hrt : RtM w W bb (.slice (some ⟨b1, off1, none⟩) p.ms.length c1) v2 vb to s) (hb : RtB 100000 s) (Q : Exit → Act → World → Prop)
    (hneg : pickTo sf p.ms.length < 0 → ∀ A W' Ds, A.defers = marksOf Ds → A.tmps[8]? = some (.slice none 0 0) → A.tmps[9]? = some (.int .i64 7) → A.tmps.size = 173 → RtM w W' bb (.slice (some ⟨b1, off1, none⟩) p.ms.length c1) v2 vb to sf → MarksIn W' Ds → Ds.Nodup → (∀ D ∈ Ds, w.heap.size ≤ D) → Q .ret A W')
    (hexit : ¬ pickTo sf p.ms.length < 0 → pickTo sf p.ms.length = to → ∀ z' W' Ds M, M ≤ 1000000000000 → RtM w W' bb (.slice (some ⟨b1, off1, none⟩) p.ms.length c1) v2 vb to sf → RtB M sf → MarksIn W' Ds → Ds.Nodup → (∀ D ∈ Ds, w.heap.size ≤ D) → Q .normal { tmps := (fr18 w.heap.size bb fr z').toArray, defers := marksOf Ds } W') :
    blk18.wp Tryz.prog Q { tmps := (fr18 w.heap.size bb fr z).toArray, defers := [] } W := by
  rw [blk18_eq]
  refine wp_block (wp_loop_g (fun m a W' => ∃ z' s' Ds M, a = { tmps := (fr18 w.heap.size bb fr z').toArray, defers := marksOf Ds } ∧ RtM w W' bb (.slice (some ⟨b1, off1, none⟩) p.ms.length c1) v2 vb to s' ∧ RtB M s' ∧ M + 100000000 * (m : Int) ≤ 100000000000 ∧
    runR p bl to m s' = some sf ∧ MarksIn W' Ds ∧ Ds.Nodup ∧ (∀ D ∈ Ds, w.heap.size ≤ D)) f ⟨z, s, [], 100000, rfl, hrt, hb, by omega, hf, (fun D hD => by cases hD), List.nodup_nil, (fun D hD => by cases hD)⟩ ?_)
  rintro m a W1 ⟨z', s', Ds, M, rfl, h1, h2, h3, h4, h5, h6, h7⟩
  match m, h4 with
  | k + 1, h4 =>
  unfold runR at h4
  refine rnd18_walk w W1 bb c1 b1 off1 v2 vb p bl to fr s' M z' (by omega) hok hwd hbl hbb hat hnc har h1 h2 Ds h5 _ ?_ ?_ ?_
  · intro hn A W2 e1 e2 e3 e4 e5 e6
    rw [if_pos (.inl hn)] at h4
    cases h4
    simp only [Exit.then, Exit.inBlock]
    exact hneg hn A W2 Ds e1 e2 e3 e4 e5 e6 h6 h7
  · intro he z2 W2 e1 e2
    rw [if_pos (.inr he)] at h4
    cases h4
    simp only [Exit.then, Exit.inBlock]
    exact hexit (by omega) he z2 W2 Ds M (by omega) e1 h2 e2 h6 h7
  · intro hn he z2 W2 D hD e1 e2 e3
    rw [if_neg (by omega)] at h4
    simp only [Exit.then]
    have hsz := h1.bw.size
    refine ⟨k, by omega, z2, _, D :: Ds, _, rfl, e1, e2, by push_cast at h3; omega, h4, e3, ?_, ?_⟩
    · refine List.nodup_cons.2 ⟨fun h => ?_, h6⟩
      have := (Array.getElem?_eq_some_iff.1 (h5 D h)).1
      omega
    · intro E hE
      rcases List.mem_cons.1 hE with rfl | hE
      · omega
      · exact h7 E hE
end Go.Proofs.YtahpdkkpnkhnhaaGreatDoor

/- Walks: Route: the way back, and its turning. -/
namespace Go.Proofs.YtahpdkkpnkhnhaaGreatDoor
open Go Go.Proofs Go.RowKit Go.Shelf

theorem own_rev {w : World} {base g n cap m : Nat} {L T : List Int} (h : Own encI 1 3 w base (.slice (some ⟨g, 0, none⟩) n cap) L) (hn : L.length = n) (hT : T.length = n) :
    Own encI 1 3 (Sort.putRow (Value.int .i64) (Sort.ahead w m) g 0 T.toArray) base (.slice (some ⟨g, 0, none⟩) n cap) T := by
  obtain ⟨h0, h1⟩ := h
  rcases h1 with ⟨h2, _⟩ | ⟨g', cap', cur, e, hb, hh, hc1, hc2, hc3, hc4⟩
  · cases h2
  · simp only [Value.slice.injEq, Option.some.injEq, Addr.mk.injEq, and_true, true_and] at e
    obtain ⟨rfl, _, rfl⟩ := e
    refine ⟨flat_length encI 1 encI_len T, .inr ⟨g, cap, Sort.putCells (Value.int .i64) 0 T.toArray cur, by rw [hT], hb, ?_, by omega, hc2, by simp [Sort.putCells, hc3], ?_⟩⟩
    · simp [Sort.putRow, Sort.mapBlock, Sort.ahead, Array.getElem?_modify, hh, Sort.onCells]
    · apply List.ext_getElem?
      intro j
      by_cases hj : j < T.length * 1
      · have hd : j < T.length := by omega
        have h5 := flat_get encI 1 encI_len T j hd 0 (by omega)
        rw [show j * 1 + 0 = j by omega] at h5
        rw [h5, List.getElem?_take_of_lt hj, Array.getElem?_toList]
        have hjc : j < cur.size := by rw [hc3]; omega
        simp only [Sort.putCells, Array.getElem?_mapIdx, Array.getElem?_eq_getElem hjc, Option.map_some, Nat.zero_le, Nat.zero_add, Nat.sub_zero, true_and]
        rw [if_pos (by simpa using hd)]
        simp [encI, hd]
      · rw [List.getElem?_take_eq_none (by omega), List.getElem?_eq_none (by rw [flat_length encI 1 encI_len]; omega)]

theorem rev85 {w : World} {base g n cap : Nat} {L : List Int} (h : Own encI 1 3 w base (.slice (some ⟨g, 0, none⟩) n cap) L) (hn : L.length = n) (hlen : n ≤ 1000000) :
    Calls Tryz.prog 85 #[.slice (some ⟨g, 0, none⟩) n cap] w fun e w' => e = .returned (.tuple #[]) ∧ Own encI 1 3 w' base (.slice (some ⟨g, 0, none⟩) n cap) L.reverse ∧ w.grownBy w' (some g) := by
  have hH : Sort.Holds (Value.int .i64) w g 0 L.toArray := by
    intro j hj
    have hj' : j < L.length := by simpa using hj
    refine ⟨?_, h.frozenN hn _⟩
    have h1 := (h.atN hn encI_len j hj').c1
    rw [Nat.mul_one] at h1
    rw [Nat.zero_add, h1]
    simp [hj']
  have hc := Tryz.slices_Reverse_int g 0 cap L w hH (by omega)
  rw [hn] at hc
  refine hc.mono ?_
  rintro e w' ⟨he, m, rfl⟩
  refine ⟨he, own_rev h hn (by rw [List.length_reverse, hn]), rfl, rfl, rfl, by simp [Sort.putRow, Sort.mapBlock, Sort.ahead], fun k hk hne => ?_⟩
  have : g ≠ k := fun e => hne (by rw [e])
  simp [Sort.putRow, Sort.mapBlock, Sort.ahead, Array.getElem?_modify, this]

/-- The machine after so many steps back. -/
def atK (before : List Int) (to : Int) : Nat → Int
  | 0 => to
  | k + 1 => before.getD (atK before to k).toNat 0
def trL (before : List Int) (to : Int) (k : Nat) : List Int := (List.range (k + 1)).map (atK before to)
theorem trL_len (before : List Int) (to : Int) (k : Nat) : (trL before to k).length = k + 1 := by unfold trL; simp
theorem trL_succ (before : List Int) (to : Int) (k : Nat) : trL before to (k + 1) = trL before to k ++ [atK before to (k + 1)] := by
  unfold trL; rw [List.range_succ (n := k + 1), List.map_append]; rfl
def lenV : Value → Nat
  | .slice _ n _ => n
  | _ => 0

set_option maxRecDepth 100000 in
set_option maxHeartbeats 1000000 in
theorem rest18_walk (w W : World) (bb : Nat) (v1 v2 vb : Value) (to fr : Int) (s : RtS) (M : Int) (hrt : RtM w W bb v1 v2 vb to s) (hb : RtB M s) (hto : 0 ≤ to ∧ to < 64) (n : Nat) (hn : atK s.before to n = fr) (hlt : ∀ k, k < n → atK s.before to k ≠ fr) (hn6 : n ≤ 100000)
    (Ds : List Nat) (z : Nat → Value) (Q : Exit → Act → World → Prop)
    (hQ : ∀ A W' v, A.defers = marksOf Ds → A.tmps[8]? = some v → A.tmps[9]? = some (.int .i64 0) → A.tmps.size = 173 → Own encI 1 3 W' W.heap.size v (trL s.before to n).reverse → Below W.heap.size W W' → Q .ret A W') :
    rest18.wp Tryz.prog Q { tmps := (fr18 w.heap.size bb fr z).toArray, defers := marksOf Ds } W := by
  have HQ := Lib.hid hQ
  have HRT := Lib.hid hrt
  have hbd : ∀ k, 0 ≤ atK s.before to k ∧ atK s.before to k < 64 := by
    intro k
    cases k with
    | zero => exact hto
    | succ k =>
      show 0 ≤ s.before.getD _ 0 ∧ s.before.getD _ 0 < 64
      by_cases h : (atK s.before to k).toNat < s.before.length
      · rw [getD_at _ _ h]; exact hb.b2 _ (List.getElem_mem h)
      · rw [List.getD_eq_getElem?_getD, List.getElem?_eq_none (by omega)]; decide
  have HBD := Lib.hid hbd
  have HL := Lib.hid hlt
  have HE := Lib.hid hn
  have HBB := Lib.hid (fun (j : Nat) (h : j < 64) => ((hrt.bf.cell j).trans (ints_get (show j < s.before.length by rw [hb.l2]; exact h))))
  have bz := hrt.bf.lt
  have t0 := hrt.tx.cell 0
  have tz := hrt.tx.lt
  simp only [List.getElem?_cons_zero] at t0
  have HT : Hid (Tryz.prog.underlying 26 = some (.slice 3)) := Lib.hid Tryz.underlying26
  have HI := Lib.hid infoI
  have hb0 : Below W.heap.size W (W.alloc (.cells #[.int .i64 to] 3)) := (Below.refl _ _).alloc (Nat.le_refl _) _
  have ho0 : Own encI 1 3 (W.alloc (.cells #[.int .i64 to] 3)) W.heap.size (.slice (some ⟨W.heap.size, 0, none⟩) 1 1) (trL s.before to 0) :=
    Own.lit encI_len 3 [to] W #[.int .i64 to] 1 W.heap.size rfl rfl (by simp) (Nat.le_refl _)
  have HB0 := Lib.hid hb0
  have HO0 := Lib.hid ho0
  clear hQ hrt hb hbd hlt hn hb0 ho0
  simp only [rest18, Tryz.f18, Option.getD, codeL, codeR, fr18]
  go_wp2_with fail
  go_loopw [19, 20] (fun v a wr => ∃ k : Nat, k ≤ n ∧ a = .int .i64 (atK s.before to k) ∧ (∃ ga cap, v = .slice ga (k + 1) cap ∧ Own encI 1 3 wr W.heap.size v (trL s.before to k)) ∧ Below W.heap.size W wr) (fun v _ _ => n + 1 - lenV v)
  case atStart => exact ⟨0, by omega, rfl, ⟨_, _, rfl, HO0.out⟩, HB0.out⟩
  case round =>
    obtain ⟨k, hk, rfl, ⟨ga, cap, rfl, hown⟩, hbe⟩ := hrel
    have HOW := Lib.hid hown
    have HBE := Lib.hid hbe
    clear hown hbe
    have HK := Lib.hid (HBD.out k)
    obtain ⟨j, hj⟩ : ∃ j : Nat, atK s.before to k = j := ⟨(atK s.before to k).toNat, by have := HK.out.1; omega⟩
    have hj64 : j < 64 := by have := HK.out.2; omega
    have HS : Hid (atK s.before to (k + 1) = s.before.getD j 0) := Lib.hid (by show s.before.getD _ 0 = _; rw [hj, Int.toNat_natCast])
    have b0 : wr.cell? ⟨bb + 1, j, none⟩ = some (.int .i64 (s.before.getD j 0)) := (HBE.out.cell (p := ⟨bb + 1, j, none⟩) bz).trans (HBB.out j hj64)
    have bz2 : bb + 1 < wr.heap.size := Nat.lt_of_lt_of_le bz HBE.out.size
    have hj64' : (j : Int) < 64 := by omega
    have HJ := Lib.hid hj
    rw [hj]
    generalize s.before.getD j 0 = nx at *
    by_cases hlt : k < n
    · have hne : (j : Int) ≠ fr := by rw [← HJ.out]; exact HL.out k hlt
      have k1 : ((j : Int) == fr) = false := beq_eq_false_iff_ne.2 hne
      have HLK : Hid ((trL s.before to k).length ≤ 1000000) := Lib.hid (by rw [trL_len]; omega)
      clear hj hne
      go_wp2_with (at_builtin; refine wpList_push encI 1 8 26 3 _ HT.out HI.out rfl (by decide) (by decide) encI_len encI_one _ nx W.heap.size wr _ rfl _ HOW.out HBE.out.size HLK.out rfl _ _ rfl rfl rfl ?_; intro v' w' hown' hg'; obtain ⟨a', cap', e'⟩ := hown'.shape; rw [List.length_append, List.length_singleton, trL_len] at e'; subst e'; have HGR := Lib.hid (grown_below HBE.out hg' HBE.out.size HOW.out.lt' (Nat.le_refl _)); rw [← HS.out, ← trL_succ] at hown'; have HOX := Lib.hid hown')
      go_roundw
      case rel => exact ⟨k + 1, by omega, by rw [HS.out], ⟨_, _, rfl, HOX.out⟩, HGR.out⟩
      case measure => simp only [lenV]; omega
    · obtain rfl : n = k := by omega
      have he : (j : Int) = fr := by rw [← HJ.out]; exact HE.out
      have k1 : ((j : Int) == fr) = true := beq_iff_eq.2 he
      obtain ⟨g, cap2, e1, hg1, hg2⟩ := HOW.out.form (by rw [trL_len]; omega)
      obtain ⟨rfl, _, rfl⟩ := Value.slice.inj e1
      have HREV := Lib.hid (rev85 HOW.out (trL_len _ _ _) (by omega))
      clear hj he e1
      obtain ⟨N, hN⟩ : ∃ N, n + 1 = N := ⟨_, rfl⟩
      rw [hN] at HREV ⊢
      clear HOW hN
      go_wp2_with (go_at_call 85; refine HREV.out.mono ?_; rintro e w5 ⟨rfl, ho5, hg5⟩)
      exact HQ.out _ _ _ rfl rfl rfl rfl ho5 (HBE.out.grown hg5 HBE.out.size fun k e => by cases e; exact hg1)
end Go.Proofs.YtahpdkkpnkhnhaaGreatDoor

/- Walks: Route: the question after the machines that are named. -/
namespace Go.Proofs.YtahpdkkpnkhnhaaGreatDoor
open Go Go.Proofs Go.RowKit Go.Shelf

theorem wpList_catS {α : Type} (f : α → List Value) (sz bytes : Nat) (t e : TypeId) (z : Value) {P : Program} (hT : P.underlying t = some (.slice e)) (hI : (P.info? e).map (fun i => (i.zero, i.size, i.bytes)) = some (some z, sz, bytes))
    (hzs : z.cells.size = sz) (hsz : 0 < sz) (hby : bytes ≤ 1000) (hf : ∀ x, (f x).length = sz) (h1c : ∀ x, ∀ u ∈ f x, u.oneCell' = true)
    (l l2 : List α) (base B : Nat) (w : World) (v u : Value) (hown : Own f sz e w base v l) (hbase : base ≤ w.heap.size) (hlen : l.length + l2.length ≤ 2000000000) (hu : Sl f sz w B u l2) (hv : ∃ g cap, v = .slice (some ⟨g, 0, none⟩) l.length cap)
    {ops : Array Oper} {rest : List Oper} {o : Oper} {a : Act} {Q : Exit → Act → World → Prop} (hgd : o.guard = none) (s y : Operand)
    (ho : o.op = .call { callee := .builtin .append, args := #[s, y], argTypes := #[t, t] }) (hs : a.eval s = v) (hy : a.eval y = u)
    (h : ∀ v' w', Own f sz e w' base v' (l ++ l2) → w.grownBy w' v.ownBlock → wpList P ops Q rest (a.put o.dst v') w') : wpList P ops Q (o :: rest) a w := by
  obtain ⟨ap, c, rfl, _, hA⟩ := hu
  refine wpList_step (fun K1 hK1 => ?_)
  refine step_catE f sz bytes t e z hT hI hzs hsz hby hf h1c l l2 base w v hown hbase hlen ap c ?_ hv hgd s y ho hs hy (fun v' w' h1 h2 => hK1 _ _ (h v' w' h1 h2))
  intro h0
  obtain ⟨b, off, rfl, _, hat⟩ := hA h0
  refine ⟨_, rfl, fun i hi j q hq => ?_⟩
  have := hat i hi j q hq
  rw [Addr.add_lit, ← Nat.add_assoc]
  exact this

theorem two_own {w : World} {g B : Nat} {x y : Int} (h : w.heap[g]? = some (.cells #[.int .i64 x, .int .i64 y] 3 (0, 0))) (hb : B ≤ g) : Own encI 1 3 w B (.slice (some ⟨g, 0, none⟩) 2 2) [x, y] :=
  ⟨rfl, .inr ⟨g, 2, _, rfl, hb, h, by simp, by simp [maxLen], by simp, by simp [encI]⟩⟩
theorem gr_below {W w w' : World} {g k c : Nat} (hg : w.grownBy w' (Value.slice (some ⟨g, 0, none⟩) k c).ownBlock) (hb : Below W.heap.size W w) (hs : W.heap.size ≤ w.heap.size) (hgB : W.heap.size ≤ g) : Below W.heap.size W w' :=
  hb.grown hg hs fun k hk => by have : g = k := Option.some.inj hk; omega

def fr18p (N : Nat) (fr : Int) (z : Nat → Value) : List Value := [z 0, .int .i64 fr, z 2, z 3, .pointer (some ⟨N, 0, none⟩), z 5, .pointer (some ⟨N + 1, 0, none⟩), .pointer (some ⟨N + 1 + 1, 0, none⟩), .slice none 0 0, .int .i64 0, z 10, z 11, z 12, z 13, z 14, z 15, z 16, z 17, z 18, z 19, z 20, z 21, z 22, z 23, z 24, z 25, z 26, z 27, z 28, z 29, z 30, z 31, z 32, z 33, z 34, z 35, z 36, z 37, z 38, z 39, z 40, z 41, z 42, z 43, z 44, z 45, z 46, z 47, z 48, z 49, z 50, z 51, z 52, z 53, z 54, z 55, z 56, z 57, z 58, z 59, z 60, z 61, z 62, z 63, z 64, z 65, z 66, z 67, z 68, z 69, z 70, z 71, z 72, z 73, z 74, z 75, z 76, z 77, z 78, z 79, z 80, z 81, z 82, z 83, z 84, z 85, z 86, z 87, z 88, z 89, z 90, z 91, z 92, z 93, z 94, z 95, z 96, z 97, z 98, z 99, z 100, z 101, z 102, z 103, z 104, z 105, z 106, z 107, z 108, z 109, z 110, z 111, z 112, z 113, z 114, z 115, z 116, z 117, z 118, z 119, z 120, z 121, z 122, z 123, z 124, z 125, z 126, z 127, z 128, z 129, z 130, z 131, z 132, z 133, z 134, z 135, z 136, z 137, z 138, z 139, z 140, z 141, z 142, z 143, z 144, z 145, z 146, z 147, z 148, z 149, z 150, z 151, z 152, z 153, z 154, z 155, z 156, z 157, z 158, z 159, z 160, z 161, z 162, z 163, z 164, z 165, z 166, z 167, z 168, z 169, z 170, z 171, z 172]
theorem fr18p_of (N : Nat) (fr : Int) (L : List Value) (hL : L.length = 173) (h1 : L[1]? = some (.int .i64 fr)) (h4 : L[4]? = some (.pointer (some ⟨N, 0, none⟩))) (h6 : L[6]? = some (.pointer (some ⟨N + 1, 0, none⟩))) (h7 : L[7]? = some (.pointer (some ⟨N + 1 + 1, 0, none⟩))) (h8 : L[8]? = some (.slice none 0 0)) (h9 : L[9]? = some (.int .i64 0)) : ∃ z, L = fr18p N fr z := by
  refine ⟨fun i => L.getD i undef, ?_⟩
  unfold fr18p
  have e := list_range L 173 hL
  have e1 : L.getD 1 undef = .int .i64 fr := by rw [List.getD_eq_getElem?_getD, h1]; rfl
  have e4 : L.getD 4 undef = .pointer (some ⟨N, 0, none⟩) := by rw [List.getD_eq_getElem?_getD, h4]; rfl
  have e6 : L.getD 6 undef = .pointer (some ⟨N + 1, 0, none⟩) := by rw [List.getD_eq_getElem?_getD, h6]; rfl
  have e7 : L.getD 7 undef = .pointer (some ⟨N + 1 + 1, 0, none⟩) := by rw [List.getD_eq_getElem?_getD, h7]; rfl
  have e8 : L.getD 8 undef = .slice none 0 0 := by rw [List.getD_eq_getElem?_getD, h8]; rfl
  have e9 : L.getD 9 undef = .int .i64 0 := by rw [List.getD_eq_getElem?_getD, h9]; rfl
  rw [← e1, ← e4, ← e6, ← e7, ← e8, ← e9]
  exact e
theorem fr18p_act (N : Nat) (fr : Int) (A : Act) (ds : List Deferred) (hds : A.defers = ds) (hL : A.tmps.size = 173) (h1 : A.tmps[1]? = some (.int .i64 fr)) (h4 : A.tmps[4]? = some (.pointer (some ⟨N, 0, none⟩))) (h6 : A.tmps[6]? = some (.pointer (some ⟨N + 1, 0, none⟩))) (h7 : A.tmps[7]? = some (.pointer (some ⟨N + 1 + 1, 0, none⟩))) (h8 : A.tmps[8]? = some (.slice none 0 0)) (h9 : A.tmps[9]? = some (.int .i64 0)) : ∃ z, A = { tmps := (fr18p N fr z).toArray, defers := ds } := by
  obtain ⟨z, e⟩ := fr18p_of N fr A.tmps.toList (by rw [Array.length_toList]; exact hL) (by rw [Array.getElem?_toList]; exact h1) (by rw [Array.getElem?_toList]; exact h4) (by rw [Array.getElem?_toList]; exact h6) (by rw [Array.getElem?_toList]; exact h7) (by rw [Array.getElem?_toList]; exact h8) (by rw [Array.getElem?_toList]; exact h9)
  exact ⟨z, by cases A; subst hds; dsimp only at e ⊢; rw [← e]⟩

def fr18q (N : Nat) (fr : Int) (u : Int) (z : Nat → Value) : List Value := [z 0, .int .i64 fr, z 2, z 3, .pointer (some ⟨N, 0, none⟩), z 5, .pointer (some ⟨N + 1, 0, none⟩), .pointer (some ⟨N + 1 + 1, 0, none⟩), .slice none 0 0, .int .i64 0, z 10, .int .i64 u, z 12, z 13, z 14, z 15, z 16, z 17, z 18, z 19, z 20, z 21, z 22, z 23, z 24, z 25, z 26, z 27, z 28, z 29, z 30, z 31, z 32, z 33, z 34, z 35, z 36, z 37, z 38, z 39, z 40, z 41, z 42, z 43, z 44, z 45, z 46, z 47, z 48, z 49, z 50, z 51, z 52, z 53, z 54, z 55, z 56, z 57, z 58, z 59, z 60, z 61, z 62, z 63, z 64, z 65, z 66, z 67, z 68, z 69, z 70, z 71, z 72, z 73, z 74, z 75, z 76, z 77, z 78, z 79, z 80, z 81, z 82, z 83, z 84, z 85, z 86, z 87, z 88, z 89, z 90, z 91, z 92, z 93, z 94, z 95, z 96, z 97, z 98, z 99, z 100, z 101, z 102, z 103, z 104, z 105, z 106, z 107, z 108, z 109, z 110, z 111, z 112, z 113, z 114, z 115, z 116, z 117, z 118, z 119, z 120, z 121, z 122, z 123, z 124, z 125, z 126, z 127, z 128, z 129, z 130, z 131, z 132, z 133, z 134, z 135, z 136, z 137, z 138, z 139, z 140, z 141, z 142, z 143, z 144, z 145, z 146, z 147, z 148, z 149, z 150, z 151, z 152, z 153, z 154, z 155, z 156, z 157, z 158, z 159, z 160, z 161, z 162, z 163, z 164, z 165, z 166, z 167, z 168, z 169, z 170, z 171, z 172]
theorem fr18q_of (N : Nat) (fr : Int) (u : Int) (L : List Value) (hL : L.length = 173) (h1 : L[1]? = some (.int .i64 fr)) (h4 : L[4]? = some (.pointer (some ⟨N, 0, none⟩))) (h6 : L[6]? = some (.pointer (some ⟨N + 1, 0, none⟩))) (h7 : L[7]? = some (.pointer (some ⟨N + 1 + 1, 0, none⟩))) (h8 : L[8]? = some (.slice none 0 0)) (h9 : L[9]? = some (.int .i64 0)) (h11 : L[11]? = some (.int .i64 u)) : ∃ z, L = fr18q N fr u z := by
  refine ⟨fun i => L.getD i undef, ?_⟩
  unfold fr18q
  have e := list_range L 173 hL
  have e1 : L.getD 1 undef = .int .i64 fr := by rw [List.getD_eq_getElem?_getD, h1]; rfl
  have e4 : L.getD 4 undef = .pointer (some ⟨N, 0, none⟩) := by rw [List.getD_eq_getElem?_getD, h4]; rfl
  have e6 : L.getD 6 undef = .pointer (some ⟨N + 1, 0, none⟩) := by rw [List.getD_eq_getElem?_getD, h6]; rfl
  have e7 : L.getD 7 undef = .pointer (some ⟨N + 1 + 1, 0, none⟩) := by rw [List.getD_eq_getElem?_getD, h7]; rfl
  have e8 : L.getD 8 undef = .slice none 0 0 := by rw [List.getD_eq_getElem?_getD, h8]; rfl
  have e9 : L.getD 9 undef = .int .i64 0 := by rw [List.getD_eq_getElem?_getD, h9]; rfl
  have e11 : L.getD 11 undef = .int .i64 u := by rw [List.getD_eq_getElem?_getD, h11]; rfl
  rw [← e1, ← e4, ← e6, ← e7, ← e8, ← e9, ← e11]
  exact e
theorem fr18q_act (N : Nat) (fr : Int) (u : Int) (A : Act) (ds : List Deferred) (hds : A.defers = ds) (hL : A.tmps.size = 173) (h1 : A.tmps[1]? = some (.int .i64 fr)) (h4 : A.tmps[4]? = some (.pointer (some ⟨N, 0, none⟩))) (h6 : A.tmps[6]? = some (.pointer (some ⟨N + 1, 0, none⟩))) (h7 : A.tmps[7]? = some (.pointer (some ⟨N + 1 + 1, 0, none⟩))) (h8 : A.tmps[8]? = some (.slice none 0 0)) (h9 : A.tmps[9]? = some (.int .i64 0)) (h11 : A.tmps[11]? = some (.int .i64 u)) : ∃ z, A = { tmps := (fr18q N fr u z).toArray, defers := ds } := by
  obtain ⟨z, e⟩ := fr18q_of N fr u A.tmps.toList (by rw [Array.length_toList]; exact hL) (by rw [Array.getElem?_toList]; exact h1) (by rw [Array.getElem?_toList]; exact h4) (by rw [Array.getElem?_toList]; exact h6) (by rw [Array.getElem?_toList]; exact h7) (by rw [Array.getElem?_toList]; exact h8) (by rw [Array.getElem?_toList]; exact h9) (by rw [Array.getElem?_toList]; exact h11)
  exact ⟨z, by cases A; subst hds; dsimp only at e ⊢; rw [← e]⟩


noncomputable def r4 : Code := codeL (codeL (codeR (codeR (Tryz.f18.body.getD .skip))))

set_option maxRecDepth 100000 in
set_option maxHeartbeats 1000000 in
theorem r4_walk (w W : World) (a1 : Option Addr) (n c1 : Nat) (v2 vb : Value) (bl : List Int) (to fr : Int) (hpx : Box W w.heap.size 25 [.slice a1 n c1, v2]) (htx : Box W (w.heap.size + 1) 3 [.int .i64 to]) (hkx : Box W (w.heap.size + 1 + 1) 26 [vb])
    (hbl : Sl encI 1 W W.heap.size vb bl) (hln : bl.length ≤ 100000000) (z : Nat → Value) (Q : Exit → Act → World → Prop)
    (hQ : ∀ z' W', Below W.heap.size W W' → Q .normal { tmps := (fr18q w.heap.size fr (unkE n (fr :: to :: bl)) z').toArray, defers := [] } W') :
    r4.wp Tryz.prog Q { tmps := (fr18p w.heap.size fr z).toArray, defers := [] } W := by
  have HQ : Hid (∀ A W', (∃ z', A = { tmps := (fr18q w.heap.size fr (unkE n (fr :: to :: bl)) z').toArray, defers := [] }) → Below W.heap.size W W' → Q .normal A W') := Lib.hid (by rintro A W' ⟨z', rfl⟩ hb; exact hQ z' W' hb)
  obtain ⟨ap, cb, rfl, hlb, hab⟩ := hbl
  have HAT : Hid (0 < bl.length → ∃ bb off, ap = some ⟨bb, off, none⟩ ∧ bb < W.heap.size ∧ ∀ i (h : i < bl.length), ∀ j u, (encI bl[i])[j]? = some u → W.cell? ⟨bb, off + i * 1 + j, none⟩ = some u) := Lib.hid (fun h => by obtain ⟨b, off, e, hb, hc⟩ := hab h; exact ⟨b, off, e, hb, fun i h j u hu => hc i h j u hu⟩)
  have HLN := Lib.hid hln
  have HU := Lib.hid (fun (u : Value) (w' : World) (hu : Sl encI 1 w' w'.heap.size u (fr :: to :: bl)) => unknown79 a1 n c1 v2 u _ w' hu)
  obtain ⟨U, hU⟩ : ∃ U, unkE n (fr :: to :: bl) = U := ⟨_, rfl⟩
  rw [hU] at HU HQ
  obtain ⟨x0, x1, xf, xz⟩ := hpx.v2
  have t0 := htx.cell 0
  have tz := htx.lt
  have k0 := hkx.cell 0
  have kz := hkx.lt
  simp only [List.getElem?_cons_zero] at t0 k0
  have HT : Hid (Tryz.prog.underlying 26 = some (.slice 3)) := Lib.hid Tryz.underlying26
  have HI := Lib.hid infoI
  clear hQ hpx htx hkx hab hlb hln hU
  simp only [r4, Tryz.f18, Option.getD, codeL, codeR, fr18p]
  refine wp_region_noPanic ?_
  go_region_law (first
    | (refine step_catE encI 1 8 26 3 _ HT.out HI.out rfl (by decide) (by decide) encI_len encI_one [fr, to] bl W.heap.size _ _ (two_own (by repeat (first | exact row_at (by simp) | refine row_old ?_ | refine row_drew ?_)) (by first | exact Nat.le_refl _ | (simp; done) | (simp; omega))) (by first | exact Nat.le_refl _ | (simp; done) | (simp; omega) | omega) (by have := HLN.out; simp only [List.length_cons, List.length_nil]; omega) ap cb (by
        intro h0
        obtain ⟨bb, off, e, hb2, hc⟩ := HAT.out h0
        refine ⟨_, e, fun i h j u hu => ?_⟩
        rw [Addr.add_lit, ← Nat.add_assoc]
        refine Eq.trans (Below.cell (w := W) (p := ⟨bb, off + i * 1 + j, none⟩) (B := W.heap.size) ?_ hb2) (hc i h j u hu)
        repeat (first | exact Below.refl _ _ | refine Below.alloc ?_ (by simp) _ | refine Below.drew ?_)) ⟨_, _, rfl⟩ rfl _ _ rfl rfl rfl ?_; intro v' w' hown hgr; have hbw := gr_below (W := W) hgr (by repeat (first | exact Below.refl _ _ | refine Below.alloc ?_ (by simp) _ | refine Below.drew ?_)) (by first | (simp; done) | (simp; omega)) (by first | exact Nat.le_refl _ | (simp; done) | (simp; omega)); have y0 := (hbw.cell (p := ⟨w.heap.size, 0, none⟩) xz).trans x0; have y1 := (hbw.cell (p := ⟨w.heap.size, 1, none⟩) xz).trans x1)
    | (go_simp; refine (HU.out _ _ (hown.toSl encI_len (by have := HLN.out; simp; omega))).mono ?_; rintro e w5 ⟨rfl, hb5⟩; dsimp only))
  all_goals
    refine NoPanic.normal ?_
    refine HQ.out _ _ ?_ (hbw.trans (hb5.mono hbw.size))
    apply fr18q_act <;> rfl
end Go.Proofs.YtahpdkkpnkhnhaaGreatDoor
