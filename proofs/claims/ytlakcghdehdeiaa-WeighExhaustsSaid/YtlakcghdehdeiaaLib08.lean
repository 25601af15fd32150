/- Lemmas on the way to the laws (part 8): Nn No Np Nq Rb Nr Ns Nt -/
import Derived.Test.YtlakcghdehdeiaaLib07
import Derived.Deep.MidRow
import Derived.Test.YtlakcghdehdeiaaLib05
import Derived.Test.YtlakcghdehdeiaaLib01
import Derived.Test.YtlakcghdehdeiaaLib04
import Derived.Deep.RegionHeld3
import Derived.Deep.AppendLies
import Derived.IntWalk
import Derived.RegionTactic
import Derived.BigRegion
set_option linter.unusedVariables false
set_option linter.unusedSimpArgs false

/- Walks: more flow along the way that a search has found. -/
namespace Go.Proofs.Ytlakcghdehdeiaa
open Go Go.Proofs Go.RowKit Go.Shelf

theorem bump_set (l : List Ac) (s : St) (m : Int) (h : s.1 < l.length) : bump l s m = l.set s.1 { l[s.1] with fl := if s.2 then l[s.1].fl + m else l[s.1].fl - m } := by
  unfold bump
  apply List.ext_getElem?
  intro i
  rw [List.getElem?_modify, List.getElem?_set]
  by_cases e : s.1 = i
  · subst e; simp [h]
  · simp [e]

/-- The blocks that a search may turn. -/
def Mine (nb : Nat) (v : Value) (k : Nat) : Prop := k = nb ∨ v.ownBlock = some k
/-- What is there between two steps back, some of the arcs turned. -/
structure PushW (w W : World) (N B nb : Nat) (v : Value) (lc : List Ac) (tk pl : Nat) (rc : List Bool) (byL : List St) (bkL : List Nat) (t : Nat) (Ds : List Nat) : Prop where
  net : NetR W B nb v lc tk pl rc
  glt : ∀ k, v.ownBlock = some k → k < N
  nlt : nb < N
  hN : N = w.heap.size
  b5 : Box W N 90 [.pointer (some ⟨nb, 0, none⟩)]
  b7 : Box W (N + 1) 3 [.int .i64 t]
  byB : Box W (N + 1 + 1) 130 (byL.flatMap encS)
  bkB : Box W (N + 1 + 1 + 1) 120 (ints bkL)
  kept : Kept (Mine nb v) w W
  marks : MarksIn W Ds
theorem PushW.drewN {w W : World} {N B nb : Nat} {v : Value} {lc : List Ac} {tk pl : Nat} {rc : List Bool} {byL : List St} {bkL : List Nat} {t : Nat} {Ds : List Nat} (h : PushW w W N B nb v lc tk pl rc byL bkL t Ds) (n : Nat) : PushW w (W.drewN n) N B nb v lc tk pl rc byL bkL t Ds :=
  ⟨⟨h.net.box, h.net.own, h.net.ne, h.net.n36⟩, h.glt, h.nlt, h.hN, h.b5, h.b7, h.byB, h.bkB, ⟨h.kept.os, h.kept.tape, h.kept.output, h.kept.size, h.kept.block⟩, h.marks⟩
theorem PushW.push {w W : World} {N B nb : Nat} {v : Value} {lc : List Ac} {tk pl : Nat} {rc : List Bool} {byL : List St} {bkL : List Nat} {t : Nat} {Ds : List Nat} (h : PushW w W N B nb v lc tk pl rc byL bkL t Ds) (s : St) (m : Int) (hs : s.1 < lc.length) {g : Nat} (hv : v.ownBlock = some g) (x : Int) (hx : x = if s.2 then lc[s.1].fl + m else lc[s.1].fl - m) :
    PushW w (W.setCell ⟨g, s.1 * 5 + 4, none⟩ (.int .i64 x)) N B nb v (bump lc s m) tk pl rc byL bkL t Ds := by
  have hg := h.glt g hv
  have hne : g ≠ nb := fun e => h.net.ne (by rw [hv, e])
  obtain ⟨g', cap, e, hb1, hb2⟩ := h.net.own.form (by omega)
  have eg : g' = g := by rw [e] at hv; simpa [Value.ownBlock] using hv
  subst eg
  have hown := h.net.own
  rw [e] at hown
  have hset := hown.set Ac.encW_len s.1 hs 4 (by omega) (.int .i64 x) { lc[s.1] with fl := if s.2 then lc[s.1].fl + m else lc[s.1].fl - m } (by rw [hx]; rfl)
  rw [← bump_set lc s m hs, ← e] at hset
  exact ⟨⟨h.net.box.other _ (by dsimp only; omega), hset, h.net.ne, h.net.n36⟩, h.glt, h.nlt, h.hN, h.b5.other _ (by dsimp only; omega), h.b7.other _ (by dsimp only; omega), h.byB.other _ (by dsimp only; omega), h.bkB.other _ (by dsimp only; omega),
    h.kept.set _ (.inl (.inr hv)), h.marks.keeps (KeepsOthers.setCell _ _ _)⟩

def PushI (w : World) (N B nb : Nat) (v : Value) (l L' : List Ac) (tk pl u t : Nat) (wo : Int) (rc : List Bool) (byL : List St) (bkL : List Nat) (m : Int) (Ds : List Nat) (k : Nat) (A : Act) (W : World) : Prop :=
  ∃ z at_ p lc, A = { tmps := (fr91u nb u t N m wo at_ z).toArray, defers := marksOf Ds } ∧ Trace byL bkL u at_ p ∧ (∀ s ∈ p, s.1 < lc.length ∧ lc[s.1]? = l[s.1]?) ∧ (p.map Prod.fst).Nodup ∧ PushW w W N B nb v lc tk pl rc byL bkL t Ds ∧ lc.length ≤ 1000 ∧ pushes lc p m = L' ∧ k = p.length

set_option maxRecDepth 100000 in
set_option maxHeartbeats 1000000 in
theorem rnd6_walk (w : World) (N B nb : Nat) (v : Value) (l L' : List Ac) (tk pl u t : Nat) (wo : Int) (hs : Small l 1000000000000) (rc : List Bool) (byL : List St) (bkL : List Nat)
    (h2 : byL.length = 36) (h3 : bkL.length = 36) (m : Int) (hm1 : 0 ≤ m) (hm2 : m ≤ 100000000000000) (Ds : List Nat) (k : Nat) (A : Act) (W : World) (hu : u < 36)
    (hI : PushI w N B nb v l L' tk pl u t wo rc byL bkL m Ds k A W) (Q : Exit → Act → World → Prop)
    (hdone : ∀ z W', PushW w W' N B nb v L' tk pl rc byL bkL t Ds → Q (.exit 6) { tmps := (fr91u nb u t N m wo u z).toArray, defers := marksOf Ds } W') :
    rnd6.wp Try.prog (Exit.then (fun a' w' => ∃ m', m' < k ∧ PushI w N B nb v l L' tk pl u t wo rc byL bkL m Ds m' a' w') Q) A W := by
  obtain ⟨z, at_, p, lc, rfl, hT, hp, hn, hw, hl, hL, rfl⟩ := hI
  obtain ⟨QQ, hQ⟩ : ∃ QQ, Exit.then (fun a' w' => ∃ m', m' < p.length ∧ PushI w N B nb v l L' tk pl u t wo rc byL bkL m Ds m' a' w') Q = QQ := ⟨_, rfl⟩
  rw [hQ]
  have HQ := Lib.hid hQ
  clear hQ
  have HD := Lib.hid hdone
  clear hdone
  have hle := hT.le
  cases p with
  | nil =>
    obtain rfl : at_ = u := hT
    obtain rfl : lc = L' := hL
    have e1 : ((at_ : Int) != (at_ : Int)) = false := by simp
    have fin : ∀ A', (∃ z', A' = { tmps := (fr91u nb at_ t N m wo at_ z').toArray, defers := marksOf Ds }) → QQ (.exit 6) A' W := by
      rintro A' ⟨z', rfl⟩
      rw [← HQ.out]
      exact HD.out z' W hw
    simp only [rnd6, blk6, rest91, Try.f91, Option.getD, codeL, codeR, fr91u]
    go_wp2_with fail
    first | (apply fr91u_act <;> rfl) | (apply fr91u_of <;> rfl)
  | cons s p =>
    obtain ⟨hne, hlt, hby, kk, hbk, hT'⟩ := hT
    have e1 : ((at_ : Int) != (u : Int)) = true := by rw [bne_iff_ne]; omega
    obtain ⟨hi, hli⟩ := hp s (by simp)
    obtain ⟨g, cap, rfl, hg, hgs⟩ := hw.net.own.form (by omega)
    have c5 := hw.b5.cell 0
    have z5 := hw.b5.lt
    have c0 := hw.net.toA.c0
    have zn := hw.net.box.lt
    simp only [List.getElem?_cons_zero] at c5
    have hs2 : byL[at_]'(by omega) = s := by rw [List.getElem?_eq_getElem (by omega)] at hby; exact Option.some.inj hby
    have cby0 : W.cell? ⟨N + 1 + 1, at_ * 2, none⟩ = some (.int .i64 s.1) := by
      rw [hw.byB.cell, ← Nat.add_zero (at_ * 2), flat_get encS 2 encS_len byL at_ (by omega) 0 (by omega), hs2]; rfl
    have cby1 : W.cell? ⟨N + 1 + 1, at_ * 2 + 1, none⟩ = some (.bool s.2) := by
      rw [hw.byB.cell, flat_get encS 2 encS_len byL at_ (by omega) 1 (by omega), hs2]; rfl
    have cbk : W.cell? ⟨N + 1 + 1 + 1, at_, none⟩ = some (.int .i64 kk) := by
      rw [hw.bkB.cell]; unfold ints; rw [List.getElem?_map, hbk]; rfl
    have zby := hw.byB.lt
    have zbk := hw.bkB.lt
    obtain ⟨a0, a1, a2, a3, a4⟩ := (hw.net.own.at Ac.encW_len s.1 hi).c5
    have fg := hw.net.own.frozen
    have hgN := hw.glt g rfl
    have HW := Lib.hid hw
    have HL := Lib.hid hL
    have HP := Lib.hid hp
    have HN := Lib.hid hn
    clear hw hL hp hn hs2
    have hsm := hs lc[s.1] (List.mem_of_getElem? (by rw [← hli, List.getElem?_eq_getElem hi]))
    obtain ⟨ac, hac⟩ : ∃ ac, lc[s.1] = ac := ⟨_, rfl⟩
    rw [hac] at hsm a0 a1 a2 a3 a4
    have HAC := Lib.hid hac
    clear hac
    obtain ⟨fr, to, lo, hi', fl⟩ := ac
    obtain ⟨s1, s2, s3, s4, s5, s6⟩ := hsm
    dsimp only at *
    obtain ⟨i, f⟩ := s
    have hi2 : (i : Int) < lc.length := by dsimp only at hi; omega
    dsimp only at *
    have fin : ∀ (A' : Act) (nq : Nat) (x : Int), (x = if f then fl + m else fl - m) → (∃ z', A' = { tmps := (fr91u nb u t N m wo kk z').toArray, defers := marksOf Ds }) → QQ .normal A' ((W.drewN nq).setCell ⟨g, i * 5 + 4, none⟩ (.int .i64 x)) := by
      rintro A' nq x hx ⟨z', rfl⟩
      rw [← HQ.out]
      have hpu := (HW.out.drewN nq).push (i, f) m hi (g := g) rfl x (by rw [hx]; dsimp only; rw [HAC.out])
      refine ⟨p.length, by simp, z', kk, p, _, rfl, hT', fun y hy => ?_, ?_, hpu, by rw [bump_length]; exact hl, HL.out, rfl⟩
      · have h := HP.out y (by simp [hy])
        have hn := HN.out
        simp only [List.map_cons, List.nodup_cons] at hn
        have hne : y.1 ≠ i := fun e => hn.1 (by rw [← e]; exact List.mem_map_of_mem hy)
        rw [bump_length, bump_get_other _ _ _ hne]
        exact h
      · have hn := HN.out
        simp only [List.map_cons, List.nodup_cons] at hn
        exact hn.2
    have FIN := Lib.hid fin
    clear fin
    simp only [rnd6, blk6, rest91, Try.f91, Option.getD, codeL, codeR, fr91u]
    cases f
    · go_wp2_with fail
      go_quiet (fail)
      go_wp2_with fail
      refine FIN.out _ nq _ rfl ?_
      first | (apply fr91u_act <;> rfl) | (apply fr91u_of <;> rfl)
    · go_wp2_with fail
      go_quiet (fail)
      go_wp2_with fail
      refine FIN.out _ nq _ rfl ?_
      first | (apply fr91u_act <;> rfl) | (apply fr91u_of <;> rfl)

theorem blk6_walk (w : World) (N B nb : Nat) (v : Value) (l L' : List Ac) (tk pl u t : Nat) (wo : Int) (hs : Small l 1000000000000) (rc : List Bool) (byL : List St) (bkL : List Nat)
    (h2 : byL.length = 36) (h3 : bkL.length = 36) (m : Int) (hm1 : 0 ≤ m) (hm2 : m ≤ 100000000000000) (Ds : List Nat) (k : Nat) (A : Act) (W : World) (hu : u < 36)
    (hI : PushI w N B nb v l L' tk pl u t wo rc byL bkL m Ds k A W) :
    blk6.wp Try.prog (fun e a w' => e = .normal ∧ PushW w w' N B nb v L' tk pl rc byL bkL t Ds ∧ ∃ z, a = { tmps := (fr91u nb u t N m wo u z).toArray, defers := marksOf Ds }) A W := by
  have e : blk6 = .block 6 (.loop rnd6) := rfl
  rw [e]
  refine wp_block (wp_loop_g (PushI w N B nb v l L' tk pl u t wo rc byL bkL m Ds) k hI fun k' a w' h => ?_)
  exact rnd6_walk w N B nb v l L' tk pl u t wo hs rc byL bkL h2 h3 m hm1 hm2 Ds k' a w' hu h _ (fun z W' hb => ⟨rfl, hb, z, rfl⟩)
end Go.Proofs.Ytlakcghdehdeiaa

/- Walks: augment: one augmenting way, or none, and then what was reached is closed. -/
namespace Go.Proofs.Ytlakcghdehdeiaa
open Go Go.Proofs Go.RowKit Go.Shelf

/-- What augment does. -/
def AugPost (w : World) (B nb : Nat) (v : Value) (l : List Ac) (tk pl u t : Nat) (most wo : Int) (e : Ending) (w' : World) : Prop :=
  ∃ m l' rc', e = .returned (.int .i64 m) ∧ NetR w' B nb v l' tk pl rc' ∧ Kept (Mine nb v) w w' ∧
    ((m = 0 ∧ l' = l ∧ Closed (fun x => rc'.getD x false) wo l ∧ rc'.getD u false = true ∧ rc'.getD t false = false) ∨
     (∃ p, Wy l wo t p u ∧ (p.map Prod.fst).Nodup ∧ (∀ s ∈ p, m ≤ roomOf l s) ∧ 0 < m ∧ m ≤ most ∧ l' = pushes l p m))

theorem PushW.putObj {w W : World} {N B nb : Nat} {v : Value} {lc : List Ac} {tk pl : Nat} {rc : List Bool} {byL : List St} {bkL : List Nat} {t : Nat} {Ds : List Nat} (h : PushW w W N B nb v lc tk pl rc byL bkL t Ds) {D : Nat} {o : Obj} (hD : W.heap[D]? = some o) (ho : o.isCells = false) (hN : N ≤ D) :
    NetR (W.putObj D (.deferred none)) B nb v lc tk pl rc ∧ Kept (Mine nb v) w (W.putObj D (.deferred none)) := by
  have hg := grownBy_putObj' W D (.deferred none)
  have hn : NoCells W (some D) := fun r e => by cases e; exact ⟨o, hD, ho⟩
  exact ⟨⟨h.net.box.grown hg (hn.box h.net.box), h.net.own.kept hg (hn.own h.net.own), h.net.ne, h.net.n36⟩, putObj_kept h.kept (by rw [← h.hN]; exact hN)⟩

/-- The last part of the call: marks are taken up. -/
theorem aug_end {w W : World} {N B nb : Nat} {v : Value} {lc : List Ac} {tk pl : Nat} {rc : List Bool} {Ds : List Nat} (hN : N = w.heap.size) (hnet : NetR W B nb v lc tk pl rc) (hk : Kept (Mine nb v) w W) (hm : MarksIn W Ds) (hn : Ds.Nodup) (hD : ∀ D ∈ Ds, N ≤ D)
    {tmps : Array Value} {x : Value} (hx : tmps.getD 10 undef = x) {R : Ending → World → Prop} (hR : ∀ W', NetR W' B nb v lc tk pl rc → Kept (Mine nb v) w W' → R (.returned x) W') :
    Exit.noGoto (bodyPostM Fence.wide 9 Try.prog Try.f91 R) .ret { tmps := tmps, defers := marksOf Ds } W := by
  show LeavesInM Fence.wide 9 Try.prog Try.f91 tmps R (marksOf Ds) .returning W
  refine leaves_marks (w0s := N) (v := x) (fun W => by rw [results_tmp rfl, hx]) (fun W => NetR W B nb v lc tk pl rc ∧ Kept (Mine nb v) w W) ?_ (fun W h => hR W h.1 h.2) Ds W hn hm hD ⟨hnet, hk⟩
  rintro W D o ⟨h1, h2⟩ ho hc hND
  have hg := grownBy_putObj' W D (.deferred none)
  have hno : NoCells W (some D) := fun r e => by cases e; exact ⟨o, ho, hc⟩
  exact ⟨⟨h1.box.grown hg (hno.box h1.box), h1.own.kept hg (hno.own h1.own), h1.ne, h1.n36⟩, putObj_kept h2 (by rw [← hN]; exact hND)⟩

noncomputable def a91 : Code := codeL rest91
noncomputable def r19 : Code := codeL (codeL (codeR rest91))
noncomputable def r23 : Code := codeL (codeL (codeR (codeR rest91)))
noncomputable def e91 : Code := codeR (codeR (codeR rest91))
theorem rest91_eq : rest91 = .seq a91 (.seq (.seq r19 blk4) (.seq (.seq r23 blk6) e91)) := rfl

set_option maxRecDepth 100000 in
set_option maxHeartbeats 1000000 in
theorem rest91_walk (w : World) (N B nb : Nat) (v : Value) (l : List Ac) (tk pl u t : Nat) (wo most : Int) (hl : l.length ≤ 1000) (hs : Small l 1000000000000) (hE : Ends 36 l) (hu : u < 36) (ht : t < 36) (hm1 : 0 < most) (hm2 : most ≤ 100000000000000) (A : Act) (W : World)
    (hF : Found w N B nb v l tk pl u t wo most A W) (hut : u ≠ t) :
    rest91.wp Try.prog (Exit.noGoto (bodyPostM Fence.wide 9 Try.prog Try.f91 (AugPost w B nb v l tk pl u t most wo))) A W := by
  obtain ⟨z, Ds, g, rc, byL, bkL, ord, qu, vq, rfl, h1, h2, h3, h4, h5, h6⟩ := hF
  obtain ⟨Q, hQ⟩ : ∃ Q, Exit.noGoto (bodyPostM Fence.wide 9 Try.prog Try.f91 (AugPost w B nb v l tk pl u t most wo)) = Q := ⟨_, rfl⟩
  rw [hQ]
  have HQ := Lib.hid hQ
  clear hQ
  have c5 := h1.b5.cell 0
  have c7 := h1.b7.cell 0
  have z5 := h1.b5.lt
  have z7 := h1.b7.lt
  have zn := h1.net.box.lt
  have n36 := h2.n1
  simp only [List.getElem?_cons_zero] at c5 c7
  have cr : W.cell? ⟨nb, 3 + t, none⟩ = some (.bool (rc.getD t false)) := by
    rw [h1.net.box.cell, show 3 + t = t + 1 + 1 + 1 by omega]
    simp only [netCells, List.getElem?_cons_succ, List.getElem?_map, List.getD_eq_getElem?_getD]
    rw [List.getElem?_eq_getElem (by omega)]; rfl
  have ti : (t : Int) < 36 := by omega
  have hmem := h2.mem t ht
  have hmemu := h2.mem u hu
  have hk2 : Kept (Mine nb v) w W := h1.kept.mono fun k hk => .inl hk
  have H3 := Lib.hid h3
  have H5 := Lib.hid h5
  have H6 := Lib.hid h6
  clear h3 h5 h6
  cases hr : rc.getD t false
  · rw [hr] at cr
    have hnt : t ∉ ord := fun h => by rw [hmem.2 h] at hr; cases hr
    have hcl := (H6.out.resolve_left hnt).2
    have hclosed := h2.closed hE hcl
    have hru := hmemu.2 h2.hd
    have HR := Lib.hid hr
    clear hr
    have HM := Lib.hid hmem
    clear hmem
    have HMU := Lib.hid hmemu
    clear hmemu
    have HC := Lib.hid hclosed
    clear hclosed
    have HRU := Lib.hid hru
    clear hru
    have HCL := Lib.hid hcl
    clear hcl
    clear h2
    simp only [rest91, Try.f91, Option.getD, codeL, codeR, fr91]
    go_wp2_with fail
    go_quiet (fail)
    go_wp2_with fail
    rw [← HQ.out]
    refine aug_end h1.hN (h1.net.later (below_drewN (Below.refl _ _) nq)) (hk2.below (below_drewN (Below.refl _ _) nq)) (H3.out.later (below_drewN (Below.refl _ _) nq)) h4 (fun D hD => (H5.out D hD).1) (x := .int .i64 0) rfl fun W' k1 k2 => ?_
    exact ⟨0, l, rc, rfl, k1, k2, .inl ⟨rfl, rfl, HC.out, HRU.out, HR.out⟩⟩
  · rw [hr] at cr
    have hto : t ∈ ord := hmem.1 hr
    obtain ⟨p, p1, p2, p3, p4, p5⟩ := h2.way' hto
    have hl1 := least_le l p most
    have hl2 := least_room l p most
    have hl3 := least_pos l p most hm1 p4
    have hav := p2.avoid
    obtain ⟨m0, hm0⟩ : ∃ m0, least l p most = m0 := ⟨_, rfl⟩
    rw [hm0] at hl1 hl2 hl3
    have STEP4 : ∀ A', (∃ z', A' = { tmps := (fr91t nb u t N most wo t z').toArray, defers := marksOf Ds }) → ∀ W1, Below W.heap.size W W1 → blk4.wp Try.prog (fun e a w' => e = .normal ∧ Below W1.heap.size W1 w' ∧ ∃ z, a = { tmps := (fr91t nb u t N m0 wo u z).toArray, defers := marksOf Ds }) A' W1 := by
      rintro A' ⟨z', rfl⟩ W1 hb
      exact blk4_walk w W1 N B nb v l tk pl u t wo hl hs rc byL bkL vq g qu (h1.later hb) h2.n2 h2.n3 m0 (marksOf Ds) p.length _ W1 hu ⟨z', t, p, most, rfl, p1, hm0, fun s hs => (hav s hs).1, Below.refl _ _, rfl, by omega, by omega⟩
    have STEP6 : ∀ A', (∃ z', A' = { tmps := (fr91u nb u t N m0 wo t z').toArray, defers := marksOf Ds }) → ∀ W1, Below W.heap.size W W1 → blk6.wp Try.prog (fun e a w' => e = .normal ∧ PushW w w' N B nb v (pushes l p m0) tk pl rc byL bkL t Ds ∧ ∃ z, a = { tmps := (fr91u nb u t N m0 wo u z).toArray, defers := marksOf Ds }) A' W1 := by
      rintro A' ⟨z', rfl⟩ W1 hb
      have h1' := h1.later hb
      exact blk6_walk w N B nb v l (pushes l p m0) tk pl u t wo hs rc byL bkL h2.n2 h2.n3 m0 (by omega) (by omega) Ds p.length _ W1 hu ⟨z', t, p, l, rfl, p1, fun s hs => ⟨(hav s hs).1, rfl⟩, p3,
        ⟨h1'.net, h1'.glt, h1'.nlt, h1'.hN, h1'.b5, h1'.b7, h1'.byB, h1'.bkB, h1'.kept.mono fun k hk => .inl hk, H3.out.later hb⟩, hl, rfl, rfl⟩
    have HS4 := Lib.hid STEP4
    have HS6 := Lib.hid STEP6
    have HP := Lib.hid (show Wy l wo t p u ∧ (p.map Prod.fst).Nodup ∧ (∀ s ∈ p, m0 ≤ roomOf l s) ∧ 0 < m0 ∧ m0 ≤ most from ⟨p2, p3, hl2, hl3, hl1⟩)
    have HR := Lib.hid hr
    clear hr
    have HM := Lib.hid hmem
    clear hmem
    have HMU := Lib.hid hmemu
    clear hmemu
    clear STEP4 STEP6 hav hl2 p1 p2 p3 p4 p5 hm0 hto h2
    rw [rest91_eq]
    refine wp_seq ?_
    obtain ⟨R1, hR1⟩ : ∃ R1 : Act → World → Prop, (Code.seq (.seq r19 blk4) (.seq (.seq r23 blk6) e91)).wp Try.prog Q = R1 := ⟨_, rfl⟩
    rw [hR1]
    have HR1 := Lib.hid hR1
    clear hR1
    simp only [a91, rest91, Try.f91, Option.getD, codeL, codeR, fr91]
    go_wp2_with fail
    go_quiet (fail)
    go_wp2_with fail
    rw [← HR1.out]
    refine wp_seq (wp_seq ?_)
    obtain ⟨R2, hR2⟩ : ∃ R2 : Act → World → Prop, blk4.wp Try.prog (Exit.then ((Code.seq (.seq r23 blk6) e91).wp Try.prog Q) Q) = R2 := ⟨_, rfl⟩
    rw [hR2]
    have HR2 := Lib.hid hR2
    clear hR2
    simp only [r19, rest91, Try.f91, Option.getD, codeL, codeR]
    go_wp2_with fail
    rw [← HR2.out]
    have HB1 : Below W.heap.size W (W.drewN nq) := below_drewN (Below.refl _ _) nq
    refine wp_mono (HS4.out _ ?_ _ HB1) ?_
    · apply fr91t_act <;> rfl
    rintro e a w4 ⟨rfl, hb4, z4, rfl⟩
    have hB4 := HB1.trans (hb4.mono HB1.size)
    have d7 := (h1.later hB4).b7.cell 0
    simp only [List.getElem?_cons_zero] at d7
    clear c5 c7 cr
    refine wp_seq (wp_seq ?_)
    obtain ⟨R3, hR3⟩ : ∃ R3 : Act → World → Prop, blk6.wp Try.prog (Exit.then (e91.wp Try.prog Q) Q) = R3 := ⟨_, rfl⟩
    rw [hR3]
    have HR3 := Lib.hid hR3
    clear hR3
    simp only [r23, rest91, Try.f91, Option.getD, codeL, codeR, fr91t]
    go_wp2_with fail
    rw [← HR3.out]
    refine wp_mono (HS6.out _ ?_ _ hB4) ?_
    · apply fr91u_act <;> rfl
    rintro e a w6 ⟨rfl, hp6, z6, rfl⟩
    simp only [Exit.then, e91, rest91, Try.f91, Option.getD, codeL, codeR, fr91u]
    go_wp2_with fail
    rw [← HQ.out]
    refine aug_end hp6.hN hp6.net hp6.kept hp6.marks h4 (fun D hD => (H5.out D hD).1) (x := .int .i64 m0) rfl fun W' k1 k2 => ?_
    exact ⟨m0, _, rc, rfl, k1, k2, .inr ⟨p, HP.out.1, HP.out.2.1, HP.out.2.2.1, HP.out.2.2.2.1, HP.out.2.2.2.2, rfl⟩⟩

theorem blk91_walk (w : World) (N B nb : Nat) (v : Value) (l : List Ac) (tk pl u t : Nat) (wo most : Int) (hl : l.length ≤ 1000) (hs : Small l 1000000000000) (hE : Ends 36 l) (ht : t < 36) (m : Nat) (A : Act) (W : World)
    (hI : LoopI w N B nb v l tk pl u t wo most m A W) : blk91.wp Try.prog (fun e a w' => e = .normal ∧ Found w N B nb v l tk pl u t wo most a w') A W := by
  have e : blk91 = .block 0 (.loop rnd91) := rfl
  rw [e]
  exact wp_block (wp_loop_g (LoopI w N B nb v l tk pl u t wo most) m hI fun m a w' h => rnd91_walk w N B nb v l tk pl u t wo most hl hs hE ht m a w' h)

noncomputable def sc91 : Code := codeL (codeR (Try.f91.body.getD .skip))
noncomputable def m91 : Code := .seq blk91 rest91
noncomputable def c91 (n : Nat) : Code := match n with
  | 1 => codeL sc91 | 2 => codeL (codeR sc91) | 3 => codeL (codeR (codeR sc91)) | 4 => codeL (codeR (codeR (codeR sc91))) | _ => codeL (codeR (codeR (codeR (codeR sc91))))
theorem sc91_eq : sc91 = .seq (c91 1) (.seq (c91 2) (.seq (c91 3) (.seq (c91 4) (.seq (c91 5) (.seq (.label 0) m91))))) := rfl

set_option maxRecDepth 100000 in
set_option maxHeartbeats 1000000 in
theorem aug91 (B nb : Nat) (v : Value) (l : List Ac) (tk pl : Nat) (rc : List Bool) (u t : Nat) (most wo : Int) (w : World) (hnet : NetR w B nb v l tk pl rc) (hl : l.length ≤ 1000) (hs : Small l 1000000000000) (hE : Ends 36 l)
    (hu : u < 36) (ht : t < 36) (hut : u ≠ t) (hm : 0 < most) (hm2 : most ≤ 100000000000000) :
    Calls Try.prog 91 #[.pointer (some ⟨nb, 0, none⟩), .int .i64 u, .int .i64 t, .int .i64 most, .int .i64 wo] w (AugPost w B nb v l tk pl u t most wo) := by
  refine callsIn_wide (n := 9) |>.1 ?_
  refine callsIn_of_wp_marks Try.func91 rfl trivial ?_ rfl
  simp only [Try.ntmps91, List.size_toArray, List.length_cons, List.length_nil, Nat.reduceAdd, Nat.reduceSub, Array.replicate_succ, Array.replicate_zero, List.push_toArray, List.append_toArray, List.nil_append, List.cons_append]
  have z0 := hnet.box.lt
  refine wpIn_wide.2 ?_
  go_wp2_with fail
  have hbld : ∀ (w : World), (Instr.build 108 #[]).run Try.prog w = .ok (.agg (List.replicate 36 (Value.bool false)).toArray) w := fun w => by kernel_rfl
  have hinf : (Try.prog.info? 108).map (·.size) = some 36 := by kernel_rfl
  have hth : ∀ (o1 o2 : Obj), ((w.alloc o1).alloc o2).there nb 3 36 := fun o1 o2 j hj => by
    have hbx := (hnet.box.alloc o1).alloc o2
    refine ⟨?_, hbx.frozen _⟩
    rw [hbx.cell]
    have hlen : (netCells v tk pl rc).length = 39 := by simp [netCells, hnet.n36]
    rw [List.getElem?_eq_getElem (by omega)]; rfl
  have HTH := Lib.hid hth
  have HINF := Lib.hid hinf
  clear hth hinf
  have HONE := Lib.hid (show ((List.replicate 36 (Value.bool false)).toArray.all (·.oneCell')) = true by simp [Value.oneCell'])
  have HMID : ∀ A W, (∃ z, A = { tmps := (fr91 nb u t w.heap.size most wo z).toArray, defers := [] }) → ∀ byA bkA, byA.toList = (List.replicate 36 ((0, false) : St)).flatMap encS → bkA.toList = ints (List.replicate 36 0) → (∃ W1, ((w.alloc (.cells #[.pointer (some ⟨nb, 0, none⟩)] 90)).alloc (.cells #[.int .i64 t] 3)).setCells nb 3 (List.replicate 36 (.bool false)) = W1 ∧
      W = (((((W1.setCell ⟨nb, 3 + u, none⟩ (.bool true)).alloc (.cells byA 130)).alloc (.cells bkA 120)).alloc (.cells #[.int .i64 u] 3)).alloc (.cells #[.slice (some ⟨w.heap.size + 1 + 1 + 1 + 1, 0, none⟩) 1 1] 22))) →
      m91.wp Try.prog (Exit.noGoto (bodyPostM Fence.wide 9 Try.prog Try.f91 (AugPost w B nb v l tk pl u t most wo))) A W := by
    rintro A W ⟨z, rfl⟩ byA bkA hby hbk ⟨W1, hW1, rfl⟩
    have h := bfsw_start w B nb v l tk pl rc hnet t u byA bkA W1 hW1
    rw [hby, hbk] at h
    refine wp_seq (wp_mono (blk91_walk w w.heap.size B nb v l tk pl u t wo most hl hs hE ht 36 _ _ ⟨z, [], [], [u], _, _, _, _, _, rfl, ⟨h, Bfs.start l wo u hu _ _ (by simp) (by simp), by simp⟩, by simpa using Ne.symm hut, fun _ h => by simp at h, by simp, by simp, by simp⟩) ?_)
    rintro e a w' ⟨rfl, hf⟩
    exact rest91_walk w w.heap.size B nb v l tk pl u t wo most hl hs hE hu ht hm hm2 a w' hf hut
  obtain ⟨Q, hQ⟩ : ∃ Q, Exit.noGoto (bodyPostM Fence.wide 9 Try.prog Try.f91 (AugPost w B nb v l tk pl u t most wo)) = Q := ⟨_, rfl⟩
  rw [hQ] at HMID
  have HM := Lib.hid HMID
  clear HMID
  go_step3
  change sc91.wp Try.prog (Exit.noGoto (bodyPostM Fence.wide 9 Try.prog Try.f91 (AugPost w B nb v l tk pl u t most wo))) _ _
  rw [hQ, sc91_eq]
  have HQ := Lib.hid hQ
  clear hQ
  apply wp_seq_k; intro K0 hK0
  simp only [c91, sc91, Try.f91, Option.getD, codeL, codeR] at hK0 ⊢
  apply wp_region_lit
  iterate 4
    refine wpList_step (fun K1 hK1 => ?_)
    go_simp
    apply hK1; clear hK1 K1
  refine wpList_store_mid (by rfl) 108 (.tmp 23) (.tmp 21) (by rfl) nb 3 (List.replicate 36 (Value.bool false)).toArray (by rfl) (by rfl) (HTH.out _ _) HINF.out HONE.out ?_
  apply wpList_nil
  simp only [Exit.then]
  apply hK0; clear hK0 K0
  simp only [Act.put]
  obtain ⟨W1, hW1⟩ : ∃ W1, ((w.alloc (.cells #[.pointer (some ⟨nb, 0, none⟩)] 90)).alloc (.cells #[.int .i64 t] 3)).setCells nb 3 (List.replicate 36 (.bool false)) = W1 := ⟨_, rfl⟩
  obtain ⟨hz, hn1, hb5, hb7, hk1⟩ := start_facts w B nb v l tk pl rc hnet t W1 hW1
  rw [hW1]
  have HW1 := Lib.hid hW1
  clear hW1
  have x0 := hb5.cell 0
  simp only [List.getElem?_cons_zero] at x0
  have x1 : W1.cell? ⟨nb, 3 + u, none⟩ = some (.bool false) := by
    rw [hn1.box.cell, show 3 + u = u + 1 + 1 + 1 by omega]
    simp only [netCells, List.getElem?_cons_succ, List.getElem?_map, List.getElem?_replicate]
    rw [if_pos hu]; rfl
  have x2 := hn1.box.frozen
  have zn0 : nb < W1.heap.size := by omega
  have zn1 : nb < w.heap.size + 1 + 1 := by omega
  have zn2 : nb < w.heap.size + 1 + 1 + 1 := by omega
  have zn3 : nb < w.heap.size + 1 + 1 + 1 + 1 := by omega
  go_wp2_with fail
  go_step3
  go_wp2_with fail
  refine HM.out _ _ ?_ _ _ ?_ ?_ ⟨W1, HW1.out, rfl⟩
  · apply fr91_act <;> rfl
  · kernel_rfl
  · rfl
end Go.Proofs.Ytlakcghdehdeiaa

/- Walks: flood: as much flow from a node to another one as possible. -/
namespace Go.Proofs.Ytlakcghdehdeiaa
open Go Go.Proofs Go.RowKit Go.Shelf

/-- l' is l with m more flow from u to t, arc wo as it was. -/
structure Flow (l l' : List Ac) (u t : Nat) (wo m : Int) : Prop where
  shape : shp l' = shp l
  fits : Fits l → Fits l'
  ex : ∀ x, exc x l' = exc x l + (if t = x then m else 0) - (if u = x then m else 0)
  wo : ∀ i : Nat, (i : Int) = wo → l'[i]? = l[i]?
theorem Flow.refl (l : List Ac) (u t : Nat) (wo : Int) : Flow l l u t wo 0 := ⟨rfl, id, fun x => by simp, fun _ _ => rfl⟩
theorem Flow.trans {l l' l'' : List Ac} {u t : Nat} {wo m n : Int} (h : Flow l l' u t wo m) (k : Flow l' l'' u t wo n) : Flow l l'' u t wo (m + n) :=
  ⟨k.shape.trans h.shape, fun f => k.fits (h.fits f), fun x => by rw [k.ex, h.ex]; split <;> split <;> omega, fun i hi => (k.wo i hi).trans (h.wo i hi)⟩
theorem Flow.way {l : List Ac} {u t : Nat} {wo m : Int} {p : List St} (hw : Wy l wo t p u) (hn : (p.map Prod.fst).Nodup) (hr : ∀ s ∈ p, m ≤ roomOf l s) (h0 : 0 ≤ m) : Flow l (pushes l p m) u t wo m :=
  ⟨shp_pushes m p l, fun f => fits_pushes h0 f hn hr, fun x => exc_pushes x m hw, fun i hi => pushes_get_other fun s hs e => (hw.avoid s hs).2 (by rw [e]; exact hi)⟩

/-- The ranges are small. -/
def SmallS (l : List Ac) (c : Int) : Prop := ∀ a ∈ l, -c ≤ a.lo ∧ a.hi ≤ c
theorem SmallS.shp {c : Int} : ∀ {l l' : List Ac}, shp l' = shp l → SmallS l c → SmallS l' c
  | [], [], _, _ => fun _ h => by simp at h
  | [], _ :: _, h, _ => by simp [Ytlakcghdehdeiaa.shp] at h
  | _ :: _, [], h, _ => by simp [Ytlakcghdehdeiaa.shp] at h
  | a :: l, b :: l', h, hS => by
    simp only [Ytlakcghdehdeiaa.shp, List.map_cons, List.cons.injEq] at h
    obtain ⟨_, _, e3, e4⟩ := bare_eq h.1
    intro x hx
    rcases List.mem_cons.1 hx with rfl | hx
    · have := hS a (by simp); omega
    · exact SmallS.shp h.2 (fun y hy => hS y (by simp [hy])) x hx
theorem small_of {l : List Ac} {c : Int} (h : SmallS l c) (f : Fits l) : Small l c := fun a ha => by
  have h1 := h a ha
  have h2 := f a ha
  omega

def FloodPost (w : World) (B nb : Nat) (v : Value) (l : List Ac) (tk pl u t : Nat) (most wo : Int) (e : Ending) (w' : World) : Prop :=
  ∃ m l' rc', e = .returned (.int .i64 m) ∧ NetR w' B nb v l' tk pl rc' ∧ Kept (Mine nb v) w w' ∧ Flow l l' u t wo m ∧ 0 ≤ m ∧ m ≤ most ∧
    (m = most ∨ (Closed (fun x => rc'.getD x false) wo l' ∧ rc'.getD u false = true ∧ rc'.getD t false = false))

set_option maxRecDepth 100000 in
set_option maxHeartbeats 400000 in
theorem flood90 (B nb : Nat) (v : Value) (l : List Ac) (tk pl : Nat) (rc : List Bool) (u t : Nat) (most wo : Int) (w : World) (hnet : NetR w B nb v l tk pl rc) (hl : l.length ≤ 1000) (hs : SmallS l 1000000000000) (hf : Fits l) (hE : Ends 36 l)
    (hu : u < 36) (ht : t < 36) (hut : u ≠ t) (hm : 0 ≤ most) (hm2 : most ≤ 100000000000000) :
    Calls Try.prog 90 #[.pointer (some ⟨nb, 0, none⟩), .int .i64 u, .int .i64 t, .int .i64 most, .int .i64 wo] w (FloodPost w B nb v l tk pl u t most wo) := by
  have HNET := Lib.hid hnet
  have HS := Lib.hid hs
  have HF := Lib.hid hf
  have HE := Lib.hid hE
  clear hnet hs hf hE
  go_enter Try.func90, Try.ntmps90
  go_wp2_with fail
  go_loopw [11] (fun s wr => ∃ (m : Int) (l1 : List Ac) (rc1 : List Bool), s = .int .i64 m ∧ 0 ≤ m ∧ m ≤ most ∧ NetR wr B nb v l1 tk pl rc1 ∧ Kept (Mine nb v) w wr ∧ Flow l l1 u t wo m) (fun s _ => (most - intOf s).toNat)
  case atStart => exact ⟨0, l, rc, rfl, by omega, hm, HNET.out, Kept.refl _ _, Flow.refl l u t wo⟩
  case round =>
    obtain ⟨m, l1, rc1, rfl, h0, h1, hn, hk, hfl⟩ := hrel
    have HFL := Lib.hid hfl
    have hlen : l1.length = l.length := shp_length hfl.shape
    have HC := Lib.hid (fun (hlt : m < most) => aug91 B nb v l1 tk pl rc1 u t (most - m) wo wr hn (by omega) (small_of (HS.out.shp hfl.shape) (hfl.fits HF.out)) (shp_ends hfl.shape.symm HE.out) hu ht hut (by omega) (by omega))
    have HLEN := Lib.hid hlen
    clear hlen
    clear hfl
    by_cases hlt : m < most
    · go_wp2_with fail
      refine (HC.out hlt).mono ?_
      rintro e w1 ⟨m1, l2, rc2, rfl, hn2, hk2, (⟨rfl, rfl, c1, c2, c3⟩ | ⟨p, p1, p2, p3, p4, p5, rfl⟩)⟩
      · have HCC := Lib.hid (show Closed (fun x => rc2.getD x false) wo l2 ∧ rc2.getD u false = true ∧ rc2.getD t false = false from ⟨c1, c2, c3⟩)
        clear c1 c2 c3
        go_wp2_with fail
        go_ret
        exact ⟨m, l2, rc2, rfl, hn2, hk.trans hk2, HFL.out, h0, h1, .inr HCC.out⟩
      · have HFW := Lib.hid (Flow.way p1 p2 p3 (by omega))
        clear p1 p2 p3
        have hne : (m1 == 0) = false := beq_eq_false_iff_ne.2 (by omega)
        go_wp2_with fail
        go_roundw
        case rel => exact ⟨m + m1, _, rc2, rfl, by omega, by omega, hn2, hk.trans hk2, HFL.out.trans HFW.out⟩
        case measure => simp [intOf]; omega
    · obtain rfl : m = most := by omega
      go_wp2_with fail
      go_ret
      exact ⟨m, l1, rc1, rfl, hn, hk, HFL.out, h0, h1, .inl rfl⟩
end Go.Proofs.Ytlakcghdehdeiaa

/- The network of a book with a source and a sink: a flow that fills all arcs from the source gives a circulation; else what is reached is a cut. No program here. -/
namespace Go.Proofs.Ytlakcghdehdeiaa

theorem tot_shp (f : Ac → Int) (hf : ∀ a b : Ac, a.bare = b.bare → f a = f b) : ∀ {l l' : List Ac}, shp l = shp l' → tot f l = tot f l'
  | [], [], _ => rfl
  | [], _ :: _, h => by simp [shp] at h
  | _ :: _, [], h => by simp [shp] at h
  | a :: l, b :: l', h => by
    simp only [shp, List.map_cons, List.cons.injEq] at h
    simp only [tot]
    rw [hf a b h.1, tot_shp f hf h.2]
theorem tot_flatMap {α β : Type} (f : β → Int) (g : α → List β) (l : List α) : tot f (l.flatMap g) = tot (fun x => tot f (g x)) l := by
  induction l with
  | nil => rfl
  | cons x l ih => simp [tot, tot_append, ih]
theorem tot_range (f : Nat → Int) (n : Nat) : tot f (List.range n) = sumN n f := by
  induction n with
  | zero => rfl
  | succ n ih => rw [List.range_succ, tot_append, ih]; simp [tot, sumN]
theorem tot_zero {α : Type} (f : α → Int) (l : List α) (h : ∀ x ∈ l, f x = 0) : tot f l = 0 := by
  rw [tot_congr f (fun _ => 0) l h]
  induction l with
  | nil => rfl
  | cons x l ih => simp only [tot]; rw [ih fun y hy => h y (by simp [hy])]; rfl
/-- Terms none of which is below 0, and whose sum is 0. -/
theorem tot_nonneg_zero {α : Type} (f : α → Int) : ∀ (l : List α), (∀ x ∈ l, 0 ≤ f x) → tot f l ≤ 0 → ∀ x ∈ l, f x = 0
  | [], _, _, x, hx => by simp at hx
  | y :: l, h, h0, x, hx => by
    have h1 := h y (by simp)
    have h2 : 0 ≤ tot f l := by
      have := tot_le (fun _ => 0) f l fun z hz => h z (by simp [hz])
      rw [tot_zero (fun _ => 0) l fun _ _ => rfl] at this
      exact this
    simp only [tot] at h0
    rcases List.mem_cons.1 hx with rfl | hx
    · omega
    · exact tot_nonneg_zero f l (fun z hz => h z (by simp [hz])) (by omega) x hx
theorem tot_sub {α : Type} (f g : α → Int) (l : List α) : tot (fun x => f x - g x) l = tot f l - tot g l := by
  induction l with
  | nil => rfl
  | cons x l ih => simp only [tot, ih]; omega
theorem exc_append (x : Nat) (l l' : List Ac) : exc x (l ++ l') = exc x l + exc x l' := tot_append _ _ _
theorem cross_append (R : Nat → Bool) (l l' : List Ac) : cross R (l ++ l') = cross R l + cross R l' := tot_append _ _ _
theorem exc_far {n x : Nat} {l : List Ac} (h : Ends n l) (hx : n ≤ x) : exc x l = 0 := by
  unfold exc
  refine tot_zero _ _ fun a ha => ?_
  obtain ⟨h1, h2⟩ := h a ha
  unfold Ac.at
  rw [if_neg (by omega), if_neg (by omega)]; rfl
/-- All nodes together gain nothing. -/
theorem exc_all {n : Nat} {l : List Ac} (h : Ends n l) : sumN n (fun v => exc v l) = 0 := by
  have := sumN_cross n (fun _ => true) l h
  simp only [if_true] at this
  rw [this]
  unfold cross
  exact tot_zero _ _ fun a _ => by unfold Ac.into; simp
theorem sumN_one (n k : Nat) (c : Int) (hk : k < n) : sumN n (fun u => if u = k then c else 0) = c := by
  have := sumN_point n k c hk (fun _ => true)
  simp only [if_true] at this
  refine (sumN_congr _ _ _ fun v _ => ?_).trans this
  by_cases e : v = k
  · rw [if_pos e, if_pos e.symm]
  · rw [if_neg e, if_neg (Ne.symm e)]
theorem sumN_more (f : Nat → Int) (n m : Nat) (h : n ≤ m) (h0 : ∀ v, n ≤ v → v < m → f v = 0) : sumN m f = sumN n f := by
  induction m with
  | zero => obtain rfl : n = 0 := by omega
            rfl
  | succ m ih =>
    by_cases e : n = m + 1
    · rw [e]
    · simp only [sumN]
      rw [ih (by omega) fun v h1 h2 => h0 v h1 (by omega), h0 m (by omega) (by omega)]; omega

def Ac.full (a : Ac) : Ac := { a with fl := a.hi }
theorem full_shp : ∀ {l l' : List Ac}, shp l = shp l' → l.map Ac.full = l'.map Ac.full
  | [], [], _ => rfl
  | [], _ :: _, h => by simp [shp] at h
  | _ :: _, [], h => by simp [shp] at h
  | a :: l, b :: l', h => by
    simp only [shp, List.map_cons, List.cons.injEq] at h
    obtain ⟨e1, e2, e3, e4⟩ := bare_eq h.1
    simp only [List.map_cons, full_shp h.2]
    rw [show a.full = b.full by cases a; cases b; simp only [Ac.full] at *; simp_all]

section
variable (E : Nat → Int) (S T : Nat)
/-- The arc from the source to a node that has too much, or from one that lacks to the sink. -/
def extA (v : Nat) : List Ac := if 0 < E v then [⟨S, v, 0, E v, 0⟩] else if E v < 0 then [⟨v, T, 0, -E v, 0⟩] else []
def extras (k : Nat) : List Ac := (List.range k).flatMap (extA E S T)
theorem extras_succ (k : Nat) : extras E S T (k + 1) = extras E S T k ++ extA E S T k := by unfold extras; rw [List.range_succ, List.flatMap_append]; simp
def wantOf (k : Nat) : Int := sumN k fun v => if 0 < E v then E v else 0
theorem extras_mem {k : Nat} {a : Ac} (h : a ∈ extras E S T k) : ∃ v, v < k ∧ ((0 < E v ∧ a = ⟨S, v, 0, E v, 0⟩) ∨ (E v < 0 ∧ a = ⟨v, T, 0, -E v, 0⟩)) := by
  obtain ⟨v, hv, hm⟩ := List.mem_flatMap.1 h
  refine ⟨v, by simpa using hv, ?_⟩
  unfold extA at hm
  split at hm
  · exact .inl ⟨‹_›, by simpa using hm⟩
  · split at hm
    · exact .inr ⟨‹_›, by simpa using hm⟩
    · simp at hm
theorem extras_tot (f : Ac → Int) (k : Nat) : tot f (extras E S T k) = sumN k fun v => tot f (extA E S T v) := by
  unfold extras; rw [tot_flatMap, tot_range]
theorem extras_exc (x k : Nat) : exc x (extras E S T k) = 0 := by
  unfold exc
  refine tot_zero _ _ fun a ha => ?_
  obtain ⟨v, _, ⟨_, rfl⟩ | ⟨_, rfl⟩⟩ := extras_mem E S T ha <;> simp [Ac.at]
theorem map_extras (k : Nat) : (extras E S T k).map Ac.full = (List.range k).flatMap fun v => (extA E S T v).map Ac.full := by
  unfold extras; rw [List.map_flatMap]
theorem full_exc {v k : Nat} (hv : v < k) (hS : v ≠ S) (hT : v ≠ T) : exc v ((extras E S T k).map Ac.full) = E v := by
  unfold exc
  rw [map_extras, tot_flatMap, tot_range, ← sumN_one k v (E v) hv]
  refine sumN_congr _ _ _ fun u _ => ?_
  unfold extA
  by_cases e : u = v
  · subst e
    split
    · simp [tot, Ac.full, Ac.at, Ne.symm hS]
    · split
      · simp [tot, Ac.full, Ac.at, Ne.symm hT]
      · simp [tot]; omega
  · split
    · simp [tot, Ac.full, Ac.at, Ne.symm hS, e]
    · split
      · simp [tot, Ac.full, Ac.at, Ne.symm hT, e]
      · simp [tot, e]
theorem full_from {k : Nat} (hS : ¬ E S < 0) : tot (fun a => if a.fr = S then a.hi else 0) (extras E S T k) = wantOf E k := by
  rw [extras_tot]
  refine sumN_congr _ _ _ fun u _ => ?_
  unfold extA
  split
  · simp [tot]
  · split
    · have : u ≠ S := fun e => hS (by rw [← e]; assumption)
      simp [tot, this]
    · simp [tot]
theorem full_to {k : Nat} (hT : ¬ 0 < E T) : tot (fun a => if a.to = T then a.hi else 0) (extras E S T k) = sumN k fun v => if E v < 0 then -E v else 0 := by
  rw [extras_tot]
  refine sumN_congr _ _ _ fun u _ => ?_
  unfold extA
  split
  · have : u ≠ T := fun e => hT (by rw [← e]; assumption)
    rw [if_neg (by omega)]
    simp [tot, this]
  · split
    · simp [tot]
    · simp [tot]
theorem full_cross (R : Nat → Bool) (k : Nat) (hS : R S = true) (hT : R T = false) : cross R ((extras E S T k).map Ac.full) = sumN k fun u => if 0 < E u then (if R u = true then 0 else -E u) else if E u < 0 then (if R u = true then E u else 0) else 0 := by
  unfold cross
  rw [map_extras, tot_flatMap, tot_range]
  refine sumN_congr _ _ _ fun u _ => ?_
  unfold extA
  split
  · simp only [List.map_cons, List.map_nil, tot, Ac.full, Ac.into, hS, if_true]
    split <;> omega
  · split
    · simp only [List.map_cons, List.map_nil, tot, Ac.full, Ac.into, hT, if_false, Bool.false_eq_true]
      split <;> omega
    · simp [tot]
end

/-- The least that a cut lets in, whatever the flows. -/
def Ac.least (R : Nat → Bool) (a : Ac) : Int := (if R a.to = true ∧ R a.fr = false then a.lo else 0) - (if R a.fr = true ∧ R a.to = false then a.hi else 0)
def cutv (R : Nat → Bool) (l : List Ac) : Int := tot (Ac.least R) l
theorem cutv_shp (R : Nat → Bool) {l l' : List Ac} (h : shp l = shp l') : cutv R l = cutv R l' :=
  tot_shp _ (fun a b e => by obtain ⟨e1, e2, e3, e4⟩ := bare_eq e; unfold Ac.least; rw [e1, e2, e3, e4]) h
theorem cutv_le (R : Nat → Bool) (l : List Ac) (h : Fits l) : cutv R l ≤ cross R l := by
  refine tot_le _ _ _ fun a ha => ?_
  obtain ⟨h1, h2⟩ := h a ha
  unfold Ac.least Ac.into
  cases R a.fr <;> cases R a.to <;> simp <;> omega
theorem cutv_ge (R : Nat → Bool) (l : List Ac) (h : ∀ a ∈ l, a.tight R) : cross R l ≤ cutv R l := by
  refine tot_le _ _ _ fun a ha => ?_
  obtain ⟨h1, h2⟩ := h a ha
  unfold Ac.least Ac.into
  cases h3 : R a.fr <;> cases h4 : R a.to
  · simp
  · have := h2 h4 h3; simp; omega
  · have := h1 h3 h4; simp; omega
  · simp
/-- With a cut that lets in more than nothing there is no circulation. -/
theorem no_circ {n : Nat} {l l' : List Ac} {R : Nat → Bool} (hs : shp l' = shp l) (hE : Ends n l) (h : 0 < cutv R l) : ¬ Circ n l' := fun hc => by
  have h1 := cutv_le R l' hc.fits
  rw [hc.cross (shp_ends hs.symm hE) R, cutv_shp R hs] at h1
  omega

section
variable {n : Nat} {A l' : List Ac} {got : Int}
theorem split_shp {A X l' : List Ac} (h : shp l' = shp (A ++ X)) : ∃ A' X', l' = A' ++ X' ∧ A'.length = A.length ∧ shp A' = shp A ∧ shp X' = shp X := by
  have hl := shp_length h
  rw [List.length_append] at hl
  have e : shp (l'.take A.length ++ l'.drop A.length) = shp (A ++ X) := by rw [List.take_append_drop]; exact h
  unfold shp at e
  rw [List.map_append, List.map_append] at e
  obtain ⟨e1, e2⟩ := List.append_inj e (by simp; omega)
  exact ⟨_, _, (List.take_append_drop _ _).symm, by simp; omega, e1, e2⟩

variable (hE : Ends n A) (hn : n + 3 ≤ 36)
include hE hn
theorem want_neg : sumN 36 (fun v => if exc v A < 0 then -exc v A else 0) = wantOf (fun v => exc v A) 36 := by
  have h := exc_all hE
  have h2 : sumN 36 (fun v => exc v A) = 0 := by rw [sumN_more _ n 36 (by omega) fun v h1 _ => exc_far hE h1, h]
  have h3 : sumN 36 (fun v => (if 0 < exc v A then exc v A else 0) - (if exc v A < 0 then -exc v A else 0)) = sumN 36 (fun v => exc v A) :=
    sumN_congr _ _ _ fun v _ => by split <;> split <;> omega
  rw [sumN_sub] at h3
  unfold wantOf
  dsimp only
  omega

/-- Where all that can come from the source flows, the arcs before are a circulation. -/
theorem settle_ok (hs : shp l' = shp (A ++ extras (fun v => exc v A) (n + 1) (n + 2) 36)) (hf : Fits l') (hx : ∀ x, exc x l' = exc x (A ++ extras (fun v => exc v A) (n + 1) (n + 2) 36) + (if n + 2 = x then got else 0) - (if n + 1 = x then got else 0))
    (hg : got = wantOf (fun v => exc v A) 36) : ∃ A' X', l' = A' ++ X' ∧ A'.length = A.length ∧ shp A' = shp A ∧ Circ n A' := by
  obtain ⟨A', X', rfl, hl, hA, hX⟩ := split_shp hs
  refine ⟨A', X', rfl, hl, hA, fun a ha => hf a (List.mem_append_left _ ha), ?_⟩
  have hEA := shp_ends hA.symm hE
  have hfX : Fits X' := fun a ha => hf a (List.mem_append_right _ ha)
  have hends : ∀ a ∈ X', (a.fr = n + 1 ∧ a.to ≠ n + 1) ∨ (a.to = n + 2 ∧ a.fr ≠ n + 2 ∧ a.fr ≠ n + 1) := by
    intro a ha
    obtain ⟨i, hi, rfl⟩ := List.mem_iff_getElem.1 ha
    have hi2 := hi
    rw [shp_length hX] at hi2
    obtain ⟨e1, e2, _, _⟩ := bare_eq (shp_get hX i hi hi2)
    obtain ⟨v, hv, ⟨h1, h2⟩ | ⟨h1, h2⟩⟩ := extras_mem _ _ _ (List.getElem_mem hi2)
    · have hvn : v < n := Nat.lt_of_not_le fun h => by rw [exc_far hE h] at h1; omega
      rw [h2] at e1 e2
      exact .inl ⟨e1, by rw [e2]; dsimp only; omega⟩
    · have hvn : v < n := Nat.lt_of_not_le fun h => by rw [exc_far hE h] at h1; omega
      rw [h2] at e1 e2
      exact .inr ⟨e2, by rw [e1]; dsimp only; omega, by rw [e1]; dsimp only; omega⟩
  -- from the source
  have hS := hx (n + 1)
  rw [exc_append, exc_append, exc_far hEA (by omega), exc_far hE (by omega), extras_exc, if_neg (by omega), if_pos rfl] at hS
  have hS2 : exc (n + 1) X' = - tot (fun a => if a.fr = n + 1 then a.fl else 0) X' := by
    have : exc (n + 1) X' = tot (fun a => 0 - (if a.fr = n + 1 then a.fl else 0)) X' := tot_congr _ _ _ fun a ha => by
      unfold Ac.at
      rcases hends a ha with ⟨h1, h2⟩ | ⟨h1, h2, h3⟩
      · rw [if_neg h2]
      · rw [if_neg (by omega)]
    rw [this, tot_sub, tot_zero (fun _ => 0) X' fun _ _ => rfl]; omega
  have hS3 : tot (fun a => if a.fr = n + 1 then a.hi else 0) X' = wantOf (fun v => exc v A) 36 := by
    rw [tot_shp _ (fun a b e => by obtain ⟨e1, _, _, e4⟩ := bare_eq e; rw [e1, e4]) hX, full_from]
    rw [exc_far hE (by omega)]; omega
  have hS4 : ∀ a ∈ X', a.fr = n + 1 → a.fl = a.hi := by
    have h := tot_nonneg_zero (fun a : Ac => (if a.fr = n + 1 then a.hi else 0) - (if a.fr = n + 1 then a.fl else 0)) X' (fun a ha => by have := hfX a ha; split <;> omega) (by rw [tot_sub, hS3]; omega)
    intro a ha hfr
    have := h a ha
    simp only [hfr, if_true] at this
    omega
  -- to the sink
  have hT := hx (n + 2)
  rw [exc_append, exc_append, exc_far hEA (by omega), exc_far hE (by omega), extras_exc, if_pos rfl, if_neg (by omega)] at hT
  have hT2 : exc (n + 2) X' = tot (fun a => if a.to = n + 2 then a.fl else 0) X' := by
    refine tot_congr _ _ _ fun a ha => ?_
    unfold Ac.at
    rcases hends a ha with ⟨h1, h2⟩ | ⟨h1, h2, h3⟩
    · rw [if_neg (show a.fr ≠ n + 2 by omega)]; omega
    · rw [if_neg h2]; omega
  have hT3 : tot (fun a => if a.to = n + 2 then a.hi else 0) X' = wantOf (fun v => exc v A) 36 := by
    rw [tot_shp _ (fun a b e => by obtain ⟨_, e1, _, e4⟩ := bare_eq e; rw [e1, e4]) hX, full_to, want_neg hE hn]
    rw [exc_far hE (by omega)]; omega
  have hT4 : ∀ a ∈ X', a.to = n + 2 → a.fl = a.hi := by
    have h := tot_nonneg_zero (fun a : Ac => (if a.to = n + 2 then a.hi else 0) - (if a.to = n + 2 then a.fl else 0)) X' (fun a ha => by have := hfX a ha; split <;> omega) (by rw [tot_sub, hT3]; omega)
    intro a ha hto
    have := h a ha
    simp only [hto, if_true] at this
    omega
  have hfull : X' = X'.map Ac.full := by
    have : X'.map Ac.full = X'.map id := List.map_congr_left fun a ha => by
      have hfl : a.fl = a.hi := by
        rcases hends a ha with ⟨h1, _⟩ | ⟨h1, _⟩
        · exact hS4 a ha h1
        · exact hT4 a ha h1
      cases a; simp only [Ac.full, id] at *; rw [hfl]
    rw [this, List.map_id]
  intro x hx0
  have h := hx x
  rw [exc_append, exc_append, extras_exc, if_neg (by omega), if_neg (by omega), hfull, full_shp hX, full_exc _ _ _ (by omega) (by omega) (by omega)] at h
  omega

/-- Else what is reached is a cut. -/
theorem settle_cut {R : Nat → Bool} (hs : shp l' = shp (A ++ extras (fun v => exc v A) (n + 1) (n + 2) 36)) (hx : ∀ x, exc x l' = exc x (A ++ extras (fun v => exc v A) (n + 1) (n + 2) 36) + (if n + 2 = x then got else 0) - (if n + 1 = x then got else 0))
    (hg : got < wantOf (fun v => exc v A) 36) (hC : Closed R (-1) l') (hRS : R (n + 1) = true) (hRT : R (n + 2) = false) : 0 < cutv R A := by
  have htight : ∀ a ∈ l', a.tight R := fun a ha => by
    obtain ⟨i, hi, rfl⟩ := List.mem_iff_getElem.1 ha
    exact hC i hi (by omega)
  have hEX : Ends 36 (extras (fun v => exc v A) (n + 1) (n + 2) 36) := fun a ha => by
    obtain ⟨v, hv, ⟨_, rfl⟩ | ⟨_, rfl⟩⟩ := extras_mem _ _ _ ha <;> (dsimp only; omega)
  have hE' : Ends 36 l' := shp_ends hs.symm (fun a ha => by
    rcases List.mem_append.1 ha with ha | ha
    · have := hE a ha; omega
    · exact hEX a ha)
  have hcr := sumN_cross 36 R l' hE'
  obtain ⟨A', X', rfl, hl, hA, hX⟩ := split_shp hs
  have h1 := cutv_ge R A' fun a ha => htight a (List.mem_append_left _ ha)
  rw [cutv_shp R hA] at h1
  have h2 : cross R X' ≤ cross R ((extras (fun v => exc v A) (n + 1) (n + 2) 36).map Ac.full) := by
    rw [← full_shp hX]
    unfold cross
    rw [show tot (fun a => a.into R) (X'.map Ac.full) = tot (fun a => (a.full).into R) X' by
      clear h1 hcr hE' htight hC hx hs hl hX
      induction X' with
      | nil => rfl
      | cons y X' ih => simp only [List.map_cons, tot, ih]]
    refine tot_le _ _ _ fun a ha => ?_
    obtain ⟨t1, t2⟩ := htight a (List.mem_append_right _ ha)
    obtain ⟨i, hi, rfl⟩ := List.mem_iff_getElem.1 ha
    have hi2 := hi
    rw [shp_length hX] at hi2
    obtain ⟨e1, e2, _, _⟩ := bare_eq (shp_get hX i hi hi2)
    obtain ⟨v, hv, ⟨h3, h4⟩ | ⟨h3, h4⟩⟩ := extras_mem _ _ _ (List.getElem_mem hi2)
    · rw [h4] at e1 e2
      dsimp only at e1 e2
      rw [e1] at t1
      unfold Ac.into Ac.full
      dsimp only
      rw [e1, hRS]
      cases hR : R (X'[i]).to
      · have := t1 hRS hR; simp; omega
      · simp
    · rw [h4] at e1 e2
      dsimp only at e1 e2
      unfold Ac.into Ac.full
      dsimp only
      rw [e2, hRT]
      cases hR : R (X'[i]).fr
      · simp
      · have := t1 hR (by rw [e2]; exact hRT); simp; omega
  rw [full_cross _ _ _ R 36 hRS hRT] at h2
  rw [cross_append] at hcr
  have h3 : sumN 36 (fun v => if R v = true then exc v (A' ++ X') else 0) = sumN 36 (fun v => if R v = true then exc v A else 0) - got := by
    have e : sumN 36 (fun v => if R v = true then exc v (A' ++ X') else 0) = sumN 36 (fun v => (if R v = true then exc v A else 0) - (if R v = true then (if n + 1 = v then got else 0) else 0)) := sumN_congr _ _ _ fun v _ => by
      rw [hx v, exc_append, extras_exc]
      by_cases h : R v = true
      · simp only [h, if_true]
        rw [if_neg (fun e => by rw [← e, hRT] at h; cases h)]; omega
      · simp [h]
    rw [e, sumN_sub, sumN_point 36 (n + 1) got (by omega) R, hRS]; simp
  have h4 : sumN 36 (fun v => if R v = true then exc v A else 0) - (sumN 36 fun u => if 0 < exc u A then (if R u = true then 0 else -exc u A) else if exc u A < 0 then (if R u = true then exc u A else 0) else 0) = wantOf (fun v => exc v A) 36 := by
    rw [← sumN_sub]
    refine sumN_congr _ _ _ fun v _ => ?_
    dsimp only
    cases R v <;> simp <;> (repeat' split) <;> omega
  omega
end
end Go.Proofs.Ytlakcghdehdeiaa

/- A region that draws its order, as in text R, whose first operation is a move that may come at any time. -/
namespace Go
open Go.RowKit
section
variable {P : Program} {ops : Array Oper}
def Region.sinkB1 (ops : Array Oper) (n : Nat) : Bool :=
  (List.range n).all fun i => i == 0 || (List.range (n + 1)).any fun j => decide (i < j) && Region.waitsFor .any ops j i
theorem tail_waits1 {n : Nat} {listed : Array Bool} (hs : Region.sinkB1 ops n = true) (hc : Region.chainB .any ops n = true) (hn : n < ops.size) (inv : HeadInv .any ops n listed) :
    ∀ (d i : Nat), n - i = d → i < n → i ≠ 0 → listed.getD i true = false → ∀ t, n ≤ t → t ∉ Region.ready .any ops listed := by
  intro d
  induction d using Nat.strongRecOn with
  | _ d ih =>
    intro i hd hi hi0 hun t ht hr
    obtain ⟨_, ot, hot, hall⟩ := mem_ready.1 hr
    have htlt : t < ops.size := (Array.getElem?_eq_some_iff.1 hot).1
    by_cases htn : t = n
    · subst htn
      have h1 := List.all_eq_true.1 hs i (List.mem_range.2 hi)
      simp only [Bool.or_eq_true, beq_iff_eq, hi0, false_or] at h1
      obtain ⟨j, hj, hj2⟩ := List.any_eq_true.1 h1
      simp only [Bool.and_eq_true, decide_eq_true_eq] at hj2
      obtain ⟨oj, hoj, e, he, hb, hon⟩ := Region.waitsFor_spec hj2.2
      have hjle : j ≤ t := by have := List.mem_range.1 hj; omega
      by_cases hjt : j = t
      · subst hjt
        have : oj = ot := Option.some.inj (hoj.symm.trans hot)
        subst this
        have h2 := hall e he hb
        rw [hon, getD_both hun] at h2
        cases h2
      · cases hl : listed.getD j false with
        | true =>
          have h2 := inv.closed j oj hoj hl e he hb
          rw [hon, getD_both hun] at h2
          cases h2
        | false =>
          have hjs : j < listed.size := by rw [inv.size]; omega
          exact ih (t - j) (by omega) j rfl (by omega) (by omega) (getD_in hjs hl) t (Nat.le_refl _) hr
    · have h1 := List.all_eq_true.1 hc t (List.mem_range.2 htlt)
      simp only [Bool.or_eq_true, decide_eq_true_eq] at h1
      rcases h1 with h1 | h1
      · omega
      · obtain ⟨o', ho', e, he, hb, hon⟩ := Region.waitsFor_spec h1
        have : o' = ot := Option.some.inj (ho'.symm.trans hot)
        subst this
        have h2 := hall e he hb
        rw [hon, getD_both (inv.tail (t - 1) (by omega) (by omega))] at h2
        cases h2

def Region.flowB1 (ops : Array Oper) (n b : Nat) : Bool :=
  Region.noSelect ops && decide (n < ops.size) && decide (b < n) && Region.sinkB1 ops n && Region.chainB .any ops n && Region.seqB .any ops (ops.size - n) n (Region.marked ops.size n) &&
  ((List.range n).all fun i => match ops[i]? with | some o => o.after.all fun e => !Region.binds .any e || decide (e.on < i) | none => true) &&
  ((List.range n).all fun i => (List.range n).all fun j => Region.flowPair ops i j) &&
  (match ops[b]? with | some o => o.guard.isNone | none => false) &&
  ((List.range n).all fun i => i == b || Region.blindTo ops i b)
def Region.firstB (ops : Array Oper) : Bool := Region.noSelect ops && Region.free .any ops (Array.replicate ops.size false) 0 && (Region.ready .any ops (Array.replicate ops.size false)).contains 0
end

section
variable {P : Program} {l : List Oper} {n b : Nat} {ob : Oper} {W : World} {a0 A : Act} {bv : Nat → Value} {B : Nat → World → Prop} {Q : Exit → Act → World → Prop}

theorem flow_run1 (hB : Region.flowB1 l.toArray n b = true) (hob : l[b]? = some ob)
    (hq : ∀ Y : Later W, wpQuiet P l.toArray (fun w' => ∃ X : Later2 Y, w' = X.w) (fun a' => a' = A) (headsOf l n b) a0)
    (hb : ∀ w, Below W.heap.size W w → ∃ w', (execOp A.eval ob).run P w = .ok (.value (bv w.heap.size)) w' ∧ B w.heap.size w' ∧ Below w.heap.size w w')
    (hBp : ∀ g w w', B g w → Below w.heap.size w w' → B g w')
    (ht : ∀ g w, Below W.heap.size W w → B g w → wpList P l.toArray Q (l.drop n) (A.put ob.dst (bv g)) w) :
    ∀ (f : Nat) (U : List Nat) (listed : Array Bool) (a : Act) (w : World) (g : Nat), U.length = f → U.Nodup → (∀ i, i ∈ U ↔ i < n ∧ listed.getD i false = false) →
      Flow l.toArray n b ob W a0 A bv B listed a w g → listed.getD 0 false = true → wpAny P .any l.toArray Q (f + (l.toArray.size - n)) listed a w := by
  simp only [Region.flowB1, Bool.and_eq_true, decide_eq_true_eq, List.all_eq_true, List.mem_range] at hB
  obtain ⟨⟨⟨⟨⟨⟨⟨⟨⟨hsel, hn⟩, hbn⟩, hsink⟩, hchain⟩, hseq⟩, hedge⟩, hpair⟩, hguard⟩, hblind⟩ := hB
  have hn' : n ≤ l.length := by have h := hn; rw [List.size_toArray] at h; omega
  have hsz : l.toArray.size = l.length := by simp
  have hget : ∀ i : Nat, l.toArray[i]? = l[i]? := fun i => by simp
  have hselect := Region.noSelect_spec hsel
  have hpw : (headsOf l n b).Pairwise (fun o o' => ∀ t, o.dst = some t → o'.dst ≠ some t) := by
    rw [List.pairwise_iff_getElem]
    intro i j hi hj hij t ht
    obtain ⟨i', h1, h2, h3, h4⟩ := headsOf_from hbn hn' (List.getElem?_eq_getElem hi)
    obtain ⟨j', k1, k2, k3, k4⟩ := headsOf_from hbn hn' (List.getElem?_eq_getElem hj)
    exact Region.flowPair_dst (hpair i' h1 j' k1) (by rw [hget]; exact h3) (by rw [hget]; exact k3) (fun e => by subst e; omega) ht
  have hA := quiet_text _ _ (hq ⟨W, Below.refl _ _⟩) hpw
  have hAo : ∀ t, (∀ j o, j < n → l.toArray[j]? = some o → j ≠ b → o.dst ≠ some t) → A.tmps[t]? = a0.tmps[t]? := fun t h => hA.1 t fun o ho => by
    obtain ⟨q, hq'⟩ := List.mem_iff_getElem?.1 ho
    obtain ⟨j, h1, h2, h3, _⟩ := headsOf_from hbn hn' hq'
    exact h j o h1 (by rw [hget]; exact h3) h2
  have hAs := hA.2.1
  have hAd := hA.2.2.1
  have hobA : l.toArray[b]? = some ob := by rw [hget]; exact hob
  intro f
  induction f with
  | zero =>
    intro U listed a w g hU _ hUm hF hz
    obtain rfl : U = [] := List.eq_nil_of_length_eq_zero hU
    have hall : ∀ i, i < n → listed.getD i false = true := fun i hi => by
      cases h : listed.getD i false with
      | true => rfl
      | false => have := (hUm i).2 ⟨hi, h⟩; simp at this
    have hl : listed = Region.marked l.toArray.size n := by
      apply Array.ext_getElem?
      intro i
      by_cases hi : i < l.toArray.size
      · have hil : i < listed.size := by rw [hF.inv.size]; exact hi
        have e2 : (Region.marked l.toArray.size n)[i]? = some (decide (i < n)) := by
          rw [List.size_toArray] at hi
          unfold Region.marked
          simp [hi]
        rw [e2, Array.getElem?_eq_getElem hil]
        by_cases hin : i < n
        · have := hall i hin
          simp [hil] at this
          simp [this, hin]
        · have := hF.inv.tail i (by omega) hi
          simp [hil] at this
          simp [this, hin]
      · rw [Array.getElem?_eq_none (by rw [hF.inv.size]; omega), Array.getElem?_eq_none (by rw [List.size_toArray] at hi; unfold Region.marked; simp; omega)]
    have hbt := hall b hbn
    have ha : a = A.put ob.dst (bv g) := by
      have htm : a.tmps = (A.put ob.dst (bv g)).tmps := by
        apply Array.ext_getElem?
        intro t
        rw [put_get]
        by_cases hbd : ob.dst = some t
        · rw [if_pos hbd, hF.slotb t hbd, if_pos hbt]
          by_cases h : t < a0.tmps.size
          · rw [Array.getElem?_eq_getElem h, Array.getElem?_eq_getElem (by rw [hAs]; exact h)]; rfl
          · rw [Array.getElem?_eq_none (by omega), Array.getElem?_eq_none (by rw [hAs]; omega)] <;> rfl
        · rw [if_neg hbd]
          by_cases h : ∃ j o, j < n ∧ l.toArray[j]? = some o ∧ o.dst = some t
          · obtain ⟨j, o, h1, h2, h3⟩ := h
            have hjb : j ≠ b := fun e => by subst e; rw [hobA] at h2; cases h2; exact hbd h3
            rw [hF.slot j o t h1 h2 h3 hjb, if_pos (hall j h1)]
          · have h' : ∀ j o, j < n → l.toArray[j]? = some o → o.dst ≠ some t := fun j o h1 h2 h3 => h ⟨j, o, h1, h2, h3⟩
            rw [hF.other t h', hAo t fun j o h1 h2 _ => h' j o h1 h2]
      have hd : a.defers = (A.put ob.dst (bv g)).defers := by rw [put_defers, hAd, hF.defers]
      cases a; simp only at htm hd; cases hX : A.put ob.dst (bv g); rw [hX] at htm hd; simp only at htm hd; rw [htm, hd]
    rw [ha]
    have hdl : (l.drop n).length = l.toArray.size - n := by simp
    have := wpAny_of_seq (md := .any) (Q' := Q) (ops := l.toArray) (l.drop n) n listed (A.put ob.dst (bv g)) w (fun j => by simp [List.getElem?_drop]) (by rw [hdl, hl]; exact hseq) (ht g w hF.later (hF.box hbt))
    rw [hdl] at this
    rwa [Nat.zero_add]
  | succ f ih =>
    intro U listed a w g hU hnd hUm hF hz
    obtain ⟨i0, hi0, hleast⟩ := exists_least U (fun e => by rw [e] at hU; simp at hU)
    obtain ⟨hi0n, hi0u⟩ := (hUm i0).1 hi0
    have hin : ∀ i, i < n → i < listed.size := fun i hi => by rw [hF.inv.size]; omega
    have hready : i0 ∈ Region.ready .any l.toArray listed := by
      have hlt : i0 < l.toArray.size := by omega
      refine mem_ready.2 ⟨getD_in (hin _ hi0n) hi0u, l.toArray[i0], Array.getElem?_eq_getElem hlt, fun e he hbd => ?_⟩
      have h1 := hedge i0 hi0n
      rw [Array.getElem?_eq_getElem hlt] at h1
      simp only [Array.all_eq_true_iff_forall_mem] at h1
      have h2 := h1 e he
      simp only [hbd, Bool.not_true, Bool.false_or, decide_eq_true_eq] at h2
      cases h : listed.getD e.on false with
      | true => rfl
      | false =>
        have := hleast e.on ((hUm e.on).2 ⟨by omega, h⟩)
        omega
    rw [show f + 1 + (l.toArray.size - n) = (f + (l.toArray.size - n)) + 1 by omega]
    refine ⟨fun h => (by rw [h] at hready; cases hready), fun i hi => ?_⟩
    obtain ⟨hiu, o, ho, hdep⟩ := mem_ready.1 hi
    have hilt : i < n := Nat.lt_of_not_le fun h => tail_waits1 hsink hchain hn hF.inv _ i0 rfl hi0n (by intro e; rw [e, hz] at hi0u; cases hi0u) (getD_in (hin _ hi0n) hi0u) i h hi
    have hiU : i ∈ U := (hUm i).2 ⟨hilt, getD_both hiu⟩
    have hinv := hF.inv.set hi hilt
    have hlist : ∀ j, (listed.setIfInBounds i true).getD j false = if j = i then true else listed.getD j false := fun j => by
      by_cases h : j = i
      · subst h; rw [if_pos rfl]; simp [hin j hilt]
      · rw [if_neg h, getD_set_ne false (Ne.symm h)]
    have hUm' : ∀ j, j ∈ U.erase i ↔ j < n ∧ (listed.setIfInBounds i true).getD j false = false := fun j => by
      rw [hnd.mem_erase_iff, hUm j, hlist j]
      by_cases h : j = i
      · simp [h]
      · simp [h]
    have hlen' : (U.erase i).length = f := by rw [List.length_erase_of_mem hiU]; omega
    have hnd' := hnd.erase i
    -- what an operation looks at is as in the end
    have hseen : ∀ t ∈ o.looksAt l.toArray, ∀ j oj, j < n → l.toArray[j]? = some oj → oj.dst = some t → i ≠ j ∧ j < i ∧ listed.getD j false = true := by
      intro t ht j oj hj hoj hd
      have hne : i ≠ j := fun e => by
        subst e
        rw [ho] at hoj; cases hoj
        exact Region.flowPair_self (hpair i hilt i hilt) ho hd ht
      have h1 := Region.flowPair_looks (hpair i hilt j hj) ho hoj hne hd ht
      obtain ⟨o', ho', e, he, hbd, hon⟩ := Region.waitsFor_spec h1.2
      rw [ho] at ho'; cases ho'
      have := hdep e he hbd
      rw [hon] at this
      exact ⟨hne, h1.1, this⟩
    by_cases hib : i = b
    · subst hib
      rw [hobA] at ho; cases ho
      have hg : ob.guard = none := by rw [hobA] at hguard; simpa using hguard
      obtain ⟨w', hrun, hbox, hbel⟩ := hb w hF.later
      have hex : execOp a.eval ob = execOp A.eval ob := (seen_alike (ops := l.toArray) (fun cs bb => hselect i ob cs bb hobA) fun t htl => by
        by_cases h : ∃ j o, j < n ∧ l.toArray[j]? = some o ∧ o.dst = some t
        · obtain ⟨j, oj, h1, h2, h3⟩ := h
          obtain ⟨k1, k2, k3⟩ := hseen t htl j oj h1 h2 h3
          rw [hF.slot j oj t h1 h2 h3 (Ne.symm k1), if_pos k3]
        · have h' : ∀ j o, j < n → l.toArray[j]? = some o → o.dst ≠ some t := fun j o h1 h2 h3 => h ⟨j, o, h1, h2, h3⟩
          rw [hF.other t h', hAo t fun j o h1 h2 _ => h' j o h1 h2]).1
      unfold wpOp
      simp only [hobA]
      rw [if_pos (by simp [Region.wanted, hg])]
      refine .inl ?_
      unfold Oper.wp
      rw [hex, hrun]
      simp only [Oper.upon_value]
      refine ih (U.erase i) _ _ _ w.heap.size hlen' hnd' hUm' ⟨hinv, hF.later.trans (hbel.mono hF.later.size), by rw [put_size, hF.size], by rw [put_defers, hF.defers], ?_, ?_, ?_, fun _ => hbox⟩ (getD_set_true hz)
      · intro j oj t hj hoj hd hjb
        have hne : ob.dst ≠ some t := fun h => Region.flowPair_dst (hpair i hilt j hj) hobA hoj (Ne.symm hjb) h hd
        rw [put_get, if_neg hne, hF.slot j oj t hj hoj hd hjb, hlist j, if_neg hjb]
      · intro t hd
        rw [put_get, if_pos hd, hlist i, if_pos rfl, if_pos rfl, hF.slotb t hd, if_neg (by rw [getD_both hiu]; simp)]
      · intro t h
        rw [put_get, if_neg (h i ob hilt hobA), hF.other t h]
    · have hpos := headsOf_get hbn hn' hilt hib
      have hol : l[i]? = some o := by rw [← hget]; exact ho
      rw [hol] at hpos
      have hsplit : headsOf l n b = (headsOf l n b).take (posOf b i) ++ o :: (headsOf l n b).drop (posOf b i + 1) := by
        have hlt := (List.getElem?_eq_some_iff.1 hpos).1
        have e := (List.getElem?_eq_some_iff.1 hpos).2
        rw [← e, ← List.drop_eq_getElem_cons hlt, List.take_append_drop]
      obtain ⟨_, _, _, htext⟩ := quiet_text _ _ (hq ⟨w, hF.later⟩) hpw
      obtain ⟨ai, v, hy, t1, t2, t3⟩ := htext _ o _ hsplit
      have hal := seen_alike (ops := l.toArray) (o := o) (a := a) (a' := ai) (fun cs bb => hselect i o cs bb ho) fun t htl => by
        by_cases h : ∃ j o, j < n ∧ l.toArray[j]? = some o ∧ o.dst = some t
        · obtain ⟨j, oj, h1, h2, h3⟩ := h
          obtain ⟨k1, k2, k3⟩ := hseen t htl j oj h1 h2 h3
          by_cases hjb : j = b
          · -- nobody else looks at b's yield
            subst hjb
            have h4 := hblind i hilt
            simp only [Bool.or_eq_true, beq_iff_eq, hib, false_or] at h4
            exact absurd htl (Region.blindTo_spec h4 ho h2 h3)
          · rw [hF.slot j oj t h1 h2 h3 hjb, if_pos k3]
            refine (t1 t ⟨oj, ?_, h3⟩).symm
            have hjp := headsOf_get hbn hn' h1 hjb
            rw [← hget, h2] at hjp
            refine List.mem_of_getElem? (i := posOf b j) ?_
            rw [List.getElem?_take, if_pos (by unfold posOf; split <;> split <;> omega)]
            exact hjp
        · have h' : ∀ j o, j < n → l.toArray[j]? = some o → o.dst ≠ some t := fun j o h1 h2 h3 => h ⟨j, o, h1, h2, h3⟩
          rw [hF.other t h']
          refine (t2 t fun p hp => ?_).symm
          obtain ⟨q, hq'⟩ := List.mem_iff_getElem?.1 (List.mem_of_mem_take hp)
          obtain ⟨j, h1, h2, h3, _⟩ := headsOf_from hbn hn' hq'
          exact h' j p h1 (by rw [hget]; exact h3)
      have hy' := hy.of_same hal.1 hal.2
      have hqo := hy'.qOp (K := fun a' => a' = a.put o.dst v) ho rfl
      refine wpOp_of_qOp ⟨⟨w, Below.refl _ _⟩, rfl⟩ ?_ hqo
      rintro a' w' ⟨X, rfl⟩ rfl
      have hX := X.h
      refine ih (U.erase i) _ _ _ g hlen' hnd' hUm' ⟨hinv, hF.later.trans (hX.mono hF.later.size), by rw [put_size, hF.size], by rw [put_defers, hF.defers], ?_, ?_, ?_, ?_⟩ (getD_set_true hz)
      · intro j oj t hj hoj hd hjb
        rw [put_get, hlist j]
        by_cases hji : j = i
        · subst hji
          rw [ho] at hoj; cases hoj
          rw [if_pos hd, if_pos rfl, if_pos rfl, hF.slot j o t hj ho hd hjb, if_neg (by rw [getD_both hiu]; simp), t3 t hd]
        · have hne : o.dst ≠ some t := fun h => Region.flowPair_dst (hpair i hilt j hj) ho hoj (Ne.symm hji) h hd
          rw [if_neg hne, if_neg hji, hF.slot j oj t hj hoj hd hjb]
      · intro t hd
        have hne : o.dst ≠ some t := fun h => Region.flowPair_dst (hpair i hilt b hbn) ho hobA hib h hd
        rw [put_get, if_neg hne, hF.slotb t hd, hlist b, if_neg (Ne.symm hib)]
      · intro t h
        rw [put_get, if_neg (h i o hilt ho), hF.other t h]
      · intro h
        rw [hlist b, if_neg (Ne.symm hib)] at h
        exact hBp g w _ (hF.box h) hX


theorem run_move {a : Act} {o : Oper} {x : Operand} (h : o.op = .move x) (w : World) : (execOp a.eval o).run P w = .ok (.value (a.eval x)) w := by
  unfold execOp; rw [h]; simp

/-- The same where the first operation is a move that may come at any time. -/
theorem wp_region_flow1 {id : Nat} (n b : Nat) (ob : Oper) (k : Nat) (e : TypeId) (o0 : Oper) (x0 : Operand) (d0 : Tmp) (hb0 : 0 < b) (hm : P.follows .mixedOrders = true) (hB : Region.flowB1 l.toArray n b = true) (hF : Region.firstB l.toArray = true) (hob : l[b]? = some ob)
    (h0 : l[0]? = some o0) (h0o : o0.op = .move x0) (h0g : o0.guard = none) (h0d : o0.dst = some d0) (hpanic : ∀ c a w, Q (.panic c) (a.put (some d0) (a0.eval x0)) w → Q (.panic c) a w)
    (hh : ∃ A, (∀ Y : Later W, wpQuiet P l.toArray (fun w' => ∃ X : Later2 Y, w' = X.w) (fun a' => a' = A) (headsOf l n b) a0) ∧
      ∃ cs, (∀ w, (execOp A.eval ob).run P w = .ok (.value (.slice (some ⟨w.heap.size, 0, none⟩) k k)) (w.alloc (.cells cs e))) ∧
        ∀ g w, Below W.heap.size W w → W.heap.size ≤ g → w.heap[g]? = some (.cells cs e (0, 0)) → wpList P l.toArray Q (l.drop n) (A.put ob.dst (.slice (some ⟨g, 0, none⟩) k k)) w) :
    (Code.region id l.toArray true).wp P Q a0 W := by
  obtain ⟨A, hq, cs, hb, ht⟩ := hh
  refine wp_region_any hm ?_
  have hB' := hB
  simp only [Region.flowB1, Bool.and_eq_true, decide_eq_true_eq, List.all_eq_true, List.mem_range] at hB'
  obtain ⟨⟨⟨⟨⟨⟨⟨⟨⟨hsel, hn⟩, hbn⟩, hsink⟩, hchain⟩, hseq⟩, hedge⟩, hpair⟩, hguard⟩, hblind⟩ := hB'
  simp only [Region.firstB, Bool.and_eq_true] at hF
  obtain ⟨⟨_, hfree⟩, hready⟩ := hF
  have hn' : n ≤ l.length := by have h := hn; rw [List.size_toArray] at h; omega
  have h0A : l.toArray[0]? = some o0 := by simpa using h0
  have hget : ∀ i : Nat, l.toArray[i]? = l[i]? := fun i => by simp
  have hy : Yields P l.toArray o0 (a0.eval x0) a0 := .inl ⟨by simp [Region.wanted, h0g], fun w => run_move h0o w⟩
  obtain ⟨m, hm2⟩ : ∃ m, l.toArray.size = m + 1 := ⟨l.toArray.size - 1, by omega⟩
  rw [hm2]
  refine wpAny_take (i := 0) h0A hsel (by rw [hm2] at hfree; exact hfree) (by rw [hm2] at hready; exact hready) (by rw [h0d]; exact hpanic) hy ?_
  have hpw : (headsOf l n b).Pairwise (fun o o' => ∀ t, o.dst = some t → o'.dst ≠ some t) := by
    rw [List.pairwise_iff_getElem]
    intro i j hi hj hij t ht
    obtain ⟨i', h1, h2, h3, h4⟩ := headsOf_from hbn hn' (List.getElem?_eq_getElem hi)
    obtain ⟨j', k1, k2, k3, k4⟩ := headsOf_from hbn hn' (List.getElem?_eq_getElem hj)
    exact Region.flowPair_dst (hpair i' h1 j' k1) (by rw [hget]; exact h3) (by rw [hget]; exact k3) (fun e => by subst e; omega) ht
  -- what the first one yields is as in the end
  have hA0 : A.tmps[d0]? = a0.tmps[d0]?.map (fun _ => a0.eval x0) := by
    have hp0 := headsOf_get hbn hn' (show 0 < n by omega) (Ne.symm (by omega) : (0 : Nat) ≠ b)
    rw [show posOf b 0 = 0 by unfold posOf; rw [if_pos hb0], h0] at hp0
    have hsplit : headsOf l n b = [] ++ o0 :: (headsOf l n b).drop 1 := by
      have hlt := (List.getElem?_eq_some_iff.1 hp0).1
      have e := (List.getElem?_eq_some_iff.1 hp0).2
      rw [List.nil_append, ← e, ← List.drop_eq_getElem_cons hlt, List.drop_zero]
    obtain ⟨_, _, _, htext⟩ := quiet_text _ _ (hq ⟨W, Below.refl _ _⟩) hpw
    obtain ⟨ai, v, hyi, _, t2, t3⟩ := htext _ o0 _ hsplit
    have hev : ai.eval x0 = a0.eval x0 := by
      cases x0 with
      | tmp t => simp only [Act.eval, Array.getD_eq_getD_getElem?]; rw [t2 t (by simp)]
      | const v => rfl
      | global g => rfl
      | func f => rfl
    have hv : v = a0.eval x0 := by
      rcases hyi with ⟨_, hq2⟩ | ⟨hw, _⟩
      · have h1 := hq2 W ⟨⟨W, Below.refl _ _⟩, rfl⟩
        unfold Oper.quietAt at h1
        rw [run_move h0o, hev] at h1
        exact h1.2.symm
      · simp [Region.wanted, h0g] at hw
    rw [t3 d0 h0d, hv]
  have inv0 : HeadInv .any l.toArray n (Array.replicate l.toArray.size false) :=
    ⟨by simp, fun j oj _ hl => (by rw [getD_replicate_false] at hl; cases hl), fun t _ ht => getD_in (by simpa using ht) (getD_replicate_false _ _)⟩
  have hr0 : 0 ∈ Region.ready .any l.toArray (Array.replicate l.toArray.size false) := by simpa using hready
  have inv1 := inv0.set hr0 (show 0 < n by omega)
  have hl1 : ∀ j, ((Array.replicate l.toArray.size false).setIfInBounds 0 true).getD j false = decide (j = 0) := fun j => by
    by_cases h : j = 0
    · subst h
      rw [show ((Array.replicate l.toArray.size false).setIfInBounds 0 true).getD 0 false = true by simp; omega]; rfl
    · rw [getD_set_ne false (Ne.symm h), getD_replicate_false]; simp [h]
  have h := flow_run1 (W := W) (a0 := a0) (A := A) (bv := fun g => .slice (some ⟨g, 0, none⟩) k k) (B := fun g w => W.heap.size ≤ g ∧ w.heap[g]? = some (.cells cs e (0, 0))) (Q := Q) hB hob hq
    (fun w hw => ⟨_, hb w, ⟨hw.size, heap_alloc_new w _⟩, (Below.refl _ _).alloc (Nat.le_refl _) _⟩)
    (fun g w w' h hw => ⟨h.1, (hw.block g (Array.getElem?_eq_some_iff.1 h.2).1).trans h.2⟩)
    (fun g w hw h => ht g w hw h.1 h.2) (n - 1) ((List.range n).erase 0) ((Array.replicate l.toArray.size false).setIfInBounds 0 true) (a0.put o0.dst (a0.eval x0)) { W with drawn := W.drawn + 1 } 0 (by rw [List.length_erase_of_mem (List.mem_range.2 (by omega))]; simp) (List.nodup_range.erase _)
    (fun i => by
      rw [List.nodup_range.mem_erase_iff, List.mem_range, hl1 i]
      simp; omega)
    ⟨inv1, ⟨rfl, rfl, rfl, Nat.le_refl _, fun _ _ => rfl⟩, by rw [put_size], by rw [put_defers], ?_, ?_, ?_, ?_⟩ (by rw [hl1]; rfl)
  · rw [show n - 1 + (l.toArray.size - n) = m by omega] at h
    rw [hm2] at h
    exact h
  · intro j oj t hj hoj hd hjb
    rw [hl1 j, put_get]
    by_cases hj0 : j = 0
    · subst hj0
      rw [h0A] at hoj; cases hoj
      rw [if_pos hd, if_pos (by simp)]
      rw [h0d] at hd; cases hd
      exact hA0.symm
    · rw [if_neg (fun h => Region.flowPair_dst (hpair 0 (by omega) j hj) h0A hoj (Ne.symm hj0) h hd)]
      simp [hj0]
  · intro t hd
    rw [hl1 b, if_neg (by simp; omega), put_get, if_neg (fun h => Region.flowPair_dst (hpair 0 (by omega) b hbn) h0A (by rw [hget]; exact hob) (by omega) h hd)]
  · intro t h
    rw [put_get, if_neg (h 0 o0 (by omega) h0A)]
  · intro h
    rw [hl1 b] at h
    simp at h; omega
end
end Go

/- The network of a book: its arcs; settle's code in pieces; its first loop. -/
namespace Go.Proofs.Ytlakcghdehdeiaa
open Go Go.Proofs Go.RowKit

def tkAc (t : Tk) : Ac := ⟨(t.fr + 1).toNat, (t.to + 1).toNat, t.m.lo, t.m.hi, t.m.lo⟩
def stAc (p : Nat) (r : Rg) : Ac := ⟨p + 1, 0, r.lo, r.hi, r.lo⟩
def stTo (st : List Rg) (k : Nat) : List Ac := (List.range k).map fun p => stAc p (st.getD p default)
theorem stTo_succ (st : List Rg) (k : Nat) (h : k < st.length) : stTo st (k + 1) = stTo st k ++ [stAc k st[k]] := by
  unfold stTo; rw [List.range_succ, List.map_append]; simp [List.getD_eq_getElem?_getD, h]
/-- The arcs of a book, each with its least flow. -/
def arcsOf (b : Bk) : List Ac := b.ts.map tkAc ++ stTo b.st b.st.length

theorem Try.info106 : (Try.prog.info? 106).map (fun i => (i.zero, i.size, i.bytes)) = some (some (.agg #[.int .i64 0, .int .i64 0, .int .i64 0, .int .i64 0, .int .i64 0]), 5, 40) := by kernel_rfl

/-- 'append(s, x)' as a step of a region that draws its order, x one element in a row of its own at g. -/
theorem step_pushB {α : Type} (f : α → List Value) (sz bytes : Nat) (t e : TypeId) (z : Value) {P : Program} (hT : P.underlying t = some (.slice e)) (hI : (P.info? e).map (fun i => (i.zero, i.size, i.bytes)) = some (some z, sz, bytes))
    (hzs : z.cells.size = sz) (hsz : 0 < sz) (hby : bytes ≤ 1000) (hf : ∀ x, (f x).length = sz) (h1c : ∀ x, ∀ u ∈ f x, u.oneCell' = true)
    (l : List α) (x : α) (base : Nat) (w : World) (g : Nat) (cs : Array Value) (e' : TypeId) (hg : w.heap[g]? = some (.cells cs e' (0, 0))) (hcs : cs.toList = f x) (v : Value) (hown : Own f sz e w base v l) (hbase : base ≤ w.heap.size) (hlen : l.length ≤ 1000000)
    {ops : Array Oper} {o : Oper} {a : Act} {K : Act → World → Prop} {Q : Exit → Act → World → Prop} {E : Prop} (hgd : o.guard = none) (s y : Operand)
    (ho : o.op = .call { callee := .builtin .append, args := #[s, y], argTypes := #[t, t] }) (hs : a.eval s = v) (hy : a.eval y = .slice (some ⟨g, 0, none⟩) 1 1)
    (h : ∀ v' w', Own f sz e w' base v' (l ++ [x]) → w.grownBy w' v.ownBlock → K (a.put o.dst v') w') :
    if Region.wanted o (yielded ops a.tmps) = true then Oper.wp P o a w K Q else E := by
  have hw : Region.wanted o (yielded ops a.tmps) = true := by simp [Region.wanted, hgd]
  rw [if_pos hw]
  obtain ⟨i, hi, hz0, hz1, hz2⟩ := info_parts hI
  have hmul : (l.length + 1) * bytes ≤ 1000001 * 1000 := Nat.mul_le_mul (by omega) hby
  refine wp_append_own _ s y t ho base e i z sz bytes hT hi hz0 hz1 hz2 hzs hsz v l.length _ hs hown ⟨g, 0, none⟩ 1 1 (f x) hy (by rw [hf]; omega) ?_ (h1c x) (by simp [maxLen]; omega) (by omega) hbase ?_
  · intro j u hu
    rw [Addr.add_lit, Nat.zero_add, cell_of_row _ g j cs e' (0, 0) hg]
    rw [← hcs] at hu
    simpa using hu
  · intro v' w' ho' hg' _
    refine h v' w' ?_ hg'
    unfold Own
    rw [List.length_append, List.length_singleton, List.flatMap_append, List.flatMap_singleton]
    exact ho'
theorem Ac.encW_one (x : Ac) : ∀ u ∈ x.encW, u.oneCell' = true := by simp [Ac.encW, Value.oneCell']

/-- The shape of a valid book. -/
structure OkBk (b : Bk) : Prop where
  st32 : b.st.length ≤ 32
  ts128 : b.ts.length ≤ 128
  st : ∀ r ∈ b.st, -999999999 ≤ r.lo ∧ r.lo ≤ r.hi ∧ r.hi ≤ 999999999
  tk : ∀ t ∈ b.ts, -1 ≤ t.fr ∧ t.fr < b.st.length ∧ -1 ≤ t.to ∧ t.to < b.st.length ∧ t.fr ≠ t.to ∧ 0 ≤ t.m.lo ∧ t.m.lo ≤ t.m.hi ∧ t.m.hi ≤ 999999999
theorem okBk_of {b : Bk} (h : ckBook b = 0) : OkBk b := by
  obtain ⟨h1, h2, h3, h4⟩ := (ckBook_ok b).1 h
  refine ⟨h1, h3, fun r hr => ckRange_ok.1 (h2 r hr), fun t ht => ?_⟩
  obtain ⟨i, hi⟩ := List.mem_iff_getElem?.1 ht
  obtain ⟨_, _, p1, p2, p3, p4⟩ := ckTk_ok (h4 i t hi)
  have h5 := ckMass_ok.1 p4
  simp only [badPl, Bool.or_eq_false_iff, decide_eq_false_iff_not] at p1 p2
  exact ⟨by omega, by omega, by omega, by omega, p3, h5⟩

def fr72 (N : Nat) (s9 s10 s11 s14 s15 : Value) (z : Nat → Value) : List Value := [z 0, .pointer (some ⟨N, 0, none⟩), .pointer none, .bool false, .pointer (some ⟨N + 1, 0, none⟩), z 5, z 6, z 7, z 8, s9, s10, s11, z 12, z 13, s14, s15, z 16, z 17, z 18, z 19, z 20, z 21, z 22, z 23, z 24, z 25, z 26, z 27, z 28, z 29, z 30, z 31, z 32, z 33, z 34, z 35, z 36, z 37, z 38, z 39, z 40, z 41, z 42, z 43, z 44, z 45, z 46, z 47, z 48, z 49, z 50, z 51, z 52, z 53, z 54, z 55, z 56, z 57, z 58, z 59, z 60, z 61, z 62, z 63, z 64, z 65, z 66, z 67, z 68, z 69, z 70, z 71, z 72, z 73, z 74, z 75, z 76, z 77, z 78, z 79, z 80, z 81, z 82, z 83, z 84, z 85, z 86, z 87, z 88, z 89, z 90, z 91, z 92, z 93, z 94, z 95, z 96, z 97, z 98, z 99, z 100, z 101, z 102, z 103, z 104, z 105, z 106, z 107, z 108, z 109, z 110, z 111, z 112, z 113, z 114, z 115, z 116, z 117, z 118, z 119, z 120, z 121, z 122, z 123, z 124, z 125, z 126, z 127, z 128, z 129, z 130, z 131, z 132, z 133, z 134, z 135, z 136, z 137, z 138, z 139, z 140, z 141, z 142, z 143, z 144, z 145, z 146, z 147, z 148, z 149, z 150, z 151, z 152, z 153, z 154, z 155, z 156, z 157, z 158, z 159, z 160, z 161, z 162, z 163, z 164, z 165, z 166, z 167, z 168, z 169, z 170, z 171, z 172, z 173, z 174, z 175, z 176, z 177, z 178, z 179, z 180, z 181, z 182, z 183, z 184, z 185, z 186, z 187, z 188, z 189, z 190, z 191, z 192]
theorem fr72_of (N : Nat) (s9 s10 s11 s14 s15 : Value) (L : List Value) (hL : L.length = 193) (h1 : L[1]? = some (.pointer (some ⟨N, 0, none⟩))) (h2 : L[2]? = some (.pointer none)) (h3 : L[3]? = some (.bool false)) (h4 : L[4]? = some (.pointer (some ⟨N + 1, 0, none⟩))) (h9 : L[9]? = some (s9)) (h10 : L[10]? = some (s10)) (h11 : L[11]? = some (s11)) (h14 : L[14]? = some (s14)) (h15 : L[15]? = some (s15)) : ∃ z, L = fr72 N s9 s10 s11 s14 s15 z := by
  refine ⟨fun i => L.getD i undef, ?_⟩
  unfold fr72
  have e := list_range L 193 hL
  have e1 : L.getD 1 undef = .pointer (some ⟨N, 0, none⟩) := by rw [List.getD_eq_getElem?_getD, h1]; rfl
  have e2 : L.getD 2 undef = .pointer none := by rw [List.getD_eq_getElem?_getD, h2]; rfl
  have e3 : L.getD 3 undef = .bool false := by rw [List.getD_eq_getElem?_getD, h3]; rfl
  have e4 : L.getD 4 undef = .pointer (some ⟨N + 1, 0, none⟩) := by rw [List.getD_eq_getElem?_getD, h4]; rfl
  have e9 : L.getD 9 undef = s9 := by rw [List.getD_eq_getElem?_getD, h9]; rfl
  have e10 : L.getD 10 undef = s10 := by rw [List.getD_eq_getElem?_getD, h10]; rfl
  have e11 : L.getD 11 undef = s11 := by rw [List.getD_eq_getElem?_getD, h11]; rfl
  have e14 : L.getD 14 undef = s14 := by rw [List.getD_eq_getElem?_getD, h14]; rfl
  have e15 : L.getD 15 undef = s15 := by rw [List.getD_eq_getElem?_getD, h15]; rfl
  rw [← e1, ← e2, ← e3, ← e4, ← e9, ← e10, ← e11, ← e14, ← e15]
  exact e
theorem fr72_act (N : Nat) (s9 s10 s11 s14 s15 : Value) (A : Act) (ds : List Deferred) (hds : A.defers = ds) (hL : A.tmps.size = 193) (h1 : A.tmps[1]? = some (.pointer (some ⟨N, 0, none⟩))) (h2 : A.tmps[2]? = some (.pointer none)) (h3 : A.tmps[3]? = some (.bool false)) (h4 : A.tmps[4]? = some (.pointer (some ⟨N + 1, 0, none⟩))) (h9 : A.tmps[9]? = some (s9)) (h10 : A.tmps[10]? = some (s10)) (h11 : A.tmps[11]? = some (s11)) (h14 : A.tmps[14]? = some (s14)) (h15 : A.tmps[15]? = some (s15)) : ∃ z, A = { tmps := (fr72 N s9 s10 s11 s14 s15 z).toArray, defers := ds } := by
  obtain ⟨z, e⟩ := fr72_of N s9 s10 s11 s14 s15 A.tmps.toList (by rw [Array.length_toList]; exact hL) (by rw [Array.getElem?_toList]; exact h1) (by rw [Array.getElem?_toList]; exact h2) (by rw [Array.getElem?_toList]; exact h3) (by rw [Array.getElem?_toList]; exact h4) (by rw [Array.getElem?_toList]; exact h9) (by rw [Array.getElem?_toList]; exact h10) (by rw [Array.getElem?_toList]; exact h11) (by rw [Array.getElem?_toList]; exact h14) (by rw [Array.getElem?_toList]; exact h15)
  exact ⟨z, by cases A; subst hds; dsimp only at e ⊢; rw [← e]⟩


noncomputable def c72 : Code := Try.f72.body.getD .skip
noncomputable def p72a : Code := codeL (codeR (codeR c72))
noncomputable def p72b : Code := codeL (codeR (codeR (codeR c72)))
noncomputable def q72 : Code := codeR (codeR (codeR (codeR c72)))
theorem c72_eq : c72 = .seq (codeL c72) (.seq (codeL (codeR c72)) (.seq p72a (.seq p72b q72))) := rfl

/-- What settle has so far. -/
structure SetW (w W : World) (N : Nat) (v1 v2 v : Value) (b : Bk) (l : List Ac) : Prop where
  hN : N = w.heap.size
  book : BkR w w.heap.size v1 v2 b
  box : Box W N 38 [v1, v2]
  net : NetR W N (N + 1) v l b.ts.length b.st.length (List.replicate 36 false)
  ne : v.ownBlock ≠ some N
  below : Below N w W

theorem SetW.later {w W W' : World} {N : Nat} {v1 v2 v : Value} {b : Bk} {l : List Ac} (h : SetW w W N v1 v2 v b l) (hb : Below W.heap.size W W') : SetW w W' N v1 v2 v b l :=
  ⟨h.hN, h.book, h.box.later hb, h.net.later hb, h.ne, h.below.trans (hb.mono (by rw [h.hN]; rw [h.hN] at h; exact h.below.size))⟩
theorem Own.other_type {α : Type} {f : α → List Value} {sz : Nat} {e e' : TypeId} {w : World} {base : Nat} {v : Value} {l : List α} (h : Own f sz e w base v l) {k : Nat} {vs : List Value} (hb : Box w k e' vs) (hne : e' ≠ e) : v.ownBlock ≠ some k := fun he => by
  rcases h.2 with ⟨rfl, _⟩ | ⟨g, cap, cur, rfl, _, hg, _⟩
  · simp [Value.ownBlock] at he
  · obtain rfl : g = k := by simpa [Value.ownBlock] using he
    rw [show w.heap[g]? = _ from hb] at hg
    cases hg
    exact hne rfl
theorem SetW.pushed {w W0 w2 w' : World} {N : Nat} {v1 v2 v v' : Value} {b : Bk} {l l' : List Ac} (h : SetW w W0 N v1 v2 v b l) (hb : Below W0.heap.size W0 w2) (hg : w2.grownBy w' v.ownBlock) (hown : Own Ac.encW 5 106 w' N v' l') :
    SetW w (w'.setCell ⟨N + 1, 0, none⟩ v') N v1 v2 v' b l' := by
  have h2 := h.later hb
  have hbx := h2.box.grown hg (Ne.symm h2.ne)
  have hnb := h2.net.box.grown hg (Ne.symm h2.net.ne)
  have n1 := hown.other_type hbx (by decide)
  have n2 := hown.other_type hnb (by decide)
  refine ⟨h.hN, h.book, hbx.other _ (by dsimp only; omega), ⟨hnb.set 0 v', hown.other _ n2, n2, h.net.n36⟩, n1, ?_⟩
  have hN := h2.box.lt
  refine (h2.below.grown hg (by omega) fun k hk => ?_).setCell (by dsimp only; omega) _
  exact (World.ownsRow.lt h2.net.own k hk).1

set_option maxRecDepth 100000 in
set_option maxHeartbeats 1000000 in
theorem p72a_walk (w W : World) (N : Nat) (v1 v2 : Value) (b : Bk) (hok : OkBk b) (s9 s10 s11 s14 s15 : Value) (z : Nat → Value) (hw : SetW w W N v1 v2 (.slice none 0 0) b []) :
    p72a.wp Try.prog (fun e a W' => e = .normal ∧ (∃ z', a = { tmps := (fr72 N s9 s10 s11 s14 s15 z').toArray, defers := [] }) ∧ ∃ v, SetW w W' N v1 v2 v b (b.ts.map tkAc)) { tmps := (fr72 N s9 s10 s11 s14 s15 z).toArray, defers := [] } W := by
  obtain ⟨Q, hQ⟩ : ∃ Q : Exit → Act → World → Prop, (fun (e : Exit) (a : Act) (W' : World) => e = Exit.normal ∧ (∃ z', a = ({ tmps := (fr72 N s9 s10 s11 s14 s15 z').toArray, defers := [] } : Act)) ∧ ∃ v, SetW w W' N v1 v2 v b (b.ts.map tkAc)) = Q := ⟨_, rfl⟩
  rw [hQ]
  have HQ := Lib.hid hQ
  clear hQ
  have HOK := Lib.hid hok
  have HW := Lib.hid hw
  obtain ⟨⟨a1, n1, hv1, hl1, hA1⟩, ⟨a2, n2, hv2, hl2, hA2⟩, hids⟩ := hw.book
  subst hv1 hv2
  have d0 := hw.box.cell 0
  have d1 := hw.box.cell 1
  have dz := hw.box.lt
  simp only [List.getElem?_cons_zero, List.getElem?_cons_succ] at d0 d1
  have HA1 := Lib.hid hA1
  clear hA1
  have HA2 := Lib.hid hA2
  clear hA2
  have HIDS := Lib.hid hids
  clear hids
  have h128 := HOK.out.ts128
  clear hw hok
  simp only [p72a, c72, Try.f72, Option.getD, codeL, codeR, fr72]
  go_wp2_with fail
  go_loopw [30] (fun i wr => ∃ (k : Nat) (v : Value), k ≤ b.ts.length ∧ i = .int .i64 k ∧ SetW w wr N (.slice a1 b.st.length n1) (.slice a2 b.ts.length n2) v b ((b.ts.take k).map tkAc)) (fun i _ => b.ts.length - (intOf i).toNat)
  case atStart => exact ⟨0, _, by omega, rfl, HW.out⟩
  case round =>
    clear HW d0 d1 dz
    obtain ⟨k, v, hk, rfl, hw⟩ := hrel
    by_cases hlt : k < b.ts.length
    · obtain ⟨bb, off, rfl, hbb, hcells⟩ := HA2.out (by omega)
      have hbe : Below w.heap.size w wr := by rw [← hw.hN]; exact hw.below
      obtain ⟨e0, e1, e2, e3, e4⟩ := ((hcells k hlt).below hbe hbb).c5
      clear hcells HA2 hbe
      obtain ⟨m1, m2, m3, m4, m5, m6, m7, m8⟩ := HOK.out.tk b.ts[k] (List.getElem_mem hlt)
      have HTK := Lib.hid (take_snoc b.ts k hlt)
      generalize b.ts[k] = t at *
      obtain ⟨tid, fr, to, lo, hi⟩ := t
      dsimp only at *
      have d0 := hw.box.cell 0
      have d1 := hw.box.cell 1
      have dz := hw.box.lt
      have c0 := hw.net.toA.c0
      have zn := hw.net.box.lt
      have fn := hw.net.box.frozen
      simp only [List.getElem?_cons_zero, List.getElem?_cons_succ] at d0 d1
      go_wp2_with fail
      have hwA := hw.later ((Below.refl _ _).alloc (Nat.le_refl _) (.cells #[.string tid, .int .i64 fr, .int .i64 to, .int .i64 lo, .int .i64 hi] 53))
      have hbt := Box.new wr #[.string tid, .int .i64 fr, .int .i64 to, .int .i64 lo, .int .i64 hi] 53
      have hown := hw.net.own.alloc (.cells #[.string tid, .int .i64 fr, .int .i64 to, .int .i64 lo, .int .i64 hi] 53)
      have hnet := hw.net.alloc (.cells #[.string tid, .int .i64 fr, .int .i64 to, .int .i64 lo, .int .i64 hi] 53)
      have hbox := hw.box.alloc (.cells #[.string tid, .int .i64 fr, .int .i64 to, .int .i64 lo, .int .i64 hi] 53)
      have hbel := hw.below.alloc (by omega) (.cells #[.string tid, .int .i64 fr, .int .i64 to, .int .i64 lo, .int .i64 hi] 53)
      have hsz : wr.heap.size < (wr.alloc (.cells #[.string tid, .int .i64 fr, .int .i64 to, .int .i64 lo, .int .i64 hi] 53)).heap.size := by simp
      have c0' := hnet.toA.c0
      have f0' := hnet.box.frozen
      have n1' := hw.ne
      have n2' := hw.net.ne
      have n3' : v.ownBlock ≠ some wr.heap.size := fun e => by have := (World.ownsRow.lt hw.net.own _ e).2; omega
      generalize wr.alloc (.cells #[.string tid, .int .i64 fr, .int .i64 to, .int .i64 lo, .int .i64 hi] 53) = W0 at *
      have t0 := hbt.cell 0
      have t1 := hbt.cell 1
      have t2 := hbt.cell 2
      have t3 := hbt.cell 3
      have t4 := hbt.cell 4
      simp only [List.getElem?_cons_zero, List.getElem?_cons_succ] at t0 t1 t2 t3 t4
      have HTK2 := Lib.hid hw
      have f0'' := f0' 0
      clear hw c0 d0 d1 fn e0 e1 e2 e3 e4 f0'
      generalize wr.heap.size = Bt at *
      have HNET := Lib.hid hnet
      have HWA := Lib.hid hwA
      clear hwA
      have HT := Lib.hid Try.underlying107
      have HI := Lib.hid Try.info106
      have hlk : ((b.ts.take k).map tkAc).length ≤ 1000000 := by have := List.length_take_le k b.ts; simp; omega
      have HLK := Lib.hid hlk
      have HCS := Lib.hid (show (#[Value.int .i64 lo, .int .i64 hi, .int .i64 (fr + 1), .int .i64 (to + 1), .int .i64 lo] : Array Value).toList = Ac.encW (tkAc ⟨tid, fr, to, ⟨lo, hi⟩⟩) by
        simp only [Ac.encW, tkAc]
        rw [Int.toNat_of_nonneg (by omega), Int.toNat_of_nonneg (by omega)])
      have HBOX := Lib.hid hbox
      have HBEL := Lib.hid hbel
      have zN1 : N + 1 < W0.heap.size := by omega
      clear hown hlk hnet hbox hbel
      refine wp_region_noPanic ?_
      refine wp_region_flow1 18 17 _ 1 106 _ _ _ (by decide) (by kernel_rfl) (by kernel_rfl) (by kernel_rfl) rfl rfl rfl rfl rfl (fun _ _ _ h => h.elim) ?_
      apply Exists.intro
      refine ⟨fun Y => ?_, ?_⟩
      simp only [headsOf, List.take_succ_cons, List.drop_succ_cons, List.take_zero, List.drop_zero, Nat.reduceSub, List.cons_append, List.nil_append]
      repeat go_big_quiet_step (fail)
      exact wpQuiet_nil rfl
      apply Exists.intro
      refine ⟨fun w => ?_, fun g w2 hb2 hg2 hc2 => ?_⟩
      go_simp
      first | rfl | (go_ints; rfl)
      have HH := Lib.hid hb2
      have hnet2 := HNET.out.later hb2
      have q0 := hnet2.toA.c0
      have q1 := hnet2.box.frozen 0
      have q2 := hnet2.box.lt
      simp only [Act.put, List.setIfInBounds_toArray, List.set_cons_succ, List.set_cons_zero, List.drop_succ_cons, List.drop_zero]
      have hbase : N ≤ w2.heap.size := by omega
      have HBASE := Lib.hid hbase
      go_wp2_with (at_builtin; refine wpList_pushB Ac.encW 5 40 107 106 _ HT.out HI.out rfl (by decide) (by decide) Ac.encW_len Ac.encW_one _ (tkAc ⟨tid, fr, to, ⟨lo, hi⟩⟩) N w2 g _ _ hc2 HCS.out _ hnet2.own HBASE.out HLK.out rfl _ _ rfl rfl rfl ?_; intro v' w' hown' hg'; obtain ⟨a', cap', rfl⟩ := hown'.shape; have HOW := Lib.hid hown'; have HGR := Lib.hid hg'; have hbn := hnet2.box.grown hg' (Ne.symm n2'); have r0 := hbn.cell 0; have r1 := hbn.frozen 0; have r2 := hbn.lt; simp only [netCells, List.getElem?_cons_zero] at r0; clear hown' hg')
      refine NoPanic.normal ?_
      go_wp2_with fail
      go_roundw
      case rel =>
        refine ⟨k + 1, .slice a' (k + 1) cap', by omega, by go_num, ?_⟩
        rw [HTK.out, List.map_append]
        have hp := HWA.out.pushed HH.out HGR.out HOW.out
        rw [show ((b.ts.take k).map tkAc ++ [tkAc ⟨tid, fr, to, ⟨lo, hi⟩⟩]).length = k + 1 by simp; omega] at hp
        exact hp
      case measure => simp [intOf]; omega
    · obtain rfl : b.ts.length = k := by omega
      go_wp2_with fail
      rw [← HQ.out]
      refine ⟨rfl, ?_, v, by rw [List.take_length] at hw; exact hw⟩
      apply fr72_act <;> rfl
end Go.Proofs.Ytlakcghdehdeiaa

/- Walks: settle's second loop. -/
namespace Go.Proofs.Ytlakcghdehdeiaa
open Go Go.Proofs Go.RowKit

set_option maxRecDepth 100000 in
set_option maxHeartbeats 1000000 in
theorem p72b_walk (w W : World) (N : Nat) (v1 v2 v0 : Value) (b : Bk) (hok : OkBk b) (s9 s10 s11 s14 s15 : Value) (z : Nat → Value) (hw : SetW w W N v1 v2 v0 b (b.ts.map tkAc)) :
    p72b.wp Try.prog (fun (e : Exit) (a : Act) (W' : World) => e = .normal ∧ (∃ z', a = { tmps := (fr72 N s9 s10 s11 s14 s15 z').toArray, defers := [] }) ∧ ∃ v, SetW w W' N v1 v2 v b (arcsOf b)) { tmps := (fr72 N s9 s10 s11 s14 s15 z).toArray, defers := [] } W := by
  obtain ⟨Q, hQ⟩ : ∃ Q : Exit → Act → World → Prop, (fun (e : Exit) (a : Act) (W' : World) => e = Exit.normal ∧ (∃ z', a = ({ tmps := (fr72 N s9 s10 s11 s14 s15 z').toArray, defers := [] } : Act)) ∧ ∃ v, SetW w W' N v1 v2 v b (arcsOf b)) = Q := ⟨_, rfl⟩
  rw [hQ]
  have HQ := Lib.hid hQ
  clear hQ
  have HOK := Lib.hid hok
  have HW := Lib.hid hw
  obtain ⟨⟨a1, n1, hv1, hl1, hA1⟩, ⟨a2, n2, hv2, hl2, hA2⟩, hids⟩ := hw.book
  subst hv1 hv2
  have d0 := hw.box.cell 0
  have d1 := hw.box.cell 1
  have dz := hw.box.lt
  simp only [List.getElem?_cons_zero, List.getElem?_cons_succ] at d0 d1
  have HA1 := Lib.hid hA1
  clear hA1
  clear hA2 hids
  have h32 := HOK.out.st32
  have h128 := HOK.out.ts128
  clear hw hok
  simp only [p72b, c72, Try.f72, Option.getD, codeL, codeR, fr72]
  go_wp2_with fail
  go_loopw [59] (fun i wr => ∃ (k : Nat) (v : Value), k ≤ b.st.length ∧ i = .int .i64 k ∧ SetW w wr N (.slice a1 b.st.length n1) (.slice a2 b.ts.length n2) v b (b.ts.map tkAc ++ stTo b.st k)) (fun i _ => b.st.length - (intOf i).toNat)
  case atStart => exact ⟨0, _, by omega, rfl, by have h := HW.out; simp only [stTo, List.range_zero, List.map_nil, List.append_nil]; exact h⟩
  case round =>
    clear HW d0 d1 dz
    obtain ⟨k, v, hk, rfl, hw⟩ := hrel
    by_cases hlt : k < b.st.length
    · obtain ⟨bb, off, rfl, hbb, hcells⟩ := HA1.out (by omega)
      have hbe : Below w.heap.size w wr := by rw [← hw.hN]; exact hw.below
      obtain ⟨e0, e1⟩ := ((hcells k hlt).below hbe hbb).c2
      clear hcells HA1 hbe
      obtain ⟨m6, m7, m8⟩ := HOK.out.st b.st[k] (List.getElem_mem hlt)
      have HST := Lib.hid (stTo_succ b.st k hlt)
      generalize b.st[k] = r at *
      obtain ⟨lo, hi⟩ := r
      dsimp only at *
      have d0 := hw.box.cell 0
      have d1 := hw.box.cell 1
      have dz := hw.box.lt
      have zn := hw.net.box.lt
      simp only [List.getElem?_cons_zero, List.getElem?_cons_succ] at d0 d1
      go_wp2_with fail
      have hwA := hw.later ((Below.refl _ _).alloc (Nat.le_refl _) (.cells #[.int .i64 lo, .int .i64 hi] 24))
      have hbt := Box.new wr #[.int .i64 lo, .int .i64 hi] 24
      have hnet := hwA.net
      have hbel := hwA.below
      have hsz : wr.heap.size < (wr.alloc (.cells #[.int .i64 lo, .int .i64 hi] 24)).heap.size := by simp
      have c0' := hnet.toA.c0
      have n2' := hw.net.ne
      generalize wr.alloc (.cells #[.int .i64 lo, .int .i64 hi] 24) = W0 at *
      have t0 := hbt.cell 0
      have t1 := hbt.cell 1
      simp only [List.getElem?_cons_zero, List.getElem?_cons_succ] at t0 t1
      clear hw d0 d1 e0 e1
      generalize wr.heap.size = Bt at *
      have HNET := Lib.hid hnet
      have HWA := Lib.hid hwA
      have HT := Lib.hid Try.underlying107
      have HI := Lib.hid Try.info106
      have hlk : (b.ts.map tkAc ++ stTo b.st k).length ≤ 1000000 := by simp [stTo]; omega
      have HLK := Lib.hid hlk
      have HCS := Lib.hid (show (#[Value.int .i64 lo, .int .i64 hi, .int .i64 ((k : Int) + 1), .int .i64 0, .int .i64 lo] : Array Value).toList = Ac.encW (stAc k ⟨lo, hi⟩) from rfl)
      have zN1 : N + 1 < W0.heap.size := by omega
      clear hlk hnet hbel hwA
      refine wp_region_noPanic ?_
      refine wp_region_flow1 12 11 _ 1 106 _ _ _ (by decide) (by kernel_rfl) (by kernel_rfl) (by kernel_rfl) rfl rfl rfl rfl rfl (fun _ _ _ h => h.elim) ?_
      apply Exists.intro
      refine ⟨fun Y => ?_, ?_⟩
      simp only [headsOf, List.take_succ_cons, List.drop_succ_cons, List.take_zero, List.drop_zero, Nat.reduceSub, List.cons_append, List.nil_append]
      repeat go_big_quiet_step (fail)
      exact wpQuiet_nil rfl
      apply Exists.intro
      refine ⟨fun w => ?_, fun g w2 hb2 hg2 hc2 => ?_⟩
      go_simp
      first | rfl | (go_ints; rfl)
      have HH := Lib.hid hb2
      have hnet2 := HNET.out.later hb2
      have q0 := hnet2.toA.c0
      have q1 := hnet2.box.frozen 0
      have q2 := hnet2.box.lt
      simp only [Act.put, List.setIfInBounds_toArray, List.set_cons_succ, List.set_cons_zero, List.drop_succ_cons, List.drop_zero]
      have hbase : N ≤ w2.heap.size := by omega
      have HBASE := Lib.hid hbase
      go_wp2_with (at_builtin; refine wpList_pushB Ac.encW 5 40 107 106 _ HT.out HI.out rfl (by decide) (by decide) Ac.encW_len Ac.encW_one _ (stAc k ⟨lo, hi⟩) N w2 g _ _ hc2 HCS.out _ hnet2.own HBASE.out HLK.out rfl _ _ rfl rfl rfl ?_; intro v' w' hown' hg'; obtain ⟨a', cap', rfl⟩ := hown'.shape; have HOW := Lib.hid hown'; have HGR := Lib.hid hg'; have hbn := hnet2.box.grown hg' (Ne.symm n2'); have r0 := hbn.cell 0; have r1 := hbn.frozen 0; have r2 := hbn.lt; simp only [netCells, List.getElem?_cons_zero] at r0; clear hown' hg')
      refine NoPanic.normal ?_
      go_wp2_with fail
      go_roundw
      case rel =>
        refine ⟨k + 1, .slice a' (b.ts.length + ((stTo b.st k).length + 1)) cap', by omega, by go_num, ?_⟩
        rw [HST.out, ← List.append_assoc]
        have hp := HWA.out.pushed HH.out HGR.out HOW.out
        rw [show ((b.ts.map tkAc ++ stTo b.st k) ++ [stAc k ⟨lo, hi⟩]).length = b.ts.length + ((stTo b.st k).length + 1) by simp] at hp
        exact hp
      case measure => simp [intOf]; omega
    · obtain rfl : b.st.length = k := by omega
      go_wp2_with fail
      rw [← HQ.out]
      refine ⟨rfl, ?_, v, hw⟩
      apply fr72_act <;> rfl
end Go.Proofs.Ytlakcghdehdeiaa

/- Walks: settle: what comes to each node by the least flows. -/
namespace Go.Proofs.Ytlakcghdehdeiaa
open Go Go.Proofs Go.RowKit

def excV (l : List Ac) : List Value := (List.range 36).map fun v => .int .i64 (exc v l)
theorem excV_len (l : List Ac) : (excV l).length = 36 := by simp [excV]
theorem excV_get (l : List Ac) (v : Nat) (h : v < 36) : (excV l)[v]? = some (.int .i64 (exc v l)) := by simp [excV, h]
theorem exc_snoc (v : Nat) (l : List Ac) (a : Ac) : exc v (l ++ [a]) = exc v l + (if a.to = v then a.fl else 0) - (if a.fr = v then a.fl else 0) := by
  rw [exc_append]; unfold exc; simp only [tot, Ac.at]; omega
theorem excV_step (l : List Ac) (a : Ac) (h1 : a.fr < 36) (h2 : a.to < 36) (hne : a.fr ≠ a.to) :
    ((excV l).set a.to (.int .i64 (exc a.to l + a.fl))).set a.fr (.int .i64 (exc a.fr l - a.fl)) = excV (l ++ [a]) := by
  apply List.ext_getElem?
  intro v
  by_cases hv : v < 36
  · rw [excV_get _ v hv, exc_snoc]
    simp only [List.getElem?_set, List.length_set, excV_len]
    by_cases e1 : a.fr = v
    · subst e1; rw [if_pos rfl, if_pos h1, if_neg (Ne.symm hne), if_pos rfl]; simp
    · rw [if_neg e1]
      by_cases e2 : a.to = v
      · subst e2; rw [if_pos rfl, if_pos h2, if_pos rfl, if_neg e1]; simp
      · rw [if_neg e2, excV_get _ v hv, if_neg e2, if_neg e1]; simp
  · rw [List.getElem?_eq_none (by simp [excV_len]; omega), List.getElem?_eq_none (by rw [excV_len]; omega)]

theorem SetW.other {w W : World} {N X : Nat} {v1 v2 v : Value} {b : Bk} {l : List Ac} (h : SetW w W N v1 v2 v b l) {vs : List Value} (hx : Box W X 120 vs) (hX : N + 1 < X) (o : Nat) (u : Value) : SetW w (W.setCell ⟨X, o, none⟩ u) N v1 v2 v b l := by
  have hn := h.net.own.other_type hx (by decide)
  exact ⟨h.hN, h.book, h.box.other _ (by dsimp only; omega), ⟨h.net.box.other _ (by dsimp only; omega), h.net.own.other _ hn, h.net.ne, h.net.n36⟩, h.ne, h.below.setCell (by dsimp only; omega) _⟩
theorem SetW.drewN {w W : World} {N : Nat} {v1 v2 v : Value} {b : Bk} {l : List Ac} (h : SetW w W N v1 v2 v b l) (n : Nat) : SetW w (W.drewN n) N v1 v2 v b l := h.later (below_drewN (Below.refl _ _) n)

noncomputable def p72c : Code := .seq (codeL q72) (.seq (codeL (codeR q72)) (codeL (codeR (codeR q72))))
noncomputable def q72b : Code := codeR (codeR (codeR q72))
noncomputable def l72c : Code := codeL (codeR (codeR q72))

theorem arcs_props {b : Bk} (hok : OkBk b) {a : Ac} (h : a ∈ arcsOf b) : a.fr < b.st.length + 1 ∧ a.to < b.st.length + 1 ∧ a.fr ≠ a.to ∧ a.fl = a.lo ∧ -999999999 ≤ a.lo ∧ a.lo ≤ a.hi ∧ a.hi ≤ 999999999 := by
  rcases List.mem_append.1 h with h | h
  · obtain ⟨t, ht, rfl⟩ := List.mem_map.1 h
    have := hok.tk t ht
    simp only [tkAc]
    exact ⟨by omega, by omega, by omega, trivial, by omega, by omega, by omega⟩
  · obtain ⟨p, hp, rfl⟩ := List.mem_map.1 h
    have hp : p < b.st.length := by simpa using hp
    have := hok.st b.st[p] (List.getElem_mem hp)
    simp only [stAc, List.getD_eq_getElem?_getD, List.getElem?_eq_getElem hp, Option.getD_some]
    exact ⟨by omega, by omega, by omega, trivial, by omega, by omega, by omega⟩
theorem arcs_len (b : Bk) : (arcsOf b).length = b.ts.length + b.st.length := by simp [arcsOf, stTo]

set_option maxRecDepth 100000 in
set_option maxHeartbeats 1000000 in
theorem l72c_walk (w W : World) (N X : Nat) (v1 v2 v : Value) (b : Bk) (hok : OkBk b) (s9 s10 s14 s15 : Value) (z : Nat → Value) (hw : SetW w W N v1 v2 v b (arcsOf b)) (hx : Box W X 120 (excV [])) (hX : N + 1 < X) :
    l72c.wp Try.prog (fun (e : Exit) (a : Act) (W' : World) => e = .normal ∧ (∃ z', a = { tmps := (fr72 N s9 s10 (.pointer (some ⟨X, 0, none⟩)) s14 s15 z').toArray, defers := [] }) ∧ SetW w W' N v1 v2 v b (arcsOf b) ∧ Box W' X 120 (excV (arcsOf b)))
      { tmps := (fr72 N s9 s10 (.pointer (some ⟨X, 0, none⟩)) s14 s15 z).toArray, defers := [] } W := by
  obtain ⟨Q, hQ⟩ : ∃ Q : Exit → Act → World → Prop, (fun (e : Exit) (a : Act) (W' : World) => e = .normal ∧ (∃ z', a = ({ tmps := (fr72 N s9 s10 (.pointer (some ⟨X, 0, none⟩)) s14 s15 z').toArray, defers := [] } : Act)) ∧ SetW w W' N v1 v2 v b (arcsOf b) ∧ Box W' X 120 (excV (arcsOf b))) = Q := ⟨_, rfl⟩
  rw [hQ]
  have HQ := Lib.hid hQ
  clear hQ
  have HW := Lib.hid hw
  have HX := Lib.hid hx
  have hal := arcs_len b
  have h128 := hok.ts128
  have h32 := hok.st32
  have HP := Lib.hid (fun a (h : a ∈ arcsOf b) => arcs_props hok h)
  obtain ⟨ga, cap, hv⟩ := hw.net.own.shape
  have c0 := hw.net.toA.c0
  have zn := hw.net.box.lt
  rw [hv] at c0
  obtain ⟨l, hl⟩ : ∃ l, arcsOf b = l := ⟨_, rfl⟩
  rw [hl] at hal c0 HP HW hv HQ
  clear hl hok
  have hll : l.length ≤ 160 := by omega
  clear hal
  subst hv
  clear hw hx
  simp only [l72c, q72, c72, Try.f72, Option.getD, codeL, codeR, fr72]
  go_wp2_with fail
  go_loopw [95] (fun i wr => ∃ k : Nat, k ≤ l.length ∧ i = .int .i64 k ∧ SetW w wr N v1 v2 (.slice ga l.length cap) b l ∧ Box wr X 120 (excV (l.take k))) (fun i _ => l.length - (intOf i).toNat)
  case atStart => exact ⟨0, by omega, rfl, HW.out, by have h := HX.out; simpa using h⟩
  case round =>
    clear HW HX c0 zn
    obtain ⟨k, hk, rfl, hw, hx⟩ := hrel
    by_cases hlt : k < l.length
    · obtain ⟨g, cap', e1, hg, hgs⟩ := hw.net.own.form (by omega)
      cases e1
      obtain ⟨e0, e1, e2, e3, e4⟩ := (hw.net.own.at Ac.encW_len k hlt).c5
      obtain ⟨p1, p2, p3, p4, p5, p6, p7⟩ := HP.out l[k] (List.getElem_mem hlt)
      have HTK := Lib.hid (take_snoc l k hlt)
      have HST := Lib.hid (excV_step (l.take k) l[k] (by omega) (by omega) p3)
      have hb : ∀ v, -160000000000 ≤ exc v (l.take k) ∧ exc v (l.take k) ≤ 160000000000 := fun v => by
        have h := tot_bound (fun a => a.at v) 999999999 (l.take k) (fun a ha => by
          have := HP.out a (List.mem_of_mem_take ha)
          unfold Ac.at
          split <;> split <;> omega)
        have : ((l.take k).length : Int) ≤ 160 := by have := List.length_take_le k l; omega
        unfold exc
        omega
      generalize l[k] = a at *
      obtain ⟨fr, to, lo, hi, fl⟩ := a
      dsimp only at *
      subst p4
      obtain ⟨b1, b2⟩ := hb fr
      obtain ⟨b3, b4⟩ := hb to
      clear hb
      have x1 := hx.cell to
      have x2 := hx.cell fr
      rw [excV_get _ to (by omega)] at x1
      rw [excV_get _ fr (by omega)] at x2
      have fx := hx.frozen
      have zx := hx.lt
      go_wp2_with fail
      have hwA := hw.later ((Below.refl _ _).alloc (Nat.le_refl _) (.cells #[.int .i64 fl, .int .i64 hi, .int .i64 fr, .int .i64 to, .int .i64 fl] 106))
      have hxA := hx.alloc (.cells #[.int .i64 fl, .int .i64 hi, .int .i64 fr, .int .i64 to, .int .i64 fl] 106)
      have hbt := Box.new wr #[.int .i64 fl, .int .i64 hi, .int .i64 fr, .int .i64 to, .int .i64 fl] 106
      generalize wr.alloc (.cells #[.int .i64 fl, .int .i64 hi, .int .i64 fr, .int .i64 to, .int .i64 fl] 106) = W0 at *
      clear hw hx e0 e1 e2 e3 e4 x1 x2 fx
      generalize wr.heap.size = Bt at *
      have t0 := hbt.cell 0
      have t2 := hbt.cell 2
      have t3 := hbt.cell 3
      have x1 := hxA.cell to
      rw [excV_get _ to (by omega)] at x1
      have fx := hxA.frozen
      have zx2 := hxA.lt
      simp only [List.getElem?_cons_zero, List.getElem?_cons_succ] at t0 t2 t3
      refine wp_region_head_drew 9 (by kernel_rfl) (by kernel_rfl) ?_
      simp only [List.take_succ_cons, List.take_zero, List.drop_succ_cons, List.drop_zero]
      repeat go_big_quiet_step (fail)
      refine wpQuiet_nil ?_
      rintro _ ⟨nq, rfl⟩
      go_wp2_with fail
      have hxB := (hxA.later (below_drewN (Below.refl _ _) nq)).set to (.int .i64 (exc to (l.take k) + fl))
      have hwB := (hwA.drewN nq).other (hxA.later (below_drewN (Below.refl _ _) nq)) hX to (.int .i64 (exc to (l.take k) + fl))
      have hbB := (hbt.later (below_drewN (Below.refl _ _) nq)).other (a := ⟨X, to, none⟩) (.int .i64 (exc to (l.take k) + fl)) (fun e => by
        have h1 : W0.heap[Bt]? = _ := hbt
        have h2 : W0.heap[X]? = _ := hxA
        have e' : X = Bt := e
        rw [e', h1] at h2
        injection h2 with h3
        injection h3 with _ h4 _
        exact absurd h4 (by decide))
      generalize (W0.drewN nq).setCell ⟨X, to, none⟩ (.int .i64 (exc to (l.take k) + fl)) = W1 at *
      clear nq
      clear x1 fx zx2 t0 t2 t3 hwA hxA hbt
      have t0 := hbB.cell 0
      have t1 := hbB.cell 1
      have t2 := hbB.cell 2
      have x2 := hxB.cell fr
      rw [List.getElem?_set_ne (Ne.symm p3), excV_get _ fr (by omega)] at x2
      have fx := hxB.frozen
      have zx2 := hxB.lt
      simp only [List.getElem?_cons_zero, List.getElem?_cons_succ] at t0 t1 t2
      refine wp_region_head_drew 9 (by kernel_rfl) (by kernel_rfl) ?_
      simp only [List.take_succ_cons, List.take_zero, List.drop_succ_cons, List.drop_zero]
      repeat go_big_quiet_step (fail)
      refine wpQuiet_nil ?_
      rintro _ ⟨nq, rfl⟩
      go_wp2_with fail
      go_roundw
      case rel =>
        refine ⟨k + 1, by omega, by go_num, (hwB.drewN nq).other (hxB.later (below_drewN (Below.refl _ _) nq)) hX fr _, ?_⟩
        rw [HTK.out, ← HST.out]
        exact (hxB.later (below_drewN (Below.refl _ _) nq)).set fr _
      case measure => simp [intOf]; omega
    · obtain rfl : l.length = k := by omega
      rw [List.take_length] at hx
      go_wp2_with fail
      rw [← HQ.out]
      refine ⟨rfl, ?_, hw, hx⟩
      apply fr72_act <;> rfl
end Go.Proofs.Ytlakcghdehdeiaa
