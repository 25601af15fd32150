/- Lemmas on the way to the law TopChanges (part 5): WNl WNm WNn -/
import Derived.Test.YtflchbejjofppaaGreatDoorTopChangesP04
import Derived.StillTailTactics
set_option linter.unusedVariables false
set_option linter.unusedSimpArgs false

/- Walks: one round of a network's search; the search. -/
namespace Go.Proofs.YtflchbejjofppaaGreatDoor
open Go Go.Proofs Go.RowKit Go.Shelf
def LoopI (w : World) (N B nb : Nat) (v : Value) (l : List Ac) (tk pl u t : Nat) (wo most : Int) (m : Nat) (A : Act) (W : World) : Prop :=
  ∃ z Ds dn qu g rc byL bkL vq, A = { tmps := (fr91 nb u t N most wo z).toArray, defers := marksOf Ds } ∧ Srch w N B nb v l tk pl u t wo W g rc byL bkL dn qu vq ∧ t ∉ dn ++ qu ∧ MarksIn W Ds ∧ Ds.Nodup ∧ (∀ D ∈ Ds, N ≤ D ∧ D < W.heap.size) ∧ m = 36 - dn.length
def Found (w : World) (N B nb : Nat) (v : Value) (l : List Ac) (tk pl u t : Nat) (wo most : Int) (A : Act) (W : World) : Prop :=
  ∃ z Ds g rc byL bkL ord qu vq, A = { tmps := (fr91 nb u t N most wo z).toArray, defers := marksOf Ds } ∧ BfsW w W N B nb v l tk pl t rc (byL.flatMap encS) (ints bkL) vq g qu ∧ Bfs l wo u rc byL bkL ord ∧ MarksIn W Ds ∧ Ds.Nodup ∧ (∀ D ∈ Ds, N ≤ D ∧ D < W.heap.size) ∧
    (t ∈ ord ∨ (t ∉ ord ∧ ∀ a ∈ ord, ∀ y ∈ stepsTo l a wo l.length, y.2 ∈ ord))
theorem rnd_world {w W : World} {N B nb : Nat} {v : Value} {l : List Ac} {tk pl t : Nat} {rc : List Bool} {byC bkC : List Value} {vq vq' : Value} {g : Nat} {qu qu' : List Nat} (hw : BfsW w W N B nb v l tk pl t rc byC bkC vq g qu) (hq : QuR W g vq' qu') (a : Nat) (wo : Int) (Ds : List Nat) (hm : MarksIn W Ds) :
    BfsW w (((((W.setCell ⟨N + 1 + 1 + 1 + 1 + 1, 0, none⟩ vq').alloc (.cells #[.int .i64 a] 3)).alloc (.cells #[.pointer (some ⟨nb, 0, none⟩)] 66)).alloc (.cells #[.int .i64 a] 3)).alloc (.cells #[.int .i64 wo] 3)) N B nb v l tk pl t rc byC bkC vq' g qu' ∧
    ItR (((((W.setCell ⟨N + 1 + 1 + 1 + 1 + 1, 0, none⟩ vq').alloc (.cells #[.int .i64 a] 3)).alloc (.cells #[.pointer (some ⟨nb, 0, none⟩)] 66)).alloc (.cells #[.int .i64 a] 3)).alloc (.cells #[.int .i64 wo] 3)) (W.heap.size + 1) B nb v l a wo ∧
    Box (((((W.setCell ⟨N + 1 + 1 + 1 + 1 + 1, 0, none⟩ vq').alloc (.cells #[.int .i64 a] 3)).alloc (.cells #[.pointer (some ⟨nb, 0, none⟩)] 66)).alloc (.cells #[.int .i64 a] 3)).alloc (.cells #[.int .i64 wo] 3)) W.heap.size 3 [.int .i64 a] ∧
    MarksIn (((((W.setCell ⟨N + 1 + 1 + 1 + 1 + 1, 0, none⟩ vq').alloc (.cells #[.int .i64 a] 3)).alloc (.cells #[.pointer (some ⟨nb, 0, none⟩)] 66)).alloc (.cells #[.int .i64 a] 3)).alloc (.cells #[.int .i64 wo] 3)) Ds ∧
    W.heap.size ≤ (((((W.setCell ⟨N + 1 + 1 + 1 + 1 + 1, 0, none⟩ vq').alloc (.cells #[.int .i64 a] 3)).alloc (.cells #[.pointer (some ⟨nb, 0, none⟩)] 66)).alloc (.cells #[.int .i64 a] 3)).alloc (.cells #[.int .i64 wo] 3)).heap.size := by
  have hlt := hw.bq.lt
  have h1 := (hw.setQ hq).alloc (.cells #[.int .i64 a] 3)
  have hb := Box.newAt (W.setCell ⟨N + 1 + 1 + 1 + 1 + 1, 0, none⟩ vq') #[.int .i64 a] 3 (n := W.heap.size) (by simp [World.setCell])
  have hm1 := (hm.keeps (KeepsOthers.setCell W ⟨N + 1 + 1 + 1 + 1 + 1, 0, none⟩ vq')).keeps (KeepsOthers.alloc _ (.cells #[.int .i64 a] 3))
  have hz : ((W.setCell ⟨N + 1 + 1 + 1 + 1 + 1, 0, none⟩ vq').alloc (.cells #[.int .i64 a] 3)).heap.size = W.heap.size + 1 := by simp [World.setCell]
  generalize (W.setCell ⟨N + 1 + 1 + 1 + 1 + 1, 0, none⟩ vq').alloc (.cells #[.int .i64 a] 3) = P at *
  have h2 := ((h1.alloc (.cells #[.pointer (some ⟨nb, 0, none⟩)] 66)).alloc (.cells #[.int .i64 a] 3)).alloc (.cells #[.int .i64 wo] 3)
  refine ⟨h2, ⟨((Box.newAt P _ 66 hz).alloc _).alloc _, (Box.newAt (P.alloc _) _ 3 (by simp [hz])).alloc _, Box.newAt _ _ 3 (by simp [hz]), h2.net.toA⟩, ((hb.alloc _).alloc _).alloc _, ((hm1.keeps (KeepsOthers.alloc _ _)).keeps (KeepsOthers.alloc _ _)).keeps (KeepsOthers.alloc _ _), by simp [hz]; omega⟩
set_option maxRecDepth 100000 in
set_option maxHeartbeats 1000000 in
theorem rnd91_walk (w : World) (N B nb : Nat) (v : Value) (l : List Ac) (tk pl u t : Nat) (wo most : Int) (hl : l.length ≤ 1000) (hs : Small l 1000000000000) (hE : Ends 36 l) (ht : t < 36) (m : Nat) (A : Act) (W : World)
    (hI : LoopI w N B nb v l tk pl u t wo most m A W) :
    rnd91.wp Tryz.prog (Exit.then (fun a' w' => ∃ m', m' < m ∧ LoopI w N B nb v l tk pl u t wo most m' a' w') (Exit.inBlock 0 (fun e a w' => e = .normal ∧ Found w N B nb v l tk pl u t wo most a w'))) A W := by
  obtain ⟨z, Ds, dn, qu, g, rc, byL, bkL, vq, rfl, ⟨h1, h2, h3⟩, h4, h5, h6, h7, rfl⟩ := hI
  obtain ⟨Q, hQ⟩ : ∃ Q, Exit.then (fun a' w' => ∃ m', m' < 36 - dn.length ∧ LoopI w N B nb v l tk pl u t wo most m' a' w') (Exit.inBlock 0 (fun e a w' => e = .normal ∧ Found w N B nb v l tk pl u t wo most a w')) = Q := ⟨_, rfl⟩
  rw [hQ]
  have HQ := Lib.hid hQ
  clear hQ
  have H3 := Lib.hid h3
  have H4 := Lib.hid h4
  have H5 := Lib.hid h5
  have H7 := Lib.hid h7
  clear h3 h4 h5 h7
  have H1 := Lib.hid h1
  obtain ⟨off, cap, rfl, hcap⟩ := h1.q.form
  have cq := h1.bq.cell 0
  have zq := h1.bq.lt
  have fq := h1.bq.frozen
  have c5 := h1.b5.cell 0
  have z5 := h1.b5.lt
  simp only [List.getElem?_cons_zero] at cq c5
  have hcnt := h2.count
  simp only [List.length_append] at hcnt
  have HB := Lib.hid h2
  clear h2
  cases qu with
  | nil =>
    clear h1
    simp only [List.length_nil] at cq hcap
    have fin : ∀ A', (∃ z', A' = { tmps := (fr91 nb u t N most wo z').toArray, defers := marksOf Ds }) → Q (.exit 0) A' W := by
      rintro A' ⟨z', rfl⟩
      rw [← HQ.out]
      refine ⟨rfl, z', Ds, g, rc, byL, bkL, dn ++ [], [], _, rfl, H1.out, HB.out, H5.out, h6, H7.out, .inr ⟨H4.out, ?_⟩⟩
      intro a ha
      rw [List.append_nil] at ha
      exact H3.out a ha
    simp only [rnd91, blk91, Tryz.f61, Option.getD, codeL, codeR, fr91]
    go_wp2_with fail
    apply fr91_act <;> rfl
  | cons a qu =>
    obtain ⟨hn1, hn2, ca⟩ := h1.q.head
    have hq' := h1.q.tail
    simp only [List.length_cons] at cq hcap
    have hNlt := h1.bq.lt
    have hgge := h1.gge
    have hgne := h1.gne
    have hglt := h1.q.lt
    have KEY : ∀ (A' : Act) (W' : World) (p pat : Nat) (vq' : Value), (∃ z', A' = { tmps := (fr91a nb u t N most wo pat z').toArray, defers := marksOf Ds }) → A'.tmps[42]? = some (.func (.func 113) #[] #[.pointer (some ⟨p, 0, none⟩), .pointer (some ⟨p + 1, 0, none⟩), .pointer (some ⟨p + 1 + 1, 0, none⟩)]) →
        BfsW w W' N B nb v l tk pl t rc (byL.flatMap encS) (ints bkL) vq' g qu → ItR W' p B nb v l a wo → Box W' pat 3 [.int .i64 a] → W.heap.size ≤ pat → W.heap.size ≤ p → MarksIn W' Ds → W.heap.size ≤ W'.heap.size →
        rng91.wp Tryz.prog (Exit.inBlock 2 (Exit.inBlock 1 Q)) A' W' := by
      rintro A' W' p pat vq' ⟨z', rfl⟩ h42 hw hit hpat hp1 hp2 hmk hsz
      have h42' := Option.some.inj h42
      have hin : InR w N B nb v l tk pl u t wo p pat Ds dn a [] W' := ⟨g, rc, byL, bkL, qu, vq', hw, HB.out, H3.out, hit, hpat, by omega, by omega, by omega, by omega, by omega, by omega, H4.out, by simp, hmk⟩
      refine rng91_walk w N B nb v l tk pl u t wo most hl hs hE ht p pat Ds dn a W' z' hin h42' (fun D hD => by have := (H7.out D hD).2; omega) (by have := H1.out.hN; have := H1.out.b5.lt; omega) _ ?_ ?_
      · intro D xs W2 hD hxs hin2 hK
        obtain ⟨g2, rc2, byL2, bkL2, qu2, vq2, k1, k2, k3, k4, k5, k6, k7, k8, k9, k10, k11, k12, k13, k14⟩ := hin2
        show Q .normal _ W2
        rw [← HQ.out]
        obtain ⟨z2, hz2⟩ : ∃ z2, ({ tmps := (fr91a nb u t N most wo pat z').toArray, defers := marksOf (D :: Ds) } : Act) = { tmps := (fr91 nb u t N most wo z2).toArray, defers := marksOf (D :: Ds) } := by apply fr91_act <;> rfl
        refine ⟨36 - (dn ++ [a]).length, by simp; omega, z2, D :: Ds, dn ++ [a], qu2, g2, rc2, byL2, bkL2, vq2, hz2, ⟨k1, by simpa using k2, ?_⟩, by simpa using k12, ?_, ?_, ?_, rfl⟩
        · intro b hb y hy
          rw [List.append_assoc, List.singleton_append]
          rcases List.mem_append.1 hb with hb | hb
          · exact k3 b hb y hy
          · obtain rfl : b = a := by simpa using hb
            rw [← hxs] at hy
            obtain ⟨y', hy', rfl⟩ := List.mem_map.1 hy
            exact k13 y' hy'
        · intro E hE'
          rcases List.mem_cons.1 hE' with rfl | hE'
          · exact hK
          · exact k14 E hE'
        · exact List.nodup_cons.2 ⟨fun h => by have := (H7.out D h).2; omega, h6⟩
        · intro E hE'
          rcases List.mem_cons.1 hE' with rfl | hE'
          · exact ⟨by omega, (Array.getElem?_eq_some_iff.1 hK).1⟩
          · exact ⟨(H7.out E hE').1, (Array.getElem?_eq_some_iff.1 (k14 E hE')).1⟩
      · rintro D W2 hD ⟨_, g2, rc2, byL2, bkL2, ord, qu2, vq2, k1, k2, k3, k14⟩ hK
        show Q (.exit 0) _ W2
        rw [← HQ.out]
        obtain ⟨z2, hz2⟩ : ∃ z2, ({ tmps := (fr91a nb u t N most wo pat z').toArray, defers := marksOf (D :: Ds) } : Act) = { tmps := (fr91 nb u t N most wo z2).toArray, defers := marksOf (D :: Ds) } := by apply fr91_act <;> rfl
        refine ⟨rfl, z2, D :: Ds, g2, rc2, byL2, bkL2, ord, qu2, vq2, hz2, k1, k2, ?_, ?_, ?_, .inl k3⟩
        · intro E hE'
          rcases List.mem_cons.1 hE' with rfl | hE'
          · exact hK
          · exact k14 E hE'
        · exact List.nodup_cons.2 ⟨fun h => by have := (H7.out D h).2; omega, h6⟩
        · intro E hE'
          rcases List.mem_cons.1 hE' with rfl | hE'
          · exact ⟨by omega, (Array.getElem?_eq_some_iff.1 hK).1⟩
          · exact ⟨(H7.out E hE').1, (Array.getElem?_eq_some_iff.1 (k14 E hE')).1⟩
    have HKEY := Lib.hid KEY
    have HS96 := Lib.hid (fun w => steps96 nb a wo w)
    have HQ1 := Lib.hid hq'
    clear hq'
    clear KEY h1
    simp only [rnd91, blk91, Tryz.f61, Option.getD, codeL, codeR, fr91]
    by_cases hc : cap = 1
    · have HQT : Hid (QuR W g (.slice (some ⟨g, off, none⟩) 0 0) qu) := by have h := HQ1.out; rw [if_pos hc, show qu.length = 0 by omega] at h; exact Lib.hid h
      clear HQ1
      subst hc
      go_wp2_with (go_at_call 84; refine (HS96.out _).mono ?_; rintro e w' ⟨rfl, rfl⟩)
      obtain ⟨r1, r2, r3, r4, r5⟩ := rnd_world H1.out HQT.out a wo Ds H5.out
      refine HKEY.out _ _ (W.heap.size + 1) W.heap.size (.slice (some ⟨g, off, none⟩) 0 0) ?_ ?_ r1 r2 r3 (by omega) (by omega) r4 r5
      · apply fr91a_act <;> rfl
      · rfl
    · have HQT : Hid (QuR W g (.slice (some ⟨g, off + 1, none⟩) qu.length (cap - 1)) qu) := by have h := HQ1.out; rw [if_neg hc] at h; exact Lib.hid h
      clear HQ1
      go_wp2_with (go_at_call 84; refine (HS96.out _).mono ?_; rintro e w' ⟨rfl, rfl⟩)
      obtain ⟨r1, r2, r3, r4, r5⟩ := rnd_world H1.out HQT.out a wo Ds H5.out
      refine HKEY.out _ _ (W.heap.size + 1) W.heap.size (.slice (some ⟨g, off + 1, none⟩) qu.length (cap - 1)) ?_ ?_ r1 r2 r3 (by omega) (by omega) r4 r5
      · apply fr91a_act <;> rfl
      · rfl
end Go.Proofs.YtflchbejjofppaaGreatDoor
/- Walks: the way that a search has found: the least room along it. -/
namespace Go.Proofs.YtflchbejjofppaaGreatDoor
open Go Go.Proofs Go.RowKit Go.Shelf
def fr91t (nb u t N : Nat) (most wo : Int) (at_ : Nat) (z : Nat → Value) : List Value := [.pointer (some ⟨nb, 0, none⟩), .int .i64 u, .int .i64 t, .int .i64 most, .int .i64 wo, .pointer (some ⟨N, 0, none⟩), z 6, .pointer (some ⟨N + 1, 0, none⟩), z 8, z 9, .int .i64 0, .pointer (some ⟨N + 1 + 1, 0, none⟩), .pointer (some ⟨N + 1 + 1 + 1, 0, none⟩), .pointer (some ⟨N + 1 + 1 + 1 + 1 + 1, 0, none⟩), z 14, z 15, z 16, .int .i64 at_, z 18, z 19, z 20, z 21, z 22, z 23, z 24, z 25, z 26, z 27, z 28, z 29, z 30, z 31, z 32, z 33, z 34, z 35, z 36, z 37, z 38, z 39, z 40, z 41, z 42, z 43, z 44, z 45, z 46, z 47, z 48, z 49, z 50, z 51, z 52, z 53, z 54, z 55, z 56, z 57, z 58, z 59, z 60, z 61, z 62, z 63, z 64, z 65, z 66, z 67, z 68, z 69, z 70, z 71, z 72, z 73, z 74, z 75, z 76, z 77, z 78, z 79, z 80, z 81, z 82, z 83, z 84, z 85, z 86, z 87, z 88, z 89, z 90, z 91, z 92, z 93, z 94, z 95, z 96, z 97, z 98, z 99, z 100, z 101, z 102, z 103, z 104, z 105, z 106, z 107, z 108, z 109, z 110, z 111, z 112, z 113, z 114, z 115, z 116, z 117, z 118, z 119, z 120, z 121, z 122, z 123, z 124, z 125, z 126]
theorem fr91t_of (nb u t N : Nat) (most wo : Int) (at_ : Nat) (L : List Value) (hL : L.length = 127) (h0 : L[0]? = some (.pointer (some ⟨nb, 0, none⟩))) (h1 : L[1]? = some (.int .i64 u)) (h2 : L[2]? = some (.int .i64 t)) (h3 : L[3]? = some (.int .i64 most)) (h4 : L[4]? = some (.int .i64 wo)) (h5 : L[5]? = some (.pointer (some ⟨N, 0, none⟩))) (h7 : L[7]? = some (.pointer (some ⟨N + 1, 0, none⟩))) (h10 : L[10]? = some (.int .i64 0)) (h11 : L[11]? = some (.pointer (some ⟨N + 1 + 1, 0, none⟩))) (h12 : L[12]? = some (.pointer (some ⟨N + 1 + 1 + 1, 0, none⟩))) (h13 : L[13]? = some (.pointer (some ⟨N + 1 + 1 + 1 + 1 + 1, 0, none⟩))) (h17 : L[17]? = some (.int .i64 at_)) : ∃ z, L = fr91t nb u t N most wo at_ z := by
  refine ⟨fun i => L.getD i undef, ?_⟩
  unfold fr91t
  have e := list_range L 127 hL
  have e0 : L.getD 0 undef = .pointer (some ⟨nb, 0, none⟩) := by rw [List.getD_eq_getElem?_getD, h0]; rfl
  have e1 : L.getD 1 undef = .int .i64 u := by rw [List.getD_eq_getElem?_getD, h1]; rfl
  have e2 : L.getD 2 undef = .int .i64 t := by rw [List.getD_eq_getElem?_getD, h2]; rfl
  have e3 : L.getD 3 undef = .int .i64 most := by rw [List.getD_eq_getElem?_getD, h3]; rfl
  have e4 : L.getD 4 undef = .int .i64 wo := by rw [List.getD_eq_getElem?_getD, h4]; rfl
  have e5 : L.getD 5 undef = .pointer (some ⟨N, 0, none⟩) := by rw [List.getD_eq_getElem?_getD, h5]; rfl
  have e7 : L.getD 7 undef = .pointer (some ⟨N + 1, 0, none⟩) := by rw [List.getD_eq_getElem?_getD, h7]; rfl
  have e10 : L.getD 10 undef = .int .i64 0 := by rw [List.getD_eq_getElem?_getD, h10]; rfl
  have e11 : L.getD 11 undef = .pointer (some ⟨N + 1 + 1, 0, none⟩) := by rw [List.getD_eq_getElem?_getD, h11]; rfl
  have e12 : L.getD 12 undef = .pointer (some ⟨N + 1 + 1 + 1, 0, none⟩) := by rw [List.getD_eq_getElem?_getD, h12]; rfl
  have e13 : L.getD 13 undef = .pointer (some ⟨N + 1 + 1 + 1 + 1 + 1, 0, none⟩) := by rw [List.getD_eq_getElem?_getD, h13]; rfl
  have e17 : L.getD 17 undef = .int .i64 at_ := by rw [List.getD_eq_getElem?_getD, h17]; rfl
  rw [← e0, ← e1, ← e2, ← e3, ← e4, ← e5, ← e7, ← e10, ← e11, ← e12, ← e13, ← e17]
  exact e
theorem fr91t_act (nb u t N : Nat) (most wo : Int) (at_ : Nat) (A : Act) (ds : List Deferred) (hds : A.defers = ds) (hL : A.tmps.size = 127) (h0 : A.tmps[0]? = some (.pointer (some ⟨nb, 0, none⟩))) (h1 : A.tmps[1]? = some (.int .i64 u)) (h2 : A.tmps[2]? = some (.int .i64 t)) (h3 : A.tmps[3]? = some (.int .i64 most)) (h4 : A.tmps[4]? = some (.int .i64 wo)) (h5 : A.tmps[5]? = some (.pointer (some ⟨N, 0, none⟩))) (h7 : A.tmps[7]? = some (.pointer (some ⟨N + 1, 0, none⟩))) (h10 : A.tmps[10]? = some (.int .i64 0)) (h11 : A.tmps[11]? = some (.pointer (some ⟨N + 1 + 1, 0, none⟩))) (h12 : A.tmps[12]? = some (.pointer (some ⟨N + 1 + 1 + 1, 0, none⟩))) (h13 : A.tmps[13]? = some (.pointer (some ⟨N + 1 + 1 + 1 + 1 + 1, 0, none⟩))) (h17 : A.tmps[17]? = some (.int .i64 at_)) : ∃ z, A = { tmps := (fr91t nb u t N most wo at_ z).toArray, defers := ds } := by
  obtain ⟨z, e⟩ := fr91t_of nb u t N most wo at_ A.tmps.toList (by rw [Array.length_toList]; exact hL) (by rw [Array.getElem?_toList]; exact h0) (by rw [Array.getElem?_toList]; exact h1) (by rw [Array.getElem?_toList]; exact h2) (by rw [Array.getElem?_toList]; exact h3) (by rw [Array.getElem?_toList]; exact h4) (by rw [Array.getElem?_toList]; exact h5) (by rw [Array.getElem?_toList]; exact h7) (by rw [Array.getElem?_toList]; exact h10) (by rw [Array.getElem?_toList]; exact h11) (by rw [Array.getElem?_toList]; exact h12) (by rw [Array.getElem?_toList]; exact h13) (by rw [Array.getElem?_toList]; exact h17)
  exact ⟨z, by cases A; subst hds; dsimp only at e ⊢; rw [← e]⟩
def fr91u (nb u t N : Nat) (most wo : Int) (at_ : Nat) (z : Nat → Value) : List Value := [.pointer (some ⟨nb, 0, none⟩), .int .i64 u, .int .i64 t, .int .i64 most, .int .i64 wo, .pointer (some ⟨N, 0, none⟩), z 6, .pointer (some ⟨N + 1, 0, none⟩), z 8, z 9, .int .i64 0, .pointer (some ⟨N + 1 + 1, 0, none⟩), .pointer (some ⟨N + 1 + 1 + 1, 0, none⟩), .pointer (some ⟨N + 1 + 1 + 1 + 1 + 1, 0, none⟩), z 14, z 15, z 16, z 17, .int .i64 at_, z 19, z 20, z 21, z 22, z 23, z 24, z 25, z 26, z 27, z 28, z 29, z 30, z 31, z 32, z 33, z 34, z 35, z 36, z 37, z 38, z 39, z 40, z 41, z 42, z 43, z 44, z 45, z 46, z 47, z 48, z 49, z 50, z 51, z 52, z 53, z 54, z 55, z 56, z 57, z 58, z 59, z 60, z 61, z 62, z 63, z 64, z 65, z 66, z 67, z 68, z 69, z 70, z 71, z 72, z 73, z 74, z 75, z 76, z 77, z 78, z 79, z 80, z 81, z 82, z 83, z 84, z 85, z 86, z 87, z 88, z 89, z 90, z 91, z 92, z 93, z 94, z 95, z 96, z 97, z 98, z 99, z 100, z 101, z 102, z 103, z 104, z 105, z 106, z 107, z 108, z 109, z 110, z 111, z 112, z 113, z 114, z 115, z 116, z 117, z 118, z 119, z 120, z 121, z 122, z 123, z 124, z 125, z 126]
theorem fr91u_of (nb u t N : Nat) (most wo : Int) (at_ : Nat) (L : List Value) (hL : L.length = 127) (h0 : L[0]? = some (.pointer (some ⟨nb, 0, none⟩))) (h1 : L[1]? = some (.int .i64 u)) (h2 : L[2]? = some (.int .i64 t)) (h3 : L[3]? = some (.int .i64 most)) (h4 : L[4]? = some (.int .i64 wo)) (h5 : L[5]? = some (.pointer (some ⟨N, 0, none⟩))) (h7 : L[7]? = some (.pointer (some ⟨N + 1, 0, none⟩))) (h10 : L[10]? = some (.int .i64 0)) (h11 : L[11]? = some (.pointer (some ⟨N + 1 + 1, 0, none⟩))) (h12 : L[12]? = some (.pointer (some ⟨N + 1 + 1 + 1, 0, none⟩))) (h13 : L[13]? = some (.pointer (some ⟨N + 1 + 1 + 1 + 1 + 1, 0, none⟩))) (h18 : L[18]? = some (.int .i64 at_)) : ∃ z, L = fr91u nb u t N most wo at_ z := by
  refine ⟨fun i => L.getD i undef, ?_⟩
  unfold fr91u
  have e := list_range L 127 hL
  have e0 : L.getD 0 undef = .pointer (some ⟨nb, 0, none⟩) := by rw [List.getD_eq_getElem?_getD, h0]; rfl
  have e1 : L.getD 1 undef = .int .i64 u := by rw [List.getD_eq_getElem?_getD, h1]; rfl
  have e2 : L.getD 2 undef = .int .i64 t := by rw [List.getD_eq_getElem?_getD, h2]; rfl
  have e3 : L.getD 3 undef = .int .i64 most := by rw [List.getD_eq_getElem?_getD, h3]; rfl
  have e4 : L.getD 4 undef = .int .i64 wo := by rw [List.getD_eq_getElem?_getD, h4]; rfl
  have e5 : L.getD 5 undef = .pointer (some ⟨N, 0, none⟩) := by rw [List.getD_eq_getElem?_getD, h5]; rfl
  have e7 : L.getD 7 undef = .pointer (some ⟨N + 1, 0, none⟩) := by rw [List.getD_eq_getElem?_getD, h7]; rfl
  have e10 : L.getD 10 undef = .int .i64 0 := by rw [List.getD_eq_getElem?_getD, h10]; rfl
  have e11 : L.getD 11 undef = .pointer (some ⟨N + 1 + 1, 0, none⟩) := by rw [List.getD_eq_getElem?_getD, h11]; rfl
  have e12 : L.getD 12 undef = .pointer (some ⟨N + 1 + 1 + 1, 0, none⟩) := by rw [List.getD_eq_getElem?_getD, h12]; rfl
  have e13 : L.getD 13 undef = .pointer (some ⟨N + 1 + 1 + 1 + 1 + 1, 0, none⟩) := by rw [List.getD_eq_getElem?_getD, h13]; rfl
  have e18 : L.getD 18 undef = .int .i64 at_ := by rw [List.getD_eq_getElem?_getD, h18]; rfl
  rw [← e0, ← e1, ← e2, ← e3, ← e4, ← e5, ← e7, ← e10, ← e11, ← e12, ← e13, ← e18]
  exact e
theorem fr91u_act (nb u t N : Nat) (most wo : Int) (at_ : Nat) (A : Act) (ds : List Deferred) (hds : A.defers = ds) (hL : A.tmps.size = 127) (h0 : A.tmps[0]? = some (.pointer (some ⟨nb, 0, none⟩))) (h1 : A.tmps[1]? = some (.int .i64 u)) (h2 : A.tmps[2]? = some (.int .i64 t)) (h3 : A.tmps[3]? = some (.int .i64 most)) (h4 : A.tmps[4]? = some (.int .i64 wo)) (h5 : A.tmps[5]? = some (.pointer (some ⟨N, 0, none⟩))) (h7 : A.tmps[7]? = some (.pointer (some ⟨N + 1, 0, none⟩))) (h10 : A.tmps[10]? = some (.int .i64 0)) (h11 : A.tmps[11]? = some (.pointer (some ⟨N + 1 + 1, 0, none⟩))) (h12 : A.tmps[12]? = some (.pointer (some ⟨N + 1 + 1 + 1, 0, none⟩))) (h13 : A.tmps[13]? = some (.pointer (some ⟨N + 1 + 1 + 1 + 1 + 1, 0, none⟩))) (h18 : A.tmps[18]? = some (.int .i64 at_)) : ∃ z, A = { tmps := (fr91u nb u t N most wo at_ z).toArray, defers := ds } := by
  obtain ⟨z, e⟩ := fr91u_of nb u t N most wo at_ A.tmps.toList (by rw [Array.length_toList]; exact hL) (by rw [Array.getElem?_toList]; exact h0) (by rw [Array.getElem?_toList]; exact h1) (by rw [Array.getElem?_toList]; exact h2) (by rw [Array.getElem?_toList]; exact h3) (by rw [Array.getElem?_toList]; exact h4) (by rw [Array.getElem?_toList]; exact h5) (by rw [Array.getElem?_toList]; exact h7) (by rw [Array.getElem?_toList]; exact h10) (by rw [Array.getElem?_toList]; exact h11) (by rw [Array.getElem?_toList]; exact h12) (by rw [Array.getElem?_toList]; exact h13) (by rw [Array.getElem?_toList]; exact h18)
  exact ⟨z, by cases A; subst hds; dsimp only at e ⊢; rw [← e]⟩
noncomputable def blk4 : Code := codeR (codeL (codeR rest91))
noncomputable def rnd4 : Code := codeL (codeL blk4)
noncomputable def blk6 : Code := codeR (codeL (codeR (codeR rest91)))
noncomputable def rnd6 : Code := codeL (codeL blk6)
theorem Trace.le {byL : List St} {bkL : List Nat} {u v : Nat} : ∀ {p : List St}, Trace byL bkL u v p → v = u ∨ v < 36
  | [], h => .inl h
  | _ :: _, h => .inr h.2.1
def MinI (W0 : World) (N nb u t : Nat) (wo : Int) (l : List Ac) (byL : List St) (bkL : List Nat) (m0 : Int) (ds : List Deferred) (k : Nat) (A : Act) (W : World) : Prop :=
  ∃ z at_ p cur, A = { tmps := (fr91t nb u t N cur wo at_ z).toArray, defers := ds } ∧ Trace byL bkL u at_ p ∧ least l p cur = m0 ∧ (∀ s ∈ p, s.1 < l.length) ∧ Below W0.heap.size W0 W ∧ k = p.length ∧ -1000000000000000 ≤ cur ∧ cur ≤ 1000000000000000
set_option maxRecDepth 100000 in
set_option maxHeartbeats 1000000 in
theorem rnd4_walk (w W0 : World) (N B nb : Nat) (v : Value) (l : List Ac) (tk pl u t : Nat) (wo : Int) (hl : l.length ≤ 1000) (hs : Small l 1000000000000) (rc : List Bool) (byL : List St) (bkL : List Nat) (vq : Value) (g : Nat) (qu : List Nat)
    (hw : BfsW w W0 N B nb v l tk pl t rc (byL.flatMap encS) (ints bkL) vq g qu) (h2 : byL.length = 36) (h3 : bkL.length = 36) (m0 : Int) (ds : List Deferred) (k : Nat) (A : Act) (W : World) (hu : u < 36)
    (hI : MinI W0 N nb u t wo l byL bkL m0 ds k A W) (Q : Exit → Act → World → Prop)
    (hdone : ∀ z W', Below W0.heap.size W0 W' → Q (.exit 4) { tmps := (fr91t nb u t N m0 wo u z).toArray, defers := ds } W') :
    rnd4.wp Tryz.prog (Exit.then (fun a' w' => ∃ m', m' < k ∧ MinI W0 N nb u t wo l byL bkL m0 ds m' a' w') Q) A W := by
  obtain ⟨z, at_, p, cur, rfl, hT, hm, hp, hb, rfl, hc1, hc2⟩ := hI
  obtain ⟨QQ, hQ⟩ : ∃ QQ, Exit.then (fun a' w' => ∃ m', m' < p.length ∧ MinI W0 N nb u t wo l byL bkL m0 ds m' a' w') Q = QQ := ⟨_, rfl⟩
  rw [hQ]
  have HQ := Lib.hid hQ
  clear hQ
  have HD := Lib.hid hdone
  clear hdone
  have hle := hT.le
  cases p with
  | nil =>
    obtain rfl : at_ = u := hT
    obtain rfl : cur = m0 := hm
    have e1 : ((at_ : Int) != (at_ : Int)) = false := by simp
    have fin : ∀ A', (∃ z', A' = { tmps := (fr91t nb at_ t N cur wo at_ z').toArray, defers := ds }) → QQ (.exit 4) A' W := by
      rintro A' ⟨z', rfl⟩
      rw [← HQ.out]
      exact HD.out z' W hb
    simp only [rnd4, blk4, rest91, Tryz.f61, Option.getD, codeL, codeR, fr91t]
    go_wp2_with fail
    first | (apply fr91t_act <;> rfl) | (apply fr91t_of <;> rfl)
  | cons s p =>
    obtain ⟨hne, hlt, hby, kk, hbk, hT'⟩ := hT
    have e1 : ((at_ : Int) != (u : Int)) = true := by rw [bne_iff_ne]; omega
    have hi := hp s (by simp)
    have hw1 := hw.later hb
    have c5 := hw1.b5.cell 0
    have z5 := hw1.b5.lt
    simp only [List.getElem?_cons_zero] at c5
    have hs2 : byL[at_]'(by omega) = s := by rw [List.getElem?_eq_getElem (by omega)] at hby; exact Option.some.inj hby
    have cby0 : W.cell? ⟨N + 1 + 1, at_ * 2, none⟩ = some (.int .i64 s.1) := by
      rw [hw1.byB.cell, ← Nat.add_zero (at_ * 2), flat_get encS 2 encS_len byL at_ (by omega) 0 (by omega), hs2]; rfl
    have cby1 : W.cell? ⟨N + 1 + 1, at_ * 2 + 1, none⟩ = some (.bool s.2) := by
      rw [hw1.byB.cell, flat_get encS 2 encS_len byL at_ (by omega) 1 (by omega), hs2]; rfl
    have zby := hw1.byB.lt
    have zbk := hw1.bkB.lt
    have hroom := Lib.hid (fun (W' : World) (hb' : Below W.heap.size W W') => room97 W' B nb v l s.1 s.2 (hw1.net.toA.later hb') hi hl hs)
    have hbkW := Lib.hid (show ∀ W', Below W.heap.size W W' → W'.cell? ⟨N + 1 + 1 + 1, at_, none⟩ = some (.int .i64 kk) from fun W' hb' => by
      rw [(hw1.later hb').bkB.cell]; unfold ints; rw [List.getElem?_map, hbk]; rfl)
    have hR : roomOf l s = roomOf l (s.1, s.2) := rfl
    obtain ⟨R, hRR⟩ : ∃ R, roomOf l (s.1, s.2) = R := ⟨_, rfl⟩
    rw [hRR] at hroom
    have hm' : least l p (min cur R) = m0 := by rw [← hm, ← hRR]; rfl
    have HM := Lib.hid hm'
    clear hm'
    have HRR := Lib.hid hRR
    clear hRR
    clear hm hR
    have hwz := hw1
    clear hw1
    simp only [rnd4, blk4, rest91, Tryz.f61, Option.getD, codeL, codeR, fr91t]
    go_wp2_with fail
    refine wp_region_later (by kernel_rfl) (by kernel_rfl) ?_
    repeat go_big_quiet_step ((go_at_call 85; exact Calls.later (hroom.out _ (Later.h _))))
    refine wpQuiet_nil ?_
    rintro w2 ⟨⟨_, hb2⟩, rfl⟩
    have hbk2 := hbkW.out _ hb2
    have hmin : (if R < cur then R else cur) = min cur R := by split <;> omega
    have hRs : -2000000000000 ≤ R ∧ R ≤ 2000000000000 := by
      rw [← HRR.out]
      unfold roomOf
      rw [List.getElem?_eq_getElem hi]
      obtain ⟨s1, s2, s3, s4, s5, s6⟩ := hs _ (List.getElem_mem hi)
      dsimp only
      split <;> omega
    have hcc : -1000000000000000 ≤ (if R < cur then R else cur) ∧ (if R < cur then R else cur) ≤ 1000000000000000 := by split <;> omega
    have fin : ∀ A', (∃ z', A' = { tmps := (fr91t nb u t N (if R < cur then R else cur) wo kk z').toArray, defers := ds }) → QQ .normal A' w2 := by
      rintro A' ⟨z', rfl⟩
      rw [← HQ.out]
      exact ⟨p.length, by simp, z', kk, p, _, rfl, hT', by rw [hmin]; exact HM.out, fun x hx => hp x (by simp [hx]), hb.trans (hb2.mono hb.size), rfl, hcc.1, hcc.2⟩
    clear hcc hRs
    generalize (if R < cur then R else cur) = cur2 at *
    have HMIN := Lib.hid hmin
    clear hmin
    go_wp2_with fail
    first | (apply fr91t_act <;> rfl) | (apply fr91t_of <;> rfl)
theorem blk4_walk (w W0 : World) (N B nb : Nat) (v : Value) (l : List Ac) (tk pl u t : Nat) (wo : Int) (hl : l.length ≤ 1000) (hs : Small l 1000000000000) (rc : List Bool) (byL : List St) (bkL : List Nat) (vq : Value) (g : Nat) (qu : List Nat)
    (hw : BfsW w W0 N B nb v l tk pl t rc (byL.flatMap encS) (ints bkL) vq g qu) (h2 : byL.length = 36) (h3 : bkL.length = 36) (m0 : Int) (ds : List Deferred) (k : Nat) (A : Act) (W : World) (hu : u < 36)
    (hI : MinI W0 N nb u t wo l byL bkL m0 ds k A W) :
    blk4.wp Tryz.prog (fun e a w' => e = .normal ∧ Below W0.heap.size W0 w' ∧ ∃ z, a = { tmps := (fr91t nb u t N m0 wo u z).toArray, defers := ds }) A W := by
  have e : blk4 = .block 4 (.loop rnd4) := rfl
  rw [e]
  refine wp_block (wp_loop_g (MinI W0 N nb u t wo l byL bkL m0 ds) k hI fun m a w' h => ?_)
  exact rnd4_walk w W0 N B nb v l tk pl u t wo hl hs rc byL bkL vq g qu hw h2 h3 m0 ds m a w' hu h _ (fun z W' hb => ⟨rfl, hb, z, rfl⟩)
end Go.Proofs.YtflchbejjofppaaGreatDoor
/- Walks: more flow along the way that a search has found. -/
namespace Go.Proofs.YtflchbejjofppaaGreatDoor
open Go Go.Proofs Go.RowKit Go.Shelf
theorem bump_set (l : List Ac) (s : St) (m : Int) (h : s.1 < l.length) : bump l s m = l.set s.1 { l[s.1] with fl := if s.2 then l[s.1].fl + m else l[s.1].fl - m } := by
  unfold bump
  apply List.ext_getElem?
  intro i
  rw [List.getElem?_modify, List.getElem?_set]
  by_cases e : s.1 = i
  · subst e; simp [h]
  · simp [e]
def Mine (nb : Nat) (v : Value) (k : Nat) : Prop := k = nb ∨ v.ownBlock = some k
structure PushW (w W : World) (N B nb : Nat) (v : Value) (lc : List Ac) (tk pl : Nat) (rc : List Bool) (byL : List St) (bkL : List Nat) (t : Nat) (Ds : List Nat) : Prop where
  net : NetR W B nb v lc tk pl rc
  glt : ∀ k, v.ownBlock = some k → k < N
  nlt : nb < N
  hN : N = w.heap.size
  b5 : Box W N 66 [.pointer (some ⟨nb, 0, none⟩)]
  b7 : Box W (N + 1) 3 [.int .i64 t]
  byB : Box W (N + 1 + 1) 134 (byL.flatMap encS)
  bkB : Box W (N + 1 + 1 + 1) 112 (ints bkL)
  kept : Kept (Mine nb v) w W
  marks : MarksIn W Ds
theorem PushW.drewN {w W : World} {N B nb : Nat} {v : Value} {lc : List Ac} {tk pl : Nat} {rc : List Bool} {byL : List St} {bkL : List Nat} {t : Nat} {Ds : List Nat} (h : PushW w W N B nb v lc tk pl rc byL bkL t Ds) (n : Nat) : PushW w (W.drewN n) N B nb v lc tk pl rc byL bkL t Ds :=
  ⟨⟨h.net.box, h.net.own, h.net.ne, h.net.n36⟩, h.glt, h.nlt, h.hN, h.b5, h.b7, h.byB, h.bkB, ⟨h.kept.os, h.kept.tape, h.kept.output, h.kept.size, h.kept.block⟩, h.marks⟩
theorem PushW.push {w W : World} {N B nb : Nat} {v : Value} {lc : List Ac} {tk pl : Nat} {rc : List Bool} {byL : List St} {bkL : List Nat} {t : Nat} {Ds : List Nat} (h : PushW w W N B nb v lc tk pl rc byL bkL t Ds) (s : St) (m : Int) (hs : s.1 < lc.length) {g : Nat} (hv : v.ownBlock = some g) (x : Int) (hx : x = if s.2 then lc[s.1].fl + m else lc[s.1].fl - m) :
    PushW w (W.setCell ⟨g, s.1 * 5 + 4, none⟩ (.int .i64 x)) N B nb v (bump lc s m) tk pl rc byL bkL t Ds := by
  have hg := h.glt g hv
  have hne : g ≠ nb := fun e => h.net.ne (by rw [hv, e])
  obtain ⟨g', cap, e, hb1, hb2⟩ := h.net.own.form (by omega)
  have eg : g' = g := by rw [e] at hv; simpa [Value.ownBlock] using hv
  subst eg
  have hown := h.net.own
  rw [e] at hown
  have hset := hown.set Ac.encW_len s.1 hs 4 (by omega) (.int .i64 x) { lc[s.1] with fl := if s.2 then lc[s.1].fl + m else lc[s.1].fl - m } (by rw [hx]; rfl)
  rw [← bump_set lc s m hs, ← e] at hset
  exact ⟨⟨h.net.box.other _ (by dsimp only; omega), hset, h.net.ne, h.net.n36⟩, h.glt, h.nlt, h.hN, h.b5.other _ (by dsimp only; omega), h.b7.other _ (by dsimp only; omega), h.byB.other _ (by dsimp only; omega), h.bkB.other _ (by dsimp only; omega),
    h.kept.set _ (.inl (.inr hv)), h.marks.keeps (KeepsOthers.setCell _ _ _)⟩
def PushI (w : World) (N B nb : Nat) (v : Value) (l L' : List Ac) (tk pl u t : Nat) (wo : Int) (rc : List Bool) (byL : List St) (bkL : List Nat) (m : Int) (Ds : List Nat) (k : Nat) (A : Act) (W : World) : Prop :=
  ∃ z at_ p lc, A = { tmps := (fr91u nb u t N m wo at_ z).toArray, defers := marksOf Ds } ∧ Trace byL bkL u at_ p ∧ (∀ s ∈ p, s.1 < lc.length ∧ lc[s.1]? = l[s.1]?) ∧ (p.map Prod.fst).Nodup ∧ PushW w W N B nb v lc tk pl rc byL bkL t Ds ∧ lc.length ≤ 1000 ∧ pushes lc p m = L' ∧ k = p.length
set_option maxRecDepth 100000 in
set_option maxHeartbeats 1000000 in
theorem rnd6_walk (w : World) (N B nb : Nat) (v : Value) (l L' : List Ac) (tk pl u t : Nat) (wo : Int) (hs : Small l 1000000000000) (rc : List Bool) (byL : List St) (bkL : List Nat)
    (h2 : byL.length = 36) (h3 : bkL.length = 36) (m : Int) (hm1 : 0 ≤ m) (hm2 : m ≤ 100000000000000) (Ds : List Nat) (k : Nat) (A : Act) (W : World) (hu : u < 36)
    (hI : PushI w N B nb v l L' tk pl u t wo rc byL bkL m Ds k A W) (Q : Exit → Act → World → Prop)
    (hdone : ∀ z W', PushW w W' N B nb v L' tk pl rc byL bkL t Ds → Q (.exit 6) { tmps := (fr91u nb u t N m wo u z).toArray, defers := marksOf Ds } W') :
    rnd6.wp Tryz.prog (Exit.then (fun a' w' => ∃ m', m' < k ∧ PushI w N B nb v l L' tk pl u t wo rc byL bkL m Ds m' a' w') Q) A W := by
  obtain ⟨z, at_, p, lc, rfl, hT, hp, hn, hw, hl, hL, rfl⟩ := hI
  obtain ⟨QQ, hQ⟩ : ∃ QQ, Exit.then (fun a' w' => ∃ m', m' < p.length ∧ PushI w N B nb v l L' tk pl u t wo rc byL bkL m Ds m' a' w') Q = QQ := ⟨_, rfl⟩
  rw [hQ]
  have HQ := Lib.hid hQ
  clear hQ
  have HD := Lib.hid hdone
  clear hdone
  have hle := hT.le
  cases p with
  | nil =>
    obtain rfl : at_ = u := hT
    obtain rfl : lc = L' := hL
    have e1 : ((at_ : Int) != (at_ : Int)) = false := by simp
    have fin : ∀ A', (∃ z', A' = { tmps := (fr91u nb at_ t N m wo at_ z').toArray, defers := marksOf Ds }) → QQ (.exit 6) A' W := by
      rintro A' ⟨z', rfl⟩
      rw [← HQ.out]
      exact HD.out z' W hw
    simp only [rnd6, blk6, rest91, Tryz.f61, Option.getD, codeL, codeR, fr91u]
    go_wp2_with fail
    first | (apply fr91u_act <;> rfl) | (apply fr91u_of <;> rfl)
  | cons s p =>
    obtain ⟨hne, hlt, hby, kk, hbk, hT'⟩ := hT
    have e1 : ((at_ : Int) != (u : Int)) = true := by rw [bne_iff_ne]; omega
    obtain ⟨hi, hli⟩ := hp s (by simp)
    obtain ⟨g, cap, rfl, hg, hgs⟩ := hw.net.own.form (by omega)
    have c5 := hw.b5.cell 0
    have z5 := hw.b5.lt
    have c0 := hw.net.toA.c0
    have zn := hw.net.box.lt
    simp only [List.getElem?_cons_zero] at c5
    have hs2 : byL[at_]'(by omega) = s := by rw [List.getElem?_eq_getElem (by omega)] at hby; exact Option.some.inj hby
    have cby0 : W.cell? ⟨N + 1 + 1, at_ * 2, none⟩ = some (.int .i64 s.1) := by
      rw [hw.byB.cell, ← Nat.add_zero (at_ * 2), flat_get encS 2 encS_len byL at_ (by omega) 0 (by omega), hs2]; rfl
    have cby1 : W.cell? ⟨N + 1 + 1, at_ * 2 + 1, none⟩ = some (.bool s.2) := by
      rw [hw.byB.cell, flat_get encS 2 encS_len byL at_ (by omega) 1 (by omega), hs2]; rfl
    have cbk : W.cell? ⟨N + 1 + 1 + 1, at_, none⟩ = some (.int .i64 kk) := by
      rw [hw.bkB.cell]; unfold ints; rw [List.getElem?_map, hbk]; rfl
    have zby := hw.byB.lt
    have zbk := hw.bkB.lt
    obtain ⟨a0, a1, a2, a3, a4⟩ := (hw.net.own.at Ac.encW_len s.1 hi).c5
    have fg := hw.net.own.frozen
    have hgN := hw.glt g rfl
    have HW := Lib.hid hw
    have HL := Lib.hid hL
    have HP := Lib.hid hp
    have HN := Lib.hid hn
    clear hw hL hp hn hs2
    have hsm := hs lc[s.1] (List.mem_of_getElem? (by rw [← hli, List.getElem?_eq_getElem hi]))
    obtain ⟨ac, hac⟩ : ∃ ac, lc[s.1] = ac := ⟨_, rfl⟩
    rw [hac] at hsm a0 a1 a2 a3 a4
    have HAC := Lib.hid hac
    clear hac
    obtain ⟨fr, to, lo, hi', fl⟩ := ac
    obtain ⟨s1, s2, s3, s4, s5, s6⟩ := hsm
    dsimp only at *
    obtain ⟨i, f⟩ := s
    have hi2 : (i : Int) < lc.length := by dsimp only at hi; omega
    dsimp only at *
    have fin : ∀ (A' : Act) (nq : Nat) (x : Int), (x = if f then fl + m else fl - m) → (∃ z', A' = { tmps := (fr91u nb u t N m wo kk z').toArray, defers := marksOf Ds }) → QQ .normal A' ((W.drewN nq).setCell ⟨g, i * 5 + 4, none⟩ (.int .i64 x)) := by
      rintro A' nq x hx ⟨z', rfl⟩
      rw [← HQ.out]
      have hpu := (HW.out.drewN nq).push (i, f) m hi (g := g) rfl x (by rw [hx]; dsimp only; rw [HAC.out])
      refine ⟨p.length, by simp, z', kk, p, _, rfl, hT', fun y hy => ?_, ?_, hpu, by rw [bump_length]; exact hl, HL.out, rfl⟩
      · have h := HP.out y (by simp [hy])
        have hn := HN.out
        simp only [List.map_cons, List.nodup_cons] at hn
        have hne : y.1 ≠ i := fun e => hn.1 (by rw [← e]; exact List.mem_map_of_mem hy)
        rw [bump_length, bump_get_other _ _ _ hne]
        exact h
      · have hn := HN.out
        simp only [List.map_cons, List.nodup_cons] at hn
        exact hn.2
    have FIN := Lib.hid fin
    clear fin
    simp only [rnd6, blk6, rest91, Tryz.f61, Option.getD, codeL, codeR, fr91u]
    cases f
    · go_wp2_with fail
      go_quiet (fail)
      go_wp2_with fail
      refine FIN.out _ nq _ rfl ?_
      first | (apply fr91u_act <;> rfl) | (apply fr91u_of <;> rfl)
    · go_wp2_with fail
      go_quiet (fail)
      go_wp2_with fail
      refine FIN.out _ nq _ rfl ?_
      first | (apply fr91u_act <;> rfl) | (apply fr91u_of <;> rfl)
theorem blk6_walk (w : World) (N B nb : Nat) (v : Value) (l L' : List Ac) (tk pl u t : Nat) (wo : Int) (hs : Small l 1000000000000) (rc : List Bool) (byL : List St) (bkL : List Nat)
    (h2 : byL.length = 36) (h3 : bkL.length = 36) (m : Int) (hm1 : 0 ≤ m) (hm2 : m ≤ 100000000000000) (Ds : List Nat) (k : Nat) (A : Act) (W : World) (hu : u < 36)
    (hI : PushI w N B nb v l L' tk pl u t wo rc byL bkL m Ds k A W) :
    blk6.wp Tryz.prog (fun e a w' => e = .normal ∧ PushW w w' N B nb v L' tk pl rc byL bkL t Ds ∧ ∃ z, a = { tmps := (fr91u nb u t N m wo u z).toArray, defers := marksOf Ds }) A W := by
  have e : blk6 = .block 6 (.loop rnd6) := rfl
  rw [e]
  refine wp_block (wp_loop_g (PushI w N B nb v l L' tk pl u t wo rc byL bkL m Ds) k hI fun k' a w' h => ?_)
  exact rnd6_walk w N B nb v l L' tk pl u t wo hs rc byL bkL h2 h3 m hm1 hm2 Ds k' a w' hu h _ (fun z W' hb => ⟨rfl, hb, z, rfl⟩)
end Go.Proofs.YtflchbejjofppaaGreatDoor
