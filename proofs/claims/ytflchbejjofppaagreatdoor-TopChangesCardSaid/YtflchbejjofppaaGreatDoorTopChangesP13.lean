/- Lemmas on the way to the law TopChanges (part 13): WOe WOf -/
import Derived.Test.YtflchbejjofppaaGreatDoorTopChangesP12
set_option linter.unusedVariables false
set_option linter.unusedSimpArgs false

/- Walks: together. -/
namespace Go.Proofs.YtflchbejjofppaaGreatDoor
open Go Go.Proofs Go.RowKit
theorem retgt_snoc (t : Nat) : ∀ (is : List Nat) (i : Nat) (l : List Ac), retgt t (is ++ [i]) l = (retgt t is l).modify i (Ac.goto t)
  | [], i, l => rfl
  | j :: is, i, l => by rw [List.cons_append, retgt, retgt, retgt_snoc t is]
theorem nodup_short : ∀ (n : Nat) (is : List Nat), is.Nodup → (∀ i ∈ is, i < n) → is.length ≤ n
  | 0, [], _, _ => Nat.le_refl _
  | 0, i :: is, _, h => absurd (h i (by simp)) (by omega)
  | n + 1, is, hn, h => by
    by_cases hm : n ∈ is
    · have h1 := nodup_short n (is.erase n) (hn.erase n) (fun i hi => by
        have := (hn.mem_erase_iff).1 hi
        have := h i this.2
        omega)
      rw [List.length_erase_of_mem hm] at h1
      omega
    · have h1 := nodup_short n is hn (fun i hi => by
        have := h i hi
        have : i ≠ n := fun e => hm (e ▸ hi)
        omega)
      omega
theorem tot_snoc {α : Type} (f : α → Int) (l : List α) (x : α) : tot f (l ++ [x]) = tot f l + f x := by rw [tot_append]; simp [tot]
theorem modify_set (l : List Ac) (i t : Nat) (h : i < l.length) : l.modify i (Ac.goto t) = l.set i (l[i].goto t) := by
  apply List.ext_getElem?
  intro j
  rw [List.getElem?_modify, List.getElem?_set]
  by_cases e : i = j
  · subst e; simp [h]
  · simp [e]
def idx (tk : Nat) (ps : List Int) : List Nat := ps.map fun p => tk + p.toNat
structure TogH (l : List Ac) (tk pl : Nat) (ps : List Int) : Prop where
  len : l.length = tk + pl
  tk128 : tk ≤ 128
  pl32 : pl ≤ 32
  small : ∀ a ∈ l, -999999999 ≤ a.lo ∧ a.hi ≤ 999999999
  ends : Ends (pl + 1) l
  circ : Circ (pl + 1) l
  ne : ∀ a ∈ l, a.fr ≠ a.to
  out : ∀ i a, tk ≤ i → l[i]? = some a → a.to = 0
  inr : ∀ p ∈ ps, 0 ≤ p ∧ p < pl
  nodup : ps.Nodup
theorem joinA_small {l : List Ac} {tk pl : Nat} {ps : List Int} (h : TogH l tk pl ps) (hb : -40000000000 ≤ tot (atI Ac.lo l) (idx tk ps) ∧ tot (atI Ac.hi l) (idx tk ps) ≤ 40000000000) : SmallS (joinA pl (idx tk ps) l) 1000000000000 := by
  intro a ha
  rcases List.mem_append.1 ha with ha | ha
  · obtain ⟨i, hi⟩ := List.mem_iff_getElem?.1 ha
    rw [retgt_get] at hi
    cases hj : l[i]? with
    | none => rw [hj] at hi; cases hi
    | some b =>
      rw [hj] at hi
      have := h.small b (List.mem_of_getElem? hj)
      by_cases h2 : i ∈ idx tk ps
      · simp only [Option.map_some, h2, if_true, Option.some.injEq] at hi; subst hi; simp only [Ac.goto]; omega
      · simp only [Option.map_some, h2, if_false, Option.some.injEq] at hi; subst hi; omega
  · rw [List.mem_singleton] at ha
    subst ha
    dsimp only
    omega
theorem TogH.outI {l : List Ac} {tk pl : Nat} {ps : List Int} (h : TogH l tk pl ps) : OutI (idx tk ps) l := by
  refine ⟨?_, fun i hi => ?_⟩
  · unfold idx
    rw [List.nodup_iff_pairwise_ne, List.pairwise_map]
    refine List.Pairwise.imp_of_mem ?_ (List.nodup_iff_pairwise_ne.1 h.nodup)
    intro a b ha hb hab e
    have h1 := h.inr a ha
    have h2 := h.inr b hb
    exact hab (by omega)
  · obtain ⟨p, hp, rfl⟩ := List.mem_map.1 hi
    have h1 := h.inr p hp
    have hlt : tk + p.toNat < l.length := by rw [h.len]; omega
    exact ⟨_, List.getElem?_eq_getElem hlt, h.out _ _ (by omega) (List.getElem?_eq_getElem hlt)⟩
theorem TogH.short {l : List Ac} {tk pl : Nat} {ps : List Int} (h : TogH l tk pl ps) : ps.length ≤ pl := by
  have h1 : ∀ (ps : List Int), ps.Nodup → (∀ p ∈ ps, 0 ≤ p ∧ p < pl) → ps.length ≤ pl := fun ps hn hp => by
    have := nodup_short pl (ps.map Int.toNat) (by
      rw [List.nodup_iff_pairwise_ne, List.pairwise_map]
      refine List.Pairwise.imp_of_mem ?_ (List.nodup_iff_pairwise_ne.1 hn)
      intro a b ha hb hab e
      have h1 := hp a ha
      have h2 := hp b hb
      exact hab (by omega)) (fun i hi => by
        obtain ⟨p, hp', rfl⟩ := List.mem_map.1 hi
        have := hp p hp'
        omega)
    simpa using this
  exact h1 ps h.nodup h.inr
theorem TogH.bounds {l : List Ac} {tk pl : Nat} {ps : List Int} (h : TogH l tk pl ps) (k : Nat) :
    -40000000000 ≤ tot (atI Ac.lo l) (idx tk (ps.take k)) ∧ tot (atI Ac.hi l) (idx tk (ps.take k)) ≤ 40000000000 := by
  have hsh := h.short
  have h32 := h.pl32
  have hl : ((idx tk (ps.take k)).length : Int) ≤ 32 := by unfold idx; simp; omega
  have hb : ∀ (f : Ac → Int), (∀ a ∈ l, -999999999 ≤ f a ∧ f a ≤ 999999999) → ∀ i, -999999999 ≤ atI f l i ∧ atI f l i ≤ 999999999 := fun f hf i => by
    unfold atI
    cases hj : l[i]? with
    | none => exact ⟨by simp, by simp⟩
    | some a => exact hf a (List.mem_of_getElem? hj)
  have h1 := tot_bound (atI Ac.lo l) 999999999 (idx tk (ps.take k)) (fun i _ => hb Ac.lo (fun a ha => by have := h.small a ha; have := h.circ.fits a ha; omega) i)
  have h2 := tot_bound (atI Ac.hi l) 999999999 (idx tk (ps.take k)) (fun i _ => hb Ac.hi (fun a ha => by have := h.small a ha; have := h.circ.fits a ha; omega) i)
  omega
def TogPost (w : World) (B : Nat) (l : List Ac) (tk pl : Nat) (ps : List Int) (e : Ending) (w' : World) : Prop :=
  ∃ lo hi, e = .returned (.agg #[.int .i64 lo, .int .i64 hi]) ∧ Below B w w' ∧ Together pl l (idx tk ps) lo hi
theorem TogH.step {l : List Ac} {tk pl : Nat} {ps : List Int} (h : TogH l tk pl ps) (k : Nat) (hk : k < ps.length) :
    ∃ (q : Nat) (a : Ac), ps[k] = q ∧ q < pl ∧ l[tk + q]? = some a ∧ (retgt (pl + 1) (idx tk (ps.take k)) l)[tk + q]? = some a ∧ idx tk (ps.take (k + 1)) = idx tk (ps.take k) ++ [tk + q] := by
  have hp := h.inr ps[k] (List.getElem_mem hk)
  obtain ⟨q, hq⟩ : ∃ q : Nat, ps[k] = q := ⟨ps[k].toNat, by omega⟩
  have hlt : tk + q < l.length := by rw [h.len]; omega
  refine ⟨q, l[tk + q], hq, by omega, List.getElem?_eq_getElem hlt, ?_, ?_⟩
  · rw [retgt_get, List.getElem?_eq_getElem hlt]
    have hni : tk + q ∉ idx tk (ps.take k) := fun hm => by
      obtain ⟨p, hp1, hp2⟩ := List.mem_map.1 hm
      have hp3 := h.inr p (List.mem_of_mem_take hp1)
      obtain ⟨j, hj, hje⟩ := List.mem_iff_getElem.1 hp1
      have hjk : j < k ∧ j < ps.length := by rw [List.length_take] at hj; omega
      rw [List.getElem_take] at hje
      have hpq : p = ps[k] := by omega
      rw [hpq] at hje
      have := (List.nodup_iff_pairwise_ne.1 h.nodup)
      rw [List.pairwise_iff_getElem] at this
      exact this j k hjk.2 hk hjk.1 hje
    simp [hni]
  · unfold idx
    rw [take_snoc ps k hk, List.map_append]
    simp [hq]
structure TogX (w wr : World) (B nb : Nat) (v : Value) (L : List Ac) (tk pl : Nat) (rc : List Bool) (lo hi : Int) : Prop where
  net : NetR wr B nb v L tk pl rc
  r0 : Box wr w.heap.size 34 [.int .i64 0, .int .i64 0]
  r1 : Box wr (w.heap.size + 1) 34 [.int .i64 lo, .int .i64 hi]
  below : Below B w wr
  v0 : ∀ j, v.ownBlock = some j → j < w.heap.size
  nb0 : nb < w.heap.size
  nbB : B ≤ nb
theorem TogX.drewN {w wr : World} {B nb : Nat} {v : Value} {L : List Ac} {tk pl : Nat} {rc : List Bool} {lo hi : Int} (h : TogX w wr B nb v L tk pl rc lo hi) (n : Nat) : TogX w (wr.drewN n) B nb v L tk pl rc lo hi :=
  have hb := below_drewN (Below.refl wr.heap.size wr) n
  ⟨h.net.later hb, h.r0.later hb, h.r1.later hb, h.below.trans (hb.mono (by have := h.nbB; have := h.net.box.lt; omega)), h.v0, h.nb0, h.nbB⟩
theorem TogX.goto {w wr : World} {B nb : Nat} {v : Value} {L : List Ac} {tk pl : Nat} {rc : List Bool} {lo hi : Int} (h : TogX w wr B nb v L tk pl rc lo hi) (i : Nat) (hi' : i < L.length) (t : Nat) {g : Nat} (hv : v.ownBlock = some g) :
    TogX w (wr.setCell ⟨g, i * 5 + 3, none⟩ (.int .i64 t)) B nb v (L.modify i (Ac.goto t)) tk pl rc lo hi := by
  have hg := h.v0 g hv
  have hne : g ≠ nb := fun e => h.net.ne (by rw [hv, e])
  obtain ⟨g', cap, e, hb1, hb2⟩ := h.net.own.form (by omega)
  have eg : g' = g := by rw [e] at hv; simpa [Value.ownBlock] using hv
  subst eg
  have hown := h.net.own
  rw [e] at hown
  have hset := hown.set Ac.encW_len i hi' 3 (by omega) (.int .i64 t) (L[i].goto t) rfl
  rw [← modify_set L i t hi', ← e] at hset
  exact ⟨⟨h.net.box.other _ (by dsimp only; omega), hset, h.net.ne, h.net.n36⟩, h.r0.other _ (by dsimp only; omega), h.r1.other _ (by dsimp only; omega), h.below.setCell (by dsimp only; omega) _, h.v0, h.nb0, h.nbB⟩
theorem TogX.sum {w wr : World} {B nb : Nat} {v : Value} {L : List Ac} {tk pl : Nat} {rc : List Bool} {lo hi : Int} (h : TogX w wr B nb v L tk pl rc lo hi) (j : Nat) (x lo' hi' : Int) (he : [Value.int .i64 lo', .int .i64 hi'] = [Value.int .i64 lo, .int .i64 hi].set j (.int .i64 x)) :
    TogX w (wr.setCell ⟨w.heap.size + 1, j, none⟩ (.int .i64 x)) B nb v L tk pl rc lo' hi' := by
  have hvv : v.ownBlock ≠ some (w.heap.size + 1) := fun e => by have := h.v0 _ e; omega
  refine ⟨h.net.other _ (by have := h.nb0; dsimp only; omega) hvv, h.r0.other _ (by dsimp only; omega), ?_, h.below.setCell (by have := h.nb0; have := h.nbB; dsimp only; omega) _, h.v0, h.nb0, h.nbB⟩
  rw [he]
  exact h.r1.set j _
abbrev TogW (w wr : World) (B nb : Nat) (v : Value) (l : List Ac) (tk pl : Nat) (rc : List Bool) (ps : List Int) (k : Nat) : Prop :=
  TogX w wr B nb v (retgt (pl + 1) (idx tk (ps.take k)) l) tk pl rc (tot (atI Ac.lo l) (idx tk (ps.take k))) (tot (atI Ac.hi l) (idx tk (ps.take k)))
set_option maxRecDepth 100000 in
set_option maxHeartbeats 1000000 in
theorem together73 (B nb : Nat) (v : Value) (l : List Ac) (tk pl : Nat) (rc : List Bool) (u : Value) (ps : List Int) (w : World) (hnet : NetR w B nb v l tk pl rc) (hnb : B ≤ nb) (hu : Sl encI 1 w B u ps) (hT : TogH l tk pl ps) :
    Calls Tryz.prog 37 #[.pointer (some ⟨nb, 0, none⟩), u] w (TogPost w B l tk pl ps) := by
  have n0 := hnet.box.lt
  have c2 := hnet.box.cell 2
  simp only [netCells, List.getElem?_cons_zero, List.getElem?_cons_succ] at c2
  have h32 := hT.pl32
  have h128 := hT.tk128
  have hsh := hT.short
  have HTW := Lib.hid (show TogW w ((w.alloc (.cells #[.int .i64 0, .int .i64 0] 34)).alloc (.cells #[.int .i64 0, .int .i64 0] 34)) B nb v l tk pl rc ps 0 from by
    have hBw : B ≤ w.heap.size := by omega
    have hx1 := Box.new w #[.int .i64 0, .int .i64 0] 34
    have hx2 := Box.new (w.alloc (.cells #[.int .i64 0, .int .i64 0] 34)) #[.int .i64 0, .int .i64 0] 34
    have hs : (w.alloc (.cells #[.int .i64 0, .int .i64 0] 34)).heap.size = w.heap.size + 1 := by simp
    rw [hs] at hx2
    have hbel : Below B w ((w.alloc (.cells #[.int .i64 0, .int .i64 0] 34)).alloc (.cells #[.int .i64 0, .int .i64 0] 34)) := ((Below.refl _ _).alloc hBw _).alloc (by simp; omega) _
    exact ⟨(hnet.alloc _).alloc _, hx1.alloc _, hx2, hbel, fun j hj => (World.ownsRow.lt hnet.own j hj).2, n0, hnb⟩)
  obtain ⟨au, nu, rfl, hlu, hAu⟩ := hu
  have HAU := Lib.hid hAu
  have HT := Lib.hid hT
  clear hAu hT hnet
  go_enter Tryz.func37, Tryz.ntmps37
  go_wp2_with fail
  have HC2 := Lib.hid c2
  clear c2
  go_loopw [19, 7] (fun i s wr => ∃ k : Nat, k ≤ ps.length ∧ i = .int .i64 k ∧ s = .int .i64 (flSum (idx tk (ps.take k)) l) ∧ TogW w wr B nb v l tk pl rc ps k) (fun i _ _ => ps.length - (intOf i).toNat)
  case atStart => exact ⟨0, by omega, rfl, rfl, HTW.out⟩
  case round =>
    clear HTW
    obtain ⟨k, hk, rfl, rfl, hw⟩ := hrel
    by_cases hlt : k < ps.length
    · obtain ⟨q, a, hq, hqp, hla, hca, hix⟩ := HT.out.step k hlt
      have HLA := Lib.hid hla
      have HIX := Lib.hid hix
      have hqi : tk + q < (retgt (pl + 1) (idx tk (ps.take k)) l).length := by rw [retgt_length, HT.out.len]; omega
      have hcl : (retgt (pl + 1) (idx tk (ps.take k)) l).length = tk + pl := by rw [retgt_length, HT.out.len]
      obtain ⟨g, cap', e1, hg, hgs⟩ := hw.net.own.form (by omega)
      have hown := hw.net.own
      rw [e1] at hown
      obtain ⟨e0, e2, e3, e4, e5⟩ := (hown.at Ac.encW_len (tk + q) hqi).c5
      have hge : (retgt (pl + 1) (idx tk (ps.take k)) l)[tk + q] = a := (List.getElem?_eq_some_iff.1 hca).2
      rw [hge] at e0 e2 e3 e4 e5
      obtain ⟨bu, off, rfl, hbu, hcu⟩ := HAU.out (by omega)
      have hu0 := ((hcu k hlt).below hw.below hbu) 0 _ rfl
      rw [hq, Nat.mul_one, Nat.add_zero] at hu0
      have c0 := hw.net.toA.c0
      have c1 := hw.net.box.cell 1
      simp only [netCells, List.getElem?_cons_zero, List.getElem?_cons_succ] at c1
      rw [e1] at c0
      have zn := hw.net.box.lt
      have fg := hown.frozen ((tk + q) * 5 + 3)
      have HAP := Lib.hid (HT.out.small a (List.mem_of_getElem? hla))
      have HFA := Lib.hid (HT.out.circ.fits a (List.mem_of_getElem? hla))
      have HCA := Lib.hid hca
      have HGE := Lib.hid hge
      have HQ := Lib.hid hq
      have HW := Lib.hid hw
      have HE1 := Lib.hid e1
      clear hla hix hca hge hq hw e1 hown hcu
      rw [hcl] at c0
      have HCL := Lib.hid hcl
      clear hcl
      go_wp2_with fail
      go_quiet (fail)
      go_wp2_with fail
      have hw1 := (HW.out.drewN nq).goto (tk + q) hqi (pl + 1) (g := g) (by rw [HE1.out]; rfl)
      rw [Int.natCast_add, Int.natCast_one] at hw1
      generalize (wr.drewN nq).setCell ⟨g, (tk + q) * 5 + 3, none⟩ (.int .i64 ((pl : Int) + 1)) = W1 at *
      clear e0 e2 e3 e4 e5 hu0 c0 c1 zn fg nq
      have HAT := Lib.hid (show ∀ (W : World) (lo hi : Int), TogX w W B nb v ((retgt (pl + 1) (idx tk (ps.take k)) l).modify (tk + q) (Ac.goto (pl + 1))) tk pl rc lo hi →
          W.cell? ⟨g, (tk + q) * 5, none⟩ = some (.int .i64 a.lo) ∧ W.cell? ⟨g, (tk + q) * 5 + 1, none⟩ = some (.int .i64 a.hi) ∧ W.cell? ⟨g, (tk + q) * 5 + 4, none⟩ = some (.int .i64 a.fl) ∧
          W.cell? ⟨w.heap.size + 1, 0, none⟩ = some (.int .i64 lo) ∧ W.cell? ⟨w.heap.size + 1, 1, none⟩ = some (.int .i64 hi) ∧ W.frozen? ⟨w.heap.size + 1, 0, none⟩ = false ∧ W.frozen? ⟨w.heap.size + 1, 1, none⟩ = false from by
        intro W lo hi h
        have hown := h.net.own
        have hml : ((retgt (pl + 1) (idx tk (ps.take k)) l).modify (tk + q) (Ac.goto (pl + 1))).length = (retgt (pl + 1) (idx tk (ps.take k)) l).length := by simp
        rw [HE1.out, ← hml] at hown
        obtain ⟨e0, e2, e3, e4, e5⟩ := (hown.at Ac.encW_len (tk + q) (by rw [hml]; exact hqi)).c5
        have hge : ((retgt (pl + 1) (idx tk (ps.take k)) l).modify (tk + q) (Ac.goto (pl + 1)))[tk + q]'(by rw [hml]; exact hqi) = a.goto (pl + 1) := by
          rw [List.getElem_modify, if_pos rfl, HGE.out]
        rw [hge] at e0 e2 e5
        have r0 := h.r1.cell 0
        have r1 := h.r1.cell 1
        simp only [List.getElem?_cons_zero, List.getElem?_cons_succ] at r0 r1
        exact ⟨e0, e2, e5, r0, r1, h.r1.frozen 0, h.r1.frozen 1⟩)
      have hbd := HT.out.bounds k
      have hap := HAP.out
      have hfa := HFA.out
      have hfs := tot_atI_le (idx tk (ps.take k)) l HT.out.circ.fits
      obtain ⟨slo, hslo⟩ : ∃ x, tot (atI Ac.lo l) (idx tk (ps.take k)) = x := ⟨_, rfl⟩
      obtain ⟨shi, hshi⟩ : ∃ x, tot (atI Ac.hi l) (idx tk (ps.take k)) = x := ⟨_, rfl⟩
      obtain ⟨sfl, hsfl⟩ : ∃ x, flSum (idx tk (ps.take k)) l = x := ⟨_, rfl⟩
      rw [hslo, hshi] at hw1 hbd hfs
      rw [hsfl] at hfs ⊢
      have HSLO := Lib.hid hslo
      clear hslo
      have HSHI := Lib.hid hshi
      clear hshi
      have HSFL := Lib.hid hsfl
      clear hsfl
      clear HW
      generalize hN : w.heap.size + 1 = N1 at *
      have HN := Lib.hid hN
      clear hN
      obtain ⟨t0, t1, t4, r0, r1, y0, y1⟩ := HAT.out _ _ _ hw1
      refine wp_region_head_drew 9 (by kernel_rfl) (by kernel_rfl) ?_
      simp only [List.take_succ_cons, List.take_zero, List.drop_succ_cons, List.drop_zero]
      repeat go_big_quiet_step (fail)
      refine wpQuiet_nil ?_
      rintro _ ⟨nq, rfl⟩
      go_wp2_with fail
      have hw2 := (hw1.drewN nq).sum 0 (slo + a.lo) (slo + a.lo) shi rfl
      rw [HN.out] at hw2
      clear hw1 t0 t1 t4 r0 r1 y0 y1
      generalize (W1.drewN nq).setCell ⟨N1, 0, none⟩ (.int .i64 (slo + a.lo)) = W2 at *
      clear nq
      obtain ⟨t0, t1, t4, r0, r1, y0, y1⟩ := HAT.out _ _ _ hw2
      refine wp_region_head_drew 9 (by kernel_rfl) (by kernel_rfl) ?_
      simp only [List.take_succ_cons, List.take_zero, List.drop_succ_cons, List.drop_zero]
      repeat go_big_quiet_step (fail)
      refine wpQuiet_nil ?_
      rintro _ ⟨nq, rfl⟩
      go_wp2_with fail
      have hw3 := (hw2.drewN nq).sum 1 (shi + a.hi) (slo + a.lo) (shi + a.hi) rfl
      rw [HN.out] at hw3
      clear hw2 t0 t1 t4 r0 r1 y0 y1
      generalize (W2.drewN nq).setCell ⟨N1, 1, none⟩ (.int .i64 (shi + a.hi)) = W3 at *
      clear nq
      obtain ⟨t0, t1, t4, r0, r1, y0, y1⟩ := HAT.out _ _ _ hw3
      go_wp2_with fail
      obtain rfl := HN.out
      go_roundw
      case rel =>
        have hat : ∀ f : Ac → Int, atI f l (tk + q) = f a := fun f => by unfold atI; rw [HLA.out]
        refine ⟨k + 1, by omega, by go_num, ?_, ?_⟩
        · rw [HIX.out]; unfold flSum; rw [tot_snoc, hat]; rw [← HSFL.out]; rfl
        · unfold TogW
          rw [HIX.out, retgt_snoc, tot_snoc, tot_snoc, hat, hat, HSLO.out, HSHI.out]
          exact hw3
      case measure => simp [intOf]; omega
    · obtain rfl : k = ps.length := by omega
      unfold TogW at hw
      rw [List.take_length] at hw
      have hbd' := HT.out.bounds ps.length
      rw [List.take_length] at hbd'
      have HBD := Lib.hid hbd'
      clear hbd'
      have hcl : (retgt (pl + 1) (idx tk ps) l).length = tk + pl := by rw [retgt_length, HT.out.len]
      have hbd := HT.out.bounds ps.length
      rw [List.take_length] at hbd ⊢
      have hfs := tot_atI_le (idx tk ps) l HT.out.circ.fits
      have c0' := hw.net.toA.c0
      have f0' := hw.net.box.frozen 0
      have q2' := hw.net.box.lt
      have r0' := hw.r1.cell 0
      have r1' := hw.r1.cell 1
      have rz := hw.r1.lt
      simp only [List.getElem?_cons_zero, List.getElem?_cons_succ] at r0' r1'
      have n2' := hw.net.ne
      have HL2 := Lib.hid (show retgt (pl + 1) (idx tk ps) l ++ [⟨pl + 1, 0, tot (atI Ac.lo l) (idx tk ps), tot (atI Ac.hi l) (idx tk ps), flSum (idx tk ps) l⟩] = joinA pl (idx tk ps) l from rfl)
      obtain ⟨L, hL⟩ : ∃ L, retgt (pl + 1) (idx tk ps) l = L := ⟨_, rfl⟩
      obtain ⟨slo, hslo⟩ : ∃ x, tot (atI Ac.lo l) (idx tk ps) = x := ⟨_, rfl⟩
      obtain ⟨shi, hshi⟩ : ∃ x, tot (atI Ac.hi l) (idx tk ps) = x := ⟨_, rfl⟩
      obtain ⟨sfl, hsfl⟩ : ∃ x, flSum (idx tk ps) l = x := ⟨_, rfl⟩
      rw [hslo, hshi] at hw hbd hfs HL2
      rw [hsfl] at hfs HL2 ⊢
      rw [hL] at hw HL2 hcl
      have HLL := Lib.hid (show (retgt (pl + 1) (idx tk ps) l).length = L.length by rw [hL])
      rw [hslo] at r0'
      rw [hshi] at r1'
      clear hslo hshi hsfl hL
      have HW := Lib.hid hw
      have HT7 := Lib.hid Tryz.underlying93
      have HI := Lib.hid Tryz.info106
      have HLK := Lib.hid (show L.length ≤ 1000000 by omega)
      have HCS := Lib.hid (show (#[Value.int .i64 slo, .int .i64 shi, .int .i64 ((pl : Int) + 1), .int .i64 0, .int .i64 sfl] : Array Value).toList = Ac.encW ⟨pl + 1, 0, slo, shi, sfl⟩ by
        simp only [Ac.encW]; simp)
      have hll : L.length ≤ 160 := by omega
      have hBw := hw.nbB
      have hnbw := hw.nb0
      clear hw
      have HCL := Lib.hid hcl
      clear hcl
      go_wp2_with fail
      refine wp_region_noPanic ?_
      refine wp_region_flow1 10 9 _ 1 92 _ _ _ (by decide) (by kernel_rfl) (by kernel_rfl) (by kernel_rfl) rfl rfl rfl rfl rfl (fun _ _ _ h => h.elim) ?_
      apply Exists.intro
      refine ⟨fun Y => ?_, ?_⟩
      simp only [headsOf, List.take_succ_cons, List.drop_succ_cons, List.take_zero, List.drop_zero, Nat.reduceSub, List.cons_append, List.nil_append]
      repeat go_big_quiet_step (fail)
      exact wpQuiet_nil rfl
      apply Exists.intro
      refine ⟨fun w => ?_, fun g w2 hb2 hg2 hc2 => ?_⟩
      go_simp
      first | rfl | (go_ints; rfl)
      have HH := Lib.hid hb2
      have hnet2 := HW.out.net.later hb2
      have q0 := hnet2.toA.c0
      have q1 := hnet2.box.frozen 0
      have q2 := hnet2.box.lt
      simp only [Act.put, List.setIfInBounds_toArray, List.set_cons_succ, List.set_cons_zero, List.drop_succ_cons, List.drop_zero]
      have HBASE := Lib.hid (show B ≤ w2.heap.size by omega)
      go_wp2_with (at_builtin; refine wpList_pushB Ac.encW 5 40 93 92 _ HT7.out HI.out rfl (by decide) (by decide) Ac.encW_len Ac.encW_one _ ⟨pl + 1, 0, slo, shi, sfl⟩ B w2 g _ _ hc2 HCS.out _ hnet2.own HBASE.out HLK.out rfl _ _ rfl rfl rfl ?_; intro v' w' hown' hg'; obtain ⟨a', cap', rfl⟩ := hown'.shape; have HOW := Lib.hid hown'; have HGR := Lib.hid hg'; have hbn := hnet2.box.grown hg' (Ne.symm n2'); have r0 := hbn.cell 0; have r1 := hbn.frozen 0; have r2 := hbn.lt; simp only [netCells, List.getElem?_cons_zero] at r0; clear hown' hg')
      refine NoPanic.normal ?_
      go_wp2_with fail
      have hbB : Below B w w2 := HW.out.below.trans (HH.out.mono (by omega))
      have hbB' : Below B w w' := hbB.grown HGR.out (by have := hbB.size; omega) fun j hj => (World.ownsRow.lt hnet2.own j hj).1
      have hr0 : Box (w'.setCell ⟨nb, 0, none⟩ (.slice a' (L.length + 1) cap')) w.heap.size 34 [.int .i64 0, .int .i64 0] := ((HW.out.r0.later HH.out).grown HGR.out (fun e => by
        have := HW.out.v0 _ e.symm; omega)).other _ (by dsimp only; omega)
      have hownF := HOW.out
      rw [List.length_append, List.length_singleton] at hownF
      have hnn := hownF.other_type hbn (by decide)
      have hn3 : NetR (w'.setCell ⟨nb, 0, none⟩ (.slice a' (L.length + 1) cap')) B nb (.slice a' (L.length + 1) cap') (L ++ [⟨pl + 1, 0, slo, shi, sfl⟩]) tk pl rc := by
        have h := NetR.mk (hbn.set 0 (.slice a' (L.length + 1) cap')) (hownF.other (a := ⟨nb, 0, none⟩) _ (by simpa using hnn)) (by simpa using hnn) HW.out.net.n36
        simpa using h
      have hbel3 : Below B w (w'.setCell ⟨nb, 0, none⟩ (.slice a' (L.length + 1) cap')) := hbB'.setCell (by dsimp only; omega) _
      have hn4 : Value.ownBlock (.slice a' (L.length + 1) cap') ≠ some w.heap.size := hn3.own.other_type hr0 (by decide)
      rw [HL2.out] at hn3
      generalize w'.setCell ⟨nb, 0, none⟩ (.slice a' (L.length + 1) cap') = W3 at *
      have hjl : (joinA pl (idx tk ps) l)[L.length]? = some ⟨pl + 1, 0, slo, shi, sfl⟩ := by rw [← HL2.out]; simp
      have hjn : L.length < (joinA pl (idx tk ps) l).length := (List.getElem?_eq_some_iff.1 hjl).1
      have hjc := joinA_circ HT.out.ends HT.out.circ HT.out.outI
      have hje := joinA_ends (is := idx tk ps) HT.out.ends
      refine (extent79 B nb _ (joinA pl (idx tk ps) l) tk pl rc L.length W3 hn3 (by rw [← HL2.out]; simp; omega) ?_ hjc.fits (fun a ha => by have := hje a ha; omega) hjn ?_).mono ?_
      · exact joinA_small HT.out HBD.out
      · rw [(List.getElem?_eq_some_iff.1 hjl).2]; simp
      rintro e w4 ⟨l', rc', lo, hi, rfl, hn5, hk5, _, _, hext⟩
      have hr5 := hr0.keeps hk5 (by
        rintro (h | h)
        · omega
        · exact hn4 h)
      have hbel5 : Below B w w4 := hbel3.trans (hk5.toBelow (by have := hr0.lt; omega) (by
        rintro j (rfl | h)
        · exact hBw
        · exact (World.ownsRow.lt hn3.own j h).1))
      obtain ⟨hcc, hex⟩ := hext (pl + 2) hje hjc
      have HFIN := Lib.hid (together_of HT.out.ends HT.out.outI (by rw [← retgt_length (pl + 1) (idx tk ps) l, HLL.out]; exact hex))
      have HR5 := Lib.hid hr5
      have HB5 := Lib.hid hbel5
      have x0 := hr5.cell 0
      have x1 := hr5.cell 1
      have y0 := hr5.frozen 0
      have y1 := hr5.frozen 1
      have zz := hr5.lt
      simp only [List.getElem?_cons_zero, List.getElem?_cons_succ] at x0 x1
      clear hext hex hcc hr5 hbel5 hk5 hn5 hjc hje hjn hjl hn3 hn4 hbel3 hr0
      go_wp2_with fail
      have hx6 := (HR5.out.set 0 (.int .i64 lo)).set 1 (.int .i64 hi)
      have hb6 : Below B w ((w4.setCell ⟨w.heap.size, 0, none⟩ (.int .i64 lo)).setCell ⟨w.heap.size, 1, none⟩ (.int .i64 hi)) := (HB5.out.setCell (by dsimp only; omega) _).setCell (by dsimp only; omega) _
      clear x0 x1 y0 y1
      have x0 := hx6.cell 0
      have x1 := hx6.cell 1
      simp only [List.set_cons_zero, List.set_cons_succ, List.getElem?_cons_zero, List.getElem?_cons_succ] at x0 x1
      generalize (w4.setCell ⟨w.heap.size, 0, none⟩ (.int .i64 lo)).setCell ⟨w.heap.size, 1, none⟩ (.int .i64 hi) = w6 at *
      refine bodyPost_ret (v := .agg #[.int .i64 lo, .int .i64 hi]) (by simp [results, Tryz.results37, go_sem, *]) rfl ?_
      exact ⟨lo, hi, rfl, hb6, HFIN.out⟩
end Go.Proofs.YtflchbejjofppaaGreatDoor
/- Walks: weigh.Change. -/
namespace Go.Proofs.YtflchbejjofppaaGreatDoor
open Go Go.Proofs Go.RowKit
theorem ckNums_ok {l : List Int} {n : Nat} (h : ckNums l n = 0) : (∀ p ∈ l, 0 ≤ p ∧ p < n) ∧ l.Nodup := by
  unfold ckNums at h
  by_cases h1 : l.any (outB n) = true
  · rw [if_pos h1] at h; cases h
  · rw [if_neg h1] at h
    by_cases h2 : l.Nodup
    · refine ⟨fun p hp => ?_, h2⟩
      have h3 : outB n p = false := by
        cases h4 : outB n p with
        | false => rfl
        | true => exact absurd (List.any_eq_true.2 ⟨p, hp, h4⟩) h1
      simp [outB] at h3
      omega
    · rw [if_neg h2] at h; cases h
theorem arcs_out {b : Bk} {i : Nat} {a : Ac} (hi : b.ts.length ≤ i) (h : (arcsOf b)[i]? = some a) : a.to = 0 := by
  unfold arcsOf at h
  rw [List.getElem?_append_right (by simpa using hi)] at h
  obtain ⟨p, hp, rfl⟩ := List.mem_map.1 (List.mem_of_getElem? h)
  rfl
theorem togH_of {b : Bk} {l : List Ac} {ps : List Int} (hok : OkBk b) (hn : ckNums ps b.st.length = 0) (hs : shp l = shp (arcsOf b)) (hc : Circ (b.st.length + 1) l) : TogH l b.ts.length b.st.length ps := by
  obtain ⟨h1, h2⟩ := ckNums_ok hn
  have hat : ∀ (i : Nat) (a : Ac), l[i]? = some a → ∃ a' : Ac, (arcsOf b)[i]? = some a' ∧ a'.fr = a.fr ∧ a'.to = a.to ∧ a'.lo = a.lo ∧ a'.hi = a.hi := fun i a ha => shp_at hs.symm ha
  refine ⟨by rw [shp_length hs, arcs_len], hok.ts128, hok.st32, fun a ha => ?_, shp_ends hs.symm (arcs_ends hok), hc, fun a ha => ?_, fun i a hi ha => ?_, h1, h2⟩
  · obtain ⟨i, hi⟩ := List.mem_iff_getElem?.1 ha
    obtain ⟨a', e1, e2, e3, e4, e5⟩ := hat i a hi
    have := arcs_props hok (List.mem_of_getElem? e1)
    omega
  · obtain ⟨i, hi⟩ := List.mem_iff_getElem?.1 ha
    obtain ⟨a', e1, e2, e3, e4, e5⟩ := hat i a hi
    have := arcs_props hok (List.mem_of_getElem? e1)
    rw [← e2, ← e3]
    exact this.2.2.1
  · obtain ⟨a', e1, e2, e3, e4, e5⟩ := hat i a ha
    rw [← e3]
    exact arcs_out hi e1
theorem Together.shp {n : Nat} {l l' : List Ac} {is : List Nat} {lo hi : Int} (hs : shp l' = shp l) (h : Together n l' is lo hi) : Together n l is lo hi := by
  obtain ⟨⟨l1, h1, h2⟩, ⟨l3, h3, h4⟩, h5⟩ := h
  exact ⟨⟨l1, h1.trans hs, h2⟩, ⟨l3, h3.trans hs, h4⟩, fun l2 e1 e2 => h5 l2 (e1.trans hs.symm) e2⟩
def chE (b : Bk) (ps : List Int) : Int := firstNZ [ckBook b, ckNums ps b.st.length]
def ChangePost (w : World) (b : Bk) (ps : List Int) (e : Ending) (w' : World) : Prop :=
  Below w.heap.size w w' ∧ ((chE b ps ≠ 0 ∧ e = .returned (.tuple #[.agg #[.int .i64 0, .int .i64 0], .int .i64 (chE b ps)])) ∨ (chE b ps = 0 ∧ ¬ Con b ∧ e = .returned (.tuple #[.agg #[.int .i64 0, .int .i64 0], .int .i64 15])) ∨
    (chE b ps = 0 ∧ Con b ∧ ∃ lo hi, Together b.st.length (arcsOf b) (idx b.ts.length ps) lo hi ∧
      ((ckRange ⟨lo, hi⟩ ≠ 0 ∧ e = .returned (.tuple #[.agg #[.int .i64 0, .int .i64 0], .int .i64 4])) ∨ (ckRange ⟨lo, hi⟩ = 0 ∧ e = .returned (.tuple #[.agg #[.int .i64 lo, .int .i64 hi], .int .i64 0])))))
set_option maxRecDepth 100000 in
set_option maxHeartbeats 1000000 in
theorem change29 (w : World) (v1 v2 u : Value) (b : Bk) (ps : List Int) (hv : BkR w w.heap.size v1 v2 b) (hu : Sl encI 1 w w.heap.size u ps) : Calls Tryz.prog 9 #[.agg #[v1, v2], u] w (ChangePost w b ps) := by
  have HC := Lib.hid (fun (w1 : World) (hb : Below w.heap.size w w1) => ckBook25 v1 v2 b w1 (hv.later hb))
  have HS := Lib.hid (fun (w1 : World) (hb : Below w.heap.size w w1) (hok : OkBk b) => settle72 w1 v1 v2 b hok (hv.later hb))
  have HU := Lib.hid hu
  have hl1 : b.st.length ≤ 1000000000 := by obtain ⟨a1, n1, _, h, _⟩ := hv.st; exact h
  have HN := Lib.hid (fun (w1 : World) (hb : Below w.heap.size w w1) => numbers71 u ps b.st.length w1 (hu.later hb) (by omega))
  obtain ⟨⟨a1, n1, hv1, hl1, hA1⟩, ⟨a2, n2, hv2, hl2, hA2⟩, hids⟩ := hv
  subst hv1 hv2
  clear hA1 hA2 hids hu
  go_enter Tryz.func9, Tryz.ntmps9
  go_wp2_with fail
  have hx0 := (Box.new w #[.slice a1 b.st.length n1, .slice a2 b.ts.length n2] 25).alloc (.cells #[.int .i64 0, .int .i64 0] 34)
  have hr0 := Box.new (w.alloc (.cells #[.slice a1 b.st.length n1, .slice a2 b.ts.length n2] 25)) #[.int .i64 0, .int .i64 0] 34
  have hs0 : (w.alloc (.cells #[.slice a1 b.st.length n1, .slice a2 b.ts.length n2] 25)).heap.size = w.heap.size + 1 := by simp
  rw [hs0] at hr0
  have hb0 : Below w.heap.size w ((w.alloc (.cells #[.slice a1 b.st.length n1, .slice a2 b.ts.length n2] 25)).alloc (.cells #[.int .i64 0, .int .i64 0] 34)) := ((Below.refl _ _).alloc (Nat.le_refl _) _).alloc (by simp) _
  clear hs0
  generalize (w.alloc (.cells #[.slice a1 b.st.length n1, .slice a2 b.ts.length n2] 25)).alloc (.cells #[.int .i64 0, .int .i64 0] 34) = W0 at *
  have HC2 := Lib.hid (fun (X : Later W0) => HC.out X.w (hb0.trans (X.h.mono hb0.size)))
  have HN2 := Lib.hid (fun (X : Later W0) => HN.out X.w (hb0.trans (X.h.mono hb0.size)))
  have x0 := hx0.cell 0
  have x1 := hx0.cell 1
  have xz := hx0.lt
  simp only [List.getElem?_cons_zero, List.getElem?_cons_succ] at x0 x1
  have HX0 := Lib.hid hx0
  have HR0 := Lib.hid hr0
  have HB0 := Lib.hid hb0
  clear hx0 hr0 hb0 HC HN
  refine wp_region_head_later 7 (by kernel_rfl) (by kernel_rfl) ?_
  simp only [List.take_succ_cons, List.take_zero, List.drop_succ_cons, List.drop_zero]
  repeat go_big_quiet_step ((first | (go_at_call 34; exact Calls.later (HC2.out _)) | (go_at_call 35; exact Calls.later (HN2.out _))))
  refine wpQuiet_nil ?_
  rintro w1 ⟨⟨_, hb1⟩, rfl⟩
  have hx1 := HX0.out.later hb1
  have hr1 := HR0.out.later hb1
  have HB1 := Lib.hid (HB0.out.trans (hb1.mono HB0.out.size))
  clear HX0 HR0 HB0 HC2 HN2 hb1 x0 x1 xz
  have x0 := hx1.cell 0
  have x1 := hx1.cell 1
  have y0 := hr1.cell 0
  have y1 := hr1.cell 1
  have yf0 := hr1.frozen 0
  have yf1 := hr1.frozen 1
  have xz := hx1.lt
  have yz := hr1.lt
  simp only [List.getElem?_cons_zero, List.getElem?_cons_succ] at x0 x1 y0 y1
  have HR1 := Lib.hid hr1
  have HX1 := Lib.hid hx1
  clear hr1 hx1
  have HCE := Lib.hid (show chE b ps = firstNZ [ckBook b, ckNums ps b.st.length] from rfl)
  generalize hE : chE b ps = E at *
  have hfirst := first63 (.slice (some ⟨w1.heap.size, 0, none⟩) 2 2) [ckBook b, ckNums ps b.st.length] _ (Sl.lit encI_len _ w1 #[.int .i64 (ckBook b), .int .i64 (ckNums ps b.st.length)] 30 2 rfl rfl (by simp))
  rw [← HCE.out] at hfirst
  have HF := Lib.hid hfirst
  clear hfirst
  have HE := Lib.hid hE
  clear hE
  have HFX := Lib.hid (show ∀ (v : Value), ChangePost w b ps (.returned v) = ChangePost w b ps (.returned v) from fun _ => rfl)
  by_cases h0 : E = 0
  · subst h0
    go_wp2_with (go_at_call 33; refine HF.out.mono ?_; rintro e w' ⟨rfl, rfl⟩)
    have HCK := Lib.hid (firstNZ_2.1 HCE.out.symm)
    have hb2 : Below w.heap.size w (w1.alloc (.cells #[.int .i64 (ckBook b), .int .i64 (ckNums ps b.st.length)] 30)) := HB1.out.alloc (by omega) _
    have hr2 := HR1.out.alloc (.cells #[.int .i64 (ckBook b), .int .i64 (ckNums ps b.st.length)] 30)
    generalize w1.alloc (.cells #[.int .i64 (ckBook b), .int .i64 (ckNums ps b.st.length)] 30) = w2 at *
    refine (HS.out w2 hb2 (okBk_of HCK.out.1)).mono ?_
    intro e w3 hp
    obtain ⟨ok, nb, v, l, rc, rfl, hn, hb3, hnb, hsh, _, hiff, hci, _⟩ := settle_con (okBk_of HCK.out.1) hp
    have hr3 := hr2.later hb3
    have hz2 := hr2.lt
    have HB3 := Lib.hid (hb2.trans (hb3.mono hb2.size))
    have hz3 := hb3.size
    have HIF := Lib.hid hiff
    have HHN := Lib.hid hn
    have HHB := Lib.hid hnb
    have HHS := Lib.hid hsh
    have HHC := Lib.hid hci
    have HU3 := Lib.hid ((HU.out.below (HB3.out)).mono hb2.size)
    clear hp hb3 hn hnb hsh hiff hci x0 x1 xz yz y0 y1 yf0 yf1 hr2 hb2
    have y0 := hr3.cell 0
    have y1 := hr3.cell 1
    have yf0 := hr3.frozen 0
    have yf1 := hr3.frozen 1
    have yz := hr3.lt
    simp only [List.getElem?_cons_zero, List.getElem?_cons_succ] at y0 y1
    have HR3 := Lib.hid hr3
    clear hr3
    cases ok
    · go_wp2_with fail
      refine bodyPost_ret (v := .tuple #[.agg #[.int .i64 0, .int .i64 0], .int .i64 15]) (by simp [results, Tryz.results9, go_sem, *]) rfl ?_
      refine ⟨?_, .inr (.inl ⟨HE.out, fun h => (by have := HIF.out.2 h; cases this), rfl⟩)⟩
      repeat (first | exact HB3.out | exact Below.refl _ _ | refine Below.setCell ?_ (by first | (dsimp only; omega) | (simp; done) | (simp; omega)) _ | refine Below.alloc ?_ (by first | omega | (simp; done) | (simp; omega)) _ | refine Below.drew ?_)
    · have hcirc := HHC.out rfl
      have HTG := Lib.hid (together73 w2.heap.size nb v l b.ts.length b.st.length rc u ps w3 HHN.out HHB.out HU3.out (togH_of (okBk_of HCK.out.1) HCK.out.2 HHS.out hcirc))
      go_wp2_with fail
      refine HTG.out.mono ?_
      rintro e w4 ⟨lo, hi, rfl, hb4, htog⟩
      have hr4 : Box w4 (w.heap.size + 1) 34 [.int .i64 0, .int .i64 0] := (hb4.block _ hz2).trans HR3.out
      have HB4 := Lib.hid (HB3.out.trans (hb4.mono (by omega)))
      have HT4 := Lib.hid (htog.shp HHS.out)
      have hz4 := hr4.lt
      have HR4 := Lib.hid hr4
      have HE' := Lib.hid (show chE b ps = 0 from HE.out)
      clear hb4 htog y0 y1 yf0 yf1 hr4
      have hcr := ckRange54 ⟨lo, hi⟩
      obtain ⟨n, hn⟩ : ∃ n, ckRange ⟨lo, hi⟩ = n := ⟨_, rfl⟩
      rw [hn] at hcr
      have HNN := Lib.hid hn
      clear hn
      have HCR := Lib.hid hcr
      clear hcr
      go_wp2_with fail
      refine (HCR.out _).mono ?_
      rintro e w5 ⟨rfl, hb5⟩
      have hr5 := (HR4.out.alloc (.cells #[.int .i64 lo, .int .i64 hi] 34)).later hb5
      have hx5 := (Box.new w4 #[.int .i64 lo, .int .i64 hi] 34).later hb5
      have HB5 := Lib.hid ((HB4.out.alloc HB4.out.size (.cells #[.int .i64 lo, .int .i64 hi] 34)).trans (hb5.mono (by have := HB4.out.size; simp; omega)))
      clear hb5
      have t0 := hx5.cell 0
      have t1 := hx5.cell 1
      have tz := hx5.lt
      have y0 := hr5.cell 0
      have y1 := hr5.cell 1
      have yf0 := hr5.frozen 0
      have yf1 := hr5.frozen 1
      have yz := hr5.lt
      simp only [List.getElem?_cons_zero, List.getElem?_cons_succ] at y0 y1 t0 t1
      have hne5 : w4.heap.size ≠ w.heap.size + 1 := by omega
      clear hr5 hx5
      by_cases hn0 : n = 0
      · subst hn0
        go_wp2_with fail
        refine bodyPost_ret (v := .tuple #[.agg #[.int .i64 lo, .int .i64 hi], .int .i64 0]) (by simp [results, Tryz.results9, go_sem, *]) rfl ?_
        refine ⟨?_, .inr (.inr ⟨HE'.out, HIF.out.1 (by trivial), lo, hi, HT4.out, .inr ⟨HNN.out, rfl⟩⟩)⟩
        repeat (first | exact HB5.out | exact Below.refl _ _ | refine Below.setCell ?_ (by first | (dsimp only; omega) | (simp; done) | (simp; omega)) _ | refine Below.alloc ?_ (by first | omega | (simp; done) | (simp; omega)) _ | refine Below.drew ?_)
      · have hne : (n == 0) = false := by simp [hn0]
        go_wp2_with fail
        refine bodyPost_ret (v := .tuple #[.agg #[.int .i64 0, .int .i64 0], .int .i64 4]) (by simp [results, Tryz.results9, go_sem, *]) rfl ?_
        refine ⟨?_, .inr (.inr ⟨HE'.out, HIF.out.1 (by trivial), lo, hi, HT4.out, .inl ⟨by rw [HNN.out]; exact hn0, rfl⟩⟩)⟩
        repeat (first | exact HB5.out | exact Below.refl _ _ | refine Below.setCell ?_ (by first | (dsimp only; omega) | (simp; done) | (simp; omega)) _ | refine Below.alloc ?_ (by first | omega | (simp; done) | (simp; omega)) _ | refine Below.drew ?_)
  · have hne : (E == 0) = false := by simp [h0]
    go_wp2_with (go_at_call 33; refine HF.out.mono ?_; rintro e w' ⟨rfl, rfl⟩)
    refine bodyPost_ret (v := .tuple #[.agg #[.int .i64 0, .int .i64 0], .int .i64 E]) (by simp [results, Tryz.results9, go_sem, *]) rfl ?_
    refine ⟨?_, .inl ⟨by rw [HE.out]; exact h0, by rw [HE.out]⟩⟩
    repeat (first | exact HB1.out | exact Below.refl _ _ | refine Below.setCell ?_ (by first | (dsimp only; omega) | (simp; done) | (simp; omega)) _ | refine Below.alloc ?_ (by first | omega | (simp; done) | (simp; omega)) _ | refine Below.drew ?_)
end Go.Proofs.YtflchbejjofppaaGreatDoor
