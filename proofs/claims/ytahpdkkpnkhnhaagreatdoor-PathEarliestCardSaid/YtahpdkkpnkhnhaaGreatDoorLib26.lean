/- Lemmas on the way to the laws (part 26): Fa Fb Fc -/
import Derived.Test.YtahpdkkpnkhnhaaGreatDoorLib25
set_option linter.unusedVariables false
set_option linter.unusedSimpArgs false

/- Walks: CheckCut's search: what it keeps; its rounds, plainly. -/
namespace Go.Proofs.YtahpdkkpnkhnhaaGreatDoor
open Go Go.Proofs Go.RowKit Go.Shelf
attribute [local go_sem] Oper.semAt_some

/-- All of these machines have answered no. -/
inductive NoY (V : List Bool → Int → Option (Bool × List Bool)) (ok : Int → Bool) : List Int → List Bool → List Bool → Prop
  | nil {s : List Bool} : NoY V ok [] s s
  | skip {l : List Int} {s s' : List Bool} {x : Int} : NoY V ok l s s' → ok x = false → NoY V ok (l ++ [x]) s s'
  | no {l : List Int} {s s' s'' : List Bool} {x : Int} : NoY V ok l s s' → ok x = true → V s' x = some (false, s'') → NoY V ok (l ++ [x]) s s''
theorem goN_cons (V : List Bool → Int → Option (Bool × List Bool)) (ok : Int → Bool) (x : Int) (r : List Int) (s : List Bool) : goN V ok (x :: r) s = if ok x then (match V s x with
      | some (true, s') => some (true, s')
      | some (false, s') => goN V ok r s'
      | none => none) else goN V ok r s := rfl
theorem goN_app {V : List Bool → Int → Option (Bool × List Bool)} {ok : Int → Bool} : ∀ (a b : List Int) (s : List Bool), goN V ok (a ++ b) s = match goN V ok a s with
    | some (true, s') => some (true, s')
    | some (false, s') => goN V ok b s'
    | none => none
  | [], b, s => rfl
  | x :: a, b, s => by
    rw [List.cons_append, goN_cons, goN_cons]
    by_cases h : ok x = true
    · rw [if_pos h, if_pos h]
      cases hV : V s x with
      | none => rfl
      | some r =>
        obtain ⟨c, s'⟩ := r
        cases c
        · exact goN_app a b s'
        · rfl
    · rw [if_neg h, if_neg h]
      exact goN_app a b s
theorem NoY.go {V : List Bool → Int → Option (Bool × List Bool)} {ok : Int → Bool} {l : List Int} {s s' : List Bool} (h : NoY V ok l s s') : goN V ok l s = some (false, s') := by
  induction h with
  | nil => rfl
  | skip _ hx ih =>
    rw [goN_app, ih]
    show goN V ok [_] _ = _
    unfold goN; rw [if_neg (by rw [hx]; simp)]; rfl
  | no _ hx hV ih =>
    rw [goN_app, ih]
    show goN V ok [_] _ = _
    unfold goN; rw [if_pos hx, hV]; rfl
theorem NoY.yes {V : List Bool → Int → Option (Bool × List Bool)} {ok : Int → Bool} {l L : List Int} {s s' sF : List Bool} {x : Int} (h : NoY V ok l s s') (hx : ok x = true) (hV : V s' x = some (true, sF)) (hp : l ++ [x] <+: L) : goN V ok L s = some (true, sF) := by
  obtain ⟨r, rfl⟩ := hp
  rw [List.append_assoc, goN_app, h.go]
  show goN V ok (x :: r) s' = _
  unfold goN; rw [if_pos hx, hV]
theorem goN_len {V : List Bool → Int → Option (Bool × List Bool)} {ok : Int → Bool} (hV : ∀ s x b s', V s x = some (b, s') → s'.length = s.length) : ∀ (l : List Int) (s : List Bool) (b : Bool) (s' : List Bool), goN V ok l s = some (b, s') → s'.length = s.length
  | [], s, b, s', h => by cases h; rfl
  | x :: r, s, b, s', h => by
    unfold goN at h
    split at h
    · split at h
      · rename_i h1; cases h; exact hV _ _ _ _ h1
      · rename_i h1; exact (goN_len hV r _ b s' h).trans (hV _ _ _ _ h1)
      · cases h
    · exact goN_len hV r s b s' h
theorem visN_len (p : Pl) (cut ends starts : List Int) : ∀ (f : Nat) (s : List Bool) (m : Int) (b : Bool) (s' : List Bool), visN p cut ends starts f s m = some (b, s') → s'.length = s.length
  | 0, _, _, _, _, h => by cases h
  | f + 1, s, m, b, s', h => by
    unfold visN at h
    split at h
    · cases h; rfl
    · split at h
      · cases h; exact List.length_set
      · split at h
        · cases h; exact List.length_set
        · exact (goN_len (fun s x b s' h => visN_len p cut ends starts f s x b s' h) _ _ b s' h).trans List.length_set

theorem next_stopsP (n : Nat) (hn : 2 ≤ n) (q B : Nat) (a1 : Option Addr) (nm c1 : Nat) (v2 : Value) (p : Pl) (m : Int) (hl : p.arcs.length ≤ 256) (w : World) (hit : NxR w q B (.slice a1 nm c1) v2 p m) :
    SeqStopsK Fence.wide n Tryz.prog 139 #[.pointer (some ⟨q, 0, none⟩), .pointer (some ⟨q + 1, 0, none⟩)] (fun x : Nxt p m => encN x.1) (KpN q B (.slice a1 nm c1) v2 p m)
      (fun ys => ys.map Subtype.val = nextL p m) (fun ys => ys.map Subtype.val <+: nextL p m) 1000 w := fun lp J Jx W hW hJ hJx hY h0 => by
  refine (next139 n hn q B a1 nm c1 v2 p m hl lp (fun xs W => ∃ pre : List (Nxt p m), pre.map Subtype.val = xs ∧ J pre W) (fun xs W => ∃ pre : List (Nxt p m), pre.map Subtype.val = xs ∧ Jx pre W) W (hit.later hW)
    (fun s A B' row ⟨pre, h1, h2⟩ hg hr => ⟨pre, h1, hJ _ _ _ _ h2 hg hr⟩) ?_ ⟨[], rfl, h0⟩).mono ?_
  · rintro _ x W1 hx ⟨pre, rfl, hp⟩ hlen
    obtain ⟨fn, tmps, assign, body, hy, hR⟩ := hY pre ⟨x, nextTo_mem hx⟩ W1 hp (by simpa using hlen)
    refine ⟨fn, tmps, assign, body, hy, hR.mono ?_⟩
    rintro e W' (⟨rfl, h1, h2⟩ | ⟨rfl, h1⟩)
    · exact .inl ⟨rfl, ⟨_, by simp, h1⟩, h2⟩
    · exact .inr ⟨rfl, _, by simp, h1⟩
  · rintro e W' ⟨hv, (⟨xs, hS, pre, hp, hj⟩ | ⟨xs, hS, pre, hp, hj⟩)⟩
    · exact ⟨hv, .inl ⟨pre, (hp.trans hS).trans (nextTo_all p m), hj⟩⟩
    · exact ⟨hv, .inr ⟨pre, by show pre.map Subtype.val <+: nextL p m; rw [hp, ← nextTo_all p m]; exact hS, hj⟩⟩
/-- The function returns what stands in a cell: its marks are taken up one by one. -/
theorem leaves_marksG {w0s : Nat} {F : Fence} {n : Nat} {P : Program} {fn : Func} {tmps : Array Value} {R : Ending → World → Prop} {v : Value} (G : World → Prop) (hres : ∀ W : World, G W → (results fn tmps).run P W = .ok v W)
    (hG : ∀ (W : World) (D : Nat) (o : Obj), G W → W.heap[D]? = some o → o.isCells = false → w0s ≤ D → G (W.putObj D (.deferred none))) (hR : ∀ W, G W → R (.returned v) W) :
    ∀ (Ds : List Nat) (W : World), Ds.Nodup → MarksIn W Ds → (∀ D ∈ Ds, w0s ≤ D) → G W → LeavesInM F n P fn tmps R (marksOf Ds) .returning W
  | [], W, _, _, _, hg => ⟨v, hres W hg, hR W hg⟩
  | D :: Ds, W, hn, hm, hw, hg => by
    have hD := hm D (by simp)
    obtain ⟨h1, h2⟩ := List.nodup_cons.1 hn
    refine ⟨by simp, .inl ⟨D, _, rfl, run_takeDeferred hD, ?_⟩⟩
    refine leaves_marksG G hres hG hR Ds _ h2 (fun E hE => ?_) (fun E hE => hw E (by simp [hE])) (hG W D _ hg hD rfl (hw D (by simp)))
    rw [World.putObj_heap_other (by intro e; subst e; exact h1 hE)]
    exact hm E (by simp [hE])

/-- What the search of CheckCut keeps in memory. -/
structure VcM (w W : World) (sb qc qe qp qs qv : Nat) (vc ve vs v1 v2 : Value) (seen : List Bool) : Prop where
  sn : Box W sb 118 (seen.map Value.bool)
  bc : Box W qc 26 [vc]
  be : Box W qe 26 [ve]
  bp : Box W qp 25 [v1, v2]
  bs : Box W qs 26 [vs]
  bv : Box W qv 138 [.func (.func 136) #[] #[.pointer (some ⟨sb, 0, none⟩), .pointer (some ⟨qc, 0, none⟩), .pointer (some ⟨qe, 0, none⟩), .pointer (some ⟨qp, 0, none⟩), .pointer (some ⟨qs, 0, none⟩), .pointer (some ⟨qv, 0, none⟩)]]
  nc : qc ≠ sb
  ne : qe ≠ sb
  np : qp ≠ sb
  ns : qs ≠ sb
  nv : qv ≠ sb
  lo : w.heap.size ≤ sb
  bw : Below w.heap.size w W
section
variable {w W W' : World} {sb qc qe qp qs qv : Nat} {vc ve vs v1 v2 : Value} {seen : List Bool}
theorem VcM.later (h : VcM w W sb qc qe qp qs qv vc ve vs v1 v2 seen) (hb : Below W.heap.size W W') : VcM w W' sb qc qe qp qs qv vc ve vs v1 v2 seen :=
  ⟨h.sn.later hb, h.bc.later hb, h.be.later hb, h.bp.later hb, h.bs.later hb, h.bv.later hb, h.nc, h.ne, h.np, h.ns, h.nv, h.lo, h.bw.trans (hb.mono h.bw.size)⟩
theorem VcM.keeps {seen' : List Bool} (h : VcM w W sb qc qe qp qs qv vc ve vs v1 v2 seen) (hk : Kept (fun k => k = sb) W W') (hs : Box W' sb 118 (seen'.map Value.bool)) : VcM w W' sb qc qe qp qs qv vc ve vs v1 v2 seen' :=
  ⟨hs, h.bc.keeps hk h.nc, h.be.keeps hk h.ne, h.bp.keeps hk h.np, h.bs.keeps hk h.ns, h.bv.keeps hk h.nv, h.nc, h.ne, h.np, h.ns, h.nv, h.lo, h.bw.trans (hk.toBelow h.bw.size (fun k e => by rw [e]; exact h.lo))⟩
theorem VcM.grown {row : Option Nat} (h : VcM w W sb qc qe qp qs qv vc ve vs v1 v2 seen) (hg : W.grownBy W' row) (hn : NoCells W row) (hr : ∀ k, row = some k → w.heap.size ≤ k) : VcM w W' sb qc qe qp qs qv vc ve vs v1 v2 seen :=
  ⟨h.sn.grown hg (hn.box h.sn), h.bc.grown hg (hn.box h.bc), h.be.grown hg (hn.box h.be), h.bp.grown hg (hn.box h.bp), h.bs.grown hg (hn.box h.bs), h.bv.grown hg (hn.box h.bv), h.nc, h.ne, h.np, h.ns, h.nv, h.lo, h.bw.grown hg h.bw.size hr⟩
theorem VcM.mark (h : VcM w W sb qc qe qp qs qv vc ve vs v1 v2 seen) (m : Nat) : VcM w (W.setCell ⟨sb, m, none⟩ (.bool true)) sb qc qe qp qs qv vc ve vs v1 v2 (seen.set m true) := by
  refine h.keeps ((Kept.refl _ W).set (p := ⟨sb, m, none⟩) _ (.inl rfl)) ?_
  have := h.sn.set m (.bool true)
  rwa [← List.map_set] at this
theorem VcM.other (h : VcM w W sb qc qe qp qs qv vc ve vs v1 v2 seen) {a : Addr} (u : Value) (h1 : a.block ≠ sb) (h2 : a.block ≠ qc) (h3 : a.block ≠ qe) (h4 : a.block ≠ qp) (h5 : a.block ≠ qs) (h6 : a.block ≠ qv) (h7 : w.heap.size ≤ a.block) : VcM w (W.setCell a u) sb qc qe qp qs qv vc ve vs v1 v2 seen :=
  ⟨h.sn.other _ (by omega), h.bc.other _ (by omega), h.be.other _ (by omega), h.bp.other _ (by omega), h.bs.other _ (by omega), h.bv.other _ (by omega), h.nc, h.ne, h.np, h.ns, h.nv, h.lo, h.bw.setCell h7 _⟩
end
noncomputable def b136 : Code := Tryz.f136.body.getD .skip
noncomputable def rng136 : Code := codeL (codeR (codeL (codeR (codeR (codeR (codeR (codeR b136)))))))
noncomputable def asg136 : Code := codeL rng136
noncomputable def bdy136 : Code := codeR rng136
theorem rng136_eq : rng136 = .rangeFunc (.tmp 38) #[39] asg136 bdy136 := rfl
noncomputable def r10_136 : Code := codeL (codeL bdy136)
noncomputable def if10_136 : Code := codeR (codeL bdy136)
theorem bdy136_eq : bdy136 = .block 1 (.seq r10_136 if10_136) := rfl
end Go.Proofs.YtahpdkkpnkhnhaaGreatDoor

/- Walks: CheckCut's search: the body of its range. -/
namespace Go.Proofs.YtahpdkkpnkhnhaaGreatDoor
open Go Go.Proofs Go.RowKit Go.Shelf
attribute [local go_sem] Oper.semAt_some

def fr136 (m : Int) (sb qc qe qp qs qv rc : Nat) (z : Nat → Value) : List Value := [.int .i64 m, .pointer (some ⟨sb, 0, none⟩), .pointer (some ⟨qc, 0, none⟩), .pointer (some ⟨qe, 0, none⟩), .pointer (some ⟨qp, 0, none⟩), .pointer (some ⟨qs, 0, none⟩), .pointer (some ⟨qv, 0, none⟩), z 7, .pointer (some ⟨rc, 0, none⟩), z 9, z 10, z 11, z 12, z 13, z 14, z 15, z 16, z 17, z 18, z 19, z 20, z 21, z 22, z 23, z 24, z 25, z 26, z 27, z 28, z 29, z 30, z 31, z 32, z 33, z 34, z 35, z 36, z 37, z 38, z 39, z 40, z 41, z 42, z 43, z 44, z 45, z 46, z 47, z 48, z 49, z 50, z 51, z 52, z 53, z 54, z 55]
theorem fr136_of (m : Int) (sb qc qe qp qs qv rc : Nat) (L : List Value) (hL : L.length = 56) (h0 : L[0]? = some (.int .i64 m)) (h1 : L[1]? = some (.pointer (some ⟨sb, 0, none⟩))) (h2 : L[2]? = some (.pointer (some ⟨qc, 0, none⟩))) (h3 : L[3]? = some (.pointer (some ⟨qe, 0, none⟩))) (h4 : L[4]? = some (.pointer (some ⟨qp, 0, none⟩))) (h5 : L[5]? = some (.pointer (some ⟨qs, 0, none⟩))) (h6 : L[6]? = some (.pointer (some ⟨qv, 0, none⟩))) (h8 : L[8]? = some (.pointer (some ⟨rc, 0, none⟩))) : ∃ z, L = fr136 m sb qc qe qp qs qv rc z := by
  refine ⟨fun i => L.getD i undef, ?_⟩
  unfold fr136
  have e := list_range L 56 hL
  have e0 : L.getD 0 undef = .int .i64 m := by rw [List.getD_eq_getElem?_getD, h0]; rfl
  have e1 : L.getD 1 undef = .pointer (some ⟨sb, 0, none⟩) := by rw [List.getD_eq_getElem?_getD, h1]; rfl
  have e2 : L.getD 2 undef = .pointer (some ⟨qc, 0, none⟩) := by rw [List.getD_eq_getElem?_getD, h2]; rfl
  have e3 : L.getD 3 undef = .pointer (some ⟨qe, 0, none⟩) := by rw [List.getD_eq_getElem?_getD, h3]; rfl
  have e4 : L.getD 4 undef = .pointer (some ⟨qp, 0, none⟩) := by rw [List.getD_eq_getElem?_getD, h4]; rfl
  have e5 : L.getD 5 undef = .pointer (some ⟨qs, 0, none⟩) := by rw [List.getD_eq_getElem?_getD, h5]; rfl
  have e6 : L.getD 6 undef = .pointer (some ⟨qv, 0, none⟩) := by rw [List.getD_eq_getElem?_getD, h6]; rfl
  have e8 : L.getD 8 undef = .pointer (some ⟨rc, 0, none⟩) := by rw [List.getD_eq_getElem?_getD, h8]; rfl
  rw [← e0, ← e1, ← e2, ← e3, ← e4, ← e5, ← e6, ← e8]
  exact e
theorem fr136_act (m : Int) (sb qc qe qp qs qv rc : Nat) (A : Act) (ds : List Deferred) (hds : A.defers = ds) (hL : A.tmps.size = 56) (h0 : A.tmps[0]? = some (.int .i64 m)) (h1 : A.tmps[1]? = some (.pointer (some ⟨sb, 0, none⟩))) (h2 : A.tmps[2]? = some (.pointer (some ⟨qc, 0, none⟩))) (h3 : A.tmps[3]? = some (.pointer (some ⟨qe, 0, none⟩))) (h4 : A.tmps[4]? = some (.pointer (some ⟨qp, 0, none⟩))) (h5 : A.tmps[5]? = some (.pointer (some ⟨qs, 0, none⟩))) (h6 : A.tmps[6]? = some (.pointer (some ⟨qv, 0, none⟩))) (h8 : A.tmps[8]? = some (.pointer (some ⟨rc, 0, none⟩))) : ∃ z, A = { tmps := (fr136 m sb qc qe qp qs qv rc z).toArray, defers := ds } := by
  obtain ⟨z, e⟩ := fr136_of m sb qc qe qp qs qv rc A.tmps.toList (by rw [Array.length_toList]; exact hL) (by rw [Array.getElem?_toList]; exact h0) (by rw [Array.getElem?_toList]; exact h1) (by rw [Array.getElem?_toList]; exact h2) (by rw [Array.getElem?_toList]; exact h3) (by rw [Array.getElem?_toList]; exact h4) (by rw [Array.getElem?_toList]; exact h5) (by rw [Array.getElem?_toList]; exact h6) (by rw [Array.getElem?_toList]; exact h8)
  exact ⟨z, by cases A; subst hds; dsimp only at e ⊢; rw [← e]⟩

def fr136n (m : Int) (sb qc qe qp qs qv rc : Nat) (x : Int) (z : Nat → Value) : List Value := [.int .i64 m, .pointer (some ⟨sb, 0, none⟩), .pointer (some ⟨qc, 0, none⟩), .pointer (some ⟨qe, 0, none⟩), .pointer (some ⟨qp, 0, none⟩), .pointer (some ⟨qs, 0, none⟩), .pointer (some ⟨qv, 0, none⟩), z 7, .pointer (some ⟨rc, 0, none⟩), z 9, z 10, z 11, z 12, z 13, z 14, z 15, z 16, z 17, z 18, z 19, z 20, z 21, z 22, z 23, z 24, z 25, z 26, z 27, z 28, z 29, z 30, z 31, z 32, z 33, z 34, z 35, z 36, z 37, z 38, .int .i64 x, z 40, z 41, z 42, z 43, z 44, z 45, z 46, z 47, z 48, z 49, z 50, z 51, z 52, z 53, z 54, z 55]
theorem fr136n_of (m : Int) (sb qc qe qp qs qv rc : Nat) (x : Int) (L : List Value) (hL : L.length = 56) (h0 : L[0]? = some (.int .i64 m)) (h1 : L[1]? = some (.pointer (some ⟨sb, 0, none⟩))) (h2 : L[2]? = some (.pointer (some ⟨qc, 0, none⟩))) (h3 : L[3]? = some (.pointer (some ⟨qe, 0, none⟩))) (h4 : L[4]? = some (.pointer (some ⟨qp, 0, none⟩))) (h5 : L[5]? = some (.pointer (some ⟨qs, 0, none⟩))) (h6 : L[6]? = some (.pointer (some ⟨qv, 0, none⟩))) (h8 : L[8]? = some (.pointer (some ⟨rc, 0, none⟩))) (h39 : L[39]? = some (.int .i64 x)) : ∃ z, L = fr136n m sb qc qe qp qs qv rc x z := by
  refine ⟨fun i => L.getD i undef, ?_⟩
  unfold fr136n
  have e := list_range L 56 hL
  have e0 : L.getD 0 undef = .int .i64 m := by rw [List.getD_eq_getElem?_getD, h0]; rfl
  have e1 : L.getD 1 undef = .pointer (some ⟨sb, 0, none⟩) := by rw [List.getD_eq_getElem?_getD, h1]; rfl
  have e2 : L.getD 2 undef = .pointer (some ⟨qc, 0, none⟩) := by rw [List.getD_eq_getElem?_getD, h2]; rfl
  have e3 : L.getD 3 undef = .pointer (some ⟨qe, 0, none⟩) := by rw [List.getD_eq_getElem?_getD, h3]; rfl
  have e4 : L.getD 4 undef = .pointer (some ⟨qp, 0, none⟩) := by rw [List.getD_eq_getElem?_getD, h4]; rfl
  have e5 : L.getD 5 undef = .pointer (some ⟨qs, 0, none⟩) := by rw [List.getD_eq_getElem?_getD, h5]; rfl
  have e6 : L.getD 6 undef = .pointer (some ⟨qv, 0, none⟩) := by rw [List.getD_eq_getElem?_getD, h6]; rfl
  have e8 : L.getD 8 undef = .pointer (some ⟨rc, 0, none⟩) := by rw [List.getD_eq_getElem?_getD, h8]; rfl
  have e39 : L.getD 39 undef = .int .i64 x := by rw [List.getD_eq_getElem?_getD, h39]; rfl
  rw [← e0, ← e1, ← e2, ← e3, ← e4, ← e5, ← e6, ← e8, ← e39]
  exact e
theorem fr136n_act (m : Int) (sb qc qe qp qs qv rc : Nat) (x : Int) (A : Act) (ds : List Deferred) (hds : A.defers = ds) (hL : A.tmps.size = 56) (h0 : A.tmps[0]? = some (.int .i64 m)) (h1 : A.tmps[1]? = some (.pointer (some ⟨sb, 0, none⟩))) (h2 : A.tmps[2]? = some (.pointer (some ⟨qc, 0, none⟩))) (h3 : A.tmps[3]? = some (.pointer (some ⟨qe, 0, none⟩))) (h4 : A.tmps[4]? = some (.pointer (some ⟨qp, 0, none⟩))) (h5 : A.tmps[5]? = some (.pointer (some ⟨qs, 0, none⟩))) (h6 : A.tmps[6]? = some (.pointer (some ⟨qv, 0, none⟩))) (h8 : A.tmps[8]? = some (.pointer (some ⟨rc, 0, none⟩))) (h39 : A.tmps[39]? = some (.int .i64 x)) : ∃ z, A = { tmps := (fr136n m sb qc qe qp qs qv rc x z).toArray, defers := ds } := by
  obtain ⟨z, e⟩ := fr136n_of m sb qc qe qp qs qv rc x A.tmps.toList (by rw [Array.length_toList]; exact hL) (by rw [Array.getElem?_toList]; exact h0) (by rw [Array.getElem?_toList]; exact h1) (by rw [Array.getElem?_toList]; exact h2) (by rw [Array.getElem?_toList]; exact h3) (by rw [Array.getElem?_toList]; exact h4) (by rw [Array.getElem?_toList]; exact h5) (by rw [Array.getElem?_toList]; exact h6) (by rw [Array.getElem?_toList]; exact h8) (by rw [Array.getElem?_toList]; exact h39)
  exact ⟨z, by cases A; subst hds; dsimp only at e ⊢; rw [← e]⟩

def fr136x (m : Int) (sb qc qe qp qs qv rc : Nat) (x : Int) (z : Nat → Value) : List Value := [.int .i64 m, .pointer (some ⟨sb, 0, none⟩), .pointer (some ⟨qc, 0, none⟩), .pointer (some ⟨qe, 0, none⟩), .pointer (some ⟨qp, 0, none⟩), .pointer (some ⟨qs, 0, none⟩), .pointer (some ⟨qv, 0, none⟩), z 7, .pointer (some ⟨rc, 0, none⟩), .int .i64 x, z 10, z 11, z 12, z 13, z 14, z 15, z 16, z 17, z 18, z 19, z 20, z 21, z 22, z 23, z 24, z 25, z 26, z 27, z 28, z 29, z 30, z 31, z 32, z 33, z 34, z 35, z 36, z 37, z 38, z 39, z 40, z 41, z 42, z 43, z 44, z 45, z 46, z 47, z 48, z 49, z 50, z 51, z 52, z 53, z 54, z 55]
theorem fr136x_of (m : Int) (sb qc qe qp qs qv rc : Nat) (x : Int) (L : List Value) (hL : L.length = 56) (h0 : L[0]? = some (.int .i64 m)) (h1 : L[1]? = some (.pointer (some ⟨sb, 0, none⟩))) (h2 : L[2]? = some (.pointer (some ⟨qc, 0, none⟩))) (h3 : L[3]? = some (.pointer (some ⟨qe, 0, none⟩))) (h4 : L[4]? = some (.pointer (some ⟨qp, 0, none⟩))) (h5 : L[5]? = some (.pointer (some ⟨qs, 0, none⟩))) (h6 : L[6]? = some (.pointer (some ⟨qv, 0, none⟩))) (h8 : L[8]? = some (.pointer (some ⟨rc, 0, none⟩))) (h9 : L[9]? = some (.int .i64 x)) : ∃ z, L = fr136x m sb qc qe qp qs qv rc x z := by
  refine ⟨fun i => L.getD i undef, ?_⟩
  unfold fr136x
  have e := list_range L 56 hL
  have e0 : L.getD 0 undef = .int .i64 m := by rw [List.getD_eq_getElem?_getD, h0]; rfl
  have e1 : L.getD 1 undef = .pointer (some ⟨sb, 0, none⟩) := by rw [List.getD_eq_getElem?_getD, h1]; rfl
  have e2 : L.getD 2 undef = .pointer (some ⟨qc, 0, none⟩) := by rw [List.getD_eq_getElem?_getD, h2]; rfl
  have e3 : L.getD 3 undef = .pointer (some ⟨qe, 0, none⟩) := by rw [List.getD_eq_getElem?_getD, h3]; rfl
  have e4 : L.getD 4 undef = .pointer (some ⟨qp, 0, none⟩) := by rw [List.getD_eq_getElem?_getD, h4]; rfl
  have e5 : L.getD 5 undef = .pointer (some ⟨qs, 0, none⟩) := by rw [List.getD_eq_getElem?_getD, h5]; rfl
  have e6 : L.getD 6 undef = .pointer (some ⟨qv, 0, none⟩) := by rw [List.getD_eq_getElem?_getD, h6]; rfl
  have e8 : L.getD 8 undef = .pointer (some ⟨rc, 0, none⟩) := by rw [List.getD_eq_getElem?_getD, h8]; rfl
  have e9 : L.getD 9 undef = .int .i64 x := by rw [List.getD_eq_getElem?_getD, h9]; rfl
  rw [← e0, ← e1, ← e2, ← e3, ← e4, ← e5, ← e6, ← e8, ← e9]
  exact e
theorem fr136x_act (m : Int) (sb qc qe qp qs qv rc : Nat) (x : Int) (A : Act) (ds : List Deferred) (hds : A.defers = ds) (hL : A.tmps.size = 56) (h0 : A.tmps[0]? = some (.int .i64 m)) (h1 : A.tmps[1]? = some (.pointer (some ⟨sb, 0, none⟩))) (h2 : A.tmps[2]? = some (.pointer (some ⟨qc, 0, none⟩))) (h3 : A.tmps[3]? = some (.pointer (some ⟨qe, 0, none⟩))) (h4 : A.tmps[4]? = some (.pointer (some ⟨qp, 0, none⟩))) (h5 : A.tmps[5]? = some (.pointer (some ⟨qs, 0, none⟩))) (h6 : A.tmps[6]? = some (.pointer (some ⟨qv, 0, none⟩))) (h8 : A.tmps[8]? = some (.pointer (some ⟨rc, 0, none⟩))) (h9 : A.tmps[9]? = some (.int .i64 x)) : ∃ z, A = { tmps := (fr136x m sb qc qe qp qs qv rc x z).toArray, defers := ds } := by
  obtain ⟨z, e⟩ := fr136x_of m sb qc qe qp qs qv rc x A.tmps.toList (by rw [Array.length_toList]; exact hL) (by rw [Array.getElem?_toList]; exact h0) (by rw [Array.getElem?_toList]; exact h1) (by rw [Array.getElem?_toList]; exact h2) (by rw [Array.getElem?_toList]; exact h3) (by rw [Array.getElem?_toList]; exact h4) (by rw [Array.getElem?_toList]; exact h5) (by rw [Array.getElem?_toList]; exact h6) (by rw [Array.getElem?_toList]; exact h8) (by rw [Array.getElem?_toList]; exact h9)
  exact ⟨z, by cases A; subst hds; dsimp only at e ⊢; rw [← e]⟩

def fr136y (m : Int) (sb qc qe qp qs qv rc : Nat) (R : Bool) (z : Nat → Value) : List Value := [.int .i64 m, .pointer (some ⟨sb, 0, none⟩), .pointer (some ⟨qc, 0, none⟩), .pointer (some ⟨qe, 0, none⟩), .pointer (some ⟨qp, 0, none⟩), .pointer (some ⟨qs, 0, none⟩), .pointer (some ⟨qv, 0, none⟩), z 7, .pointer (some ⟨rc, 0, none⟩), z 9, z 10, z 11, z 12, z 13, z 14, z 15, z 16, z 17, z 18, z 19, z 20, z 21, z 22, z 23, z 24, z 25, z 26, z 27, z 28, z 29, z 30, z 31, z 32, z 33, z 34, z 35, z 36, z 37, z 38, z 39, z 40, z 41, z 42, z 43, z 44, z 45, z 46, z 47, z 48, z 49, z 50, z 51, z 52, z 53, z 54, .bool R]
theorem fr136y_of (m : Int) (sb qc qe qp qs qv rc : Nat) (R : Bool) (L : List Value) (hL : L.length = 56) (h0 : L[0]? = some (.int .i64 m)) (h1 : L[1]? = some (.pointer (some ⟨sb, 0, none⟩))) (h2 : L[2]? = some (.pointer (some ⟨qc, 0, none⟩))) (h3 : L[3]? = some (.pointer (some ⟨qe, 0, none⟩))) (h4 : L[4]? = some (.pointer (some ⟨qp, 0, none⟩))) (h5 : L[5]? = some (.pointer (some ⟨qs, 0, none⟩))) (h6 : L[6]? = some (.pointer (some ⟨qv, 0, none⟩))) (h8 : L[8]? = some (.pointer (some ⟨rc, 0, none⟩))) (h55 : L[55]? = some (.bool R)) : ∃ z, L = fr136y m sb qc qe qp qs qv rc R z := by
  refine ⟨fun i => L.getD i undef, ?_⟩
  unfold fr136y
  have e := list_range L 56 hL
  have e0 : L.getD 0 undef = .int .i64 m := by rw [List.getD_eq_getElem?_getD, h0]; rfl
  have e1 : L.getD 1 undef = .pointer (some ⟨sb, 0, none⟩) := by rw [List.getD_eq_getElem?_getD, h1]; rfl
  have e2 : L.getD 2 undef = .pointer (some ⟨qc, 0, none⟩) := by rw [List.getD_eq_getElem?_getD, h2]; rfl
  have e3 : L.getD 3 undef = .pointer (some ⟨qe, 0, none⟩) := by rw [List.getD_eq_getElem?_getD, h3]; rfl
  have e4 : L.getD 4 undef = .pointer (some ⟨qp, 0, none⟩) := by rw [List.getD_eq_getElem?_getD, h4]; rfl
  have e5 : L.getD 5 undef = .pointer (some ⟨qs, 0, none⟩) := by rw [List.getD_eq_getElem?_getD, h5]; rfl
  have e6 : L.getD 6 undef = .pointer (some ⟨qv, 0, none⟩) := by rw [List.getD_eq_getElem?_getD, h6]; rfl
  have e8 : L.getD 8 undef = .pointer (some ⟨rc, 0, none⟩) := by rw [List.getD_eq_getElem?_getD, h8]; rfl
  have e55 : L.getD 55 undef = .bool R := by rw [List.getD_eq_getElem?_getD, h55]; rfl
  rw [← e0, ← e1, ← e2, ← e3, ← e4, ← e5, ← e6, ← e8, ← e55]
  exact e
theorem fr136y_act (m : Int) (sb qc qe qp qs qv rc : Nat) (R : Bool) (A : Act) (ds : List Deferred) (hds : A.defers = ds) (hL : A.tmps.size = 56) (h0 : A.tmps[0]? = some (.int .i64 m)) (h1 : A.tmps[1]? = some (.pointer (some ⟨sb, 0, none⟩))) (h2 : A.tmps[2]? = some (.pointer (some ⟨qc, 0, none⟩))) (h3 : A.tmps[3]? = some (.pointer (some ⟨qe, 0, none⟩))) (h4 : A.tmps[4]? = some (.pointer (some ⟨qp, 0, none⟩))) (h5 : A.tmps[5]? = some (.pointer (some ⟨qs, 0, none⟩))) (h6 : A.tmps[6]? = some (.pointer (some ⟨qv, 0, none⟩))) (h8 : A.tmps[8]? = some (.pointer (some ⟨rc, 0, none⟩))) (h55 : A.tmps[55]? = some (.bool R)) : ∃ z, A = { tmps := (fr136y m sb qc qe qp qs qv rc R z).toArray, defers := ds } := by
  obtain ⟨z, e⟩ := fr136y_of m sb qc qe qp qs qv rc R A.tmps.toList (by rw [Array.length_toList]; exact hL) (by rw [Array.getElem?_toList]; exact h0) (by rw [Array.getElem?_toList]; exact h1) (by rw [Array.getElem?_toList]; exact h2) (by rw [Array.getElem?_toList]; exact h3) (by rw [Array.getElem?_toList]; exact h4) (by rw [Array.getElem?_toList]; exact h5) (by rw [Array.getElem?_toList]; exact h6) (by rw [Array.getElem?_toList]; exact h8) (by rw [Array.getElem?_toList]; exact h55)
  exact ⟨z, by cases A; subst hds; dsimp only at e ⊢; rw [← e]⟩


set_option maxRecDepth 100000 in
set_option maxHeartbeats 1000000 in
theorem r10_136_walk (lp n' : Nat) (w W : World) (m : Int) (sb qc qe qp qs qv rc : Nat) (vc ve vs : Value) (b1 off1 n c1 : Nat) (v2 : Value) (ends : List Int) (seen s2 : List Bool) (b' : Bool) (x : Nat) (sx : ByteArray) (tx : Int)
    (hm : VcM w W sb qc qe qp qs qv vc ve vs (.slice (some ⟨b1, off1, none⟩) n c1) v2 seen) (hwd : WdR w) (hve : Sl encI 1 w w.heap.size ve ends) (hxn : x < n) (hn : n ≤ 64) (hat : At w b1 (off1 + x * 2) [.string sx, .int .i64 tx]) (hbb : b1 < w.heap.size)
    (hV : (cvB sx || ends.contains (x : Int)) = true → ∀ W', VcM w W' sb qc qe qp qs qv vc ve vs (.slice (some ⟨b1, off1, none⟩) n c1) v2 seen → Calls Tryz.prog 136 (#[.int .i64 (x : Int)] ++ #[.pointer (some ⟨sb, 0, none⟩), .pointer (some ⟨qc, 0, none⟩), .pointer (some ⟨qe, 0, none⟩), .pointer (some ⟨qp, 0, none⟩), .pointer (some ⟨qs, 0, none⟩), .pointer (some ⟨qv, 0, none⟩)]) W' fun e W'' => e = .returned (.bool b') ∧ VcM w W'' sb qc qe qp qs qv vc ve vs (.slice (some ⟨b1, off1, none⟩) n c1) v2 s2 ∧ Kept (fun k => k = sb) W' W'')
    (ds : List Deferred) (z : Nat → Value) (Q : Exit → Act → World → Prop)
    (hQ0 : (cvB sx || ends.contains (x : Int)) = false → ∀ z' W', VcM w W' sb qc qe qp qs qv vc ve vs (.slice (some ⟨b1, off1, none⟩) n c1) v2 seen → Below W.heap.size W W' → Q .normal { tmps := (fr136y m sb qc qe qp qs qv rc false z').toArray, defers := ds } W')
    (hQ1 : (cvB sx || ends.contains (x : Int)) = true → ∀ z' W', VcM w W' sb qc qe qp qs qv vc ve vs (.slice (some ⟨b1, off1, none⟩) n c1) v2 s2 → Kept (fun k => k = sb) W W' → Q .normal { tmps := (fr136y m sb qc qe qp qs qv rc b' z').toArray, defers := ds } W') :
    r10_136.wpIn (Fence.wide.inRound lp) n' Tryz.prog Q { tmps := (fr136x m sb qc qe qp qs qv rc x z).toArray, defers := ds } W := by
  have HC := Lib.hid (fun (W' : World) (hb : Below W.heap.size W W') => conveys84 sx tx W' (hwd.later (hm.bw.trans (hb.mono hm.bw.size))))
  have HK := Lib.hid (fun (W' : World) (hb : Below W.heap.size W W') => contains82 ve ends x W' (hve.later (hm.bw.trans (hb.mono hm.bw.size))))
  have HL := Lib.hid (fun (W' : World) (hb : Below W.heap.size W W') => hm.later hb)
  have HA := Lib.hid (fun (W' : World) (hb : Below W.heap.size W W') => (hat.below (hm.bw.trans (hb.mono hm.bw.size)) hbb).c2)
  have HQ0 : Hid ((cvB sx || ends.contains (x : Int)) = false → ∀ A W', (∃ z', A = { tmps := (fr136y m sb qc qe qp qs qv rc false z').toArray, defers := ds }) → Below W.heap.size W W' → Q .normal A W') := Lib.hid (by rintro hc A W' ⟨z', rfl⟩ hb; exact hQ0 hc z' W' (hm.later hb) hb)
  have HQ1 : Hid ((cvB sx || ends.contains (x : Int)) = true → ∀ A W', (∃ z', A = { tmps := (fr136y m sb qc qe qp qs qv rc b' z').toArray, defers := ds }) → VcM w W' sb qc qe qp qs qv vc ve vs (.slice (some ⟨b1, off1, none⟩) n c1) v2 s2 → Kept (fun k => k = sb) W W' → Q .normal A W') := Lib.hid (by rintro hc A W' ⟨z', rfl⟩ h1 h2; exact hQ1 hc z' W' h1 h2)
  have HV := Lib.hid hV
  obtain ⟨x0, x1, xf, xz⟩ := hm.bp.v2
  obtain ⟨k0, k1⟩ := HA.out W (Below.refl _ _)
  have b1z : b1 < W.heap.size := Nat.lt_of_lt_of_le hbb hm.bw.size
  have hx64 : (x : Int) < 64 := by omega
  obtain ⟨A1, hA1⟩ : ∃ b, cvB sx = b := ⟨_, rfl⟩
  obtain ⟨A2, hA2⟩ : ∃ b, ends.contains (x : Int) = b := ⟨_, rfl⟩
  rw [hA1] at HC
  rw [hA2] at HK
  simp only [hA1, hA2] at HQ0 HQ1 HV
  clear hQ0 hQ1 hV hm hat hwd hve hA1 hA2 hbb
  simp only [r10_136, bdy136, rng136, b136, Tryz.f136, Option.getD, codeL, codeR, fr136x]
  have H84 : Hid (∀ K, (∀ e W', (e = .returned (.bool A1) ∧ Below W.heap.size W W') → K e W') → CallsIn (Fence.wide.inRound lp) (n' - 1) Tryz.prog 84 #[.agg #[.string sx, .int .i64 tx]] W K) := Lib.hid (fun K hK => (CallsIn.inRound lp (callsIn_wide.2 (HC.out _ (Below.refl _ _)))).mono hK)
  have H82 : Hid (∀ W', Below W.heap.size W W' → ∀ K, (∀ e W'', (e = .returned (.bool A2) ∧ W' = W'') → K e W'') → CallsIn (Fence.wide.inRound lp) (n' - 1) Tryz.prog 82 #[ve, .int .i64 (x : Int)] W' K) := Lib.hid (fun W' hb K hK => (CallsIn.inRound lp (callsIn_wide.2 (HK.out _ hb))).mono hK)
  clear HC HK
  gi_wp2
  refine ⟨trivial, (fun h => by cases h), ?_⟩
  refine H84.out _ ?_
  rintro e W2 ⟨rfl, hb2⟩
  clear x0 x1 xf xz k0 k1 b1z
  have e0 := (HL.out W2 hb2).be.cell 0
  have ez := (HL.out W2 hb2).be.lt
  have v0 := (HL.out W2 hb2).bv.cell 0
  have vz := (HL.out W2 hb2).bv.lt
  simp only [List.getElem?_cons_zero] at e0 v0
  cases A1
  · gi_wp2
    refine ⟨trivial, (fun h => by cases h), ?_⟩
    refine H82.out _ hb2 _ ?_
    rintro e _ ⟨rfl, rfl⟩
    cases A2
    · have HQ := Lib.hid (HQ0.out rfl)
      clear HQ0 HQ1 HV
      gi_wp2
      refine ⟨(fun f h => by cases h), ?_⟩
      gi_wp2
      refine HQ.out _ _ ?_ hb2
      apply fr136y_act <;> rfl
    · have HQ := Lib.hid (HQ1.out rfl)
      have HW : Hid (∀ K, (∀ e W3, (e = .returned (.bool b') ∧ VcM w W3 sb qc qe qp qs qv vc ve vs (.slice (some ⟨b1, off1, none⟩) n c1) v2 s2 ∧ Kept (fun k => k = sb) W2 W3) → K e W3) → CallsIn (Fence.wide.inRound lp) (n' - 1) Tryz.prog 136 #[.int .i64 (x : Int), .pointer (some ⟨sb, 0, none⟩), .pointer (some ⟨qc, 0, none⟩), .pointer (some ⟨qe, 0, none⟩), .pointer (some ⟨qp, 0, none⟩), .pointer (some ⟨qs, 0, none⟩), .pointer (some ⟨qv, 0, none⟩)] W2 K) := Lib.hid (fun K hK => (CallsIn.inRound lp (callsIn_wide.2 (HV.out rfl W2 (HL.out W2 hb2)))).mono hK)
      clear HQ0 HQ1 HV
      gi_wp2
      refine ⟨trivial, (fun h => by cases h), ?_⟩
      refine HW.out _ ?_
      rintro e W3 ⟨rfl, hvm, hk⟩
      gi_wp2
      refine HQ.out _ _ ?_ hvm (((Kept.refl _ W).below hb2).trans hk)
      apply fr136y_act <;> rfl
  · gi_wp2
    refine ⟨trivial, ?_⟩
    have HQ := Lib.hid (HQ1.out rfl)
    have HW : Hid (∀ K, (∀ e W3, (e = .returned (.bool b') ∧ VcM w W3 sb qc qe qp qs qv vc ve vs (.slice (some ⟨b1, off1, none⟩) n c1) v2 s2 ∧ Kept (fun k => k = sb) W2 W3) → K e W3) → CallsIn (Fence.wide.inRound lp) (n' - 1) Tryz.prog 136 #[.int .i64 (x : Int), .pointer (some ⟨sb, 0, none⟩), .pointer (some ⟨qc, 0, none⟩), .pointer (some ⟨qe, 0, none⟩), .pointer (some ⟨qp, 0, none⟩), .pointer (some ⟨qs, 0, none⟩), .pointer (some ⟨qv, 0, none⟩)] W2 K) := Lib.hid (fun K hK => (CallsIn.inRound lp (callsIn_wide.2 (HV.out rfl W2 (HL.out W2 hb2)))).mono hK)
    clear HQ0 HQ1 HV
    gi_wp2
    refine ⟨trivial, (fun h => by cases h), ?_⟩
    refine HW.out _ ?_
    rintro e W3 ⟨rfl, hvm, hk⟩
    gi_wp2
    refine HQ.out _ _ ?_ hvm (((Kept.refl _ W).below hb2).trans hk)
    apply fr136y_act <;> rfl
end Go.Proofs.YtahpdkkpnkhnhaaGreatDoor

/- Walks: CheckCut's search: its range. -/
namespace Go.Proofs.YtahpdkkpnkhnhaaGreatDoor
open Go Go.Proofs Go.RowKit Go.Shelf
attribute [local go_sem] Oper.semAt_some

theorem kept_others {W W' : World} {sb : Nat} {e : TypeId} {vs : List Value} (hk : Kept (fun k => k = sb) W W') (hs : Box W sb e vs) : KeepsOthers W W' :=
  ⟨hk.size, fun k o hko hc => by
    by_cases h : k = sb
    · subst h
      rw [show W.heap[k]? = _ from hs] at hko
      cases hko; cases hc
    · exact (hk.block k (Array.getElem?_eq_some_iff.1 hko).1 h).trans hko⟩
theorem NxR.keeps {W W' : World} {q B sb : Nat} {v1 v2 : Value} {p : Pl} {m : Int} (h : NxR W q B v1 v2 p m) (hk : Kept (fun k => k = sb) W W') (h1 : q ≠ sb) (h2 : q + 1 ≠ sb) (h3 : B ≤ sb) : NxR W' q B v1 v2 p m :=
  ⟨h.b1.keeps hk h1, h.b2.keeps hk h2, h.arcs.below (hk.toBelow h.lt (fun k e => by rw [e]; exact h3)), Nat.le_trans h.lt hk.size⟩
/-- The search at machine x, whatever has been seen: it answers, and here is its contract. -/
def Ans136 (w : World) (sb qc qe qp qs qv : Nat) (vc ve vs v1 v2 : Value) (V : List Bool → Int → Option (Bool × List Bool)) (k : Nat) (s : List Bool) (x : Int) : Prop :=
  ∃ b' s2, V s x = some (b', s2) ∧ s2.length = 64 ∧ s2.count false ≤ k ∧ ∀ W', VcM w W' sb qc qe qp qs qv vc ve vs v1 v2 s →
    Calls Tryz.prog 136 (#[.int .i64 x] ++ #[.pointer (some ⟨sb, 0, none⟩), .pointer (some ⟨qc, 0, none⟩), .pointer (some ⟨qe, 0, none⟩), .pointer (some ⟨qp, 0, none⟩), .pointer (some ⟨qs, 0, none⟩), .pointer (some ⟨qv, 0, none⟩)]) W' fun e W'' => e = .returned (.bool b') ∧ VcM w W'' sb qc qe qp qs qv vc ve vs v1 v2 s2 ∧ Kept (fun k => k = sb) W' W''
def InV (w W0 : World) (sb qc qe qp qs qv rc q : Nat) (vc ve vs v1 v2 : Value) (p : Pl) (m : Int) (V : List Bool → Int → Option (Bool × List Bool)) (ok : Int → Bool) (s1 : List Bool) (k : Nat) (pre : List (Nxt p m)) (W : World) : Prop :=
  ∃ s', NoY V ok (pre.map Subtype.val) s1 s' ∧ s'.length = 64 ∧ s'.count false ≤ k ∧ VcM w W sb qc qe qp qs qv vc ve vs v1 v2 s' ∧ NxR W q w.heap.size v1 v2 p m ∧ Box W rc 4 [.bool false] ∧ Kept (fun k => k = sb) W0 W
def OutV (w W0 : World) (sb qc qe qp qs qv rc : Nat) (vc ve vs v1 v2 : Value) (p : Pl) (m : Int) (V : List Bool → Int → Option (Bool × List Bool)) (ok : Int → Bool) (s1 : List Bool) (c : Code) (pre : List (Nxt p m)) (W : World) : Prop :=
  c = .ret ∧ ∃ s' sF pre0 x, pre = pre0 ++ [x] ∧ NoY V ok (pre0.map Subtype.val) s1 s' ∧ ok x.1 = true ∧ V s' x.1 = some (true, sF) ∧ VcM w W sb qc qe qp qs qv vc ve vs v1 v2 sF ∧ Box W rc 4 [.bool true] ∧ Kept (fun k => k = sb) W0 W
section
variable {w W0 : World} {sb qc qe qp qs qv rc q : Nat} {vc ve vs v1 v2 : Value} {p : Pl} {m : Int} {V : List Bool → Int → Option (Bool × List Bool)} {ok : Int → Bool} {s1 : List Bool} {k : Nat} {B : Nat}
theorem InV.own (hB : w.heap.size ≤ B) (hB0 : W0.heap.size ≤ B) : OwnFrom B (InV w W0 sb qc qe qp qs qv rc q vc ve vs v1 v2 p m V ok s1 k) := by
  rintro s W W' row ⟨s', h1, h2, h3, h4, h5, h6, h7⟩ hg hr
  have hn : NoCells W row := fun r e => (hr r e).2
  have hk : ∀ k, row = some k → w.heap.size ≤ k := fun k e => Nat.le_trans hB (hr k e).1
  exact ⟨s', h1, h2, h3, h4.grown hg hn hk, h5.grown hg hn hk, h6.grown hg (hn.box h6), h7.grown hg (fun k e => .inr (Nat.le_trans hB0 (hr k e).1))⟩
theorem OutV.own (hB : w.heap.size ≤ B) (hB0 : W0.heap.size ≤ B) (c : Code) : OwnFrom B (OutV w W0 sb qc qe qp qs qv rc vc ve vs v1 v2 p m V ok s1 c) := by
  rintro s W W' row ⟨h0, s', sF, pre0, x, h1, h2, h3, h4, h5, h6, h7⟩ hg hr
  have hn : NoCells W row := fun r e => (hr r e).2
  have hk : ∀ k, row = some k → w.heap.size ≤ k := fun k e => Nat.le_trans hB (hr k e).1
  exact ⟨h0, s', sF, pre0, x, h1, h2, h3, h4, h5.grown hg hn hk, h6.grown hg (hn.box h6), h7.grown hg (fun k e => .inr (Nat.le_trans hB0 (hr k e).1))⟩
end

set_option maxRecDepth 100000 in
set_option maxHeartbeats 400000 in
theorem if10_no (lp n' : Nat) (m : Int) (sb qc qe qp qs qv rc : Nat) (W : World) (ds : List Deferred) (z : Nat → Value) (Q : Exit → Act → World → Prop) (hQ : ∀ A, Q .normal A W) :
    if10_136.wpIn (Fence.wide.inRound lp) n' Tryz.prog Q { tmps := (fr136y m sb qc qe qp qs qv rc false z).toArray, defers := ds } W := by
  have HQ := Lib.hid hQ
  clear hQ
  simp only [if10_136, bdy136, rng136, b136, Tryz.f136, Option.getD, codeL, codeR, fr136y]
  gi_wp2
  exact HQ.out _
set_option maxRecDepth 100000 in
set_option maxHeartbeats 400000 in
theorem if10_yes (lp n' : Nat) (m : Int) (sb qc qe qp qs qv rc : Nat) (c0 : Value) (W : World) (hr : Box W rc 4 [c0]) (ds : List Deferred) (z : Nat → Value) (Q : Exit → Act → World → Prop) (hQ : ∀ A, Q .ret A (W.setCell ⟨rc, 0, none⟩ (.bool true))) :
    if10_136.wpIn (Fence.wide.inRound lp) n' Tryz.prog Q { tmps := (fr136y m sb qc qe qp qs qv rc true z).toArray, defers := ds } W := by
  have HQ := Lib.hid hQ
  have r0 := hr.cell 0
  have rz := hr.lt
  have rf := hr.frozen
  simp only [List.getElem?_cons_zero] at r0
  clear hQ hr
  simp only [if10_136, bdy136, rng136, b136, Tryz.f136, Option.getD, codeL, codeR, fr136y]
  gi_wp2
  exact HQ.out _
set_option maxRecDepth 100000 in
set_option maxHeartbeats 400000 in
theorem asg136_walk (lp n' : Nat) (m : Int) (sb qc qe qp qs qv rc : Nat) (x : Int) (W : World) (z : Nat → Value) (K : Act → World → Prop)
    (hK : ∀ z', K { tmps := (fr136x m sb qc qe qp qs qv rc x z').toArray, defers := [] } W) :
    asg136.wpIn (Fence.wide.inRound lp) n' Tryz.prog (Exit.then K (fun _ _ _ => False)) { tmps := (fr136n m sb qc qe qp qs qv rc x z).toArray, defers := [] } W := by
  have HX : Hid (∀ A, (∃ z', A = { tmps := (fr136x m sb qc qe qp qs qv rc x z').toArray, defers := [] }) → K A W) := Lib.hid (by
    rintro A ⟨z', rfl⟩; exact hK z')
  clear hK
  simp only [asg136, rng136, b136, Tryz.f136, Option.getD, codeL, codeR, fr136n]
  gi_wp2
  refine HX.out _ ?_
  apply fr136x_act <;> rfl

set_option maxHeartbeats 1000000 in
theorem bdy136_walk (lp n' : Nat) (w W0 W : World) (sb qc qe qp qs qv rc q : Nat) (vc ve vs : Value) (b1 off1 c1 : Nat) (v2 : Value) (p : Pl) (ends : List Int) (m : Int) (V : List Bool → Int → Option (Bool × List Bool)) (s1 : List Bool) (k : Nat) (pre : List (Nxt p m)) (x : Nxt p m) (z : Nat → Value) (B0 : Nat)
    (hok : OkP p) (hwd : WdR w) (hve : Sl encI 1 w w.heap.size ve ends) (hbb : b1 < w.heap.size) (hat : ∀ k (h : k < p.ms.length), At w b1 (off1 + k * 2) [.string p.ms[k].kind, .int .i64 p.ms[k].time])
    (hV : ∀ (s : List Bool) (x : Int), s.length = 64 → s.count false ≤ k → 0 ≤ x ∧ x < p.ms.length → Ans136 w sb qc qe qp qs qv vc ve vs (.slice (some ⟨b1, off1, none⟩) p.ms.length c1) v2 V k s x)
    (hq1 : q ≠ sb) (hq2 : q + 1 ≠ sb) (hrc : rc ≠ sb) (hrv : rc ≠ qc ∧ rc ≠ qe ∧ rc ≠ qp ∧ rc ≠ qs ∧ rc ≠ qv) (hrw : w.heap.size ≤ rc) (hr0 : W0.heap.size ≤ rc)
    (hin : InV w W0 sb qc qe qp qs qv rc q vc ve vs (.slice (some ⟨b1, off1, none⟩) p.ms.length c1) v2 p m V (fun x => cvB (kdA p x) || ends.contains x) s1 k pre W) :
    bdy136.wpIn (Fence.wide.inRound lp) n' Tryz.prog (ownPostG B0 (KpN q w.heap.size (.slice (some ⟨b1, off1, none⟩) p.ms.length c1) v2 p m) (InV w W0 sb qc qe qp qs qv rc q vc ve vs (.slice (some ⟨b1, off1, none⟩) p.ms.length c1) v2 p m V (fun x => cvB (kdA p x) || ends.contains x) s1 k) (OutV w W0 sb qc qe qp qs qv rc vc ve vs (.slice (some ⟨b1, off1, none⟩) p.ms.length c1) v2 p m V (fun x => cvB (kdA p x) || ends.contains x) s1) (pre ++ [x]) W)
      { tmps := (fr136x m sb qc qe qp qs qv rc x.1 z).toArray, defers := [] } W := by
  obtain ⟨s', hno, hl, hc, hvm, hnx, hrb, hkp⟩ := hin
  obtain ⟨_, h2, _, _, _⟩ := hok.ins _ x.2
  obtain ⟨xn, hxe, hxn⟩ := inN_nat h2
  have hka : kdA p x.1 = p.ms[xn].kind := by rw [show x.1 = (xn : Int) from hxe]; exact kdA_nat hxn
  have hxe' : x.1 = (xn : Int) := hxe
  obtain ⟨b', s2, hVe, hl2, hc2, hcall⟩ := hV s' x.1 hl hc (by rw [hxe']; omega)
  have hmap : (pre ++ [x]).map Subtype.val = pre.map Subtype.val ++ [x.1] := by simp
  rw [hxe'] at hcall ⊢
  rw [bdy136_eq]
  refine wpIn_block (wpIn_seq ?_)
  refine r10_136_walk lp n' w W m sb qc qe qp qs qv rc vc ve vs b1 off1 p.ms.length c1 v2 ends s' s2 b' xn p.ms[xn].kind p.ms[xn].time hvm hwd hve hxn hok.le (hat xn hxn) hbb (fun _ => hcall) [] z _ (fun hok0 z' W' hvm' hb => ?_) (fun hok1 z' W' hvm' hk => ?_)
  · have hx0 : (fun x => cvB (kdA p x) || ends.contains x) x.1 = false := by show (cvB (kdA p x.1) || ends.contains x.1) = false; rw [hka, hxe']; exact hok0
    simp only [Exit.then]
    refine if10_no lp n' m sb qc qe qp qs qv rc W' [] z' _ fun A => ?_
    simp only [Exit.inBlock]
    exact ⟨(kept_others ((Kept.refl _ W).below hb : Kept (fun k => k = sb) W W') hvm.sn).from _, ⟨fun i => i.later hb, hb.size⟩, s', by rw [hmap]; exact .skip hno hx0, hl, hc, hvm', hnx.later hb, hrb.later hb, hkp.below hb⟩
  · have hx1 : (fun x => cvB (kdA p x) || ends.contains x) x.1 = true := by show (cvB (kdA p x.1) || ends.contains x.1) = true; rw [hka, hxe']; exact hok1
    have hkt : Kept (fun k => k = sb) W0 W' := hkp.trans hk
    simp only [Exit.then]
    cases b' with
    | false =>
      refine if10_no lp n' m sb qc qe qp qs qv rc W' [] z' _ fun A => ?_
      simp only [Exit.inBlock]
      exact ⟨(kept_others hk hvm.sn).from _, ⟨fun i => i.keeps hk hq1 hq2 hvm.lo, hk.size⟩, s2, by rw [hmap]; exact .no hno hx1 hVe, hl2, hc2, hvm', hnx.keeps hk hq1 hq2 hvm.lo, hrb.keeps hk hrc, hkt⟩
    | true =>
      have hrb' := hrb.keeps hk hrc
      refine if10_yes lp n' m sb qc qe qp qs qv rc _ W' hrb' [] z' _ fun A => ?_
      simp only [Exit.inBlock]
      exact ⟨((kept_others hk hvm.sn).trans (KeepsOthers.setCell _ _ _)).from _, rfl, s', s2, pre, x, rfl, hno, hx1, hVe, hvm'.other _ hrc hrv.1 hrv.2.1 hrv.2.2.1 hrv.2.2.2.1 hrv.2.2.2.2 hrw, hrb'.set 0 _, hkt.set _ (.inr hr0)⟩
end Go.Proofs.YtahpdkkpnkhnhaaGreatDoor
