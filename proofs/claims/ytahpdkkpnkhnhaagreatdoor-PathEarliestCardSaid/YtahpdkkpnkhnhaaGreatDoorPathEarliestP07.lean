/- Lemmas on the way to the law PathEarliest (part 7): Ul Um Uo -/
import Derived.Test.YtahpdkkpnkhnhaaGreatDoorPathEarliestP06
import Derived.Test.YtahpdkkpnkhnhaaGreatDoorPathEarliestP05
set_option linter.unusedVariables false
set_option linter.unusedSimpArgs false

/- Walks: the search for the best order of tasks: all orders that begin with one. -/
namespace Go.Proofs.YtahpdkkpnkhnhaaGreatDoor
open Go Go.Proofs Go.RowKit Go.Shelf
def kidsK (n : Nat) (l : List Int) (k : Nat) : List (List Int) := (((numsI n).take k).filter fun x => !l.contains x).map fun x => l ++ [x]
theorem kidsK_all (n : Nat) (l : List Int) : kidsK n l n = kidsO n l := by
  unfold kidsK kidsO
  rw [List.take_of_length_le (by rw [numsI_len]; exact Nat.le_refl _)]
theorem kidsK_step {n : Nat} {l : List Int} {k : Nat} (h : k < n) : kidsK n l (k + 1) = if l.contains (k : Int) = true then kidsK n l k else kidsK n l k ++ [l ++ [(k : Int)]] := by
  unfold kidsK
  rw [List.take_succ_eq_append_getElem (by rw [numsI_len]; exact h), numsI_at n k h, List.filter_append, List.map_append]
  by_cases hc : l.contains (k : Int) = true
  · rw [if_pos hc]; simp only [List.filter_cons, hc]; simp
  · rw [if_neg hc]
    rw [Bool.not_eq_true] at hc
    simp only [List.filter_cons, hc]; simp
def trS (f : List Int → Int) (n r : Nat) (l : List Int) (s : List Int × Int) (k : Nat) : List Int × Int := (kidsK n l k).foldl (fun s l' => (extO n r l').foldl (updO f) s) s
theorem trS_all (f : List Int → Int) (n r : Nat) (l : List Int) (s : List Int × Int) : trS f n r l s n = (extO n (r + 1) l).foldl (updO f) s := by
  unfold trS
  rw [kidsK_all, fold_ext]
theorem trS_skip {f : List Int → Int} {n r : Nat} {l : List Int} {s : List Int × Int} {k : Nat} (h : k < n) (hc : l.contains (k : Int) = true) : trS f n r l s (k + 1) = trS f n r l s k := by
  unfold trS
  rw [kidsK_step h, if_pos hc]
theorem trS_step {f : List Int → Int} {n r : Nat} {l : List Int} {s : List Int × Int} {k : Nat} (h : k < n) (hc : l.contains (k : Int) = false) : trS f n r l s (k + 1) = (extO n r (l ++ [(k : Int)])).foldl (updO f) (trS f n r l s k) := by
  unfold trS
  rw [kidsK_step h, if_neg (by rw [hc]; simp), List.foldl_append]; rfl
theorem fold_bd {f : List Int → Int} {B : Int} : ∀ (L : List (List Int)) (s : List Int × Int), (∀ l ∈ L, 0 ≤ f l ∧ f l ≤ B) → -1 ≤ s.2 ∧ s.2 ≤ B → -1 ≤ (L.foldl (updO f) s).2 ∧ (L.foldl (updO f) s).2 ≤ B
  | [], _, _, h => h
  | l :: L, s, hL, h => by
    rw [List.foldl_cons]
    refine fold_bd L _ (fun x hx => hL x (by simp [hx])) ?_
    have h1 := hL l (by simp)
    unfold updO
    split
    · dsimp only; omega
    · exact h
theorem ext_ord {n : Nat} : ∀ (r : Nat) (l : List Int), OrdK n l.length l → l.length + r = n → ∀ l' ∈ extO n r l, OrdK n n l'
  | 0, l, h, e, l', hl => by
    have : l' = l := by simpa [extO] using hl
    subst this
    rw [Nat.add_zero] at e
    rw [e] at h
    exact h
  | r + 1, l, h, e, l', hl => by
    obtain ⟨m, h1, h2⟩ := List.mem_flatMap.1 (show l' ∈ (kidsO n l).flatMap (extO n r) from hl)
    have h3 := h.kid h1
    have h4 := h3.len
    exact ext_ord r m (by rw [h4]; exact h3) (by omega) l' h2
theorem trS_bd {p : Pl} {ts : List Tk} (hk : TsOk p ts) {r : Nat} {l : List Int} (hl : OrdK ts.length l.length l) (hr : l.length + (r + 1) = ts.length) {s : List Int × Int} (hb : -1 ≤ s.2 ∧ s.2 ≤ 1010000000) : ∀ k, k ≤ ts.length → -1 ≤ (trS (lenO p ts) ts.length r l s k).2 ∧ (trS (lenO p ts) ts.length r l s k).2 ≤ 1010000000
  | 0, _ => hb
  | k + 1, h => by
    have ih := trS_bd hk hl hr hb k (by omega)
    cases hc : l.contains (k : Int) with
    | true => rw [trS_skip h hc]; exact ih
    | false =>
      rw [trS_step h hc]
      have ho := hl.snoc (x := (k : Int)) ⟨by omega, by omega⟩ (by simpa using hc)
      refine fold_bd _ _ (fun l' hl' => lenF_nn (hk.ord (ext_ord r _ ?_ (by simp; omega) l' hl'))) ih
      rw [List.length_append, List.length_singleton]
      exact ho
theorem r18_walkA (W : World) (ao : Option Addr) (nl co : Nat) (l : List Int) (uv : Value) (qt qp ql qb qy nt k : Nat) (D : World → Prop) (hs : Sl encI 1 W W.heap.size (.slice ao nl co) l) (hnl : l.length = nl) (hn0 : ao = none → co = 0) (hn16 : nl ≤ 1000)
    (hy : Box W qy 122 [.func (.func 128) #[] #[.pointer (some ⟨qt, 0, none⟩), .pointer (some ⟨qp, 0, none⟩), .pointer (some ⟨ql, 0, none⟩), .pointer (some ⟨qb, 0, none⟩), .pointer (some ⟨qy, 0, none⟩)]])
    (hcall : ∀ w1 v, Below W.heap.size W w1 → Own encI 1 3 w1 W.heap.size v (l ++ [(k : Int)]) → Calls Tryz.prog 128 #[v, .pointer (some ⟨qt, 0, none⟩), .pointer (some ⟨qp, 0, none⟩), .pointer (some ⟨ql, 0, none⟩), .pointer (some ⟨qb, 0, none⟩), .pointer (some ⟨qy, 0, none⟩)] w1 fun e w' => e = .returned (.tuple #[]) ∧ D w')
    {a0 : Act} (ha : ∃ z, a0 = { tmps := (frT (.slice ao nl co) uv qt qp ql qb qy nl nt k z).toArray, defers := [] }) {Q : Exit → Act → World → Prop}
    (hQ : ∀ z' W', D W' → Q .normal { tmps := (frT (.slice ao nl co) uv qt qp ql qb qy nl nt k z').toArray, defers := [] } W') :
    r18_128.wp Tryz.prog Q a0 W := by
  obtain ⟨z, rfl⟩ := ha
  exact r18_walk W ao nl co l uv qt qp ql qb qy nt k D hs hnl hn0 hn16 hy hcall z Q hQ
set_option maxRecDepth 100000 in
set_option maxHeartbeats 2000000 in
theorem try128 (w : World) (qt qp ql qb qy : Nat) (u v1 v2 : Value) (p : Pl) (ts : List Tk) (hv : PlR w w.heap.size v1 v2 p) (hu : TasksR w w.heap.size u ts) (hk : TsOk p ts) : ∀ (r : Nat) (W : World) (vo : Value) (s : List Int × Int) (l : List Int),
    TrM w W qt qp ql qb qy u v1 v2 s → Sl encI 1 W W.heap.size vo l → AwayS vo ql qb → (∀ n c, vo = .slice none n c → c = 0) → OrdK ts.length l.length l → l.length + r = ts.length → -1 ≤ s.2 ∧ s.2 ≤ 1010000000 →
    Calls Tryz.prog 128 #[vo, .pointer (some ⟨qt, 0, none⟩), .pointer (some ⟨qp, 0, none⟩), .pointer (some ⟨ql, 0, none⟩), .pointer (some ⟨qb, 0, none⟩), .pointer (some ⟨qy, 0, none⟩)] W (TrP w W qt qp ql qb qy u v1 v2 ((extO ts.length r l).foldl (updO (lenO p ts)) s))
  | 0, W, vo, s, l, hm, hs, ha, hn, hl, hr, hb => by
    have e : l.length = ts.length := by omega
    rw [e] at hl
    exact tryEnd128 w W qt qp ql qb qy u v1 v2 vo p ts s l hv hu hk hm hs hl hb
  | r + 1, W, vo, s, l, hm, hs, ha, hn, hl, hr, hb => by
    have h16 := hk.n
    have IH := Lib.hid (fun (W1 : World) (k : Nat) (s1 : List Int × Int) (hm1 : TrM w W1 qt qp ql qb qy u v1 v2 s1) (hk1 : k < ts.length) (hc : l.contains (k : Int) = false) (hb1 : -1 ≤ s1.2 ∧ s1.2 ≤ 1010000000) (w1 : World) (v : Value) (hb : Below W1.heap.size W1 w1) (ho : Own encI 1 3 w1 W1.heap.size v (l ++ [(k : Int)])) =>
      show Calls Tryz.prog 128 #[v, .pointer (some ⟨qt, 0, none⟩), .pointer (some ⟨qp, 0, none⟩), .pointer (some ⟨ql, 0, none⟩), .pointer (some ⟨qb, 0, none⟩), .pointer (some ⟨qy, 0, none⟩)] w1 (fun e w' => e = .returned (.tuple #[]) ∧ (TrM w w' qt qp ql qb qy u v1 v2 ((extO ts.length r (l ++ [(k : Int)])).foldl (updO (lenO p ts)) s1) ∧ Kept (fun k => k = ql ∨ k = qb) W1 w')) from
      (try128 w qt qp ql qb qy u v1 v2 p ts hv hu hk r w1 v s1 (l ++ [(k : Int)]) (hm1.later hb) (ho.toSl encI_len (by simp; omega)) (fun j hj => by
        obtain ⟨_, hq2, _⟩ := hm1.bb
        exact ⟨fun e => (Own.ne ho hm1.bl.lt) (by rw [hj, e]), fun e => (Own.ne ho hq2.lt) (by rw [hj, e])⟩) (fun n c e => by
        obtain ⟨g, cap, e2, _⟩ := Own.form ho (by simp)
        rw [e] at e2; cases e2) (by
        rw [List.length_append, List.length_singleton]
        exact hl.snoc ⟨by omega, by omega⟩ (by simpa using hc)) (by simp; omega) hb1).mono fun e w' h => ⟨h.1, h.2.1, ((Kept.refl _ W1).below hb).trans h.2.2⟩)
    have HBD := Lib.hid (trS_bd hk hl hr hb)
    have HSK := Lib.hid (fun (k : Nat) (h : k < ts.length) hc => trS_skip (f := lenO p ts) (r := r) (s := s) (l := l) h hc)
    have HST := Lib.hid (fun (k : Nat) (h : k < ts.length) hc => trS_step (f := lenO p ts) (r := r) (s := s) (l := l) h hc)
    obtain ⟨Q, hQ⟩ : ∃ Q, TrP w W qt qp ql qb qy u v1 v2 ((extO ts.length (r + 1) l).foldl (updO (lenO p ts)) s) = Q := ⟨_, rfl⟩
    rw [hQ]
    have HQ : Hid (∀ (w' : World), TrM w w' qt qp ql qb qy u v1 v2 (trS (lenO p ts) ts.length r l s ts.length) → Kept (fun k => k = ql ∨ k = qb) W w' → Q (.returned (.tuple #[])) w') := Lib.hid (fun w' h1 h2 => by rw [← hQ]; rw [trS_all] at h1; exact ⟨rfl, h1, h2⟩)
    clear hQ
    have HTM := Lib.hid hm
    have HSS := Lib.hid (fun (w1 : World) (hk : Kept (fun k => k = ql ∨ k = qb) W w1) => hs.keptA hk ha)
    have HIN := Lib.hid hl.ins
    obtain ⟨au, cu, hu1, ⟨hu2, hu3⟩, _⟩ := id hu
    subst hu1
    obtain ⟨ao, co, rfl, ⟨hlo, hlc⟩, _⟩ := id hs
    have HNO := Lib.hid (show ao = none → co = 0 from fun e => hn _ co (by rw [e]))
    have HFZ := Lib.hid (show trS (lenO p ts) ts.length r l s 0 = s from rfl)
    generalize trS (lenO p ts) ts.length r l s = tr at *
    obtain ⟨nt, hnt⟩ : ∃ n, ts.length = n := ⟨_, rfl⟩
    obtain ⟨nl, hnl⟩ : ∃ n, l.length = n := ⟨_, rfl⟩
    rw [hnt] at HBD HSK HST HQ HTM IH h16 hu2 hu3 HIN hr
    rw [hnl] at HSS hlo hlc hr ⊢
    have HNL := Lib.hid hnl
    clear hv hu hk hm hs ha hn hl hb hnt hnl
    have e1 : ((nl : Int) == (nt : Int)) = false := beq_eq_false_iff_ne.2 (by omega)
    have e1' : (nl == nt) = false := beq_eq_false_iff_ne.2 (by omega)
    obtain ⟨t0, tf, tz⟩ := HTM.out.bt.v1
    go_enter Tryz.func128, Tryz.ntmps128
    go_wp2_with fail
    go_step3
    go_wp2_with fail
    go_step3
    go_wp2_with fail
    clear t0 tf tz e1 e1'
    go_loopg [51] nt (fun g s51 wr => ∃ k : Nat, k + g = nt ∧ s51 = .int .i64 k ∧ TrM w wr qt qp ql qb qy (.slice au nt cu) v1 v2 (tr k) ∧ Kept (fun k => k = ql ∨ k = qb) W wr)
    case atStart => exact ⟨0, by omega, rfl, by rw [HFZ.out]; exact HTM.out, Kept.refl _ _⟩
    case round =>
      obtain ⟨k, hkg, rfl, htm, hkp⟩ := hrel
      have HTK := Lib.hid htm
      have HKP := Lib.hid hkp
      have HSW := Lib.hid (HSS.out _ hkp)
      clear htm hkp
      cases gk with
      | zero =>
        obtain rfl : nt = k := by omega
        have d1 : ¬ ((nt : Int) < (nt : Int)) := by omega
        go_wp2_with fail
        (try rw [Exit.noGoto_ret])
        refine bodyPost_ret (results_none rfl _ _ _) rfl ?_
        exact HQ.out _ HTK.out HKP.out
      | succ g =>
        have hlt : (k : Int) < (nt : Int) := by omega
        have hlt' : k < nt := by omega
        go_wp2_with fail
        go_loopg [56] nl (fun g2 s56 wy => ∃ j : Nat, j + g2 = nl ∧ s56 = .int .i64 j ∧ (l.take j).contains (k : Int) = false ∧ wr = wy)
        case atStart => exact ⟨0, by omega, rfl, by simp, rfl⟩
        case round =>
          obtain ⟨j, hjg, rfl, hnc, rfl⟩ := hrel
          have HNC := Lib.hid hnc
          clear hnc
          cases gk with
          | zero =>
            obtain rfl : nl = j := by omega
            have d1 : ¬ ((nl : Int) < (nl : Int)) := by omega
            have HC0 := Lib.hid (show l.contains (k : Int) = false by
              have h := HNC.out
              rwa [List.take_of_length_le (by rw [HNL.out]; exact Nat.le_refl _)] at h)
            go_wp2_with fail
            refine r18_walkA wr ao nl co l (.slice au nt cu) qt qp ql qb qy nt k _ HSW.out HNL.out HNO.out (by omega) HTK.out.bf (IH.out wr k (tr k) HTK.out hlt' HC0.out (HBD.out k (by omega))) (by apply frT_act <;> rfl) ?_
            rintro z' W' ⟨hd1, hd2⟩
            have HD1 := Lib.hid (show TrM w W' qt qp ql qb qy (.slice au nt cu) v1 v2 (tr (k + 1)) by rw [HST.out k hlt' HC0.out]; exact hd1)
            have HD2 := Lib.hid (HKP.out.trans hd2)
            clear hd1 hd2
            simp only [frT]
            go_wp2_with fail
            go_roundg g
            case measure => omega
            case rel => exact ⟨k + 1, by omega, by go_num, HD1.out, HD2.out⟩
          | succ g2 =>
            have hj1 : (j : Int) < (nl : Int) := by omega
            have hj2 : j < l.length := by rw [HNL.out]; omega
            obtain ⟨a', c', e5, _, hA⟩ := id HSW.out
            rw [HNL.out] at e5
            cases e5
            obtain ⟨b, off, rfl, hbb, hc⟩ := hA (by omega)
            have c0 := (hc j hj2).c1
            rw [Nat.mul_one] at c0
            have HTA := Lib.hid (show (l.take (j + 1)).contains (k : Int) = ((l.take j).contains (k : Int) || (l[j] == (k : Int))) by
              rw [Bool.eq_iff_iff, Bool.or_eq_true, contains_iff, contains_iff, List.take_succ_eq_append_getElem hj2, List.mem_append, List.mem_singleton, beq_iff_eq]
              exact or_congr Iff.rfl eq_comm)
            have HMEM := Lib.hid (show l[j] = (k : Int) → l.contains (k : Int) = true from fun e => by rw [← e]; exact contains_iff.2 (List.getElem_mem hj2))
            clear hA hc
            generalize l[j] = x at *
            by_cases hx : x = (k : Int)
            · subst hx
              have HSQ := Lib.hid (HSK.out k hlt' (HMEM.out rfl))
              go_wp2_with fail
              go_roundg g
              case measure => omega
              case rel => exact ⟨k + 1, by omega, by go_num, by rw [HSQ.out]; exact HTK.out, HKP.out⟩
            · have e1 : (x == (k : Int)) = false := beq_eq_false_iff_ne.2 hx
              have HN2 := Lib.hid (show (l.take (j + 1)).contains (k : Int) = false by rw [HTA.out, HNC.out, e1]; rfl)
              clear hx
              go_wp2_with fail
              go_roundg g2
              case measure => omega
              case rel => exact ⟨j + 1, by omega, by go_num, HN2.out, rfl⟩
end Go.Proofs.YtahpdkkpnkhnhaaGreatDoor
/- Walks: Best of the program. -/
namespace Go.Proofs.YtahpdkkpnkhnhaaGreatDoor
open Go Go.Proofs Go.RowKit Go.Shelf
theorem TrM.start {w w2 : World} {qt qp : Nat} {u v1 v2 : Value} (hb : Below w.heap.size w w2) (hx : Box w2 qp 25 [v1, v2]) (hy : Box w2 qt 73 [u]) :
    TrM w (((w2.alloc (.cells #[.slice none 0 0] 26)).alloc (.cells #[.int .i64 (-1)] 3)).alloc (.cells #[(.func (.func 128) #[] #[.pointer (some ⟨qt, 0, none⟩), .pointer (some ⟨qp, 0, none⟩), .pointer (some ⟨w2.heap.size + 1, 0, none⟩), .pointer (some ⟨w2.heap.size, 0, none⟩), .pointer (some ⟨w2.heap.size + 1 + 1, 0, none⟩)])] 122)) qt qp (w2.heap.size + 1) w2.heap.size (w2.heap.size + 1 + 1) u v1 v2 ([], -1) := by
  have h1 := hx.lt
  have h2 := hy.lt
  have h3 := hb.size
  refine ⟨((hy.alloc _).alloc _).alloc _, ((hx.alloc _).alloc _).alloc _, ?_, ⟨.slice none 0 0, ?_, Sl.nil _ _ _ _ _ _, fun k hk => by cases hk⟩, ?_, by omega, by omega, by omega, by omega, by omega, ?_⟩
  · exact (Box.newAt (w2.alloc (.cells #[.slice none 0 0] 26)) #[.int .i64 (-1)] 3 (by simp)).alloc _
  · exact ((Box.new w2 #[.slice none 0 0] 26).alloc _).alloc _
  · exact Box.newAt ((w2.alloc (.cells #[.slice none 0 0] 26)).alloc (.cells #[.int .i64 (-1)] 3)) #[(.func (.func 128) #[] #[.pointer (some ⟨qt, 0, none⟩), .pointer (some ⟨qp, 0, none⟩), .pointer (some ⟨w2.heap.size + 1, 0, none⟩), .pointer (some ⟨w2.heap.size, 0, none⟩), .pointer (some ⟨w2.heap.size + 1 + 1, 0, none⟩)])] 122 (by simp)
  · exact ((hb.alloc (by omega) _).alloc (by simp; omega) _).alloc (by simp; omega) _
def bestE (p : Pl) (ts : List Tk) : Int := if ckTasks p ts ≠ 0 then ckTasks p ts else if 6 < ts.length then 19 else 0
def BestQ (w : World) (p : Pl) (ts : List Tk) (e : Ending) (w' : World) : Prop :=
  ∃ v l, e = .returned (.tuple #[v, .int .i64 (bestE p ts)]) ∧ Sl encI 1 w' w'.heap.size v l ∧ (bestE p ts ≠ 0 → l = []) ∧ (bestE p ts = 0 → TsOk p ts ∧ ts.length ≤ 6 ∧ l = (bestO (lenO p ts) (levO ts.length ts.length)).1) ∧ Below w.heap.size w w'
set_option maxRecDepth 100000 in
set_option maxHeartbeats 1000000 in
theorem best71 (w : World) (v1 v2 u : Value) (p : Pl) (ts : List Tk) (hw : WdR w) (hv : PlR w w.heap.size v1 v2 p) (hu : TasksR w w.heap.size u ts) (hs : SzT ts) : Calls Tryz.prog 71 #[.agg #[v1, v2], u] w (BestQ w p ts) := by
  have C53 := Lib.hid (fun (w1 : World) (hb : Below w.heap.size w w1) => checkTasks53 w1 _ _ u p ts (hw.later hb) (hv.later hb) (hu.later hb) hs)
  have C128 := Lib.hid (fun hk => fun (W : World) (qt qp ql qb qy : Nat) (hm : TrM w W qt qp ql qb qy u v1 v2 ([], -1)) => try128 w qt qp ql qb qy u v1 v2 p ts hv hu hk ts.length W (.slice none 0 0) ([], -1) [] hm (Sl.nil _ _ _ _ _ _) (fun k hk => by cases hk) (fun n c e => by cases e; rfl) (OrdK.nil _) (by simp) (by decide))
  have HBO := Lib.hid (show (extO ts.length ts.length []).foldl (updO (lenO p ts)) ([], -1) = bestO (lenO p ts) (levO ts.length ts.length) by rw [lev_all]; rfl)
  have HTO := Lib.hid (show ckTasks p ts = 0 → TsOk p ts from TsOk.of)
  obtain ⟨Q, hQ⟩ : ∃ Q, BestQ w p ts = Q := ⟨_, rfl⟩
  rw [hQ]
  have HQ : Hid (∀ v l w', Sl encI 1 w' w'.heap.size v l → (bestE p ts ≠ 0 → l = []) → (bestE p ts = 0 → TsOk p ts ∧ ts.length ≤ 6 ∧ l = (bestO (lenO p ts) (levO ts.length ts.length)).1) → Below w.heap.size w w' → Q (.returned (.tuple #[v, .int .i64 (bestE p ts)])) w') := Lib.hid (fun v l w' h1 h2 h3 h4 => by rw [← hQ]; exact ⟨v, l, rfl, h1, h2, h3, h4⟩)
  clear hQ
  obtain ⟨a1, n1, a2, n2, rfl, rfl⟩ := hv.agg
  obtain ⟨au, cu, rfl, ⟨hu2, hu3⟩, _⟩ := id hu
  clear hw hv hu hs
  have HB := Lib.hid (((Below.refl w.heap.size w).alloc (Nat.le_refl _) (.cells #[.slice a1 p.ms.length n1, .slice a2 p.arcs.length n2] 25)).alloc (by simp) (.cells #[.slice au ts.length cu] 73))
  have HX := Lib.hid ((Box.new w #[.slice a1 p.ms.length n1, .slice a2 p.arcs.length n2] 25).alloc (.cells #[.slice au ts.length cu] 73))
  have HY := Lib.hid (Box.newAt (w.alloc (.cells #[.slice a1 p.ms.length n1, .slice a2 p.arcs.length n2] 25)) #[.slice au ts.length cu] 73 (by simp : _ = w.heap.size + 1))
  obtain ⟨R, hR⟩ : ∃ R, bestE p ts = R := ⟨_, rfl⟩
  rw [hR] at HQ
  unfold bestE at hR
  obtain ⟨B, hBO⟩ : ∃ B, bestO (lenO p ts) (levO ts.length ts.length) = B := ⟨_, rfl⟩
  rw [hBO] at HQ HBO
  obtain ⟨n, hn⟩ : ∃ n, p.ms.length = n := ⟨_, rfl⟩
  obtain ⟨m, hm⟩ : ∃ n, p.arcs.length = n := ⟨_, rfl⟩
  obtain ⟨nt, hnt⟩ : ∃ n, ts.length = n := ⟨_, rfl⟩
  obtain ⟨ck, hck⟩ : ∃ n, ckTasks p ts = n := ⟨_, rfl⟩
  rw [hn] at HB HX HY C53 C128 ⊢
  rw [hm] at HB HX HY C53 C128 ⊢
  rw [hnt] at HB HX HY C53 C128 HBO HQ hu2 hu3 hR ⊢
  rw [hck] at hR C53 HTO
  clear hn hm hnt hck hBO
  go_enter Tryz.func71, Tryz.ntmps71
  go_wp2_with fail
  refine (C53.out _ HB.out).mono ?_
  rintro e w2 ⟨rfl, hb⟩
  have HB2 := Lib.hid (HB.out.trans (hb.mono HB.out.size))
  have HX2 := Lib.hid (HX.out.later hb)
  have HY2 := Lib.hid (HY.out.later hb)
  clear hb HB HX HY
  obtain ⟨x0, x1, xf, xz⟩ := HX2.out.v2
  obtain ⟨y0, yf, yz⟩ := HY2.out.v1
  by_cases h0 : ck = 0
  rotate_left
  · have e1 : (ck != 0) = true := bne_iff_ne.2 h0
    have HV := Lib.hid (HQ.out (.slice none 0 0) [] w2 (Sl.nil _ _ _ _ _ _) (fun _ => rfl) (fun h => by rw [if_pos h0] at hR; omega) HB2.out)
    rw [if_pos h0] at hR
    subst hR
    clear h0
    go_wp2_with fail
    (try go_ret2)
    exact HV.out
  subst h0
  by_cases h6 : 6 < nt
  · have d1 : decide ((6 : Int) < (nt : Int)) = true := decide_eq_true (by omega)
    have d2 : decide (6 < nt) = true := decide_eq_true h6
    rw [if_neg (by simp), if_pos h6] at hR
    subst hR
    have HV := Lib.hid (HQ.out (.slice none 0 0) [] w2 (Sl.nil _ _ _ _ _ _) (fun _ => rfl) (fun h => by cases h) HB2.out)
    clear h6
    go_wp2_with fail
    (try go_ret2)
    exact HV.out
  have d1 : decide ((6 : Int) < (nt : Int)) = false := decide_eq_false (by omega)
  have d2 : decide (6 < nt) = false := decide_eq_false h6
  rw [if_neg (by simp), if_neg h6] at hR
  subst hR
  have HOK := Lib.hid (HTO.out rfl)
  have H6 := Lib.hid (show nt ≤ 6 by omega)
  clear h6
  have HM := Lib.hid (TrM.start HB2.out HX2.out HY2.out)
  go_wp2_with fail
  refine (C128.out HOK.out _ _ _ _ _ _ HM.out).mono ?_
  rintro e w3 ⟨rfl, hm3, _⟩
  rw [HBO.out] at hm3
  obtain ⟨v3, hb3, hs3, haw⟩ := hm3.bb
  clear haw
  obtain ⟨a3, c3, hv3, hx1, hx2⟩ := id hs3
  clear hx1 hx2
  subst hv3
  have HV := Lib.hid (HQ.out _ _ w3 hs3 (fun h => absurd rfl h) (fun _ => ⟨HOK.out, H6.out, rfl⟩) hm3.bw)
  obtain ⟨b0, bf, bz⟩ := hb3.v1
  clear hm3 hb3 hs3
  obtain ⟨n3, hn3⟩ : ∃ x, B.1.length = x := ⟨_, rfl⟩
  rw [hn3] at b0 HV
  clear hn3
  go_wp2_with fail
  (try go_ret2)
  exact HV.out
end Go.Proofs.YtahpdkkpnkhnhaaGreatDoor
/- Plain: the first tasks of some tasks. -/
namespace Go.Proofs.YtahpdkkpnkhnhaaGreatDoor
open Go Go.Proofs Go.RowKit Go.Shelf
theorem TasksR.take {w : World} {B : Nat} {a : Option Addr} {n c : Nat} {ts : List Tk} (h : TasksR w B (.slice a n c) ts) (k : Nat) (hk : k ≤ ts.length) : TasksR w B (.slice a k c) (ts.take k) := by
  obtain ⟨a', c', e, hlen, hA⟩ := h
  injection e with e1 e2 e3
  subst e1 e3
  have hl : (ts.take k).length = k := by simp; omega
  refine ⟨a, c, by rw [hl], by rw [hl]; omega, fun h0 => ?_⟩
  obtain ⟨b, off, e, hb, hc⟩ := hA (by omega)
  refine ⟨b, off, e, hb, fun i hi => ?_⟩
  rw [hl] at hi
  obtain ⟨au, cu, h1, h2⟩ := hc i (by omega)
  rw [List.getElem_take]
  exact ⟨au, cu, h1, h2⟩
theorem SzT.take {ts : List Tk} (h : SzT ts) (k : Nat) : SzT (ts.take k) := fun t ht => h t (List.mem_of_mem_take ht)
theorem schE_zero {p : Pl} {ts : List Tk} (h : ckTasks p ts = 0) : schE p ts (stO p ts) = 0 := by
  unfold schE
  rw [if_neg (by simp [h])]
  exact sched_ck (TsOk.of h) (stO_len p ts) (stO_R p ts)
theorem lenE_F {p : Pl} {ts : List Tk} (h : ckTasks p ts = 0) : lenE p ts (stO p ts) = lenF p ts := by
  unfold lenE
  rw [if_neg (by simp [schE_zero h])]
  rfl
theorem ordT_ck {p : Pl} {ts : List Tk} (h : ckTasks p ts = 0) {k : Nat} {l : List Int} (hl : OrdK ts.length k l) : ckTasks p (ordT ts l) = 0 :=
  ckTasks_sub h (by rw [ordT_len, hl.len]; have := hl.le; have := (ckTasks_ok h).2.1; omega) (ordT_mem hl.ins)
theorem early_E {p : Pl} {ts : List Tk} (h : ckTasks p ts = 0) {i : Nat} (hi : i < ts.length) {t : Int} (h0 : 0 ≤ t) (ht : t < (stO p ts).getD i 0) : schE p (ts.take (i + 1)) ((stO p ts).take i ++ [t]) = 16 := by
  unfold schE
  rw [if_neg (by
    rw [ckTasks_sub h (by rw [List.length_take]; have := (ckTasks_ok h).2.1; omega) (fun x hx => List.mem_of_mem_take hx)]; simp)]
  exact early_ck (TsOk.of h) (stO_len p ts) (stO_R p ts) hi h0 ht
end Go.Proofs.YtahpdkkpnkhnhaaGreatDoor
