/- Lemmas on the way to the laws (part 14): Bk ShA Bl -/
import Derived.Test.YtahpdkkpnkhnhaaGreatDoorLib13
import Derived.Shelf.Slices.Reverse
import Derived.Ground.NamesProg
import Derived.Ground.SlsfProg
import Derived.Shelf.SlSortCmp.WholeK
import Derived.Test.YtahpdkkpnkhnhaaGreatDoorProg
import Derived.Shelf.SlSortCmp.NoneTotal
set_option linter.unusedVariables false
set_option linter.unusedSimpArgs false

/- Walks: the starts with which a task meets another one. -/
namespace Go.Proofs.YtahpdkkpnkhnhaaGreatDoor
open Go Go.Proofs Go.RowKit Go.Shelf Go.Maps

theorem zero159 (w : World) : (zeroValue 159).run Tryz.prog w = .ok (.agg #[.int .i64 0, .int .i64 0]) w := by kernel_rfl
/-- 'v, ok := m[k]'. -/
theorem wpList_look_F {w : World} {b n : Nat} {F : Int → Option (Int × Int)} {ops : Array Oper} {rest : List Oper} {o : Oper} {a : Act} {Q : Exit → Act → World → Prop} (h : MapF w b n F) (x : Int) (hx : (Lit.int .i64 x).wf = true)
    (hg : o.guard = none) (m y : Operand) (hop : o.op = Op.lookup 161 m y true) (hm : a.eval m = .map (some b)) (hxx : a.eval y = .int .i64 x)
    (hK : wpList Tryz.prog ops Q rest (a.put o.dst (.tuple #[.agg #[.int .i64 ((F x).getD (0, 0)).1, .int .i64 ((F x).getD (0, 0)).2], .bool (F x).isSome])) w) : wpList Tryz.prog ops Q (o :: rest) a w := by
  obtain ⟨D, h1, h2, h3⟩ := h
  refine wpList_lookup_own_ok w hg m y 161 hop 3 159 (int_keyed Tryz.underlying3) Tryz.underlying161 busyR (zero159 w) _ [] (busyR_mk 0 0) b n D hm h1 (.int .i64 x) (.int .i64 x) hxx (keyOf_int_mk Tryz.underlying3 hx) ?_
  intro v ps hv
  obtain ⟨c, d, rfl, hy⟩ := busyR_inv hv
  have h4 := (h3 x).2 (pairD 0 0)
  rw [show (Lit.int .i64 x) = intLit x from rfl] at hy
  simp only [Prod.mk.injEq] at hy
  rw [h4] at hy
  rw [show (Lit.int .i64 x) = intLit x from rfl, (h3 x).1]
  cases hF : F x with
  | none =>
    rw [hF] at hy hK
    obtain ⟨e1, e2⟩ := pairD_inj hy.1
    subst e1 e2
    exact hK
  | some z =>
    rw [hF] at hy hK
    obtain ⟨e1, e2⟩ := pairD_inj hy.1
    subst e1 e2
    exact hK
/-- A range over such a map is under way; the keys in done have come. -/
def MapRg (w : World) (b r n : Nat) (F : Int → Option (Int × Int)) (done : List Int) (cnt : Nat) : Prop :=
  ∃ (D : DataW Unit) (left : Lit → Bool), w.ranges Tryz.prog 3 busyR b r n D left cnt ∧ (∀ m : Int, ∀ zd, D.atKey (intLit m) zd = match F m with | some v => pairD v.1 v.2 | none => zd) ∧ (∀ m : Int, left (intLit m) = ((F m).isSome && decide (m ∉ done))) ∧ done.Nodup ∧ ∀ m ∈ done, (F m).isSome = true
theorem MapRg.left_eq {w : World} {b r n : Nat} {F : Int → Option (Int × Int)} {done : List Int} {cnt : Nat} (h : MapRg w b r n F done cnt) : w.rangeLeft b r = cnt := let ⟨_, _, h1, _⟩ := h; h1.left_eq
theorem MapRg.kept {w w' : World} {b r n : Nat} {F : Int → Option (Int × Int)} {done : List Int} {cnt : Nat} {row : Option Nat} (h : MapRg w b r n F done cnt) (hg : w.grownBy w' row) (hb : some b ≠ row) (hr : some r ≠ row) : MapRg w' b r n F done cnt :=
  let ⟨D, l, h1, h2⟩ := h; ⟨D, l, h1.kept hg hb hr, h2⟩
theorem MapRg.later {w w' : World} {b r n : Nat} {F : Int → Option (Int × Int)} {done : List Int} {cnt : Nat} (h : MapRg w b r n F done cnt) (hb : Below w.heap.size w w') : MapRg w' b r n F done cnt :=
  h.kept (row := none) ⟨hb.os, hb.tape, hb.output, hb.size, fun k hk _ => hb.block k hk⟩ (by simp) (by simp)
theorem MapRg.nodup {w : World} {b r n : Nat} {F : Int → Option (Int × Int)} {done : List Int} {cnt : Nat} (h : MapRg w b r n F done cnt) : done.Nodup ∧ ∀ m ∈ done, (F m).isSome = true := let ⟨_, _, _, _, _, h4⟩ := h; h4
theorem wpList_range_F {w : World} {b n : Nat} {F : Int → Option (Int × Int)} {ops : Array Oper} {rest : List Oper} {o : Oper} {a : Act} {Q : Exit → Act → World → Prop} (h : MapF w b n F) (hg : o.guard = none) (m : Operand) (hop : o.op = Op.range 161 m) (hm : a.eval m = .map (some b))
    (hK : ∀ w' cnt, MapRg w' b w.heap.size n F [] cnt → w.grownBy w' none → w'.heap.size = w.heap.size + 1 → wpList Tryz.prog ops Q rest (a.put o.dst (.pointer (some ⟨w.heap.size, 0, none⟩))) w') : wpList Tryz.prog ops Q (o :: rest) a w := by
  obtain ⟨D, h1, h2, h3⟩ := h
  refine wpList_range_own w hg m 161 hop 3 159 (int_keyed Tryz.underlying3) Tryz.underlying161 busyR b n D hm h1 ?_
  intro w' hr hgr hs
  exact hK w' _ ⟨D, _, hr, fun m => (h3 m).2, fun m => by rw [(h3 m).1]; simp, by simp, fun m hm => by cases hm⟩ hgr hs
theorem wpList_next_F {w : World} {b r n cnt : Nat} {F : Int → Option (Int × Int)} {done : List Int} {ops : Array Oper} {rest : List Oper} {o : Oper} {a : Act} {Q : Exit → Act → World → Prop} (h : MapRg w b r n F done cnt) (hg : o.guard = none) (it : Operand) (hop : o.op = Op.next it false) (hit : a.eval it = .pointer (some ⟨r, 0, none⟩))
    (hDone : (∀ m : Int, (F m).isSome = true → m ∈ done) → wpList Tryz.prog ops Q rest (a.put o.dst (.tuple #[.bool false])) w)
    (hMore : ∀ (x c d : Int) (w' : World) (cnt' : Nat), (Lit.int .i64 x).wf = true → F x = some (c, d) → x ∉ done → MapRg w' b r n F (done ++ [x]) cnt' → cnt' < cnt → w.grownBy w' (some r) → w'.heap.size = w.heap.size →
      (Instr.entry (.pointer (some ⟨r, 0, none⟩))).run Tryz.prog w' = .ok (.tuple #[.int .i64 x, .agg #[.int .i64 c, .int .i64 d]]) w' → wpList Tryz.prog ops Q rest (a.put o.dst (.tuple #[.bool true, .int .i64 x, .agg #[.int .i64 c, .int .i64 d]])) w') : wpList Tryz.prog ops Q (o :: rest) a w := by
  obtain ⟨D, left, h1, h2, h3, h4, h5⟩ := h
  refine wpList_next_ranges w hg it hop 3 (int_keyed Tryz.underlying3) busyR (Value.int .i64) (fun z : Int × Int => .agg #[.int .i64 z.1, .int .i64 z.2]) (fun key kl hkey => by obtain ⟨x, rfl, _⟩ := Maps.keyOf_int_inv Tryz.underlying3 hkey; exact ⟨x, rfl⟩)
    (fun v y hv => by obtain ⟨c, d, rfl, _⟩ := busyR_inv hv; exact ⟨(c, d), rfl⟩) b r n D left cnt hit h1 ?_ ?_
  · intro _ hl
    refine hDone fun m hm => ?_
    have := h3 m
    rw [hl, hm, Bool.true_and] at this
    exact Decidable.not_not.1 (of_decide_eq_false this.symm)
  · rintro x ⟨c, d⟩ kl y w' cnt' hkey hlk hv hat hrg hlt hgr hsz hen
    obtain ⟨x', ex, rfl, hwx⟩ := Maps.keyOf_int_inv Tryz.underlying3 hkey
    cases ex
    have hl : (F x).isSome = true ∧ x ∉ done := by
      have := h3 x
      rw [show left (intLit x) = true from hlk] at this
      simpa using this.symm
    have hF : F x = some (c, d) := by
      cases hf : F x with
      | none => rw [hf] at hl; exact absurd hl.1 (by simp)
      | some z =>
        have e1 := hat (pairD 0 0)
        have e2 := h2 x (pairD 0 0)
        rw [hf] at e2
        rw [show (Lit.int .i64 x) = intLit x from rfl, e2] at e1
        obtain ⟨c', d', e3, e4⟩ := busyR_inv hv
        simp only [Value.agg.injEq, Array.mk.injEq, List.cons.injEq, Value.int.injEq, true_and, and_true] at e3
        obtain ⟨e5, e6⟩ := e3
        subst e5 e6
        rw [e4] at e1
        obtain ⟨e7, e8⟩ := pairD_inj e1
        rw [← e7, ← e8]
    refine hMore x c d w' cnt' hwx hF hl.2 ⟨D, _, hrg, h2, fun m => ?_, ?_, ?_⟩ hlt hgr hsz hen
    · rw [h3 m]
      by_cases e : m = x
      · subst e
        rw [show (intLit m).sameKey (Lit.int .i64 m) = true from WideAt.sameKey_self (by simp [intLit, WideAt.IsKeyLit])]
        simp
      · rw [show (intLit m).sameKey (Lit.int .i64 x) = false from sameKey_ne (fun h => e (intLit_inj _ _ h))]
        simp [e]
    · rw [List.nodup_append]
      exact ⟨h4, by simp, fun a ha b hb e => by simp at hb; subst hb; subst e; exact hl.2 ha⟩
    · intro m hm
      rcases List.mem_append.1 hm with h | h
      · exact h5 m h
      · simp at h; subst h; exact hl.1

/-- The span of starts with which a task meets another one in a machine that each uses. -/
def barK (F1 F2 : Int → Option (Int × Int)) (start m : Int) : Option Ar :=
  match F1 m, F2 m with
  | some a, some b => some ⟨start + b.1 - a.1 - a.2 + 1, start + b.1 + b.2 - 1 - a.1⟩
  | _, _ => none
def barO (F1 F2 : Int → Option (Int × Int)) (start : Int) (done : List Int) : List Ar := done.filterMap (barK F1 F2 start)
theorem barO_snoc (F1 F2 : Int → Option (Int × Int)) (start : Int) (done : List Int) (x : Int) : barO F1 F2 start (done ++ [x]) = barO F1 F2 start done ++ (barK F1 F2 start x).toList := by
  unfold barO; rw [List.filterMap_append]; congr 1
theorem useF_bd {p : Pl} {run : Int} (ht : ∀ m ∈ p.ms, 0 ≤ m.time ∧ m.time ≤ 100000) (hr : 0 ≤ run ∧ run ≤ 100000) : ∀ {l : List Int} {h m a b : Int}, (∀ x ∈ l, inN p.ms.length x = true) → useF p run h l m = some (a, b) → h ≤ a ∧ a ≤ h + 100000 * l.length ∧ 0 ≤ b ∧ b ≤ 200000
  | [], _, _, _, _, _, h => by cases h
  | x :: r, h, m, a, b, hin, he => by
    obtain ⟨k, rfl, hk⟩ := inN_nat (hin x (by simp))
    have h1 := ht p.ms[k] (List.getElem_mem hk)
    rw [← tAt_nat hk] at h1
    rw [useF] at he
    simp only [List.length_cons]
    split at he
    · cases he; omega
    · have := useF_bd ht hr (fun x hx => hin x (by simp [hx])) he; omega
theorem useF_some {p : Pl} {run : Int} : ∀ {l : List Int} {h m : Int}, (useF p run h l m).isSome = true ↔ m ∈ l
  | [], h, m => by simp [useF]
  | x :: r, h, m => by
    rw [useF]
    by_cases e : m = x
    · rw [if_pos e]; simp [e]
    · rw [if_neg e, useF_some]; simp [e]
theorem Ar.enc_one (x : Ar) : ∀ u ∈ x.enc, u.oneCell' = true := by intro u hu; simp [Ar.enc] at hu; rcases hu with rfl | rfl <;> rfl
theorem infoAr : (Tryz.prog.info? 123).map (fun i => (i.zero, i.size, i.bytes)) = some (some (.agg #[.int .i64 0, .int .i64 0]), 2, 16) := by kernel_rfl
/-- A task. -/
structure Tk where
  path : List Int
  grain : ByteArray
  run : Int
structure OkT (p : Pl) (t : Tk) : Prop where
  ins : ∀ x ∈ t.path, inN p.ms.length x = true
  nd : t.path.Nodup
  run : 0 ≤ t.run ∧ t.run ≤ 100000
def BarPost (w : World) (p : Pl) (t o : Tk) (start : Int) (e : Ending) (w' : World) : Prop :=
  ∃ v L, e = .returned v ∧ Own Ar.enc 2 123 w' w.heap.size v L ∧ L.Perm (barO (useF p t.run 0 t.path) (useF p o.run 0 o.path) start o.path) ∧ Below w.heap.size w w'
set_option maxRecDepth 100000 in
set_option maxHeartbeats 1000000 in
theorem barred114 (w : World) (v1 v2 u1 u2 : Value) (p : Pl) (t o : Tk) (start : Int) (hv : PlR w w.heap.size v1 v2 p) (hu1 : Sl encI 1 w w.heap.size u1 t.path) (hu2 : Sl encI 1 w w.heap.size u2 o.path) (hp : OkP p) (ht : OkT p t) (ho : OkT p o) (hs : 0 ≤ start ∧ start ≤ 1000000000000000) (hl1 : t.path.length ≤ 1000000) (hl2 : o.path.length ≤ 1000000) :
    Calls Tryz.prog 114 #[.agg #[v1, v2], .agg #[u1, .string t.grain, .int .i64 t.run], .agg #[u2, .string o.grain, .int .i64 o.run], .int .i64 start] w (BarPost w p t o start) := by
  have HU1 := Lib.hid (fun (w1 : World) (hb : Below w.heap.size w w1) => uses127 w1 v1 v2 u1 t.grain t.run p t.path (hv.later hb) (hu1.later hb) hp ht.ins ht.nd ht.run)
  have HU2 := Lib.hid (fun (w1 : World) (hb : Below w.heap.size w w1) => uses127 w1 v1 v2 u2 o.grain o.run p o.path (hv.later hb) (hu2.later hb) hp ho.ins ho.nd ho.run)
  have HBD1 := Lib.hid (fun m a b (h : useF p t.run 0 t.path m = some (a, b)) => useF_bd hp.times ht.run ht.ins h)
  have HBD2 := Lib.hid (fun m a b (h : useF p o.run 0 o.path m = some (a, b)) => useF_bd hp.times ho.run ho.ins h)
  have HSM := Lib.hid (fun m => (useF_some (p := p) (run := o.run) (l := o.path) (h := 0) (m := m)))
  have HND := Lib.hid ho.nd
  obtain ⟨a1, n1, a2, n2, rfl, rfl⟩ := hv.agg
  obtain ⟨b1, c1, rfl, _, _⟩ := hu1
  obtain ⟨b2, c2, rfl, _, _⟩ := hu2
  clear hv hp ht ho
  obtain ⟨hs0, hs1⟩ := hs
  obtain ⟨F1, hF1⟩ : ∃ F, useF p t.run 0 t.path = F := ⟨_, rfl⟩
  obtain ⟨F2, hF2⟩ : ∃ F, useF p o.run 0 o.path = F := ⟨_, rfl⟩
  obtain ⟨Q, hQ⟩ : ∃ Q, BarPost w p t o start = Q := ⟨_, rfl⟩
  rw [hQ]
  have HQ : Hid (∀ (v : Value) (L : List Ar) (w' : World), Own Ar.enc 2 123 w' w.heap.size v L → L.Perm (barO F1 F2 start o.path) → Below w.heap.size w w' → Q (.returned v) w') := Lib.hid (fun v L w' h1 h2 h3 => by rw [← hQ]; exact ⟨v, L, rfl, h1, by rw [hF1, hF2]; exact h2, h3⟩)
  rw [hF1] at HU1 HBD1
  rw [hF2] at HU2 HBD2 HSM
  clear hF1 hF2 hQ
  obtain ⟨path1, gr1, run1⟩ := t
  obtain ⟨path2, gr2, run2⟩ := o
  dsimp only at *
  obtain ⟨n, hn⟩ : ∃ n, p.ms.length = n := ⟨_, rfl⟩
  obtain ⟨m, hm⟩ : ∃ m, p.arcs.length = m := ⟨_, rfl⟩
  obtain ⟨l1, hll1⟩ : ∃ m, path1.length = m := ⟨_, rfl⟩
  obtain ⟨l2, hll2⟩ : ∃ m, path2.length = m := ⟨_, rfl⟩
  rw [hn, hm] at HU1 HU2 ⊢
  rw [hll1] at HU1 HBD1 hl1 ⊢
  rw [hll2] at HU2 HBD2 hl2 ⊢
  have HL2 := Lib.hid hll2
  clear hn hm hll1 hll2
  have HB := Lib.hid ((((Below.refl w.heap.size w).alloc (Nat.le_refl _) (.cells #[.slice a1 n n1, .slice a2 m n2] 25)).alloc (by simp) (.cells #[.slice b1 l1 c1, .string gr1, .int .i64 run1] 114)).alloc (by simp; omega) (.cells #[.slice b2 l2 c2, .string gr2, .int .i64 run2] 114))
  have HX := Lib.hid (((Box.new w #[.slice a1 n n1, .slice a2 m n2] 25).alloc (.cells #[.slice b1 l1 c1, .string gr1, .int .i64 run1] 114)).alloc (.cells #[.slice b2 l2 c2, .string gr2, .int .i64 run2] 114))
  have HY := Lib.hid (Box.newAt ((w.alloc (.cells #[.slice a1 n n1, .slice a2 m n2] 25)).alloc (.cells #[.slice b1 l1 c1, .string gr1, .int .i64 run1] 114)) #[.slice b2 l2 c2, .string gr2, .int .i64 run2] 114 (by simp : _ = w.heap.size + 1 + 1))
  go_enter Tryz.func114, Tryz.ntmps114
  go_wp2_with fail
  refine (HU1.out _ HB.out).mono ?_
  rintro e w2 ⟨bm1, rfl, hm1, hbm1, hb2⟩
  have HB2 := Lib.hid (HB.out.trans (hb2.mono HB.out.size))
  have HX2 := Lib.hid (HX.out.later hb2)
  have HY2 := Lib.hid (HY.out.later hb2)
  have HM2 := Lib.hid hm1
  clear hb2 hm1 hbm1
  obtain ⟨x0, x1, xf, xz⟩ := HX2.out.v2
  have y0 := HY2.out.cell 0
  have y1 := HY2.out.cell 1
  have y2 := HY2.out.cell 2
  have yz := HY2.out.lt
  simp only [List.getElem?_cons_zero, List.getElem?_cons_succ] at y0 y1 y2
  go_wp2_with fail
  refine (HU2.out _ HB2.out).mono ?_
  rintro e w3 ⟨bm2, rfl, hm2, hbm2, hb3⟩
  have HB3 := Lib.hid (HB2.out.trans (hb3.mono HB2.out.size))
  have HM3 := Lib.hid (HM2.out.later hb3)
  have HN3 := Lib.hid hm2
  clear hb3 hm2 hbm2 x0 x1 xf xz y0 y1 y2 yz HB HX HY HB2 HX2 HY2
  go_wp2_with (at_range; refine wpList_range_F HN3.out rfl _ rfl rfl ?_; intro w4 cnt0 hrg hgr hsz; have HR4 := Lib.hid hrg; have HB4 := Lib.hid (HB3.out.grown hgr HB3.out.size (fun k e => by cases e)); have HM4 := Lib.hid (HM3.out.kept hgr (by simp)); have hsz4 : w4.heap.size = w3.heap.size + 1 := hsz; clear hrg hgr hsz)
  obtain ⟨r, hr⟩ : ∃ r, w3.heap.size = r := ⟨_, rfl⟩
  have HRR := Lib.hid hr
  rw [hr] at HR4 hsz4 ⊢
  have HW4 := Lib.hid (show r < w4.heap.size by omega)
  have HBM1 := Lib.hid (show bm1 < w4.heap.size from HM4.out.lt)
  have HT : Hid (Tryz.prog.underlying 23 = some (.slice 123)) := Lib.hid Tryz.underlying23
  have HI := Lib.hid infoAr
  have HM1R := Lib.hid (show some bm1 ≠ some r by have := HM3.out.lt; rw [hr] at this; intro e; cases e; omega)
  have HB1L := Lib.hid (show bm1 < w4.heap.size from HM4.out.lt)
  have HB2L := Lib.hid (show bm2 < r by rw [← hr]; exact HN3.out.lt)
  have HLR := Lib.hid (show w.heap.size ≤ r by rw [← hr]; exact HB3.out.size)
  clear hr hsz4
  go_frame
  go_loopw [9] (fun v wr => ∃ done cnt, MapRg wr bm2 r l2 F2 done cnt ∧ MapF wr bm1 l1 F1 ∧ Own Ar.enc 2 123 wr w4.heap.size v (barO F1 F2 start done) ∧ Below w.heap.size w wr ∧ w4.heap.size ≤ wr.heap.size) (fun _ wr => wr.rangeLeft bm2 r)
  case atStart => exact ⟨[], cnt0, HR4.out, HM4.out, Own.nil _ _ _ _ _, HB4.out, Nat.le_refl _⟩
  case round =>
    obtain ⟨done, cnt, hrg, hmf, hown, hbe, hsz⟩ := hrel
    have HRG := Lib.hid hrg
    have HMF := Lib.hid hmf
    have HOW := Lib.hid hown
    have HBE := Lib.hid hbe
    have HSZ := Lib.hid hsz
    have HPM := Lib.hid hrg.nodup
    have HLEN : Hid ((barO F1 F2 start done).length ≤ 1000000) := Lib.hid (by
      have h1 : done.length ≤ path2.length := by
        have hsub : done ⊆ path2 := fun m hm => (HSM.out m).1 (hrg.nodup.2 m hm)
        exact List.Nodup.length_le_of_subset hrg.nodup.1 hsub
      have h2 : (barO F1 F2 start done).length ≤ done.length := List.length_filterMap_le _ _
      have := HL2.out
      omega)
    clear hrg hmf hown hbe hsz HR4 HM4 HB4
    go_wp2_with (at_next; refine wpList_next_F HRG.out rfl _ rfl rfl ?_ ?_)
    · intro hall
      go_wp2_with fail
      refine HQ.out _ _ _ (HOW.out.lower (by have := HW4.out; have := HLR.out; omega)) ?_ HBE.out
      refine List.Perm.filterMap _ ?_
      exact (List.perm_ext_iff_of_nodup HPM.out.1 HND.out).2 fun m => ⟨fun hm => (HSM.out m).1 (HPM.out.2 m hm), fun hm => hall m ((HSM.out m).2 hm)⟩
    · intro x c d w5 cnt' hwx hF2x hxd hrg5 hlt5 hg5 hz5 hen
      have HG5 := Lib.hid hg5
      have HRG5 := Lib.hid hrg5
      have HM5 := Lib.hid (HMF.out.kept hg5 HM1R.out)
      have HO5 := Lib.hid (HOW.out.kept hg5 (.inr (fun e => by have h1 := HOW.out.lt' _ e; have := HW4.out; omega)))
      have HB5 := Lib.hid (HBE.out.grown hg5 HBE.out.size (fun k e => by cases e; exact HLR.out))
      have HZ5 := Lib.hid hz5
      have HWX := Lib.hid hwx
      have HLT := Lib.hid hlt5
      obtain ⟨hc0, hc1, hd0, hd1⟩ := HBD2.out x c d hF2x
      have HSN := Lib.hid (barO_snoc F1 F2 start done x)
      have HBK := Lib.hid (show barK F1 F2 start x = match F1 x with | some a => some ⟨start + c - a.1 - a.2 + 1, start + c + d - 1 - a.1⟩ | none => none by unfold barK; rw [hF2x]; cases F1 x <;> rfl)
      rw [HBK.out] at HSN
      clear hwx hxd hrg5 hlt5 hg5 hz5 hF2x HBK
      have HMA := Lib.hid (HM5.out.kept (World.grownBy_alloc w5 (.cells #[.int .i64 c, .int .i64 d] 159) none) (by simp))
      have HRA := Lib.hid (HRG5.out.kept (World.grownBy_alloc w5 (.cells #[.int .i64 c, .int .i64 d] 159) none) (by simp) (by simp))
      have HOA := Lib.hid (HO5.out.alloc (.cells #[.int .i64 c, .int .i64 d] 159))
      have HBA := Lib.hid (HB5.out.alloc (by have := HB5.out.size; omega) (.cells #[.int .i64 c, .int .i64 d] 159))
      have HXA := Lib.hid (Box.new w5 #[.int .i64 c, .int .i64 d] 159)
      have HF : Hid (∃ q, F1 x = q) := Lib.hid ⟨_, rfl⟩
      obtain ⟨q, hq⟩ := HF.out
      rw [hq] at HSN
      have HQX := Lib.hid hq
      clear hq HF
      cases q with
      | none =>
        go_wp2_with (at_lookup; refine wpList_look_F HMA.out x HWX.out rfl _ _ rfl rfl rfl ?_; rw [HQX.out]; dsimp only [Option.getD, Option.isSome])
        go_roundw
        case rel => exact ⟨done ++ [x], cnt', HRA.out.kept (World.grownBy_alloc _ _ none) (by simp) (by simp), HMA.out.kept (World.grownBy_alloc _ _ none) (by simp), by rw [HSN.out, Option.toList_none, List.append_nil]; exact HOA.out.alloc _, HBA.out.alloc (by have := HBA.out.size; omega) _, by simp; have := HZ5.out; have := HSZ.out; omega⟩
        case measure => rw [(HRA.out.kept (World.grownBy_alloc _ _ none) (by simp) (by simp)).left_eq, HRG.out.left_eq]; exact HLT.out
      | some ab =>
        obtain ⟨a', b'⟩ := ab
        obtain ⟨ha0, ha1, hb0, hb1⟩ := HBD1.out x a' b' HQX.out
        have HOB := Lib.hid (HOA.out.alloc (.cells #[.int .i64 a', .int .i64 b'] 159))
        have HXB := Lib.hid (HXA.out.alloc (.cells #[.int .i64 a', .int .i64 b'] 159))
        have HYB := Lib.hid (Box.new (w5.alloc (.cells #[.int .i64 c, .int .i64 d] 159)) #[.int .i64 a', .int .i64 b'] 159)
        have HRB := Lib.hid (HRA.out.kept (World.grownBy_alloc _ (.cells #[.int .i64 a', .int .i64 b'] 159) none) (by simp) (by simp))
        have HMB := Lib.hid (HMA.out.kept (World.grownBy_alloc _ (.cells #[.int .i64 a', .int .i64 b'] 159) none) (by simp))
        have HBB := Lib.hid (HBA.out.alloc (by have := HBA.out.size; omega) (.cells #[.int .i64 a', .int .i64 b'] 159))
        have x0 := HXB.out.cell 0
        have x1 := HXB.out.cell 1
        have xz := HXB.out.lt
        have y0 := HYB.out.cell 0
        have y1 := HYB.out.cell 1
        have yz := HYB.out.lt
        simp only [List.getElem?_cons_zero, List.getElem?_cons_succ, World.size_alloc] at x0 x1 y0 y1 xz yz
        dsimp only at HSN
        rw [Option.toList_some] at HSN
        have HBSZ := Lib.hid (show w4.heap.size ≤ ((w5.alloc (.cells #[.int .i64 c, .int .i64 d] 159)).alloc (.cells #[.int .i64 a', .int .i64 b'] 159)).heap.size by simp; have := HZ5.out; have := HSZ.out; omega)
        have HROW := Lib.hid (row_here (w := (w5.alloc (.cells #[.int .i64 c, .int .i64 d] 159)).alloc (.cells #[.int .i64 a', .int .i64 b'] 159)) (cs := #[.int .i64 (start + c - a' - b' + 1), .int .i64 (start + c + d - 1 - a')]) (e := 123) (g := w5.heap.size + 1 + 1) (by simp))
        have HOC := Lib.hid (HOB.out.alloc (.cells #[.int .i64 (start + c - a' - b' + 1), .int .i64 (start + c + d - 1 - a')] 123))
        have HRC := Lib.hid (HRB.out.kept (World.grownBy_alloc _ (.cells #[.int .i64 (start + c - a' - b' + 1), .int .i64 (start + c + d - 1 - a')] 123) none) (by simp) (by simp))
        have HMC := Lib.hid (HMB.out.kept (World.grownBy_alloc _ (.cells #[.int .i64 (start + c - a' - b' + 1), .int .i64 (start + c + d - 1 - a')] 123) none) (by simp))
        have HBC := Lib.hid (HBB.out.alloc (by have := HBB.out.size; omega) (.cells #[.int .i64 (start + c - a' - b' + 1), .int .i64 (start + c + d - 1 - a')] 123))
        have HCSZ := Lib.hid (show w4.heap.size ≤ (((w5.alloc (.cells #[.int .i64 c, .int .i64 d] 159)).alloc (.cells #[.int .i64 a', .int .i64 b'] 159)).alloc (.cells #[.int .i64 (start + c - a' - b' + 1), .int .i64 (start + c + d - 1 - a')] 123)).heap.size by simp; have := HZ5.out; have := HSZ.out; omega)
        have HLTV := Lib.hid (fun k e => HOC.out.lt' k e)
        go_wp2_with (first | (at_lookup; refine wpList_look_F HMA.out x HWX.out rfl _ _ rfl rfl rfl ?_; rw [HQX.out]; dsimp only [Option.getD, Option.isSome]) | (at_builtin; refine wpList_pushB Ar.enc 2 16 23 123 _ HT.out HI.out rfl (by decide) (by decide) Ar.enc_len Ar.enc_one _ ⟨start + c - a' - b' + 1, start + c + d - 1 - a'⟩ w4.heap.size _ (w5.heap.size + 1 + 1) _ 123 HROW.out rfl _ HOC.out HCSZ.out HLEN.out rfl _ _ rfl rfl rfl ?_; intro v' w' hown' hg'; obtain ⟨av, cap', rfl⟩ := hown'.shape; rw [List.length_append, List.length_singleton] at hown'; have HOW' := Lib.hid hown'; have HG' := Lib.hid hg'; clear hown' hg'))
        go_roundw
        case rel => exact ⟨done ++ [x], cnt', HRC.out.kept HG'.out (fun e => by have := HLTV.out _ e.symm; have := HB2L.out; have := HW4.out; omega) (fun e => by have := HLTV.out _ e.symm; have := HW4.out; omega), HMC.out.kept HG'.out (fun e => by have := HLTV.out _ e.symm; have := HM1R.out; have := HB1L.out; omega), by rw [HSN.out]; exact HOW'.out, HBC.out.grown HG'.out HBC.out.size (fun k e => by have := HLTV.out _ e; have := HW4.out; have := HLR.out; omega), Nat.le_trans HCSZ.out HG'.out.size⟩
        case measure => rw [(HRC.out.kept HG'.out (fun e => by have := HLTV.out _ e.symm; have := HB2L.out; have := HW4.out; omega) (fun e => by have := HLTV.out _ e.symm; have := HW4.out; omega)).left_eq, HRG.out.left_eq]; exact HLT.out
end Go.Proofs.YtahpdkkpnkhnhaaGreatDoor

/-
  DERIVED: THE SHELF's CONTRACTS AT THIS DUMP, IN PLAIN WORDS (tools/lay-plain.mjs out of 'TryzShelf.lean', which tools/lay-shelf.mjs wrote): THE SAME DECLARATIONS UNDER THE SAME NAMES: 'import', 'namespace', 'open', 'def', 'theorem' AND NOTHING ELSE: no command of the shelf's: FOR A HAND-IN. Each laying: the table of numbers ('.._ren') and one theorem, a field a fact of the dump's own or the kernel's comparison; each contract: ONE APPLICATION.
-/
namespace Go.Proofs
open Go.Shelf
def Tryz.lays112_ren : Go.Shelf.Ren := ⟨fun | 112 => 85 | n => n, fun | 28 => 26 | 3 => 3 | 4 => 4 | 0 => 0 | n => n, fun | n => n⟩
theorem Tryz.lays112 : Go.Proofs.Lays.n112 Tryz.prog Tryz.lays112_ren := {
  mixed := by kernel_rfl
  f112 := Tryz.func85.trans (congrArg some (by kernel_rfl))
  t0 := Tryz.underlying0
  a0 := Tryz.isAgg0
  z0 := Tryz.sizeOf0
  v0 := Tryz.zeroValue0
  t3 := Tryz.underlying3
  a3 := Tryz.isAgg3
  z3 := Tryz.sizeOf3
  v3 := Tryz.zeroValue3
  t4 := Tryz.underlying4
  a4 := Tryz.isAgg4
  z4 := Tryz.sizeOf4
  v4 := Tryz.zeroValue4
  t28 := Tryz.underlying26
  a28 := Tryz.isAgg26
  z28 := Tryz.sizeOf26
  v28 := Tryz.zeroValue26 }
open Go.RowKit Go.Lib Go.Sort in
/-- slices.Reverse at []int, over an array: Go's loop from the two ends inward is walked; it makes 'Sort.reverseLoop 0 (len - 1)', which is 'Array.reverse' (Derived/Lib/SlicesMore.lean). (LAID: no walk: one application.) -/
theorem Tryz.slices_Reverse_int_arr (blk off cap : Nat) (d : Array Int) (w : World) (hH : Holds encI w blk off d) (hsz : d.size ≤ 9223372036854775807) :
    Calls Tryz.prog 85 #[.slice (some ⟨blk, off, none⟩) d.size cap] w fun e w' => e = .returned (.tuple #[]) ∧ ∃ n, w' = putRow encI (Sort.ahead w n) blk off d.reverse := Any.slices_Reverse_int_arr Tryz.lays112 blk off cap d w hH hsz
open Go.RowKit Go.Lib Go.Sort in
/-- slices.Reverse at []int: "Reverse reverses the elements of the slice in place.": THE SLICE's CELLS HOLD 'zs.reverse' BEHIND THE CALL; all else is as it was, but for the count of draws (the exchange 's[i], s[j] = s[j], s[i]' draws its order, once a round). IN THE WORDS OF slices.Sort's CONTRACT: 'Holds': the cells hold zs and none is frozen; 'putRow': the world with those cells holding another array. A slice of length 0 that is not nil is among them ('zs = []'); nil: '.._nil'. (LAID: no walk: one application.) -/
theorem Tryz.slices_Reverse_int (blk off cap : Nat) (zs : List Int) (w : World) (hH : Holds (Value.int .i64) w blk off zs.toArray) (hsz : zs.length ≤ 9223372036854775807) :
    Calls Tryz.prog 85 #[.slice (some ⟨blk, off, none⟩) zs.length cap] w fun e w' => e = .returned (.tuple #[]) ∧ ∃ n, w' = putRow (Value.int .i64) (Sort.ahead w n) blk off zs.reverse.toArray := Any.slices_Reverse_int Tryz.lays112 blk off cap zs w hH hsz
open Go.RowKit Go.Lib Go.Sort in
/-- The same at a slice of length 0, a nil one too: nothing is read, nothing written, nothing drawn. (LAID: no walk: one application.) -/
theorem Tryz.slices_Reverse_int_empty (a : Option Addr) (cap : Nat) (w : World) :
    Calls Tryz.prog 85 #[.slice a 0 cap] w fun e w' => e = .returned (.tuple #[]) ∧ w' = w := Any.slices_Reverse_int_empty Tryz.lays112 a cap w
def Tryz.laysSlF06_f147_ren : Go.Shelf.Ren := ⟨fun | 6 => 147 | 15 => 156 | 14 => 155 | 28 => 170 | 29 => 171 | 20 => 162 | 21 => 163 | 22 => 164 | 23 => 165 | 24 => 166 | 25 => 167 | 26 => 168 | 27 => 169 | 46 => 181 | 47 => 182 | 48 => 183 | 49 => 184 | 50 => 185 | 57 => 189 | n => n, fun | 22 => 23 | 24 => 123 | 25 => 179 | 3 => 3 | 39 => 185 | 0 => 0 | 53 => 199 | 55 => 201 | 4 => 4 | 46 => 192 | 45 => 191 | 50 => 196 | 5 => 5 | 9 => 9 | 66 => 208 | 70 => 212 | 76 => 216 | 77 => 217 | n => n, fun | n => n⟩
theorem Tryz.laysSlF06_f147 : Go.Proofs.SlLaysF0.n6 Tryz.prog Tryz.laysSlF06_f147_ren := {
  mixed := by kernel_rfl
  f6 := ⟨Tryz.f147.name, by decide, Tryz.func147.trans (congrArg some (by kernel_rfl))⟩
  f14 := ⟨Tryz.f155.name, by decide, Tryz.func155.trans (congrArg some (by kernel_rfl))⟩
  f15 := Tryz.func156.trans (congrArg some (by kernel_rfl))
  f20 := ⟨Tryz.f162.name, by decide, Tryz.func162.trans (congrArg some (by kernel_rfl))⟩
  f21 := ⟨Tryz.f163.name, by decide, Tryz.func163.trans (congrArg some (by kernel_rfl))⟩
  f22 := ⟨Tryz.f164.name, by decide, Tryz.func164.trans (congrArg some (by kernel_rfl))⟩
  f23 := ⟨Tryz.f165.name, by decide, Tryz.func165.trans (congrArg some (by kernel_rfl))⟩
  f24 := ⟨Tryz.f166.name, by decide, Tryz.func166.trans (congrArg some (by kernel_rfl))⟩
  f25 := ⟨Tryz.f167.name, by decide, Tryz.func167.trans (congrArg some (by kernel_rfl))⟩
  f26 := ⟨Tryz.f168.name, by decide, Tryz.func168.trans (congrArg some (by kernel_rfl))⟩
  f27 := ⟨Tryz.f169.name, by decide, Tryz.func169.trans (congrArg some (by kernel_rfl))⟩
  f28 := Tryz.func170.trans (congrArg some (by kernel_rfl))
  f29 := Tryz.func171.trans (congrArg some (by kernel_rfl))
  f46 := ⟨Tryz.f181.name, by decide, Tryz.func181.trans (congrArg some (by kernel_rfl))⟩
  f47 := Tryz.func182.trans (congrArg some (by kernel_rfl))
  f48 := Tryz.func183.trans (congrArg some (by kernel_rfl))
  f49 := ⟨Tryz.f184.name, by decide, Tryz.func184.trans (congrArg some (by kernel_rfl))⟩
  f50 := ⟨Tryz.f185.name, by decide, Tryz.func185.trans (congrArg some (by kernel_rfl))⟩
  f57 := ⟨Tryz.f189.name, by decide, Tryz.func189.trans (congrArg some (by kernel_rfl))⟩
  t0 := Tryz.underlying0
  a0 := Tryz.isAgg0
  z0 := Tryz.sizeOf0
  v0 := Tryz.zeroValue0
  t3 := Tryz.underlying3
  a3 := Tryz.isAgg3
  z3 := Tryz.sizeOf3
  v3 := Tryz.zeroValue3
  t4 := Tryz.underlying4
  a4 := Tryz.isAgg4
  z4 := Tryz.sizeOf4
  v4 := Tryz.zeroValue4
  t5 := Tryz.underlying5
  a5 := Tryz.isAgg5
  z5 := Tryz.sizeOf5
  v5 := Tryz.zeroValue5
  t9 := Tryz.underlying9
  a9 := Tryz.isAgg9
  z9 := Tryz.sizeOf9
  v9 := Tryz.zeroValue9
  t22 := Tryz.underlying23
  a22 := Tryz.isAgg23
  z22 := Tryz.sizeOf23
  v22 := Tryz.zeroValue23
  t25 := Tryz.underlying179
  a25 := Tryz.isAgg179
  z25 := Tryz.sizeOf179
  v25 := Tryz.zeroValue179
  t39 := Tryz.underlying185
  a39 := Tryz.isAgg185
  z39 := Tryz.sizeOf185
  v39 := Tryz.zeroValue185
  t45 := Tryz.underlying191
  a45 := Tryz.isAgg191
  z45 := Tryz.sizeOf191
  v45 := Tryz.zeroValue191
  t46 := Tryz.underlying192
  a46 := Tryz.isAgg192
  z46 := Tryz.sizeOf192
  v46 := Tryz.zeroValue192
  t50 := Tryz.underlying196
  a50 := Tryz.isAgg196
  z50 := Tryz.sizeOf196
  v50 := Tryz.zeroValue196
  t53 := Tryz.underlying199
  a53 := Tryz.isAgg199
  z53 := Tryz.sizeOf199
  v53 := Tryz.zeroValue199
  t55 := Tryz.underlying201
  a55 := Tryz.isAgg201
  z55 := Tryz.sizeOf201
  v55 := Tryz.zeroValue201
  t66 := Tryz.underlying208
  a66 := Tryz.isAgg208
  z66 := Tryz.sizeOf208
  v66 := Tryz.zeroValue208
  t70 := Tryz.underlying212
  a70 := Tryz.isAgg212
  z70 := Tryz.sizeOf212
  v70 := Tryz.zeroValue212
  t76 := Tryz.underlying216
  a76 := Tryz.isAgg216
  z76 := Tryz.sizeOf216
  v76 := Tryz.zeroValue216
  t77 := Tryz.underlying217
  a77 := Tryz.isAgg217
  z77 := Tryz.sizeOf217
  v77 := Tryz.zeroValue217 }
open Go.RowKit Go.Lib Go.Sort in
/-- **slices.SortFunc, IN THE DOCUMENTATION's OWN TERMS: A PERMUTATION OF WHAT THE ROW HELD, SORTED BY 'cmp(a, b) < 0'.** Which of two equals comes first is left open ("The sort is not guaranteed to be stable"). (LAID AT THE INSTANCE 'slices.SortFunc[[][2]int,[2]int]': no walk: one application.) -/
theorem Tryz.slices_SortFunc {α : Type} [Inhabited α] (k : Nat) (aE : ∀ w, (isAgg 123).run Tryz.prog w = .ok true w) (zE : ∀ w, (Go.sizeOf 123).run Tryz.prog w = .ok k w) (enc : α → List Value) (hk : ∀ x, (enc x).length = k) (h1 : ∀ x, ∀ v ∈ enc x, v.oneCell' = true) (cf : α → α → Int) (hO : SWO (ltOf cf)) (g : Nat) (cb : Array Value) (blk off cap : Nat) (d : Array α) (w : World) (eg : ∀ args w, (callFunc g args).run Tryz.prog w = .ok (.enter g args) w) (hcmp : CmpLays Tryz.prog g cb enc k cf blk off d.size w) (hH : HoldsK enc k w blk off d) (hblk : blk < w.heap.size) (hsz : d.size < 4611686018427387904) :
    Calls Tryz.prog 147 #[.slice (some ⟨blk, off, none⟩) d.size cap, .func (.func g) #[] cb] w fun e w' =>
      e = .returned (.tuple #[]) ∧ ∃ d' n os, PermIn 0 d.size d d' ∧ SortedIn (ltOf cf) 0 d.size d' ∧ w' = sortWorldK enc k w blk off n d' os := AnyQ.slices_SortFunc Tryz.laysSlF06_f147 k aE zE enc hk h1 cf hO g cb blk off cap d w eg hcmp hH hblk hsz
end Go.Proofs

/- Walks: spans sorted by their first numbers. -/
namespace Go.Proofs.YtahpdkkpnkhnhaaGreatDoor
open Go Go.Proofs Go.RowKit Go.Shelf

instance : Inhabited Ar := ⟨⟨0, 0⟩⟩
/-- cmp.Compare. -/
def cmpI (a b : Int) : Int := if a < b then -1 else if b < a then 1 else 0
set_option maxRecDepth 100000 in
set_option maxHeartbeats 1000000 in
theorem nan157 (a : Int) (w : World) : Calls Tryz.prog 157 #[.int .i64 a] w fun e w' => e = .returned (.bool false) ∧ w = w' := by
  have h : (a != a) = false := by simp
  go_enter Tryz.func157, Tryz.ntmps157
  go_wp2_with fail
  go_ret
  exact ⟨rfl, rfl⟩
set_option maxRecDepth 100000 in
set_option maxHeartbeats 1000000 in
theorem compare149 (a b : Int) (w : World) : Calls Tryz.prog 149 #[.int .i64 a, .int .i64 b] w fun e w' => e = .returned (.int .i64 (cmpI a b)) ∧ w = w' := by
  obtain ⟨R, hR⟩ : ∃ R, cmpI a b = R := ⟨_, rfl⟩
  rw [hR]
  unfold cmpI at hR
  have HR := Lib.hid hR
  clear hR
  go_enter Tryz.func149, Tryz.ntmps149
  by_cases h1 : a < b
  · have k1 : decide (a < b) = true := decide_eq_true h1
    rw [if_pos h1] at HR
    clear h1
    go_wp2_with (go_at_call 157; refine (nan157 _ _).mono ?_; rintro e w' ⟨rfl, rfl⟩)
    go_ret
    exact ⟨by rw [← HR.out]; rfl, rfl⟩
  · have k1 : decide (a < b) = false := decide_eq_false h1
    rw [if_neg h1] at HR
    clear h1
    by_cases h2 : b < a
    · have k2 : decide (b < a) = true := decide_eq_true h2
      rw [if_pos h2] at HR
      clear h2
      go_wp2_with (go_at_call 157; refine (nan157 _ _).mono ?_; rintro e w' ⟨rfl, rfl⟩)
      go_ret
      exact ⟨by rw [← HR.out]; rfl, rfl⟩
    · have k2 : decide (b < a) = false := decide_eq_false h2
      rw [if_neg h2] at HR
      clear h2
      go_wp2_with (go_at_call 157; refine (nan157 _ _).mono ?_; rintro e w' ⟨rfl, rfl⟩)
      go_ret
      exact ⟨by rw [← HR.out]; rfl, rfl⟩
def cmpAr (x y : Ar) : Int := cmpI x.fr y.fr
theorem ltAr (x y : Ar) : ltOf cmpAr x y = decide (x.fr < y.fr) := by
  unfold ltOf cmpAr cmpI
  by_cases h1 : x.fr < y.fr
  · simp [h1]
  · by_cases h2 : y.fr < x.fr <;> simp [h1, h2]
theorem swoAr : Sort.SWO (ltOf cmpAr) where
  irrefl x := by rw [ltAr]; simp
  trans x y z h1 h2 := by rw [ltAr] at *; simp at *; omega
  ntrans x y z h1 h2 := by rw [ltAr] at *; simp at *; omega
set_option maxRecDepth 100000 in
set_option maxHeartbeats 1000000 in
theorem closure148 (x y : Ar) (W : World) : Calls Tryz.prog 148 #[.agg #[.int .i64 x.fr, .int .i64 x.to], .agg #[.int .i64 y.fr, .int .i64 y.to]] W fun e w' => e = .returned (.int .i64 (cmpAr x y)) ∧ ∃ q os', w' = Sort.grow (W.drewN q) os' := by
  obtain ⟨xf, xt⟩ := x
  obtain ⟨yf, yt⟩ := y
  unfold cmpAr
  dsimp only
  have hcon := fun W' => compare149 xf yf W'
  generalize cmpI xf yf = r at hcon ⊢
  go_enter Tryz.func148, Tryz.ntmps148
  go_wp2_with (go_at_call 149; refine (hcon _).mono ?_; rintro e w' ⟨rfl, rfl⟩)
  go_ret
  exact ⟨rfl, 0, _, by rw [Sort.alloc_eq_grow, Sort.alloc_eq_grow, Sort.grow_grow]; rfl⟩

theorem cmpLays148 (blk off size : Nat) (w : World) : CmpLays Tryz.prog 148 #[] Ar.enc 2 cmpAr blk off size w :=
  fun _ _ _ _ x y => closure148 x y _
/-- The row that a slice owns, as the sort sees it. -/
theorem holdsK_own {w : World} {base g n cap : Nat} {L : List Ar} (h : Own Ar.enc 2 123 w base (.slice (some ⟨g, 0, none⟩) n cap) L) (hn : L.length = n) : Sort.HoldsK Ar.enc 2 w g 0 L.toArray := by
  intro j hj
  have hj' : j < L.length * 2 := by simpa using hj
  have hd : j / 2 < L.length := by omega
  refine ⟨?_, h.frozenN hn _⟩
  have h1 := h.atN hn Ar.enc_len (j / 2) hd (j % 2) (L[j / 2].enc[j % 2]'(by rw [Ar.enc_len]; omega)) (by rw [List.getElem?_eq_getElem])
  rw [show j / 2 * 2 + j % 2 = j by omega] at h1
  rw [Nat.zero_add, h1]
  congr 1
  rw [Sort.get_flatK _ _ _ _ (by simpa using hj')]
  have h6 : j % 2 < (Ar.enc L[j / 2]).length := by rw [Ar.enc_len]; omega
  simp [hd, h6]

theorem heap_sortedG {β : Type} [Inhabited β] (enc : β → Value) {w : World} {g n : Nat} {os : Array Obj} {cur : Array Value} {e : TypeId} {fr : Nat × Nat} (d : Array β) (hb : w.heap[g]? = some (.cells cur e fr)) :
    (Sort.grow (Sort.putRow enc (Sort.ahead w n) g 0 d) os).heap[g]? = some (.cells (Sort.putCells enc 0 d cur) e fr) := by
  have hg : g < w.heap.size := (Array.getElem?_eq_some_iff.1 hb).1
  rw [Sort.heap_grow_old _ _ (by simpa using hg)]
  simp [Sort.putRow, Sort.mapBlock, Sort.ahead, Array.getElem?_modify, hb, Sort.onCells]
theorem grownBy_sortedG {β : Type} [Inhabited β] (enc : β → Value) {w : World} {g n : Nat} {os : Array Obj} (d : Array β) : w.grownBy (Sort.grow (Sort.putRow enc (Sort.ahead w n) g 0 d) os) (some g) := by
  refine ⟨rfl, rfl, rfl, by simp, fun k hk hne => ?_⟩
  rw [Sort.heap_grow_old _ _ (by simpa using hk)]
  have : g ≠ k := fun e => hne (by rw [e])
  simp [Sort.putRow, Sort.mapBlock, Sort.ahead, Array.getElem?_modify, this]
theorem own_sorted {w : World} {base g n cap m : Nat} {L T : List Ar} {os : Array Obj} (h : Own Ar.enc 2 123 w base (.slice (some ⟨g, 0, none⟩) n cap) L) (hn : L.length = n) (hT : T.length = n) :
    Own Ar.enc 2 123 (sortWorldK Ar.enc 2 w g 0 m T.toArray os) base (.slice (some ⟨g, 0, none⟩) n cap) T := by
  obtain ⟨h0, h1⟩ := h
  rcases h1 with ⟨h2, _⟩ | ⟨g', cap', cur, e, hb, hh, hc1, hc2, hc3, hc4⟩
  · cases h2
  · simp only [Value.slice.injEq, Option.some.injEq, Addr.mk.injEq, and_true, true_and] at e
    obtain ⟨rfl, _, rfl⟩ := e
    refine ⟨flat_length Ar.enc 2 Ar.enc_len T, .inr ⟨g, cap, _, by rw [hT], hb, heap_sortedG id (Sort.flatK Ar.enc 2 T.toArray) hh, by omega, hc2, by simp [Sort.putCells, hc3], ?_⟩⟩
    apply List.ext_getElem?
    intro j
    by_cases hj : j < T.length * 2
    · have hd : j / 2 < T.length := by omega
      have h5 := flat_get Ar.enc 2 Ar.enc_len T (j / 2) hd (j % 2) (by omega)
      rw [show j / 2 * 2 + j % 2 = j by omega] at h5
      rw [h5, List.getElem?_take_of_lt hj, Array.getElem?_toList]
      have hjc : j < cur.size := by rw [hc3]; omega
      have hg := Sort.get_flatK Ar.enc 2 T.toArray j (by simpa using hj)
      have h6 : j % 2 < (Ar.enc T[j / 2]).length := by rw [Ar.enc_len]; omega
      simp only [Sort.putCells, Array.getElem?_mapIdx, Array.getElem?_eq_getElem hjc, Option.map_some, Nat.zero_le, Nat.zero_add, Nat.sub_zero, true_and, id_eq]
      rw [if_pos (by simpa using hj), hg, List.getElem?_eq_getElem h6]
      simp [hd, h6]
    · rw [List.getElem?_take_eq_none (by omega), List.getElem?_eq_none (by rw [flat_length Ar.enc 2 Ar.enc_len]; omega)]

/-- Ascending by the first numbers. -/
def SortedF (L : List Ar) : Prop := L.Pairwise fun x y => x.fr ≤ y.fr
def SortPost (w : World) (base : Nat) (v : Value) (L : List Ar) (e : Ending) (w' : World) : Prop :=
  e = .returned (.tuple #[]) ∧ ∃ T, T.Perm L ∧ SortedF T ∧ Own Ar.enc 2 123 w' base v T ∧ w.grownBy w' v.ownBlock
set_option maxRecDepth 100000 in
set_option maxHeartbeats 1000000 in
theorem sort147 (w : World) (base : Nat) (v : Value) (L : List Ar) (h : Own Ar.enc 2 123 w base v L) (hlen : L.length ≤ 1000000) : Calls Tryz.prog 147 #[v, .func (.func 148) #[] #[]] w (SortPost w base v L) := by
  by_cases h0 : L.length = 0
  · obtain ⟨a, cap, rfl⟩ := h.shape
    have hL : L = [] := List.length_eq_zero_iff.1 h0
    subst hL
    exact (AnyF.slices_SortFunc_none Tryz.laysSlF06_f147 a cap (.func (.func 148) #[] #[]) w).mono fun e w' ⟨he, hw⟩ => by
      subst hw
      exact ⟨he, [], List.Perm.refl _, List.Pairwise.nil, h, ⟨rfl, rfl, rfl, Nat.le_refl _, fun _ _ _ => rfl⟩⟩
  · obtain ⟨g, cap, rfl, hg1, hg2⟩ := h.form (by omega)
    have eg : ∀ args w, (callFunc 148 args).run Tryz.prog w = .ok (.enter 148 args) w := enters_of Tryz.func148 (by kernel_rfl) rfl
    have hH := holdsK_own h rfl
    have hcon := AnyQ.slices_SortFunc Tryz.laysSlF06_f147 2 Tryz.isAgg123 Tryz.sizeOf123 Ar.enc (fun _ => rfl) Ar.enc_one cmpAr swoAr 148 #[] g 0 cap L.toArray w eg (cmpLays148 g 0 _ w) hH hg2 (by simp; omega)
    rw [show L.toArray.size = L.length from by simp] at hcon
    refine hcon.mono fun e w' ⟨he, d', n, os, hp, hs, hw⟩ => ?_
    subst hw
    obtain ⟨hp1, _, hp2⟩ := hp
    have hd : d' = d'.toList.toArray := by simp
    have hperm : d'.toList.Perm L := by
      have e1 : d'.extract 0 L.length = d' := by rw [← show d'.size = L.length by simpa using hp1]; simp
      have e2 : L.toArray.extract 0 L.length = L.toArray := by simp
      rw [e1, e2] at hp2
      exact hp2
    refine ⟨he, d'.toList, hperm, ?_, ?_, ?_⟩
    · unfold SortedF
      rw [List.pairwise_iff_getElem]
      intro i j hi hj hij
      have h1 := hs i j (Nat.zero_le _) hij (by rw [← hperm.length_eq]; exact hj)
      rw [ltAr] at h1
      have hi' : i < d'.size := by simpa using hi
      have hj' : j < d'.size := by simpa using hj
      rw [getElem!_pos d' i hi', getElem!_pos d' j hj'] at h1
      have := of_decide_eq_false h1
      simp only [Array.getElem_toList]
      omega
    · have := own_sorted (m := n) (os := os) h rfl hperm.length_eq
      rwa [← hd] at this
    · exact grownBy_sortedG id _
end Go.Proofs.YtahpdkkpnkhnhaaGreatDoor
