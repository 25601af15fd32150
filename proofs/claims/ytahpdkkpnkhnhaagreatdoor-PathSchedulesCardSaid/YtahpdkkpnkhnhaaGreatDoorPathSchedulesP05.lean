/- Lemmas on the way to the law PathSchedules (part 5): Sh Si -/
import Derived.Test.YtahpdkkpnkhnhaaGreatDoorPathSchedulesP04
set_option linter.unusedVariables false
set_option linter.unusedSimpArgs false

/- Walks: the length of a schedule. -/
namespace Go.Proofs.YtahpdkkpnkhnhaaGreatDoor
open Go Go.Proofs Go.RowKit Go.Shelf
theorem lenT_bd {p : Pl} (hp : OkP p) {ts : List Tk} {st : List Int} (ht : ∀ k, k < ts.length → OkT p (ts.getD k tk0)) (hs : ∀ k, k < ts.length → 0 ≤ st.getD k 0 ∧ st.getD k 0 ≤ 1000000000) : ∀ k, k ≤ ts.length → 0 ≤ lenT p ts st k ∧ lenT p ts st k ≤ 1010000000
  | 0, _ => by simp [lenT]
  | k + 1, hk => by
    obtain ⟨h1, h2⟩ := lenT_bd hp ht hs k (by omega)
    obtain ⟨h3, h4⟩ := hs k (by omega)
    have h5 := ht k (by omega)
    obtain ⟨h6, h7⟩ := h5.run
    have h8 := tSum_bd hp h5.ins
    have h9 := Nat.le_trans h5.len hp.le
    unfold lenT
    omega
set_option maxRecDepth 100000 in
set_option maxHeartbeats 1000000 in
theorem length115 (w : World) (v1 v2 u x : Value) (p : Pl) (ts : List Tk) (st : List Int) (hv : PlR w w.heap.size v1 v2 p) (hu : TasksR w w.heap.size u ts) (hx : Sl encI 1 w w.heap.size x st) (hp : OkP p) (ht : ∀ t ∈ ts, OkT p t) (hl : st.length = ts.length) (hs : ∀ k, k < ts.length → 0 ≤ st.getD k 0 ∧ st.getD k 0 ≤ 1000000000) :
    Calls Tryz.prog 115 #[.agg #[v1, v2], u, x] w (Ret (.int .i64 (lenT p ts st ts.length)) w) := by
  have HSEC := Lib.hid (fun (w1 : World) (hb : Below w.heap.size w w1) (v : Value) (l : List Int) (hl : Sl encI 1 w w.heap.size v l) (hin : ∀ x ∈ l, inN p.ms.length x = true) => seconds105 w1 _ _ v p l (hv.later hb) (hl.later hb) hin hp.times)
  have htk : ∀ k, k < ts.length → OkT p (ts.getD k tk0) := fun k hk => by rw [tkGet hk]; exact ht _ (List.getElem_mem hk)
  have HLB := Lib.hid (fun k (hk : k ≤ ts.length) => lenT_bd hp htk hs k hk)
  have HTK := Lib.hid htk
  have HSS := Lib.hid hs
  have HSB := Lib.hid (fun (l : List Int) (h : ∀ x ∈ l, inN p.ms.length x = true) => tSum_bd hp h)
  have HLE := Lib.hid (fun k (hk : k < ts.length) => Nat.le_trans (htk k hk).len hp.le)
  have HLS := Lib.hid (fun k => show lenT p ts st (k + 1) = max (lenT p ts st k) (st.getD k 0 + (ts.getD k tk0).run + tSum p (ts.getD k tk0).path) from rfl)
  obtain ⟨uu, cu, rfl, hlu, hlc, hU⟩ := hu.open_
  have HU := Lib.hid hU
  obtain ⟨xx, cx, rfl, hlx, hXX⟩ := hx
  have HXX := Lib.hid (show 0 < st.length → ∃ b off, xx = some ⟨b, off, none⟩ ∧ b < w.heap.size ∧ ∀ i, i < st.length → w.cell? ⟨b, off + i, none⟩ = some (.int .i64 (st.getD i 0)) from fun h0 => by
    obtain ⟨b, off, e, hb, hc⟩ := hXX h0
    refine ⟨b, off, e, hb, fun i hi => ?_⟩
    have := (hc i hi).c1
    rw [Nat.mul_one] at this
    rw [getD_geI hi]; exact this)
  obtain ⟨a1, n1, a2, n2, rfl, rfl⟩ := hv.agg
  clear hv hu hU hXX ht htk hs
  have HB := Lib.hid ((Below.refl w.heap.size w).alloc (Nat.le_refl _) (.cells #[.slice a1 p.ms.length n1, .slice a2 p.arcs.length n2] 25))
  have HX := Lib.hid (Box.new w #[.slice a1 p.ms.length n1, .slice a2 p.arcs.length n2] 25)
  obtain ⟨n, hn⟩ : ∃ n, p.ms.length = n := ⟨_, rfl⟩
  obtain ⟨m, hm⟩ : ∃ n, p.arcs.length = n := ⟨_, rfl⟩
  obtain ⟨nt, hnt⟩ : ∃ n, ts.length = n := ⟨_, rfl⟩
  rw [hn] at HB HX HSEC ⊢
  rw [hm] at HB HX HSEC ⊢
  rw [hnt] at HU HLB HTK HSS HLE hlu hlc hl ⊢
  rw [hl] at HXX hlx ⊢
  have HNN := Lib.hid hn
  clear hnt hl hm hn
  go_enter Tryz.func115, Tryz.ntmps115
  go_wp2_with fail
  obtain ⟨W1, hW1⟩ : ∃ W, w.alloc (.cells #[.slice a1 n n1, .slice a2 m n2] 25) = W := ⟨_, rfl⟩
  rw [hW1] at HB HX ⊢
  clear hW1
  go_loopw [7, 12] (fun o i wr => ∃ k : Nat, k ≤ nt ∧ i = .int .i64 k ∧ o = .int .i64 (lenT p ts st k) ∧ Below W1.heap.size W1 wr) (fun _ i _ => nt - (intOf i).toNat)
  case atStart => exact ⟨0, by omega, rfl, rfl, Below.refl _ _⟩
  case round =>
    obtain ⟨k, hk, rfl, rfl, hbe⟩ := hrel
    have HB1 := Lib.hid hbe
    have HBW := Lib.hid (HB.out.trans (hbe.mono HB.out.size))
    have HX1 := Lib.hid (HX.out.later hbe)
    clear hbe
    by_cases hlt : k < nt
    rotate_left
    · obtain rfl : nt = k := by omega
      generalize lenT p ts st nt = LL at *
      go_wp2_with fail
      go_ret
      exact ⟨rfl, HBW.out⟩
    obtain ⟨bX, oX, eX, hbX, hcX⟩ := HXX.out (by omega)
    subst eX
    obtain ⟨bT, oT, eT, hbT, hcT⟩ := HU.out (by omega)
    subst eT
    obtain ⟨au, cu1, HT, HSl⟩ := hcT k hlt
    have HOK := HTK.out k hlt
    obtain ⟨hs0, hs1⟩ := HSS.out k hlt
    obtain ⟨hl0, hl1⟩ := HLB.out k hk
    have HLK := Lib.hid (HLS.out k)
    have hle := HLE.out k hlt
    have o0 := hcX k hlt
    obtain ⟨tk, htk⟩ : ∃ t, ts.getD k tk0 = t := ⟨_, rfl⟩
    obtain ⟨sk, hsk⟩ : ∃ t, st.getD k 0 = t := ⟨_, rfl⟩
    obtain ⟨lk, hlk⟩ : ∃ t, lenT p ts st k = t := ⟨_, rfl⟩
    rw [htk] at HT HSl HOK HLK hle
    rw [hsk] at o0 hs0 hs1 HLK
    rw [hlk] at hl0 hl1 HLK ⊢
    clear htk hsk hlk hcT
    obtain ⟨hr0, hr1⟩ := HOK.run
    have hsb := HSB.out tk.path HOK.ins
    obtain ⟨pl, hpl⟩ : ∃ n, tk.path.length = n := ⟨_, rfl⟩
    have HSA := fun w1 hb => HSEC.out w1 hb _ _ HSl (by rw [← HNN.out]; exact HOK.ins)
    rw [hpl] at HT HSA hle hsb
    clear hpl HSl HOK hcX
    generalize tSum p tk.path = sm at *
    have HW2 := Lib.hid HT
    obtain ⟨t0, t1, t2⟩ := (HT.below HBW.out hbT).c3
    have hbTz : bT < wr.heap.size := Nat.lt_of_lt_of_le hbT HBW.out.size
    have hkn : (k : Int) < (nt : Int) := by omega
    obtain ⟨gk, hgk⟩ : ∃ g, tk.grain = g := ⟨_, rfl⟩
    obtain ⟨rk, hrk⟩ : ∃ g, tk.run = g := ⟨_, rfl⟩
    rw [hgk] at t1
    rw [hrk] at t2 hr0 hr1 HLK
    have hb2 : Below wr.heap.size wr (wr.alloc (.cells #[.slice au pl cu1, .string gk, .int .i64 rk] 114)) := (Below.refl _ _).alloc (Nat.le_refl _) _
    have HB2 := Lib.hid (HB1.out.trans (hb2.mono HB1.out.size))
    have HBW2 := Lib.hid (HBW.out.trans (hb2.mono HBW.out.size))
    have HX2 := Lib.hid (HX1.out.later hb2)
    have HT2 := Lib.hid (Box.new wr #[.slice au pl cu1, .string gk, .int .i64 rk] 114)
    have o1 := (HBW2.out.cell (p := ⟨bX, oX + k, none⟩) hbX).trans o0
    have hbXz : bX < (wr.alloc (.cells #[.slice au pl cu1, .string gk, .int .i64 rk] 114)).heap.size := Nat.lt_of_lt_of_le hbX HBW2.out.size
    clear hb2 hgk hrk o0 HT
    go_wp2_with fail
    obtain ⟨W3, hW3⟩ : ∃ W, wr.alloc (.cells #[.slice au pl cu1, .string gk, .int .i64 rk] 114) = W := ⟨_, rfl⟩
    obtain ⟨g3, hg3⟩ : ∃ W, wr.heap.size = W := ⟨_, rfl⟩
    rw [hW3] at HB2 HBW2 HX2 HT2 o1 hbXz ⊢
    rw [hg3] at HT2 ⊢
    clear hW3 hg3 t0 t1 t2 hbTz
    obtain ⟨x0, x1, xf, xz⟩ := HX2.out.v2
    obtain ⟨z0, z1, z2, zf, zz⟩ := HT2.out.t3
    have HK := Lib.hid (fun (X : Later W3) => HSA X.w (HBW2.out.trans (X.h.mono HBW2.out.size)))
    have e1 : IntKind.i64.wrap (sk + rk) = sk + rk := IntWalk.i64_in _ (by omega)
    have e2 : IntKind.i64.wrap (sk + rk + sm) = sk + rk + sm := IntWalk.i64_in _ (by omega)
    clear HSA
    refine wp_region_later (by kernel_rfl) (by kernel_rfl) ?_
    repeat go_big_quiet_step ((go_at_call 105; exact Calls.later (HK.out _)))
    refine wpQuiet_nil ?_
    rintro w4 ⟨⟨_, hb4⟩, rfl⟩
    have HB4 := Lib.hid (HB2.out.trans (hb4.mono HB2.out.size))
    clear hb4
    go_wp2_with fail
    go_roundw
    case rel => exact ⟨k + 1, by omega, by go_num, by rw [HLK.out], HB4.out⟩
    case measure => simp [intOf]; omega
set_option maxRecDepth 100000 in
set_option maxHeartbeats 1000000 in
theorem length59 (w : World) (v1 v2 u x : Value) (p : Pl) (ts : List Tk) (st : List Int) (hv : PlR w w.heap.size v1 v2 p) (hu : TasksR w w.heap.size u ts) (hx : Sl encI 1 w w.heap.size x st) (hp : OkP p) (ht : ∀ t ∈ ts, OkT p t) (hl : st.length = ts.length) (hs : ∀ k, k < ts.length → 0 ≤ st.getD k 0 ∧ st.getD k 0 ≤ 1000000000) :
    Calls Tryz.prog 59 #[.agg #[v1, v2], u, x] w (Ret (.int .i64 (lenT p ts st ts.length)) w) := by
  have HSEC := Lib.hid (fun (w1 : World) (hb : Below w.heap.size w w1) (v : Value) (l : List Int) (hl : Sl encI 1 w w.heap.size v l) (hin : ∀ x ∈ l, inN p.ms.length x = true) => time23 w1 _ _ v p l (hv.later hb) (hl.later hb) hin hp.times)
  have htk : ∀ k, k < ts.length → OkT p (ts.getD k tk0) := fun k hk => by rw [tkGet hk]; exact ht _ (List.getElem_mem hk)
  have HLB := Lib.hid (fun k (hk : k ≤ ts.length) => lenT_bd hp htk hs k hk)
  have HTK := Lib.hid htk
  have HSS := Lib.hid hs
  have HSB := Lib.hid (fun (l : List Int) (h : ∀ x ∈ l, inN p.ms.length x = true) => tSum_bd hp h)
  have HLE := Lib.hid (fun k (hk : k < ts.length) => Nat.le_trans (htk k hk).len hp.le)
  have HLS := Lib.hid (fun k => show lenT p ts st (k + 1) = max (lenT p ts st k) (st.getD k 0 + (ts.getD k tk0).run + tSum p (ts.getD k tk0).path) from rfl)
  obtain ⟨uu, cu, rfl, hlu, hlc, hU⟩ := hu.open_
  have HU := Lib.hid hU
  obtain ⟨xx, cx, rfl, hlx, hXX⟩ := hx
  have HXX := Lib.hid (show 0 < st.length → ∃ b off, xx = some ⟨b, off, none⟩ ∧ b < w.heap.size ∧ ∀ i, i < st.length → w.cell? ⟨b, off + i, none⟩ = some (.int .i64 (st.getD i 0)) from fun h0 => by
    obtain ⟨b, off, e, hb, hc⟩ := hXX h0
    refine ⟨b, off, e, hb, fun i hi => ?_⟩
    have := (hc i hi).c1
    rw [Nat.mul_one] at this
    rw [getD_geI hi]; exact this)
  obtain ⟨a1, n1, a2, n2, rfl, rfl⟩ := hv.agg
  clear hv hu hU hXX ht htk hs
  have HB := Lib.hid ((Below.refl w.heap.size w).alloc (Nat.le_refl _) (.cells #[.slice a1 p.ms.length n1, .slice a2 p.arcs.length n2] 25))
  have HX := Lib.hid (Box.new w #[.slice a1 p.ms.length n1, .slice a2 p.arcs.length n2] 25)
  obtain ⟨n, hn⟩ : ∃ n, p.ms.length = n := ⟨_, rfl⟩
  obtain ⟨m, hm⟩ : ∃ n, p.arcs.length = n := ⟨_, rfl⟩
  obtain ⟨nt, hnt⟩ : ∃ n, ts.length = n := ⟨_, rfl⟩
  rw [hn] at HB HX HSEC ⊢
  rw [hm] at HB HX HSEC ⊢
  rw [hnt] at HU HLB HTK HSS HLE hlu hlc hl ⊢
  rw [hl] at HXX hlx ⊢
  have HNN := Lib.hid hn
  clear hnt hl hm hn
  go_enter Tryz.func59, Tryz.ntmps59
  go_wp2_with fail
  obtain ⟨W1, hW1⟩ : ∃ W, w.alloc (.cells #[.slice a1 n n1, .slice a2 m n2] 25) = W := ⟨_, rfl⟩
  rw [hW1] at HB HX ⊢
  clear hW1
  go_loopw [7, 8] (fun o i wr => ∃ k : Nat, k ≤ nt ∧ i = .int .i64 k ∧ o = .int .i64 (lenT p ts st k) ∧ Below W1.heap.size W1 wr) (fun _ i _ => nt - (intOf i).toNat)
  case atStart => exact ⟨0, by omega, rfl, rfl, Below.refl _ _⟩
  case round =>
    obtain ⟨k, hk, rfl, rfl, hbe⟩ := hrel
    have HB1 := Lib.hid hbe
    have HBW := Lib.hid (HB.out.trans (hbe.mono HB.out.size))
    have HX1 := Lib.hid (HX.out.later hbe)
    clear hbe
    by_cases hlt : k < nt
    rotate_left
    · obtain rfl : nt = k := by omega
      generalize lenT p ts st nt = LL at *
      go_wp2_with fail
      go_ret
      exact ⟨rfl, HBW.out⟩
    obtain ⟨bX, oX, eX, hbX, hcX⟩ := HXX.out (by omega)
    subst eX
    obtain ⟨bT, oT, eT, hbT, hcT⟩ := HU.out (by omega)
    subst eT
    obtain ⟨au, cu1, HT, HSl⟩ := hcT k hlt
    have HOK := HTK.out k hlt
    obtain ⟨hs0, hs1⟩ := HSS.out k hlt
    obtain ⟨hl0, hl1⟩ := HLB.out k hk
    have HLK := Lib.hid (HLS.out k)
    have hle := HLE.out k hlt
    have o0 := hcX k hlt
    obtain ⟨tk, htk⟩ : ∃ t, ts.getD k tk0 = t := ⟨_, rfl⟩
    obtain ⟨sk, hsk⟩ : ∃ t, st.getD k 0 = t := ⟨_, rfl⟩
    obtain ⟨lk, hlk⟩ : ∃ t, lenT p ts st k = t := ⟨_, rfl⟩
    rw [htk] at HT HSl HOK HLK hle
    rw [hsk] at o0 hs0 hs1 HLK
    rw [hlk] at hl0 hl1 HLK ⊢
    clear htk hsk hlk hcT
    obtain ⟨hr0, hr1⟩ := HOK.run
    have hsb := HSB.out tk.path HOK.ins
    obtain ⟨pl, hpl⟩ : ∃ n, tk.path.length = n := ⟨_, rfl⟩
    have HSA := fun w1 hb => HSEC.out w1 hb _ _ HSl (by rw [← HNN.out]; exact HOK.ins)
    rw [hpl] at HT HSA hle hsb
    clear hpl HSl HOK hcX
    generalize tSum p tk.path = sm at *
    have HW2 := Lib.hid HT
    obtain ⟨t0, t1, t2⟩ := (HT.below HBW.out hbT).c3
    have hbTz : bT < wr.heap.size := Nat.lt_of_lt_of_le hbT HBW.out.size
    have hkn : (k : Int) < (nt : Int) := by omega
    obtain ⟨gk, hgk⟩ : ∃ g, tk.grain = g := ⟨_, rfl⟩
    obtain ⟨rk, hrk⟩ : ∃ g, tk.run = g := ⟨_, rfl⟩
    rw [hgk] at t1
    rw [hrk] at t2 hr0 hr1 HLK
    have o1 := (HBW.out.cell (p := ⟨bX, oX + k, none⟩) hbX).trans o0
    have hbXz : bX < wr.heap.size := Nat.lt_of_lt_of_le hbX HBW.out.size
    clear hgk hrk o0 HT
    obtain ⟨x0, x1, xf, xz⟩ := HX1.out.v2
    have HK := Lib.hid (fun (X : Later wr) => HSA X.w (HBW.out.trans (X.h.mono HBW.out.size)))
    have e1 : IntKind.i64.wrap (sk + rk) = sk + rk := IntWalk.i64_in _ (by omega)
    have e2 : IntKind.i64.wrap (sk + rk + sm) = sk + rk + sm := IntWalk.i64_in _ (by omega)
    clear HSA
    go_wp2_with fail
    refine wp_region_later (by kernel_rfl) (by kernel_rfl) ?_
    repeat go_big_quiet_step ((go_at_call 23; exact Calls.later (HK.out _)))
    refine wpQuiet_nil ?_
    rintro w4 ⟨⟨_, hb4⟩, rfl⟩
    have HB4 := Lib.hid (HB1.out.trans (hb4.mono HB1.out.size))
    clear hb4
    go_wp2_with fail
    go_roundw
    case rel => exact ⟨k + 1, by omega, by go_num, by rw [HLK.out], HB4.out⟩
    case measure => simp [intOf]; omega
theorem ckSch_ok {p : Pl} {ts : List Tk} {st : List Int} (h : ckSch p ts st = 0) : st.length = ts.length ∧ (∀ k, k < ts.length → 0 ≤ st.getD k 0 ∧ st.getD k 0 ≤ 1000000000) := by
  unfold ckSch at h
  split at h
  · cases h
  · rename_i h1
    split at h
    · cases h
    · rename_i h2
      have h1 : st.length = ts.length := Decidable.not_not.1 h1
      refine ⟨h1, fun k hk => ?_⟩
      have hb : badS (st.getD k 0) = false := by
        cases hq : badS (st.getD k 0) with
        | false => rfl
        | true => exact absurd (List.any_eq_true.2 ⟨_, getD_mem0 (by omega), hq⟩) h2
      have := badS_of hb
      omega
theorem sch_ok {p : Pl} {ts : List Tk} {st : List Int} (h : schE p ts st = 0) : OkP p ∧ (∀ t ∈ ts, OkT p t) ∧ st.length = ts.length ∧ (∀ k, k < ts.length → 0 ≤ st.getD k 0 ∧ st.getD k 0 ≤ 1000000000) := by
  unfold schE at h
  split at h
  · rename_i h1; exact absurd h h1
  · rename_i h1
    obtain ⟨h2, _, h3⟩ := ckTasks_ok (Decidable.not_not.1 h1)
    exact ⟨h2, fun t ht => (ckTk_ok (h3 t ht)).1, ckSch_ok h⟩
def lenE (p : Pl) (ts : List Tk) (st : List Int) : Int := if schE p ts st ≠ 0 then 0 else lenT p ts st ts.length
set_option maxRecDepth 100000 in
set_option maxHeartbeats 1000000 in
theorem length56 (w : World) (v1 v2 u x : Value) (p : Pl) (ts : List Tk) (st : List Int) (hw : WdR w) (hv : PlR w w.heap.size v1 v2 p) (hu : TasksR w w.heap.size u ts) (hs : SzT ts) (hx : Sl encI 1 w w.heap.size x st) :
    Calls Tryz.prog 56 #[.agg #[v1, v2], u, x] w (Ret (.tuple #[.int .i64 (lenE p ts st), .int .i64 (schE p ts st)]) w) := by
  have H1 := Lib.hid (fun (w1 : World) (hb : Below w.heap.size w w1) => checkSchedule55 w1 _ _ _ _ p ts st (hw.later hb) (hv.later hb) (hu.later hb) hs (hx.later hb))
  have H2 := Lib.hid (fun (w1 : World) (hb : Below w.heap.size w w1) (hp : OkP p) (ht : ∀ t ∈ ts, OkT p t) hl hs => length115 w1 _ _ _ _ p ts st (hv.later hb) (hu.later hb) (hx.later hb) hp ht hl hs)
  obtain ⟨a1, n1, a2, n2, rfl, rfl⟩ := hv.agg
  obtain ⟨uu, cu, rfl, _, _, _⟩ := hu.open_
  obtain ⟨xx, cx, rfl, _, _⟩ := id hx
  have HOK := Lib.hid (fun h : schE p ts st = 0 => sch_ok h)
  clear hv hu hx hs hw
  obtain ⟨E, hE⟩ : ∃ e, schE p ts st = e := ⟨_, rfl⟩
  obtain ⟨V, hV⟩ : ∃ e, lenE p ts st = e := ⟨_, rfl⟩
  rw [hV]
  unfold lenE at hV
  rw [hE] at H1 HOK hV ⊢
  have HV := Lib.hid hV
  clear hE hV
  have HB := Lib.hid ((Below.refl w.heap.size w).alloc (Nat.le_refl _) (.cells #[.slice a1 p.ms.length n1, .slice a2 p.arcs.length n2] 25))
  have HX := Lib.hid (Box.new w #[.slice a1 p.ms.length n1, .slice a2 p.arcs.length n2] 25)
  obtain ⟨L, hL⟩ : ∃ e, lenT p ts st ts.length = e := ⟨_, rfl⟩
  rw [hL] at H2 HV
  obtain ⟨n, hn⟩ : ∃ n, p.ms.length = n := ⟨_, rfl⟩
  obtain ⟨m, hm⟩ : ∃ n, p.arcs.length = n := ⟨_, rfl⟩
  rw [hn] at HB HX H1 H2 ⊢
  rw [hm] at HB HX H1 H2 ⊢
  have HLL := Lib.hid (show st.length = ts.length → st.length = ts.length from id)
  obtain ⟨nt, hnt⟩ : ∃ n, ts.length = n := ⟨_, rfl⟩
  obtain ⟨ns, hns⟩ : ∃ n, st.length = n := ⟨_, rfl⟩
  rw [hnt, hns] at H1 H2 HOK ⊢
  clear hL hn hm hnt hns
  obtain ⟨Q, hQ⟩ : ∃ Q, Ret (.tuple #[.int .i64 V, .int .i64 E]) w = Q := ⟨_, rfl⟩
  rw [hQ]
  have HQ : Hid (∀ w', Below w.heap.size w w' → Q (.returned (.tuple #[.int .i64 V, .int .i64 E])) w') := Lib.hid (fun w' h => by rw [← hQ]; exact ⟨rfl, h⟩)
  clear hQ
  obtain ⟨W1, hW1⟩ : ∃ W, w.alloc (.cells #[.slice a1 n n1, .slice a2 m n2] 25) = W := ⟨_, rfl⟩
  rw [hW1] at HB HX
  obtain ⟨x0, x1, xf, xz⟩ := HX.out.v2
  go_enter Tryz.func56, Tryz.ntmps56
  go_wp2_with fail
  try rw [hW1]
  clear hW1
  refine (H1.out _ HB.out).mono ?_
  rintro e w2 ⟨rfl, hb2⟩
  have HB2 := Lib.hid (HB.out.trans (hb2.mono HB.out.size))
  have HX2 := Lib.hid (HX.out.later hb2)
  clear x0 x1 xf xz hb2 HB HX
  obtain ⟨x0, x1, xf, xz⟩ := HX2.out.v2
  by_cases h0 : E = 0
  rotate_left
  · have k0 : (E != 0) = true := by simpa using h0
    have HZ := Lib.hid (show V = 0 by rw [← HV.out, if_pos h0])
    go_wp2_with fail
    rw [← HZ.out]
    exact HQ.out _ HB2.out
  subst h0
  have HZ := Lib.hid (show V = L by rw [← HV.out, if_neg (show ¬ (0 : Int) ≠ 0 by simp)])
  obtain ⟨h1, h2, h3, h4⟩ := HOK.out rfl
  have H3 := Lib.hid (H2.out _ HB2.out h1 h2 h3 h4)
  clear HOK h1 h2 h3 h4 H2
  go_wp2_with fail
  refine H3.out.mono ?_
  rintro e w3 ⟨rfl, hb3⟩
  have HB3 := Lib.hid (HB2.out.trans (hb3.mono HB2.out.size))
  go_wp2_with fail
  rw [← HZ.out]
  exact HQ.out _ HB3.out
end Go.Proofs.YtahpdkkpnkhnhaaGreatDoor

/- Walks: whether there are many tasks. -/
namespace Go.Proofs.YtahpdkkpnkhnhaaGreatDoor
open Go Go.Proofs Go.RowKit Go.Shelf
/-- A task as the argument has it: its path may be too long to be read. -/
structure TkV where
  a : Option Addr
  n : Nat
  c : Nat
  g : ByteArray
  run : Int
  p : List Int
def TkV.enc (t : TkV) : List Value := [.slice t.a t.n t.c, .string t.g, .int .i64 t.run]
theorem TkV.enc_len (t : TkV) : t.enc.length = 3 := rfl
def tv0 : TkV := ⟨none, 0, 0, ⟨#[]⟩, 0, []⟩
def TkV.tk (t : TkV) : Tk := ⟨t.p, t.g, t.run⟩
structure TkF (w : World) (B : Nat) (t : TkV) : Prop where
  n : t.n ≤ 9223372036854775807
  g : t.g.size ≤ 9223372036854775807
  p : t.n ≤ 80 → Sl encI 1 w B (.slice t.a t.n t.c) t.p
/-- The tasks, if there are not too many. -/
def TvR (w : World) (B : Nat) (u : Value) (n : Nat) (l : List TkV) : Prop := n ≤ 20 → Sl TkV.enc 3 w B u l ∧ l.length = n ∧ ∀ t ∈ l, TkF w B t
def manyT (t : TkV) : Bool := decide (80 < t.n) || decide (40 < t.g.size)
def manyB (n N : Nat) (l : List TkV) : Bool := (decide (N < n) && decide (n ≤ 16)) || (decide (20 < n) || l.any manyT)
theorem manyB_no {w : World} {B n N : Nat} {a : Option Addr} {c : Nat} {l : List TkV} (h : manyB n N l = false) (hr : TvR w B (.slice a n c) n l) :
    n ≤ 20 ∧ (n ≤ N ∨ 16 < n) ∧ (l.map TkV.tk).length = n ∧ TasksR w B (.slice a n c) (l.map TkV.tk) ∧ SzT (l.map TkV.tk) := by
  unfold manyB at h
  simp only [Bool.or_eq_false_iff, Bool.and_eq_false_iff, decide_eq_false_iff_not] at h
  obtain ⟨h1, h2, h3⟩ := h
  obtain ⟨h4, h5, h6⟩ := hr (by omega)
  have h7 : ∀ t ∈ l, t.n ≤ 80 ∧ t.g.size ≤ 40 := fun t ht => by
    have := List.any_eq_false.1 h3 t ht
    unfold manyT at this
    simp only [Bool.or_eq_true, decide_eq_true_eq, not_or] at this
    omega
  have hml : (l.map TkV.tk).length = n := by rw [List.length_map]; exact h5
  have hpl : ∀ t ∈ l, t.p.length = t.n := fun t ht => by
    obtain ⟨_, _, e, _⟩ := (h6 t ht).p (h7 t ht).1
    injection e with e1 e2 e3
    exact e2.symm
  refine ⟨by omega, by omega, hml, ?_, ?_⟩
  · obtain ⟨a', c', e, hl, hA⟩ := h4
    rw [h5] at e hl
    cases e
    refine ⟨a, c, by rw [hml], by rw [hml]; exact hl, fun h0 => ?_⟩
    obtain ⟨b, off, e, hb, hc⟩ := hA (by rw [hml] at h0; rw [h5]; exact h0)
    refine ⟨b, off, e, hb, fun i hi => ?_⟩
    have hil : i < l.length := by rw [List.length_map] at hi; exact hi
    have hm := List.getElem_mem hil
    have h8 := hc i hil
    have h9 := (h6 _ hm).p (h7 _ hm).1
    rw [List.getElem_map]
    refine ⟨l[i].a, l[i].c, ?_, ?_⟩
    · unfold TkV.enc at h8
      unfold TkV.tk
      dsimp only
      rw [hpl _ hm]; exact h8
    · unfold TkV.tk
      dsimp only
      rw [hpl _ hm]; exact h9
  · intro t ht
    obtain ⟨x, hx, rfl⟩ := List.mem_map.1 ht
    have := (h7 x hx).2
    show x.g.size ≤ _
    omega
theorem TvR.later {w w' : World} {u : Value} {n : Nat} {l : List TkV} (h : TvR w w.heap.size u n l) (hb : Below w.heap.size w w') : TvR w' w'.heap.size u n l := fun hn => by
  obtain ⟨h1, h2, h3⟩ := h hn
  exact ⟨h1.later hb, h2, fun t ht => ⟨(h3 t ht).n, (h3 t ht).g, fun h => ((h3 t ht).p h).later hb⟩⟩
set_option maxRecDepth 100000 in
set_option maxHeartbeats 1000000 in
theorem many51 (w : World) (a : Option Addr) (n c N : Nat) (l : List TkV) (hn : n ≤ 9223372036854775807) (hN : N ≤ 16) (hr : TvR w w.heap.size (.slice a n c) n l) : Calls Tryz.prog 51 #[.slice a n c, .int .i64 N] w (Ret (.bool (manyB n N l)) w) := by
  obtain ⟨R, hR⟩ : ∃ R, manyB n N l = R := ⟨_, rfl⟩
  rw [hR]
  unfold manyB at hR
  have HR := Lib.hid hR
  have HTV := Lib.hid hr
  clear hR hr
  by_cases h1 : N < n ∧ n ≤ 16
  · have d1 : decide ((N : Int) < (n : Int)) = true := decide_eq_true (by omega)
    have d2 : decide ((n : Int) ≤ 16) = true := decide_eq_true (by omega)
    have d3 : decide (n ≤ 16) = true := decide_eq_true (by omega)
    have HV := Lib.hid (show R = true by rw [← HR.out, decide_eq_true h1.1, decide_eq_true h1.2]; rfl)
    go_enter Tryz.func51, Tryz.ntmps51
    go_wp2_with fail
    go_ret
    exact ⟨by rw [HV.out]; rfl, Below.refl _ _⟩
  by_cases h2 : 20 < n
  · have d1 : decide ((N : Int) < (n : Int)) = true := decide_eq_true (by omega)
    have d2 : decide ((n : Int) ≤ 16) = false := decide_eq_false (by omega)
    have d3 : decide ((20 : Int) < (n : Int)) = true := decide_eq_true (by omega)
    have HV := Lib.hid (show R = true by rw [← HR.out, decide_eq_true h2]; simp)
    go_enter Tryz.func51, Tryz.ntmps51
    go_wp2_with fail
    go_ret
    exact ⟨by rw [HV.out]; rfl, Below.refl _ _⟩
  have d3 : decide ((20 : Int) < (n : Int)) = false := decide_eq_false (by omega)
  have HRA := Lib.hid (show l.any manyT = R by
    rw [← HR.out, decide_eq_false h2, Bool.false_or]
    have : (decide (N < n) && decide (n ≤ 16)) = false := by
      rw [← Bool.not_eq_true, Bool.and_eq_true, decide_eq_true_eq, decide_eq_true_eq]; exact h1
    rw [this, Bool.false_or])
  obtain ⟨hsl, hln, hff⟩ := HTV.out (by omega)
  have HLN := Lib.hid hln
  have HFF := Lib.hid hff
  obtain ⟨a', c', e, hl, hA⟩ := hsl
  rw [hln] at e
  cases e
  have HA := Lib.hid hA
  clear hl hA hff hln HR HTV
  by_cases h3 : N < n
  · have d1 : decide ((N : Int) < (n : Int)) = true := decide_eq_true (by omega)
    have d2 : decide ((n : Int) ≤ 16) = false := decide_eq_false (by omega)
    go_enter Tryz.func51, Tryz.ntmps51
    go_wp2_with fail
    clear d3
    go_loopw [5] (fun i wr => ∃ k : Nat, k ≤ n ∧ i = .int .i64 k ∧ w = wr ∧ ∀ j (h : j < l.length), j < k → manyT l[j] = false) (fun i _ => n - (intOf i).toNat)
    case atStart => exact ⟨0, by omega, rfl, rfl, fun j _ h => absurd h (Nat.not_lt_zero _)⟩
    case round =>
      obtain ⟨k, hk, rfl, rfl, hno⟩ := hrel
      have HNO := Lib.hid hno
      clear hno
      by_cases hlt : k < n
      rotate_left
      · obtain rfl : n = k := by omega
        have HV := Lib.hid (show R = false by
          rw [← HRA.out, List.any_eq_false]
          intro t ht
          obtain ⟨j, hj, rfl⟩ := List.mem_iff_getElem.1 ht
          rw [HNO.out j hj (by rw [← HLN.out]; exact hj)]; simp)
        go_wp2_with fail
        go_ret
        exact ⟨by rw [HV.out]; rfl, Below.refl _ _⟩
      have hkl : k < l.length := by rw [HLN.out]; exact hlt
      obtain ⟨b, off, rfl, hb, hc⟩ := HA.out (by omega)
      have hat := hc k hkl
      unfold TkV.enc at hat
      obtain ⟨t0, t1, t2⟩ := hat.c3
      have HM := Lib.hid (List.getElem_mem hkl)
      obtain ⟨hf1, hf2, _⟩ := HFF.out _ HM.out
      have HNX := Lib.hid (show manyT l[k] = false → ∀ j (h : j < l.length), j < k + 1 → manyT l[j] = false from fun h j hj hjk => by
        rcases Nat.lt_succ_iff_lt_or_eq.1 hjk with h2 | h2
        · exact HNO.out j hj h2
        · subst h2; exact h)
      have HMT := Lib.hid (show manyT l[k] = true → R = true from fun h => by rw [← HRA.out]; exact List.any_eq_true.2 ⟨_, HM.out, h⟩)
      generalize l[k] = tk at *
      clear HM hc hat
      obtain ⟨ta, tn, tc, tg, tr, tp⟩ := tk
      unfold manyT at HNX HMT
      dsimp only at *
      have hkn : (k : Int) < (n : Int) := by omega
      by_cases h3' : 80 < tn
      · have e1 : decide ((80 : Int) < (tn : Int)) = true := decide_eq_true (by omega)
        have HV := Lib.hid (HMT.out (by rw [decide_eq_true h3']; rfl))
        go_wp2_with fail
        go_ret
        exact ⟨by rw [HV.out]; rfl, Below.refl _ _⟩
      have e1 : decide ((80 : Int) < (tn : Int)) = false := decide_eq_false (by omega)
      by_cases h4 : 40 < tg.size
      · have e2 : decide ((40 : Int) < (tg.size : Int)) = true := decide_eq_true (by omega)
        have HV := Lib.hid (HMT.out (by rw [decide_eq_true h4, Bool.or_true]))
        go_wp2_with fail
        go_ret
        exact ⟨by rw [HV.out]; rfl, Below.refl _ _⟩
      have e2 : decide ((40 : Int) < (tg.size : Int)) = false := decide_eq_false (by omega)
      have HV := Lib.hid (HNX.out (by rw [decide_eq_false h3', decide_eq_false h4]; rfl))
      go_wp2_with fail
      go_roundw
      case rel => exact ⟨k + 1, by omega, by go_num, by first | rfl | trivial, HV.out⟩
      case measure => simp [intOf]; omega
  · have d1 : decide ((N : Int) < (n : Int)) = false := decide_eq_false (by omega)
    go_enter Tryz.func51, Tryz.ntmps51
    go_wp2_with fail
    clear d3
    go_loopw [5] (fun i wr => ∃ k : Nat, k ≤ n ∧ i = .int .i64 k ∧ w = wr ∧ ∀ j (h : j < l.length), j < k → manyT l[j] = false) (fun i _ => n - (intOf i).toNat)
    case atStart => exact ⟨0, by omega, rfl, rfl, fun j _ h => absurd h (Nat.not_lt_zero _)⟩
    case round =>
      obtain ⟨k, hk, rfl, rfl, hno⟩ := hrel
      have HNO := Lib.hid hno
      clear hno
      by_cases hlt : k < n
      rotate_left
      · obtain rfl : n = k := by omega
        have HV := Lib.hid (show R = false by
          rw [← HRA.out, List.any_eq_false]
          intro t ht
          obtain ⟨j, hj, rfl⟩ := List.mem_iff_getElem.1 ht
          rw [HNO.out j hj (by rw [← HLN.out]; exact hj)]; simp)
        go_wp2_with fail
        go_ret
        exact ⟨by rw [HV.out]; rfl, Below.refl _ _⟩
      have hkl : k < l.length := by rw [HLN.out]; exact hlt
      obtain ⟨b, off, rfl, hb, hc⟩ := HA.out (by omega)
      have hat := hc k hkl
      unfold TkV.enc at hat
      obtain ⟨t0, t1, t2⟩ := hat.c3
      have HM := Lib.hid (List.getElem_mem hkl)
      obtain ⟨hf1, hf2, _⟩ := HFF.out _ HM.out
      have HNX := Lib.hid (show manyT l[k] = false → ∀ j (h : j < l.length), j < k + 1 → manyT l[j] = false from fun h j hj hjk => by
        rcases Nat.lt_succ_iff_lt_or_eq.1 hjk with h2 | h2
        · exact HNO.out j hj h2
        · subst h2; exact h)
      have HMT := Lib.hid (show manyT l[k] = true → R = true from fun h => by rw [← HRA.out]; exact List.any_eq_true.2 ⟨_, HM.out, h⟩)
      generalize l[k] = tk at *
      clear HM hc hat
      obtain ⟨ta, tn, tc, tg, tr, tp⟩ := tk
      unfold manyT at HNX HMT
      dsimp only at *
      have hkn : (k : Int) < (n : Int) := by omega
      by_cases h3' : 80 < tn
      · have e1 : decide ((80 : Int) < (tn : Int)) = true := decide_eq_true (by omega)
        have HV := Lib.hid (HMT.out (by rw [decide_eq_true h3']; rfl))
        go_wp2_with fail
        go_ret
        exact ⟨by rw [HV.out]; rfl, Below.refl _ _⟩
      have e1 : decide ((80 : Int) < (tn : Int)) = false := decide_eq_false (by omega)
      by_cases h4 : 40 < tg.size
      · have e2 : decide ((40 : Int) < (tg.size : Int)) = true := decide_eq_true (by omega)
        have HV := Lib.hid (HMT.out (by rw [decide_eq_true h4, Bool.or_true]))
        go_wp2_with fail
        go_ret
        exact ⟨by rw [HV.out]; rfl, Below.refl _ _⟩
      have e2 : decide ((40 : Int) < (tg.size : Int)) = false := decide_eq_false (by omega)
      have HV := Lib.hid (HNX.out (by rw [decide_eq_false h3', decide_eq_false h4]; rfl))
      go_wp2_with fail
      go_roundw
      case rel => exact ⟨k + 1, by omega, by go_num, by first | rfl | trivial, HV.out⟩
      case measure => simp [intOf]; omega
end Go.Proofs.YtahpdkkpnkhnhaaGreatDoor
