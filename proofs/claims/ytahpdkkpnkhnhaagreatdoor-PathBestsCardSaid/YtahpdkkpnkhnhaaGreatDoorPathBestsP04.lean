/- Lemmas on the way to the law PathBests (part 4): Sh Si Ua Uc Sj -/
import Derived.Test.YtahpdkkpnkhnhaaGreatDoorPathBestsP03
import Derived.Test.YtahpdkkpnkhnhaaGreatDoorLib29
set_option linter.unusedVariables false
set_option linter.unusedSimpArgs false

/- Walks: the length of a schedule. -/
namespace Go.Proofs.YtahpdkkpnkhnhaaGreatDoor
open Go Go.Proofs Go.RowKit Go.Shelf
theorem lenT_bd {p : Pl} (hp : OkP p) {ts : List Tk} {st : List Int} (ht : ∀ k, k < ts.length → OkT p (ts.getD k tk0)) (hs : ∀ k, k < ts.length → 0 ≤ st.getD k 0 ∧ st.getD k 0 ≤ 1000000000) : ∀ k, k ≤ ts.length → 0 ≤ lenT p ts st k ∧ lenT p ts st k ≤ 1010000000
  | 0, _ => by simp [lenT]
  | k + 1, hk => by
    obtain ⟨h1, h2⟩ := lenT_bd hp ht hs k (by omega)
    obtain ⟨h3, h4⟩ := hs k (by omega)
    have h5 := ht k (by omega)
    obtain ⟨h6, h7⟩ := h5.run
    have h8 := tSum_bd hp h5.ins
    have h9 := Nat.le_trans h5.len hp.le
    unfold lenT
    omega
set_option maxRecDepth 100000 in
set_option maxHeartbeats 1000000 in
theorem length115 (w : World) (v1 v2 u x : Value) (p : Pl) (ts : List Tk) (st : List Int) (hv : PlR w w.heap.size v1 v2 p) (hu : TasksR w w.heap.size u ts) (hx : Sl encI 1 w w.heap.size x st) (hp : OkP p) (ht : ∀ t ∈ ts, OkT p t) (hl : st.length = ts.length) (hs : ∀ k, k < ts.length → 0 ≤ st.getD k 0 ∧ st.getD k 0 ≤ 1000000000) :
    Calls Tryz.prog 115 #[.agg #[v1, v2], u, x] w (Ret (.int .i64 (lenT p ts st ts.length)) w) := by
  have HSEC := Lib.hid (fun (w1 : World) (hb : Below w.heap.size w w1) (v : Value) (l : List Int) (hl : Sl encI 1 w w.heap.size v l) (hin : ∀ x ∈ l, inN p.ms.length x = true) => seconds105 w1 _ _ v p l (hv.later hb) (hl.later hb) hin hp.times)
  have htk : ∀ k, k < ts.length → OkT p (ts.getD k tk0) := fun k hk => by rw [tkGet hk]; exact ht _ (List.getElem_mem hk)
  have HLB := Lib.hid (fun k (hk : k ≤ ts.length) => lenT_bd hp htk hs k hk)
  have HTK := Lib.hid htk
  have HSS := Lib.hid hs
  have HSB := Lib.hid (fun (l : List Int) (h : ∀ x ∈ l, inN p.ms.length x = true) => tSum_bd hp h)
  have HLE := Lib.hid (fun k (hk : k < ts.length) => Nat.le_trans (htk k hk).len hp.le)
  have HLS := Lib.hid (fun k => show lenT p ts st (k + 1) = max (lenT p ts st k) (st.getD k 0 + (ts.getD k tk0).run + tSum p (ts.getD k tk0).path) from rfl)
  obtain ⟨uu, cu, rfl, hlu, hlc, hU⟩ := hu.open_
  have HU := Lib.hid hU
  obtain ⟨xx, cx, rfl, hlx, hXX⟩ := hx
  have HXX := Lib.hid (show 0 < st.length → ∃ b off, xx = some ⟨b, off, none⟩ ∧ b < w.heap.size ∧ ∀ i, i < st.length → w.cell? ⟨b, off + i, none⟩ = some (.int .i64 (st.getD i 0)) from fun h0 => by
    obtain ⟨b, off, e, hb, hc⟩ := hXX h0
    refine ⟨b, off, e, hb, fun i hi => ?_⟩
    have := (hc i hi).c1
    rw [Nat.mul_one] at this
    rw [getD_geI hi]; exact this)
  obtain ⟨a1, n1, a2, n2, rfl, rfl⟩ := hv.agg
  clear hv hu hU hXX ht htk hs
  have HB := Lib.hid ((Below.refl w.heap.size w).alloc (Nat.le_refl _) (.cells #[.slice a1 p.ms.length n1, .slice a2 p.arcs.length n2] 25))
  have HX := Lib.hid (Box.new w #[.slice a1 p.ms.length n1, .slice a2 p.arcs.length n2] 25)
  obtain ⟨n, hn⟩ : ∃ n, p.ms.length = n := ⟨_, rfl⟩
  obtain ⟨m, hm⟩ : ∃ n, p.arcs.length = n := ⟨_, rfl⟩
  obtain ⟨nt, hnt⟩ : ∃ n, ts.length = n := ⟨_, rfl⟩
  rw [hn] at HB HX HSEC ⊢
  rw [hm] at HB HX HSEC ⊢
  rw [hnt] at HU HLB HTK HSS HLE hlu hlc hl ⊢
  rw [hl] at HXX hlx ⊢
  have HNN := Lib.hid hn
  clear hnt hl hm hn
  go_enter Tryz.func115, Tryz.ntmps115
  go_wp2_with fail
  obtain ⟨W1, hW1⟩ : ∃ W, w.alloc (.cells #[.slice a1 n n1, .slice a2 m n2] 25) = W := ⟨_, rfl⟩
  rw [hW1] at HB HX ⊢
  clear hW1
  go_loopw [7, 12] (fun o i wr => ∃ k : Nat, k ≤ nt ∧ i = .int .i64 k ∧ o = .int .i64 (lenT p ts st k) ∧ Below W1.heap.size W1 wr) (fun _ i _ => nt - (intOf i).toNat)
  case atStart => exact ⟨0, by omega, rfl, rfl, Below.refl _ _⟩
  case round =>
    obtain ⟨k, hk, rfl, rfl, hbe⟩ := hrel
    have HB1 := Lib.hid hbe
    have HBW := Lib.hid (HB.out.trans (hbe.mono HB.out.size))
    have HX1 := Lib.hid (HX.out.later hbe)
    clear hbe
    by_cases hlt : k < nt
    rotate_left
    · obtain rfl : nt = k := by omega
      generalize lenT p ts st nt = LL at *
      go_wp2_with fail
      go_ret
      exact ⟨rfl, HBW.out⟩
    obtain ⟨bX, oX, eX, hbX, hcX⟩ := HXX.out (by omega)
    subst eX
    obtain ⟨bT, oT, eT, hbT, hcT⟩ := HU.out (by omega)
    subst eT
    obtain ⟨au, cu1, HT, HSl⟩ := hcT k hlt
    have HOK := HTK.out k hlt
    obtain ⟨hs0, hs1⟩ := HSS.out k hlt
    obtain ⟨hl0, hl1⟩ := HLB.out k hk
    have HLK := Lib.hid (HLS.out k)
    have hle := HLE.out k hlt
    have o0 := hcX k hlt
    obtain ⟨tk, htk⟩ : ∃ t, ts.getD k tk0 = t := ⟨_, rfl⟩
    obtain ⟨sk, hsk⟩ : ∃ t, st.getD k 0 = t := ⟨_, rfl⟩
    obtain ⟨lk, hlk⟩ : ∃ t, lenT p ts st k = t := ⟨_, rfl⟩
    rw [htk] at HT HSl HOK HLK hle
    rw [hsk] at o0 hs0 hs1 HLK
    rw [hlk] at hl0 hl1 HLK ⊢
    clear htk hsk hlk hcT
    obtain ⟨hr0, hr1⟩ := HOK.run
    have hsb := HSB.out tk.path HOK.ins
    obtain ⟨pl, hpl⟩ : ∃ n, tk.path.length = n := ⟨_, rfl⟩
    have HSA := fun w1 hb => HSEC.out w1 hb _ _ HSl (by rw [← HNN.out]; exact HOK.ins)
    rw [hpl] at HT HSA hle hsb
    clear hpl HSl HOK hcX
    generalize tSum p tk.path = sm at *
    have HW2 := Lib.hid HT
    obtain ⟨t0, t1, t2⟩ := (HT.below HBW.out hbT).c3
    have hbTz : bT < wr.heap.size := Nat.lt_of_lt_of_le hbT HBW.out.size
    have hkn : (k : Int) < (nt : Int) := by omega
    obtain ⟨gk, hgk⟩ : ∃ g, tk.grain = g := ⟨_, rfl⟩
    obtain ⟨rk, hrk⟩ : ∃ g, tk.run = g := ⟨_, rfl⟩
    rw [hgk] at t1
    rw [hrk] at t2 hr0 hr1 HLK
    have hb2 : Below wr.heap.size wr (wr.alloc (.cells #[.slice au pl cu1, .string gk, .int .i64 rk] 114)) := (Below.refl _ _).alloc (Nat.le_refl _) _
    have HB2 := Lib.hid (HB1.out.trans (hb2.mono HB1.out.size))
    have HBW2 := Lib.hid (HBW.out.trans (hb2.mono HBW.out.size))
    have HX2 := Lib.hid (HX1.out.later hb2)
    have HT2 := Lib.hid (Box.new wr #[.slice au pl cu1, .string gk, .int .i64 rk] 114)
    have o1 := (HBW2.out.cell (p := ⟨bX, oX + k, none⟩) hbX).trans o0
    have hbXz : bX < (wr.alloc (.cells #[.slice au pl cu1, .string gk, .int .i64 rk] 114)).heap.size := Nat.lt_of_lt_of_le hbX HBW2.out.size
    clear hb2 hgk hrk o0 HT
    go_wp2_with fail
    obtain ⟨W3, hW3⟩ : ∃ W, wr.alloc (.cells #[.slice au pl cu1, .string gk, .int .i64 rk] 114) = W := ⟨_, rfl⟩
    obtain ⟨g3, hg3⟩ : ∃ W, wr.heap.size = W := ⟨_, rfl⟩
    rw [hW3] at HB2 HBW2 HX2 HT2 o1 hbXz ⊢
    rw [hg3] at HT2 ⊢
    clear hW3 hg3 t0 t1 t2 hbTz
    obtain ⟨x0, x1, xf, xz⟩ := HX2.out.v2
    obtain ⟨z0, z1, z2, zf, zz⟩ := HT2.out.t3
    have HK := Lib.hid (fun (X : Later W3) => HSA X.w (HBW2.out.trans (X.h.mono HBW2.out.size)))
    have e1 : IntKind.i64.wrap (sk + rk) = sk + rk := IntWalk.i64_in _ (by omega)
    have e2 : IntKind.i64.wrap (sk + rk + sm) = sk + rk + sm := IntWalk.i64_in _ (by omega)
    clear HSA
    refine wp_region_later (by kernel_rfl) (by kernel_rfl) ?_
    repeat go_big_quiet_step ((go_at_call 105; exact Calls.later (HK.out _)))
    refine wpQuiet_nil ?_
    rintro w4 ⟨⟨_, hb4⟩, rfl⟩
    have HB4 := Lib.hid (HB2.out.trans (hb4.mono HB2.out.size))
    clear hb4
    go_wp2_with fail
    go_roundw
    case rel => exact ⟨k + 1, by omega, by go_num, by rw [HLK.out], HB4.out⟩
    case measure => simp [intOf]; omega
set_option maxRecDepth 100000 in
set_option maxHeartbeats 1000000 in
theorem length59 (w : World) (v1 v2 u x : Value) (p : Pl) (ts : List Tk) (st : List Int) (hv : PlR w w.heap.size v1 v2 p) (hu : TasksR w w.heap.size u ts) (hx : Sl encI 1 w w.heap.size x st) (hp : OkP p) (ht : ∀ t ∈ ts, OkT p t) (hl : st.length = ts.length) (hs : ∀ k, k < ts.length → 0 ≤ st.getD k 0 ∧ st.getD k 0 ≤ 1000000000) :
    Calls Tryz.prog 59 #[.agg #[v1, v2], u, x] w (Ret (.int .i64 (lenT p ts st ts.length)) w) := by
  have HSEC := Lib.hid (fun (w1 : World) (hb : Below w.heap.size w w1) (v : Value) (l : List Int) (hl : Sl encI 1 w w.heap.size v l) (hin : ∀ x ∈ l, inN p.ms.length x = true) => time23 w1 _ _ v p l (hv.later hb) (hl.later hb) hin hp.times)
  have htk : ∀ k, k < ts.length → OkT p (ts.getD k tk0) := fun k hk => by rw [tkGet hk]; exact ht _ (List.getElem_mem hk)
  have HLB := Lib.hid (fun k (hk : k ≤ ts.length) => lenT_bd hp htk hs k hk)
  have HTK := Lib.hid htk
  have HSS := Lib.hid hs
  have HSB := Lib.hid (fun (l : List Int) (h : ∀ x ∈ l, inN p.ms.length x = true) => tSum_bd hp h)
  have HLE := Lib.hid (fun k (hk : k < ts.length) => Nat.le_trans (htk k hk).len hp.le)
  have HLS := Lib.hid (fun k => show lenT p ts st (k + 1) = max (lenT p ts st k) (st.getD k 0 + (ts.getD k tk0).run + tSum p (ts.getD k tk0).path) from rfl)
  obtain ⟨uu, cu, rfl, hlu, hlc, hU⟩ := hu.open_
  have HU := Lib.hid hU
  obtain ⟨xx, cx, rfl, hlx, hXX⟩ := hx
  have HXX := Lib.hid (show 0 < st.length → ∃ b off, xx = some ⟨b, off, none⟩ ∧ b < w.heap.size ∧ ∀ i, i < st.length → w.cell? ⟨b, off + i, none⟩ = some (.int .i64 (st.getD i 0)) from fun h0 => by
    obtain ⟨b, off, e, hb, hc⟩ := hXX h0
    refine ⟨b, off, e, hb, fun i hi => ?_⟩
    have := (hc i hi).c1
    rw [Nat.mul_one] at this
    rw [getD_geI hi]; exact this)
  obtain ⟨a1, n1, a2, n2, rfl, rfl⟩ := hv.agg
  clear hv hu hU hXX ht htk hs
  have HB := Lib.hid ((Below.refl w.heap.size w).alloc (Nat.le_refl _) (.cells #[.slice a1 p.ms.length n1, .slice a2 p.arcs.length n2] 25))
  have HX := Lib.hid (Box.new w #[.slice a1 p.ms.length n1, .slice a2 p.arcs.length n2] 25)
  obtain ⟨n, hn⟩ : ∃ n, p.ms.length = n := ⟨_, rfl⟩
  obtain ⟨m, hm⟩ : ∃ n, p.arcs.length = n := ⟨_, rfl⟩
  obtain ⟨nt, hnt⟩ : ∃ n, ts.length = n := ⟨_, rfl⟩
  rw [hn] at HB HX HSEC ⊢
  rw [hm] at HB HX HSEC ⊢
  rw [hnt] at HU HLB HTK HSS HLE hlu hlc hl ⊢
  rw [hl] at HXX hlx ⊢
  have HNN := Lib.hid hn
  clear hnt hl hm hn
  go_enter Tryz.func59, Tryz.ntmps59
  go_wp2_with fail
  obtain ⟨W1, hW1⟩ : ∃ W, w.alloc (.cells #[.slice a1 n n1, .slice a2 m n2] 25) = W := ⟨_, rfl⟩
  rw [hW1] at HB HX ⊢
  clear hW1
  go_loopw [7, 8] (fun o i wr => ∃ k : Nat, k ≤ nt ∧ i = .int .i64 k ∧ o = .int .i64 (lenT p ts st k) ∧ Below W1.heap.size W1 wr) (fun _ i _ => nt - (intOf i).toNat)
  case atStart => exact ⟨0, by omega, rfl, rfl, Below.refl _ _⟩
  case round =>
    obtain ⟨k, hk, rfl, rfl, hbe⟩ := hrel
    have HB1 := Lib.hid hbe
    have HBW := Lib.hid (HB.out.trans (hbe.mono HB.out.size))
    have HX1 := Lib.hid (HX.out.later hbe)
    clear hbe
    by_cases hlt : k < nt
    rotate_left
    · obtain rfl : nt = k := by omega
      generalize lenT p ts st nt = LL at *
      go_wp2_with fail
      go_ret
      exact ⟨rfl, HBW.out⟩
    obtain ⟨bX, oX, eX, hbX, hcX⟩ := HXX.out (by omega)
    subst eX
    obtain ⟨bT, oT, eT, hbT, hcT⟩ := HU.out (by omega)
    subst eT
    obtain ⟨au, cu1, HT, HSl⟩ := hcT k hlt
    have HOK := HTK.out k hlt
    obtain ⟨hs0, hs1⟩ := HSS.out k hlt
    obtain ⟨hl0, hl1⟩ := HLB.out k hk
    have HLK := Lib.hid (HLS.out k)
    have hle := HLE.out k hlt
    have o0 := hcX k hlt
    obtain ⟨tk, htk⟩ : ∃ t, ts.getD k tk0 = t := ⟨_, rfl⟩
    obtain ⟨sk, hsk⟩ : ∃ t, st.getD k 0 = t := ⟨_, rfl⟩
    obtain ⟨lk, hlk⟩ : ∃ t, lenT p ts st k = t := ⟨_, rfl⟩
    rw [htk] at HT HSl HOK HLK hle
    rw [hsk] at o0 hs0 hs1 HLK
    rw [hlk] at hl0 hl1 HLK ⊢
    clear htk hsk hlk hcT
    obtain ⟨hr0, hr1⟩ := HOK.run
    have hsb := HSB.out tk.path HOK.ins
    obtain ⟨pl, hpl⟩ : ∃ n, tk.path.length = n := ⟨_, rfl⟩
    have HSA := fun w1 hb => HSEC.out w1 hb _ _ HSl (by rw [← HNN.out]; exact HOK.ins)
    rw [hpl] at HT HSA hle hsb
    clear hpl HSl HOK hcX
    generalize tSum p tk.path = sm at *
    have HW2 := Lib.hid HT
    obtain ⟨t0, t1, t2⟩ := (HT.below HBW.out hbT).c3
    have hbTz : bT < wr.heap.size := Nat.lt_of_lt_of_le hbT HBW.out.size
    have hkn : (k : Int) < (nt : Int) := by omega
    obtain ⟨gk, hgk⟩ : ∃ g, tk.grain = g := ⟨_, rfl⟩
    obtain ⟨rk, hrk⟩ : ∃ g, tk.run = g := ⟨_, rfl⟩
    rw [hgk] at t1
    rw [hrk] at t2 hr0 hr1 HLK
    have o1 := (HBW.out.cell (p := ⟨bX, oX + k, none⟩) hbX).trans o0
    have hbXz : bX < wr.heap.size := Nat.lt_of_lt_of_le hbX HBW.out.size
    clear hgk hrk o0 HT
    obtain ⟨x0, x1, xf, xz⟩ := HX1.out.v2
    have HK := Lib.hid (fun (X : Later wr) => HSA X.w (HBW.out.trans (X.h.mono HBW.out.size)))
    have e1 : IntKind.i64.wrap (sk + rk) = sk + rk := IntWalk.i64_in _ (by omega)
    have e2 : IntKind.i64.wrap (sk + rk + sm) = sk + rk + sm := IntWalk.i64_in _ (by omega)
    clear HSA
    go_wp2_with fail
    refine wp_region_later (by kernel_rfl) (by kernel_rfl) ?_
    repeat go_big_quiet_step ((go_at_call 23; exact Calls.later (HK.out _)))
    refine wpQuiet_nil ?_
    rintro w4 ⟨⟨_, hb4⟩, rfl⟩
    have HB4 := Lib.hid (HB1.out.trans (hb4.mono HB1.out.size))
    clear hb4
    go_wp2_with fail
    go_roundw
    case rel => exact ⟨k + 1, by omega, by go_num, by rw [HLK.out], HB4.out⟩
    case measure => simp [intOf]; omega
end Go.Proofs.YtahpdkkpnkhnhaaGreatDoor
/- Walks: whether there are many tasks. -/
namespace Go.Proofs.YtahpdkkpnkhnhaaGreatDoor
open Go Go.Proofs Go.RowKit Go.Shelf
structure TkV where
  a : Option Addr
  n : Nat
  c : Nat
  g : ByteArray
  run : Int
  p : List Int
def TkV.enc (t : TkV) : List Value := [.slice t.a t.n t.c, .string t.g, .int .i64 t.run]
theorem TkV.enc_len (t : TkV) : t.enc.length = 3 := rfl
def tv0 : TkV := ⟨none, 0, 0, ⟨#[]⟩, 0, []⟩
def TkV.tk (t : TkV) : Tk := ⟨t.p, t.g, t.run⟩
structure TkF (w : World) (B : Nat) (t : TkV) : Prop where
  n : t.n ≤ 9223372036854775807
  g : t.g.size ≤ 9223372036854775807
  p : t.n ≤ 80 → Sl encI 1 w B (.slice t.a t.n t.c) t.p
def TvR (w : World) (B : Nat) (u : Value) (n : Nat) (l : List TkV) : Prop := n ≤ 20 → Sl TkV.enc 3 w B u l ∧ l.length = n ∧ ∀ t ∈ l, TkF w B t
def manyT (t : TkV) : Bool := decide (80 < t.n) || decide (40 < t.g.size)
def manyB (n N : Nat) (l : List TkV) : Bool := (decide (N < n) && decide (n ≤ 16)) || (decide (20 < n) || l.any manyT)
theorem manyB_no {w : World} {B n N : Nat} {a : Option Addr} {c : Nat} {l : List TkV} (h : manyB n N l = false) (hr : TvR w B (.slice a n c) n l) :
    n ≤ 20 ∧ (n ≤ N ∨ 16 < n) ∧ (l.map TkV.tk).length = n ∧ TasksR w B (.slice a n c) (l.map TkV.tk) ∧ SzT (l.map TkV.tk) := by
  unfold manyB at h
  simp only [Bool.or_eq_false_iff, Bool.and_eq_false_iff, decide_eq_false_iff_not] at h
  obtain ⟨h1, h2, h3⟩ := h
  obtain ⟨h4, h5, h6⟩ := hr (by omega)
  have h7 : ∀ t ∈ l, t.n ≤ 80 ∧ t.g.size ≤ 40 := fun t ht => by
    have := List.any_eq_false.1 h3 t ht
    unfold manyT at this
    simp only [Bool.or_eq_true, decide_eq_true_eq, not_or] at this
    omega
  have hml : (l.map TkV.tk).length = n := by rw [List.length_map]; exact h5
  have hpl : ∀ t ∈ l, t.p.length = t.n := fun t ht => by
    obtain ⟨_, _, e, _⟩ := (h6 t ht).p (h7 t ht).1
    injection e with e1 e2 e3
    exact e2.symm
  refine ⟨by omega, by omega, hml, ?_, ?_⟩
  · obtain ⟨a', c', e, hl, hA⟩ := h4
    rw [h5] at e hl
    cases e
    refine ⟨a, c, by rw [hml], by rw [hml]; exact hl, fun h0 => ?_⟩
    obtain ⟨b, off, e, hb, hc⟩ := hA (by rw [hml] at h0; rw [h5]; exact h0)
    refine ⟨b, off, e, hb, fun i hi => ?_⟩
    have hil : i < l.length := by rw [List.length_map] at hi; exact hi
    have hm := List.getElem_mem hil
    have h8 := hc i hil
    have h9 := (h6 _ hm).p (h7 _ hm).1
    rw [List.getElem_map]
    refine ⟨l[i].a, l[i].c, ?_, ?_⟩
    · unfold TkV.enc at h8
      unfold TkV.tk
      dsimp only
      rw [hpl _ hm]; exact h8
    · unfold TkV.tk
      dsimp only
      rw [hpl _ hm]; exact h9
  · intro t ht
    obtain ⟨x, hx, rfl⟩ := List.mem_map.1 ht
    have := (h7 x hx).2
    show x.g.size ≤ _
    omega
theorem TvR.later {w w' : World} {u : Value} {n : Nat} {l : List TkV} (h : TvR w w.heap.size u n l) (hb : Below w.heap.size w w') : TvR w' w'.heap.size u n l := fun hn => by
  obtain ⟨h1, h2, h3⟩ := h hn
  exact ⟨h1.later hb, h2, fun t ht => ⟨(h3 t ht).n, (h3 t ht).g, fun h => ((h3 t ht).p h).later hb⟩⟩
set_option maxRecDepth 100000 in
set_option maxHeartbeats 1000000 in
theorem many51 (w : World) (a : Option Addr) (n c N : Nat) (l : List TkV) (hn : n ≤ 9223372036854775807) (hN : N ≤ 16) (hr : TvR w w.heap.size (.slice a n c) n l) : Calls Tryz.prog 51 #[.slice a n c, .int .i64 N] w (Ret (.bool (manyB n N l)) w) := by
  obtain ⟨R, hR⟩ : ∃ R, manyB n N l = R := ⟨_, rfl⟩
  rw [hR]
  unfold manyB at hR
  have HR := Lib.hid hR
  have HTV := Lib.hid hr
  clear hR hr
  by_cases h1 : N < n ∧ n ≤ 16
  · have d1 : decide ((N : Int) < (n : Int)) = true := decide_eq_true (by omega)
    have d2 : decide ((n : Int) ≤ 16) = true := decide_eq_true (by omega)
    have d3 : decide (n ≤ 16) = true := decide_eq_true (by omega)
    have HV := Lib.hid (show R = true by rw [← HR.out, decide_eq_true h1.1, decide_eq_true h1.2]; rfl)
    go_enter Tryz.func51, Tryz.ntmps51
    go_wp2_with fail
    go_ret
    exact ⟨by rw [HV.out]; rfl, Below.refl _ _⟩
  by_cases h2 : 20 < n
  · have d1 : decide ((N : Int) < (n : Int)) = true := decide_eq_true (by omega)
    have d2 : decide ((n : Int) ≤ 16) = false := decide_eq_false (by omega)
    have d3 : decide ((20 : Int) < (n : Int)) = true := decide_eq_true (by omega)
    have HV := Lib.hid (show R = true by rw [← HR.out, decide_eq_true h2]; simp)
    go_enter Tryz.func51, Tryz.ntmps51
    go_wp2_with fail
    go_ret
    exact ⟨by rw [HV.out]; rfl, Below.refl _ _⟩
  have d3 : decide ((20 : Int) < (n : Int)) = false := decide_eq_false (by omega)
  have HRA := Lib.hid (show l.any manyT = R by
    rw [← HR.out, decide_eq_false h2, Bool.false_or]
    have : (decide (N < n) && decide (n ≤ 16)) = false := by
      rw [← Bool.not_eq_true, Bool.and_eq_true, decide_eq_true_eq, decide_eq_true_eq]; exact h1
    rw [this, Bool.false_or])
  obtain ⟨hsl, hln, hff⟩ := HTV.out (by omega)
  have HLN := Lib.hid hln
  have HFF := Lib.hid hff
  obtain ⟨a', c', e, hl, hA⟩ := hsl
  rw [hln] at e
  cases e
  have HA := Lib.hid hA
  clear hl hA hff hln HR HTV
  by_cases h3 : N < n
  · have d1 : decide ((N : Int) < (n : Int)) = true := decide_eq_true (by omega)
    have d2 : decide ((n : Int) ≤ 16) = false := decide_eq_false (by omega)
    go_enter Tryz.func51, Tryz.ntmps51
    go_wp2_with fail
    clear d3
    go_loopw [5] (fun i wr => ∃ k : Nat, k ≤ n ∧ i = .int .i64 k ∧ w = wr ∧ ∀ j (h : j < l.length), j < k → manyT l[j] = false) (fun i _ => n - (intOf i).toNat)
    case atStart => exact ⟨0, by omega, rfl, rfl, fun j _ h => absurd h (Nat.not_lt_zero _)⟩
    case round =>
      obtain ⟨k, hk, rfl, rfl, hno⟩ := hrel
      have HNO := Lib.hid hno
      clear hno
      by_cases hlt : k < n
      rotate_left
      · obtain rfl : n = k := by omega
        have HV := Lib.hid (show R = false by
          rw [← HRA.out, List.any_eq_false]
          intro t ht
          obtain ⟨j, hj, rfl⟩ := List.mem_iff_getElem.1 ht
          rw [HNO.out j hj (by rw [← HLN.out]; exact hj)]; simp)
        go_wp2_with fail
        go_ret
        exact ⟨by rw [HV.out]; rfl, Below.refl _ _⟩
      have hkl : k < l.length := by rw [HLN.out]; exact hlt
      obtain ⟨b, off, rfl, hb, hc⟩ := HA.out (by omega)
      have hat := hc k hkl
      unfold TkV.enc at hat
      obtain ⟨t0, t1, t2⟩ := hat.c3
      have HM := Lib.hid (List.getElem_mem hkl)
      obtain ⟨hf1, hf2, _⟩ := HFF.out _ HM.out
      have HNX := Lib.hid (show manyT l[k] = false → ∀ j (h : j < l.length), j < k + 1 → manyT l[j] = false from fun h j hj hjk => by
        rcases Nat.lt_succ_iff_lt_or_eq.1 hjk with h2 | h2
        · exact HNO.out j hj h2
        · subst h2; exact h)
      have HMT := Lib.hid (show manyT l[k] = true → R = true from fun h => by rw [← HRA.out]; exact List.any_eq_true.2 ⟨_, HM.out, h⟩)
      generalize l[k] = tk at *
      clear HM hc hat
      obtain ⟨ta, tn, tc, tg, tr, tp⟩ := tk
      unfold manyT at HNX HMT
      dsimp only at *
      have hkn : (k : Int) < (n : Int) := by omega
      by_cases h3' : 80 < tn
      · have e1 : decide ((80 : Int) < (tn : Int)) = true := decide_eq_true (by omega)
        have HV := Lib.hid (HMT.out (by rw [decide_eq_true h3']; rfl))
        go_wp2_with fail
        go_ret
        exact ⟨by rw [HV.out]; rfl, Below.refl _ _⟩
      have e1 : decide ((80 : Int) < (tn : Int)) = false := decide_eq_false (by omega)
      by_cases h4 : 40 < tg.size
      · have e2 : decide ((40 : Int) < (tg.size : Int)) = true := decide_eq_true (by omega)
        have HV := Lib.hid (HMT.out (by rw [decide_eq_true h4, Bool.or_true]))
        go_wp2_with fail
        go_ret
        exact ⟨by rw [HV.out]; rfl, Below.refl _ _⟩
      have e2 : decide ((40 : Int) < (tg.size : Int)) = false := decide_eq_false (by omega)
      have HV := Lib.hid (HNX.out (by rw [decide_eq_false h3', decide_eq_false h4]; rfl))
      go_wp2_with fail
      go_roundw
      case rel => exact ⟨k + 1, by omega, by go_num, by first | rfl | trivial, HV.out⟩
      case measure => simp [intOf]; omega
  · have d1 : decide ((N : Int) < (n : Int)) = false := decide_eq_false (by omega)
    go_enter Tryz.func51, Tryz.ntmps51
    go_wp2_with fail
    clear d3
    go_loopw [5] (fun i wr => ∃ k : Nat, k ≤ n ∧ i = .int .i64 k ∧ w = wr ∧ ∀ j (h : j < l.length), j < k → manyT l[j] = false) (fun i _ => n - (intOf i).toNat)
    case atStart => exact ⟨0, by omega, rfl, rfl, fun j _ h => absurd h (Nat.not_lt_zero _)⟩
    case round =>
      obtain ⟨k, hk, rfl, rfl, hno⟩ := hrel
      have HNO := Lib.hid hno
      clear hno
      by_cases hlt : k < n
      rotate_left
      · obtain rfl : n = k := by omega
        have HV := Lib.hid (show R = false by
          rw [← HRA.out, List.any_eq_false]
          intro t ht
          obtain ⟨j, hj, rfl⟩ := List.mem_iff_getElem.1 ht
          rw [HNO.out j hj (by rw [← HLN.out]; exact hj)]; simp)
        go_wp2_with fail
        go_ret
        exact ⟨by rw [HV.out]; rfl, Below.refl _ _⟩
      have hkl : k < l.length := by rw [HLN.out]; exact hlt
      obtain ⟨b, off, rfl, hb, hc⟩ := HA.out (by omega)
      have hat := hc k hkl
      unfold TkV.enc at hat
      obtain ⟨t0, t1, t2⟩ := hat.c3
      have HM := Lib.hid (List.getElem_mem hkl)
      obtain ⟨hf1, hf2, _⟩ := HFF.out _ HM.out
      have HNX := Lib.hid (show manyT l[k] = false → ∀ j (h : j < l.length), j < k + 1 → manyT l[j] = false from fun h j hj hjk => by
        rcases Nat.lt_succ_iff_lt_or_eq.1 hjk with h2 | h2
        · exact HNO.out j hj h2
        · subst h2; exact h)
      have HMT := Lib.hid (show manyT l[k] = true → R = true from fun h => by rw [← HRA.out]; exact List.any_eq_true.2 ⟨_, HM.out, h⟩)
      generalize l[k] = tk at *
      clear HM hc hat
      obtain ⟨ta, tn, tc, tg, tr, tp⟩ := tk
      unfold manyT at HNX HMT
      dsimp only at *
      have hkn : (k : Int) < (n : Int) := by omega
      by_cases h3' : 80 < tn
      · have e1 : decide ((80 : Int) < (tn : Int)) = true := decide_eq_true (by omega)
        have HV := Lib.hid (HMT.out (by rw [decide_eq_true h3']; rfl))
        go_wp2_with fail
        go_ret
        exact ⟨by rw [HV.out]; rfl, Below.refl _ _⟩
      have e1 : decide ((80 : Int) < (tn : Int)) = false := decide_eq_false (by omega)
      by_cases h4 : 40 < tg.size
      · have e2 : decide ((40 : Int) < (tg.size : Int)) = true := decide_eq_true (by omega)
        have HV := Lib.hid (HMT.out (by rw [decide_eq_true h4, Bool.or_true]))
        go_wp2_with fail
        go_ret
        exact ⟨by rw [HV.out]; rfl, Below.refl _ _⟩
      have e2 : decide ((40 : Int) < (tg.size : Int)) = false := decide_eq_false (by omega)
      have HV := Lib.hid (HNX.out (by rw [decide_eq_false h3', decide_eq_false h4]; rfl))
      go_wp2_with fail
      go_roundw
      case rel => exact ⟨k + 1, by omega, by go_num, by first | rfl | trivial, HV.out⟩
      case measure => simp [intOf]; omega
end Go.Proofs.YtahpdkkpnkhnhaaGreatDoor
/- Plain: all orders of tasks, and the first of the least length. -/
namespace Go.Proofs.YtahpdkkpnkhnhaaGreatDoor
open Go Go.Proofs Go.RowKit Go.Shelf
def numsI (n : Nat) : List Int := (List.range n).map fun k : Nat => (k : Int)
def kidsO (n : Nat) (l : List Int) : List (List Int) := ((numsI n).filter fun x => !l.contains x).map fun x => l ++ [x]
def extO (n : Nat) : Nat → List Int → List (List Int)
  | 0, l => [l]
  | r + 1, l => (kidsO n l).flatMap (extO n r)
def levO (n : Nat) : Nat → List (List Int)
  | 0 => [[]]
  | k + 1 => (levO n k).flatMap (kidsO n)
theorem lev_ext (n : Nat) : ∀ k r, (levO n k).flatMap (extO n r) = extO n (k + r) []
  | 0, r => by simp [levO]
  | k + 1, r => by
    show ((levO n k).flatMap (kidsO n)).flatMap (extO n r) = _
    rw [List.flatMap_assoc]
    have := lev_ext n k (r + 1)
    rw [show k + 1 + r = k + (r + 1) by omega, ← this]
    rfl
theorem lev_all (n k : Nat) : levO n k = extO n k [] := by
  have := lev_ext n k 0
  rw [Nat.add_zero] at this
  rw [← this]
  show levO n k = (levO n k).flatMap fun l => [l]
  rw [List.flatMap_singleton']
theorem numsI_len (n : Nat) : (numsI n).length = n := by simp [numsI]
theorem numsI_at (n k : Nat) (h : k < n) : (numsI n)[k]'(by rw [numsI_len]; exact h) = (k : Int) := by simp [numsI]
theorem mem_numsI {n : Nat} {x : Int} : x ∈ numsI n ↔ 0 ≤ x ∧ x < n := by
  unfold numsI
  rw [List.mem_map]
  constructor
  · rintro ⟨k, hk, rfl⟩
    have := List.mem_range.1 hk
    omega
  · rintro ⟨h1, h2⟩
    exact ⟨x.toNat, List.mem_range.2 (by omega), by omega⟩
structure OrdK (n k : Nat) (l : List Int) : Prop where
  len : l.length = k
  ins : ∀ x ∈ l, 0 ≤ x ∧ x < n
  nd : l.Nodup
theorem OrdK.nil (n : Nat) : OrdK n 0 [] := ⟨rfl, fun x h => (by cases h), List.nodup_nil⟩
theorem OrdK.snoc {n k : Nat} {l : List Int} (h : OrdK n k l) {x : Int} (hx : 0 ≤ x ∧ x < n) (hc : x ∉ l) : OrdK n (k + 1) (l ++ [x]) := by
  refine ⟨by rw [List.length_append, h.len]; rfl, fun y hy => ?_, ?_⟩
  · rcases List.mem_append.1 hy with hy | hy
    · exact h.ins y hy
    · rw [List.mem_singleton] at hy; subst hy; exact hx
  · rw [List.nodup_append]
    exact ⟨h.nd, by simp, fun a ha b hb e => by rw [List.mem_singleton] at hb; subst hb; subst e; exact hc ha⟩
theorem OrdK.kid {n k : Nat} {l l' : List Int} (h : OrdK n k l) (hl : l' ∈ kidsO n l) : OrdK n (k + 1) l' := by
  unfold kidsO at hl
  obtain ⟨x, hx, rfl⟩ := List.mem_map.1 hl
  obtain ⟨h1, h2⟩ := List.mem_filter.1 hx
  exact h.snoc (mem_numsI.1 h1) (by simpa using h2)
theorem lev_ord (n : Nat) : ∀ k, ∀ l ∈ levO n k, OrdK n k l
  | 0, l, hl => by
    simp only [levO, List.mem_singleton] at hl
    subst hl
    exact OrdK.nil n
  | k + 1, l, hl => by
    obtain ⟨l', h1, h2⟩ := List.mem_flatMap.1 hl
    exact (lev_ord n k l' h1).kid h2
theorem lev_mem {n : Nat} : ∀ {k : Nat} {l : List Int}, OrdK n k l → l ∈ levO n k
  | 0, l, h => by
    have := List.eq_nil_of_length_eq_zero h.len
    subst this
    simp [levO]
  | k + 1, l, h => by
    have hne : l ≠ [] := by intro e; have := h.len; rw [e] at this; cases this
    have e := List.dropLast_concat_getLast hne
    obtain ⟨l', x, rfl⟩ : ∃ l' x, l = l' ++ [x] := ⟨l.dropLast, l.getLast hne, e.symm⟩
    have hnd := List.nodup_append.1 h.nd
    refine List.mem_flatMap.2 ⟨l', lev_mem ⟨?_, fun y hy => h.ins y (by simp [hy]), hnd.1⟩, ?_⟩
    · have := h.len; rw [List.length_append] at this; simpa using this
    · unfold kidsO
      refine List.mem_map.2 ⟨x, List.mem_filter.2 ⟨mem_numsI.2 (h.ins x (by simp)), ?_⟩, rfl⟩
      have : x ∉ l' := fun hx => hnd.2.2 x hx x (by simp) rfl
      simpa using this
theorem OrdK.le {n k : Nat} {l : List Int} (h : OrdK n k l) : k ≤ n := by
  have h1 : (l.map Int.toNat).Nodup := by
    rw [List.nodup_iff_pairwise_ne, List.pairwise_map]
    refine List.Pairwise.imp_of_mem ?_ (List.nodup_iff_pairwise_ne.1 h.nd)
    intro a b ha hb hab e
    have := h.ins a ha
    have := h.ins b hb
    exact hab (by omega)
  have h2 : (l.map Int.toNat).length ≤ (List.range n).length := h1.length_le_of_subset fun x hx => by
    obtain ⟨y, hy, rfl⟩ := List.mem_map.1 hx
    have := h.ins y hy
    exact List.mem_range.2 (by omega)
  have := h.len
  simp at h2
  omega
def updO (f : List Int → Int) (s : List Int × Int) (l : List Int) : List Int × Int := if s.2 < 0 ∨ f l < s.2 then (l, f l) else s
def bestO (f : List Int → Int) (L : List (List Int)) : List Int × Int := L.foldl (updO f) ([], -1)
theorem fold_ext (f : List Int → Int) (n r : Nat) (l : List Int) (s : List Int × Int) : (extO n (r + 1) l).foldl (updO f) s = (kidsO n l).foldl (fun s l' => (extO n r l').foldl (updO f) s) s := by
  show ((kidsO n l).flatMap (extO n r)).foldl (updO f) s = _
  generalize kidsO n l = K
  induction K generalizing s with
  | nil => rfl
  | cons a K ih => rw [List.flatMap_cons, List.foldl_append, ih]; rfl
structure BestK (f : List Int → Int) (L : List (List Int)) (s : List Int × Int) : Prop where
  none : L = [] → s = ([], -1)
  some : L ≠ [] → s.1 ∈ L ∧ s.2 = f s.1 ∧ ∀ l ∈ L, s.2 ≤ f l
theorem bestK (f : List Int → Int) (L : List (List Int)) (h0 : ∀ l ∈ L, 0 ≤ f l) : BestK f L (bestO f L) := by
  have key : ∀ (L2 L1 : List (List Int)) (s : List Int × Int), (∀ l ∈ L1 ++ L2, 0 ≤ f l) → BestK f L1 s → BestK f (L1 ++ L2) (L2.foldl (updO f) s) := by
    intro L2
    induction L2 with
    | nil => intro L1 s _ h; rw [List.append_nil]; exact h
    | cons a L2 ih =>
      intro L1 s hp h
      have e : L1 ++ a :: L2 = (L1 ++ [a]) ++ L2 := by simp
      rw [e, List.foldl_cons]
      refine ih (L1 ++ [a]) _ (by rw [← e]; exact hp) ⟨fun h => by simp at h, fun _ => ?_⟩
      have ha := hp a (by simp)
      unfold updO
      by_cases hL : L1 = []
      · have hs := h.none hL
        subst hL hs
        rw [if_pos (.inl (by show (-1 : Int) < 0; omega))]
        refine ⟨by simp, rfl, fun l hl => ?_⟩
        simp at hl; subst hl; exact Int.le_refl _
      · obtain ⟨h1, h2, h3⟩ := h.some hL
        have hs0 := hp s.1 (by simp [h1])
        by_cases hc : f a < s.2
        · rw [if_pos (.inr hc)]
          refine ⟨by simp, rfl, fun l hl => ?_⟩
          rcases List.mem_append.1 hl with hl | hl
          · have := h3 l hl; show f a ≤ f l; omega
          · rw [List.mem_singleton] at hl; subst hl; exact Int.le_refl _
        · rw [if_neg (by omega)]
          refine ⟨by simp [h1], h2, fun l hl => ?_⟩
          rcases List.mem_append.1 hl with hl | hl
          · exact h3 l hl
          · rw [List.mem_singleton] at hl; subst hl; omega
  have := key L [] ([], -1) (by simpa using h0) ⟨fun _ => rfl, fun h => absurd rfl h⟩
  simpa [bestO] using this
noncomputable def stO (p : Pl) (ts : List Tk) : List Int := Classical.choose (sched_ex p ts ts.length)
theorem stO_len (p : Pl) (ts : List Tk) : (stO p ts).length = ts.length := (Classical.choose_spec (sched_ex p ts ts.length)).1
theorem stO_R (p : Pl) (ts : List Tk) : SchedR p ts (stO p ts) := (Classical.choose_spec (sched_ex p ts ts.length)).2
theorem stO_eq {p : Pl} {ts : List Tk} {outs : List Int} (h : SchedR p ts outs) (hl : outs.length = ts.length) : outs = stO p ts := h.unique (stO_R p ts) (hl.trans (stO_len p ts).symm)
noncomputable def lenF (p : Pl) (ts : List Tk) : Int := lenT p ts (stO p ts) ts.length
def ordT (ts : List Tk) (l : List Int) : List Tk := l.map fun k => ts.getD k.toNat tk0
noncomputable def lenO (p : Pl) (ts : List Tk) (l : List Int) : Int := lenF p (ordT ts l)
theorem ordT_len (ts : List Tk) (l : List Int) : (ordT ts l).length = l.length := by simp [ordT]
theorem ordT_mem {ts : List Tk} {l : List Int} (h : ∀ x ∈ l, 0 ≤ x ∧ x < ts.length) : ∀ t ∈ ordT ts l, t ∈ ts := by
  intro t ht
  obtain ⟨k, hk, rfl⟩ := List.mem_map.1 ht
  have := h k hk
  rw [tkGet (by omega)]
  exact List.getElem_mem _
end Go.Proofs.YtahpdkkpnkhnhaaGreatDoor
/- Plain: the least starts do not meet, and none can be earlier; the best order. -/
namespace Go.Proofs.YtahpdkkpnkhnhaaGreatDoor
open Go Go.Proofs Go.RowKit Go.Shelf
structure TsOk (p : Pl) (ts : List Tk) : Prop where
  pk : OkP p
  n : ts.length ≤ 16
  t : ∀ t ∈ ts, OkT p t
  r : ∀ t ∈ ts, 1 ≤ t.run
  d : ∀ t ∈ ts, t.path.Nodup
theorem TsOk.of {p : Pl} {ts : List Tk} (h : ckTasks p ts = 0) : TsOk p ts := by
  obtain ⟨h1, h2, h3⟩ := ckTasks_ok h
  refine ⟨h1, h2, fun t ht => (ckTk_ok (h3 t ht)).1, fun t ht => (ckTk_ok (h3 t ht)).2.2.2, fun t ht => ?_⟩
  exact ((pathB_iff p t.path).1 (ckTk_ok (h3 t ht)).2.1).2.2.2.1
theorem ordT_nums (ts : List Tk) : ordT ts (numsI ts.length) = ts := by
  refine List.ext_getElem (by rw [ordT_len, numsI_len]) fun k h1 h2 => ?_
  have e : (ordT ts (numsI ts.length))[k] = ts.getD ((numsI ts.length)[k]'(by rw [numsI_len]; exact h2)).toNat tk0 := by simp only [ordT, List.getElem_map]
  rw [e, numsI_at _ _ h2, Int.toNat_natCast, tkGet h2]
theorem ord_nums (n : Nat) : OrdK n n (numsI n) := by
  refine ⟨numsI_len n, fun x hx => mem_numsI.1 hx, ?_⟩
  unfold numsI
  rw [List.nodup_iff_pairwise_ne, List.pairwise_map]
  refine (List.nodup_iff_pairwise_ne.1 List.nodup_range).imp ?_
  intro a b h e
  omega
theorem lenF_nn {p : Pl} {ts : List Tk} (h : TsOk p ts) : 0 ≤ lenF p ts ∧ lenF p ts ≤ 1010000000 := by
  have hb := sched_bd h.pk h.t (by rw [stO_len]; omega) (stO_R p ts)
  have h16 := h.n
  refine lenT_bd h.pk (fun k hk => by rw [tkGet hk]; exact h.t _ (List.getElem_mem _)) (fun k hk => ?_) ts.length (Nat.le_refl _)
  have := hb k (by rw [stO_len]; exact hk)
  omega
theorem TsOk.sub {p : Pl} {ts us : List Tk} (h : TsOk p ts) (hl : us.length ≤ 16) (hs : ∀ t ∈ us, t ∈ ts) : TsOk p us :=
  ⟨h.pk, hl, fun t ht => h.t t (hs t ht), fun t ht => h.r t (hs t ht), fun t ht => h.d t (hs t ht)⟩
theorem TsOk.ord {p : Pl} {ts : List Tk} (h : TsOk p ts) {k : Nat} {l : List Int} (hl : OrdK ts.length k l) : TsOk p (ordT ts l) :=
  h.sub (by rw [ordT_len, hl.len]; have := hl.le; have := h.n; omega) (ordT_mem hl.ins)
structure BestR (p : Pl) (ts : List Tk) (o : List Int) : Prop where
  ord : OrdK ts.length ts.length o
  low : lenF p (ordT ts o) ≤ lenF p ts
theorem best_r {p : Pl} {ts : List Tk} (h : TsOk p ts) : BestR p ts (bestO (lenO p ts) (levO ts.length ts.length)).1 := by
  have hk := bestK (lenO p ts) (levO ts.length ts.length) fun l hl => (lenF_nn (h.ord (lev_ord _ _ l hl))).1
  have hne : levO ts.length ts.length ≠ [] := by
    intro e
    have := lev_mem (ord_nums ts.length)
    rw [e] at this; cases this
  obtain ⟨h1, h2, h3⟩ := hk.some hne
  refine ⟨lev_ord _ _ _ h1, ?_⟩
  have := h3 _ (lev_mem (ord_nums ts.length))
  have e1 : lenO p ts (bestO (lenO p ts) (levO ts.length ts.length)).1 = lenF p (ordT ts (bestO (lenO p ts) (levO ts.length ts.length)).1) := rfl
  have e2 : lenO p ts (numsI ts.length) = lenF p ts := by unfold lenO; rw [ordT_nums]
  omega
structure BmK (U : List (Int × Int × Int)) (z : Int × Int × Int) : Prop where
  sum : z.2.1 = (U.map fun u => u.2.1).sum
  none : U = [] → z = (-1, 0, -1)
  pos : ∀ u ∈ U, 1 ≤ u.2.1
  fst : U ≠ [] → z.1 ∈ U.map (fun u => u.1) ∧ ∀ u ∈ U, z.1 ≤ u.1
  snd : U ≠ [] → z.2.2 ∈ U.map (fun u => u.2.2) ∧ ∀ u ∈ U, z.2.2 ≤ u.2.2
theorem perm_sum {a b : List Int} (h : a.Perm b) : a.sum = b.sum := by
  induction h with
  | nil => rfl
  | cons x _ ih => rw [List.sum_cons, List.sum_cons, ih]
  | swap x y l => simp only [List.sum_cons]; omega
  | trans _ _ h1 h2 => exact h1.trans h2
theorem BmK.unique {U V : List (Int × Int × Int)} {z y : Int × Int × Int} (h : BmK U z) (h' : BmK V y) (hp : U.Perm V) : z = y := by
  by_cases hU : U = []
  · subst hU
    have := hp.symm.eq_nil
    subst this
    rw [h.none rfl, h'.none rfl]
  · have hV : V ≠ [] := fun e => hU (by subst e; exact hp.eq_nil)
    obtain ⟨a1, a2⟩ := h.fst hU
    obtain ⟨b1, b2⟩ := h.snd hU
    obtain ⟨c1, c2⟩ := h'.fst hV
    obtain ⟨d1, d2⟩ := h'.snd hV
    obtain ⟨u1, hu1, e1⟩ := List.mem_map.1 a1
    obtain ⟨u2, hu2, e2⟩ := List.mem_map.1 b1
    obtain ⟨v1, hv1, f1⟩ := List.mem_map.1 c1
    obtain ⟨v2, hv2, f2⟩ := List.mem_map.1 d1
    have k1 := a2 v1 (hp.mem_iff.2 hv1)
    have k2 := b2 v2 (hp.mem_iff.2 hv2)
    have k3 := c2 u1 (hp.mem_iff.1 hu1)
    have k4 := d2 u2 (hp.mem_iff.1 hu2)
    have hs : (U.map fun u => u.2.1).sum = (V.map fun u => u.2.1).sum := perm_sum (hp.map _)
    have h5 := h.sum
    have h6 := h'.sum
    obtain ⟨z1, z2, z3⟩ := z
    obtain ⟨y1, y2, y3⟩ := y
    dsimp only at *
    obtain rfl : z1 = y1 := by omega
    obtain rfl : z2 = y2 := by omega
    obtain rfl : z3 = y3 := by omega
    rfl
end Go.Proofs.YtahpdkkpnkhnhaaGreatDoor
/- Walks: the law PathSchedules. -/
namespace Go.Proofs.YtahpdkkpnkhnhaaGreatDoor
open Go Go.Proofs Go.RowKit Go.Shelf
theorem BehPost.sl {w : World} {l : List Int} {e : Ending} {w' : World} (h : BehPost w l e w') (hl : l.length ≤ 1000000000) : ∃ v, e = .returned v ∧ Sl encI 1 w' w'.heap.size v l ∧ Below w.heap.size w w' := by
  obtain ⟨v, rfl, ho, hb⟩ := h
  exact ⟨v, rfl, ho.toSl encI_len hl, hb⟩
end Go.Proofs.YtahpdkkpnkhnhaaGreatDoor
