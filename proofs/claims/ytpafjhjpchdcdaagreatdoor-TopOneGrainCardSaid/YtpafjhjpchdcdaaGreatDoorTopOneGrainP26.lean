/- Lemmas on the way to the law TopOneGrain (part 26): Xs -/
import Derived.Test.YtpafjhjpchdcdaaGreatDoorTopOneGrainP23
import Derived.Test.YtpafjhjpchdcdaaGreatDoorTopOneGrainP25
set_option linter.unusedVariables false
set_option linter.unusedSimpArgs false

/- Walks: the law TopOneGrain. -/
namespace Go.Proofs.YtpafjhjpchdcdaaGreatDoor.Nu
open Go Go.Proofs Go.RowKit Go.Proofs.YtpafjhjpchdcdaaGreatDoor
abbrev binZ : Bn := ⟨.string ⟨#[]⟩, .int .i64 0, .int .i64 0, .int .i64 0, .slice none 0 0⟩
theorem Bn.enc_one (b : Bn) (h : ∀ u ∈ b.enc, u.oneCell' = true) : ∀ u ∈ b.enc, u.oneCell' = true := h
theorem infoBn : (Tryz.prog.info? 37).map (fun i => (i.zero, i.size, i.bytes)) = some (some (.agg #[.string ⟨#[]⟩, .int .i64 0, .int .i64 0, .int .i64 0, .slice none 0 0]), 5, 64) := by kernel_rfl
structure BnK (w : World) (lo : Nat) (B : List Bn) (k : Nat) : Prop where
  at_ : ∀ j (h : j < B.length), j < k → ∃ b, B[j] = bnV (.slice (some ⟨b, 0, none⟩) 1 1) ∧ lo < b ∧ b < w.heap.size ∧ w.cell? ⟨b, 0, none⟩ = some (.slice none 0 0)
theorem BnK.bins {w : World} {lo n : Nat} {B : List Bn} (h : BnK w lo B n) (hn : B.length = n) : BnI w B (List.replicate n []) := by
  refine ⟨by simp [hn], fun k hk => ?_⟩
  obtain ⟨b, e, _, hb, hc⟩ := h.at_ k hk (by omega)
  refine ⟨_, e, ?_⟩
  rw [getD_rep _ _ _ _ (by omega)]
  exact ⟨⟨b, 0, 1, none, 0, 0, rfl, Nat.le_refl _, hb, hc, ⟨Sl.nil _ _ _ _ _ _, by simp, by simp⟩⟩⟩
abbrev P5 (w : World) (gb o : Nat) (b : Bn) : World := ((((w.setCell ⟨gb, o, none⟩ b.f).setCell ⟨gb, o + 1, none⟩ b.c).setCell ⟨gb, o + 2, none⟩ b.r).setCell ⟨gb, o + 3, none⟩ b.s).setCell ⟨gb, o + 4, none⟩ b.v
theorem Own.put5 {w : World} {base gb n : Nat} {B : List Bn} (h : Own Bn.enc 5 37 w base (.slice (some ⟨gb, 0, none⟩) n n) B) (hn : B.length = n) (k : Nat) (hk : k < n) (b : Bn) :
    Own Bn.enc 5 37 (P5 w gb (k * 5) b) base (.slice (some ⟨gb, 0, none⟩) n n) (B.set k b) := by
  have hkB : k < B.length := by omega
  have h0 : Own Bn.enc 5 37 w base (.slice (some ⟨gb, 0, none⟩) n n) (B.set k B[k]) := by rw [List.set_getElem_self]; exact h
  have h1 := Own.setS h0 hn Bn.enc_len hk 0 (by omega) b.f ⟨b.f, B[k].c, B[k].r, B[k].s, B[k].v⟩ rfl
  have h2 := Own.setS h1 hn Bn.enc_len hk 1 (by omega) b.c ⟨b.f, b.c, B[k].r, B[k].s, B[k].v⟩ rfl
  have h3 := Own.setS h2 hn Bn.enc_len hk 2 (by omega) b.r ⟨b.f, b.c, b.r, B[k].s, B[k].v⟩ rfl
  have h4 := Own.setS h3 hn Bn.enc_len hk 3 (by omega) b.s ⟨b.f, b.c, b.r, b.s, B[k].v⟩ rfl
  exact Own.setS h4 hn Bn.enc_len hk 4 (by omega) b.v b rfl
theorem kept_put5 {S : Nat → Prop} {w a : World} (h : Kept S w a) {gb : Nat} (o : Nat) (hS : S gb) (b : Bn) : Kept S w (P5 a gb o b) :=
  ((((h.set _ (.inl hS)).set _ (.inl hS)).set _ (.inl hS)).set _ (.inl hS)).set _ (.inl hS)
theorem below_put5 {B : Nat} {w a : World} (h : Below B w a) {gb : Nat} (o : Nat) (hB : B ≤ gb) (b : Bn) : Below B w (P5 a gb o b) :=
  ((((h.setCell (p := ⟨gb, o, none⟩) hB _).setCell (p := ⟨gb, o + 1, none⟩) hB _).setCell (p := ⟨gb, o + 2, none⟩) hB _).setCell (p := ⟨gb, o + 3, none⟩) hB _).setCell (p := ⟨gb, o + 4, none⟩) hB _
theorem P5_size (w : World) (gb o : Nat) (b : Bn) : (P5 w gb o b).heap.size = w.heap.size := by simp
theorem box_ne_box {w : World} {g g' : Nat} {e e' : TypeId} {vs vs' : List Value} (h : Box w g e vs) (h' : Box w g' e' vs') (hne : e ≠ e') : g ≠ g' := fun hg => by
  subst hg
  have := h.symm.trans h'
  injection this with this
  injection this with _ e2 _
  exact hne e2
theorem BnK.next {w : World} {gb gm k : Nat} {B : List Bn} (h : BnK w gm B k) (hg : gb < gm) (hm : gm < w.heap.size) :
    BnK ((P5 w gb (k * 5) (bnV (.slice (some ⟨w.heap.size, 0, none⟩) 1 1))).alloc (.cells #[.slice none 0 0] 50)) gm (B.set k (bnV (.slice (some ⟨w.heap.size, 0, none⟩) 1 1))) (k + 1) := by
  have hK := kept_put5 (Kept.refl (fun j => j = gb) w) (k * 5) rfl (bnV (.slice (some ⟨w.heap.size, 0, none⟩) 1 1))
  have hz := P5_size w gb (k * 5) (bnV (.slice (some ⟨w.heap.size, 0, none⟩) 1 1))
  generalize P5 w gb (k * 5) (bnV (.slice (some ⟨w.heap.size, 0, none⟩) 1 1)) = u at hK hz
  refine ⟨fun j hj hjk => ?_⟩
  rw [List.length_set] at hj
  by_cases e : j = k
  · subst e
    refine ⟨w.heap.size, by rw [List.getElem_set_self], hm, by simp; omega, ?_⟩
    have hb := Box.newAt u #[.slice none 0 0] 50 hz
    exact hb.cell 0
  · obtain ⟨b, h1, h2, h3, h4⟩ := h.at_ j hj (by omega)
    refine ⟨b, by rw [List.getElem_set_ne (fun h => e h.symm)]; exact h1, h2, by simp; omega, ?_⟩
    have h5 := (Kept.cell hK h3 (o := 0) (by omega)).trans h4
    exact ((alloc_below u (.cells #[.slice none 0 0] 50)).cell (p := ⟨b, 0, none⟩) (by rw [hz]; exact h3)).trans h5
theorem GrI.up {p : Pl} {st : List Sx} {k : Nat} {C : List (List Ly)} {M : List Int} (h : GrI p st (k : Int) C M) : GrI p st ((k + 1 : Nat) : Int) C M :=
  ⟨h.sv, h.run, h.fd, h.bin, h.cl, h.ml, h.one, h.emp, h.same, h.pos, fun x hx => by have := h.le x hx; omega, h.mass⟩
theorem BnI.later {w w' : World} {B : List Bn} {C : List (List Ly)} (h : BnI w B C) (hb : Below w.heap.size w w') : BnI w' B C :=
  ⟨h.len, fun k hk => by obtain ⟨cv, e, hc⟩ := h.at_ k hk; exact ⟨cv, e, hc.later hb⟩⟩
theorem w1_kn {s : ByteArray} (h : isW s 1 = true) : kn s = 1 := by
  rw [kn_eq, isW_no (by omega) h (show 0 < 8 by omega) (by omega), h]; rfl
theorem w0_kn {s : ByteArray} (h : isW s 0 = true) : kn s = 0 := by
  rw [kn_eq, h]; rfl
theorem GrI.lt {p : Pl} {st : List Sx} {k : Nat} {C : List (List Ly)} {M : List Int} (h : GrI p st (k : Int) C M) (hk : k ≤ 8) (x : Nat) (hx : x < C.length) : (C.getD x []).length ≤ 1 ∧ ∀ y ∈ C.getD x [], y.m < 10000 := by
  rw [h.cl] at hx
  refine ⟨h.one x hx, fun y hy => ?_⟩
  have h1 := h.one x hx
  have h2 := h.le x hx
  generalize C.getD x [] = A at *
  match A, h1 with
  | [a], _ =>
    obtain rfl := List.mem_singleton.1 hy
    simp only [sumM] at h2
    omega
theorem BnI.put {w w' : World} {B : List Bn} {C : List (List Ly)} (h : BnI w B C) {g gm : Nat} (hB : Box w g 37 (B.flatMap Bn.enc)) {M : List Int} (hM : Box w gm 3 (M.flatMap encI)) (hk : Kept (InS g gm) w w')
    (h1 : ∀ k, k < C.length → (C.getD k []).length ≤ 1 ∧ ∀ x ∈ C.getD k [], x.m < 10000) {la : Nat} (hla : la < C.length) {cv : Value} {x : Ly} (hx : CeR w cv [x]) (hm : x.m < 10000) : BnI w' (B.set la (bnV cv)) (C.set la [x]) := by
  refine ⟨by rw [List.length_set, List.length_set]; exact h.len, fun k hk' => ?_⟩
  rw [List.length_set] at hk'
  rw [getD_setN _ _ _ _ _ hla]
  by_cases e : la = k
  · subst e
    rw [if_pos rfl]
    exact ⟨cv, List.getElem_set_self _, hx.apartB (by simp) (fun y hy => by obtain rfl := List.mem_singleton.1 hy; exact hm) h hB hM hk⟩
  · rw [if_neg e]
    obtain ⟨cv', e', hc⟩ := h.at_ k hk'
    have h2 := h1 k (by have := h.len; omega)
    exact ⟨cv', by rw [List.getElem_set_ne e]; exact e', hc.apartB h2.1 h2.2 h hB hM hk⟩
theorem empty6 (w : World) (v1 v2 : Value) (p : Pl) (hw : WdR w) (hv : PlR w w.heap.size v1 v2 p) (hck : ckPlant p = 0) {n : Nat} (hn : p.ms.length = n) :
    Calls Tryz.prog 6 #[.agg #[v1, v2]] w fun e w' => ∃ a c, e = .returned (.tuple #[.slice a n c, .int .i64 0]) ∧ Own Sx.enc 3 58 w' w.heap.size (.slice a n c) (emptyS n) ∧ Below w.heap.size w w' := by
  refine (empty36 w v1 v2 p hw hv).mono ?_
  rintro e w' ⟨v, rfl, ho, hb⟩
  rw [hck, if_neg (by simp), hn] at ho
  rw [hck]
  obtain ⟨a, c, rfl⟩ := ho.shape
  have : (emptyS n).length = n := by simp [emptyS]
  rw [this] at ho ⊢
  exact ⟨a, c, rfl, ho, hb⟩
theorem start10 (w : World) (v1 v2 u y : Value) (g : ByteArray) (p : Pl) (st : List Sx) (l : List Int) (hw : WdR w) (hv : PlR w w.heap.size v1 v2 p) (hu : Sl Sx.enc 3 w w.heap.size u st) (hs : SzR st) (hx : Sl encI 1 w w.heap.size y l) (hg : g.size ≤ 9223372036854775807) {n : Nat} (hn : st.length = n) {E : Int} (hE : startE p st l g = E) :
    Calls Tryz.prog 10 #[.agg #[v1, v2], u, y, .string g] w fun e w' => ∃ a m c, e = .returned (.tuple #[.slice a m c, .int .i64 E]) ∧ (E = 0 → m = n ∧ Own Sx.enc 3 58 w' w.heap.size (.slice a m c) (startTo p l g st l.length)) ∧ Below w.heap.size w w' := by
  refine (start26 w v1 v2 u y g p st l hw hv hu hs hx hg).mono ?_
  rintro e w' ⟨v, rfl, ho, hb⟩
  rw [hE] at ho ⊢
  obtain ⟨a, c, rfl⟩ := ho.shape
  refine ⟨a, _, c, rfl, fun h0 => ?_, hb⟩
  subst h0
  rw [if_neg (by simp)] at ho ⊢
  exact ⟨by rw [startTo_len]; exact hn, ho⟩
theorem clean11 (w : World) (v1 v2 u y : Value) (p : Pl) (st : List Sx) (l : List Int) (hw : WdR w) (hv : PlR w w.heap.size v1 v2 p) (hu : Sl Sx.enc 3 w w.heap.size u st) (hs : SzR st) (hx : Sl encI 1 w w.heap.size y l) {n : Nat} (hn : st.length = n) (hE : cleanE p st l = 0) :
    Calls Tryz.prog 11 #[.agg #[v1, v2], u, y] w fun e w' => ∃ a c, e = .returned (.tuple #[.slice a n c, .int .i64 0]) ∧ Own Sx.enc 3 58 w' w.heap.size (.slice a n c) (stopTo p l true st l.length) ∧ Below w.heap.size w w' := by
  refine (clean45 w v1 v2 u y p st l hw hv hu hs hx).mono ?_
  rintro e w' ⟨v, rfl, ho, hb⟩
  rw [hE, if_neg (by simp)] at ho
  rw [hE]
  obtain ⟨a, c, rfl⟩ := ho.shape
  rw [stopTo_len, hn] at ho ⊢
  exact ⟨a, c, rfl, ho, hb⟩
set_option maxRecDepth 100000 in
set_option maxHeartbeats 4000000 in
theorem grain3_main (w : World) (hw : TbR w) (hwd : WdR w) (a1 a2 a3 : Option Addr) (n1 n2 n3 c1 c2 c3 : Nat) (p : Pl) (ls : List RlV) (hp : PlR w w.heap.size (.slice a1 n1 c1) (.slice a2 n2 c2) p) (hf : fewB p 8 = true) (h20 : n2 ≤ 20) (hn3 : n3 ≤ 8) (hls : Sl RlV.enc 3 w w.heap.size (.slice a3 n3 c3) ls) (hrl : ∀ t ∈ ls, RlF w w.heap.size t) :
    Calls Tryz.prog 3 #[.agg #[.slice a1 n1 c1, .slice a2 n2 c2], .slice a3 n3 c3] w (Ret (.bool true) w) := by
  have hck : ckPlant p = 0 := by unfold fewB at hf; simp only [Bool.and_eq_true, beq_iff_eq] at hf; exact hf.2
  have hle8 : p.ms.length ≤ 8 := by unfold fewB at hf; simp only [Bool.and_eq_true, decide_eq_true_eq] at hf; omega
  have hnp : p.ms.length = n1 := by obtain ⟨⟨a, c, e, _⟩, _⟩ := id hp; injection e with _ e _; exact e.symm
  have hnl : ls.length = n3 := by obtain ⟨a, c, e, _⟩ := id hls; injection e with _ e _; exact e.symm
  have HR := Lib.hid (fun (w1 : World) (hb : Below w.heap.size w w1) => routeRuns5 w1 (hw.later hb) (hwd.later hb))
  have HTB := Lib.hid (fun (w1 : World) (hb : Below w.heap.size w w1) => hw.later hb)
  have HF := Lib.hid (fun (w1 : World) (hb : Below w.heap.size w w1) => (by
    have h := few67 w1 (.slice a1 n1 c1) (.slice a2 n2 c2) p 8 (hp.later hb)
    rwa [hf] at h : Calls Tryz.prog 4 #[.agg #[.slice a1 n1 c1, .slice a2 n2 c2], .int .i64 8] w1 (Ret (.bool true) w1)))
  have HE := Lib.hid (fun (w1 : World) (hb : Below w.heap.size w w1) => empty6 w1 (.slice a1 n1 c1) (.slice a2 n2 c2) p (hwd.later hb) (hp.later hb) hck hnp)
  have HCP := Lib.hid (fun (w1 : World) (hb : Below w.heap.size w w1) (v : Value) (l : List Int) (hv : Sl encI 1 w1 w1.heap.size v l) => checkPath22 w1 (.slice a1 n1 c1) (.slice a2 n2 c2) v p l (hp.later hb) hv)
  have HST := Lib.hid (fun (w1 : World) (hb : Below w.heap.size w w1) (u y : Value) (g : ByteArray) (st : List Sx) (l : List Int) (E : Int) (hu : Sl Sx.enc 3 w1 w1.heap.size u st) (hs : SzR st) (hx : Sl encI 1 w1 w1.heap.size y l) (hg : g.size ≤ 9223372036854775807) (hn : st.length = n1) (hE : startE p st l g = E) => start10 w1 (.slice a1 n1 c1) (.slice a2 n2 c2) u y g p st l (hwd.later hb) (hp.later hb) hu hs hx hg hn hE)
  have HCL := Lib.hid (fun (w1 : World) (hb : Below w.heap.size w w1) (u y : Value) (st : List Sx) (l : List Int) (hu : Sl Sx.enc 3 w1 w1.heap.size u st) (hs : SzR st) (hx : Sl encI 1 w1 w1.heap.size y l) (hn : st.length = n1) (hE : cleanE p st l = 0) => clean11 w1 (.slice a1 n1 c1) (.slice a2 n2 c2) u y p st l (hwd.later hb) (hp.later hb) hu hs hx hn hE)
  have HPL := Lib.hid (fun (w1 : World) (hb : Below w.heap.size w w1) => hp.later hb)
  have HLS := Lib.hid (fun (w1 : World) (hb : Below w.heap.size w w1) => hls.later hb)
  have HRL := Lib.hid (fun (t : RlV) (ht : t ∈ ls) => hrl t ht)
  have HGS := Lib.hid (hnp ▸ GrI.start p)
  have HNP := Lib.hid hnp
  have HNL := Lib.hid hnl
  have HCK := Lib.hid hck
  rw [hnp] at hle8
  have HLE := Lib.hid hle8
  have d1 : decide (20 < n2) = false := decide_eq_false (by omega)
  have d1' : decide ((20 : Int) < (n2 : Int)) = false := decide_eq_false (by omega)
  have d2 : decide (8 < n3) = false := decide_eq_false (by omega)
  have d2' : decide ((8 : Int) < (n3 : Int)) = false := decide_eq_false (by omega)
  clear hw hwd hp hf hls hrl hck hnp hnl hle8
  have HB := Lib.hid ((Below.refl w.heap.size w).alloc (Nat.le_refl _) (.cells #[.slice a1 n1 c1, .slice a2 n2 c2] 25))
  have HX := Lib.hid (Box.new w #[.slice a1 n1 c1, .slice a2 n2 c2] 25)
  obtain ⟨x0, x1, xf, xz⟩ := HX.out.v2
  go_enter Tryz.func3, Tryz.ntmps3
  go_wp2_with fail
  refine (HF.out _ HB.out).mono ?_
  rintro e4 w4 ⟨rfl, hb⟩
  replace HB := Lib.hid (HB.out.trans (hb.mono HB.out.size))
  replace HX := Lib.hid (HX.out.later hb)
  clear hb x0 x1 xf xz
  obtain ⟨x0, x1, xf, xz⟩ := HX.out.v2
  go_wp2_with fail
  refine (HE.out _ HB.out).mono ?_
  rintro e5 w5 ⟨a5, c5, rfl, hown, hb⟩
  have HO := Lib.hid (hown.lower HB.out.size)
  clear hown
  replace HB := Lib.hid (HB.out.trans (hb.mono HB.out.size))
  replace HX := Lib.hid (HX.out.later hb)
  clear hb x0 x1 xf xz
  obtain ⟨x0, x1, xf, xz⟩ := HX.out.v2
  clear HF HE
  have hle1 := HLE.out
  go_wp2_with (at_make; first | (refine wpList_mkN Bn.enc 5 Bn.enc_len (by omega) binZ _ (by rfl) 33 37 64 Tryz.underlying33 infoBn (by omega) w.heap.size _ n1 (by omega) (by have := HB.out.size; omega) rfl _ _ rfl .i64 .i64 rfl rfl ?_; intro w6 hown6 hgr; have HG6 := Lib.hid (grown_none_below hgr); have HB6 := Lib.hid (HB.out.trans (HG6.out.mono HB.out.size)); have HO6 := Lib.hid (HO.out.later HG6.out); have HX6 := Lib.hid (HX.out.later HG6.out); have HN6 := Lib.hid hown6; obtain ⟨y0, y1, yf, yz⟩ := HX6.out.v2; clear hown6 hgr x0 x1 xf xz) | (refine wpList_mk1 encI 0 (.int .i64 0) rfl 34 3 8 Tryz.underlying34 infoI (by rfl) (by omega) w.heap.size _ n1 (by omega) (by have := HB6.out.size; omega) rfl _ _ rfl .i64 .i64 rfl rfl ?_; intro w7 hown7 hgr; have HG7 := Lib.hid (grown_none_below hgr); have HB7 := Lib.hid (HB6.out.trans (HG7.out.mono HB6.out.size)); have HO7 := Lib.hid (HO6.out.later HG7.out); have HN7 := Lib.hid (HN6.out.later HG7.out); have HM7 := Lib.hid hown7; have HX7 := Lib.hid (HX6.out.later HG7.out); obtain ⟨z0, z1, zf, zz⟩ := HX7.out.v2; clear hown7 hgr y0 y1 yf yz))
  have hgb1 := (Own.ltN HN6.out).1
  have hgb2 := (Own.ltN HN6.out).2
  have hgm2 := (Own.ltN HM7.out).2
  clear HB HX HO HB6 HX6 HO6 HN6 HG6 HG7 hle1
  obtain ⟨gb, hgb⟩ : ∃ g, w5.heap.size = g := ⟨_, rfl⟩
  rw [hgb] at HN7 hgb1 hgb2 ⊢
  obtain ⟨gm, hgm⟩ : ∃ g, w6.heap.size = g := ⟨_, rfl⟩
  rw [hgm] at HM7 hgb2 hgm2 ⊢
  clear hgb hgm
  have HG1 := Lib.hid hgb1
  have HG2 := Lib.hid hgb2
  clear hgb1 hgb2 hgm2
  go_wp2_with fail
  go_loopw [66] (fun j wr => ∃ k : Nat, k ≤ n1 ∧ j = .int .i64 k ∧ Below w.heap.size w wr ∧ Box wr w.heap.size 25 [.slice a1 n1 c1, .slice a2 n2 c2] ∧ Own Sx.enc 3 58 wr w.heap.size (.slice a5 n1 c5) (emptyS n1) ∧ Own encI 1 3 wr w.heap.size (.slice (some ⟨gm, 0, none⟩) n1 n1) (List.replicate n1 0) ∧ ∃ B, B.length = n1 ∧ Own Bn.enc 5 37 wr w.heap.size (.slice (some ⟨gb, 0, none⟩) n1 n1) B ∧ BnK wr gm B k) (fun j _ => n1 - (intOf j).toNat)
  case atStart => exact ⟨0, Nat.zero_le _, rfl, HB7.out, HX7.out, HO7.out, HM7.out, _, List.length_replicate, HN7.out, ⟨fun j _ h => absurd h (Nat.not_lt_zero _)⟩⟩
  case round =>
    clear HB7 HX7 HO7 HM7 HN7 z0 z1 zf zz
    obtain ⟨k, hk, rfl, hbe, hx, ho, hm, B, hBl, hn, hK⟩ := hrel
    have HB := Lib.hid hbe
    have HX := Lib.hid hx
    have HO := Lib.hid ho
    have HM := Lib.hid hm
    have HN := Lib.hid hn
    have HK := Lib.hid hK
    have HBL := Lib.hid hBl
    clear hbe hx ho hm hn hK hBl
    by_cases hlt : k < n1
    · have hat := Own.atN HN.out HBL.out Bn.enc_len k (by rw [HBL.out]; exact hlt)
      have q0 := hat 0 _ rfl
      have q1 := hat 1 _ rfl
      have q2 := hat 2 _ rfl
      have q3 := hat 3 _ rfl
      have q4 := hat 4 _ rfl
      rw [Nat.add_zero] at q0
      have hfz := fun o => Own.frozenN HN.out HBL.out o
      have hgz := (Own.ltN HN.out).2
      have d3 : decide ((k : Int) < (n1 : Int)) = true := decide_eq_true (by omega)
      clear hat
      have hg1 := HG1.out
      have hg2 := HG2.out
      have hgm := (Own.ltN HM.out).2
      have hKP := kept_put5 (Kept.refl (fun j => j = gb) wr) (k * 5) rfl (bnV (.slice (some ⟨wr.heap.size, 0, none⟩) 1 1))
      have hBX := Own.box HN.out
      have HB2 := Lib.hid ((below_put5 HB.out (k * 5) hg1 (bnV (.slice (some ⟨wr.heap.size, 0, none⟩) 1 1))).alloc (by rw [P5_size]; exact HB.out.size) (.cells #[.slice none 0 0] 50))
      have HX2 := Lib.hid ((HX.out.keeps hKP (box_ne_box HX.out hBX (by decide))).alloc (.cells #[.slice none 0 0] 50))
      have HO2 := Lib.hid ((HO.out.keeps hKP (Own.ne_box HO.out hBX (by decide))).alloc (.cells #[.slice none 0 0] 50))
      have HM2 := Lib.hid ((HM.out.keeps hKP (Own.ne_box HM.out hBX (by decide))).alloc (.cells #[.slice none 0 0] 50))
      have HN2 := Lib.hid ((Own.put5 HN.out HBL.out k hlt (bnV (.slice (some ⟨wr.heap.size, 0, none⟩) 1 1))).alloc (.cells #[.slice none 0 0] 50))
      have HK2 := Lib.hid (HK.out.next hg2 hgm)
      clear hg1 hg2 hgm hKP hBX
      have hle := HLE.out
      go_wp2_with fail
      go_roundw
      case rel => exact ⟨k + 1, by omega, by go_num, HB2.out, HX2.out, HO2.out, HM2.out, _, by rw [List.length_set]; exact HBL.out, HN2.out, HK2.out⟩
      case measure => simp [intOf]; omega
    · obtain rfl : n1 = k := by omega
      have hBN := HK.out.bins HBL.out
      have HBN := Lib.hid hBN
      clear HK hBN
      have d3 : decide ((n1 : Int) < (n1 : Int)) = false := decide_eq_false (by omega)
      go_wp2_with fail
      have hgs := HGS.out
      have HI := Lib.hid HBN.out
      have hgm1 := HG1.out
      go_loopw [5, 77] (fun sv j wr => ∃ (k : Nat) (a : Option Addr) (c : Nat) (st : List Sx) (C : List (List Ly)) (M : List Int) (B : List Bn), k ≤ n3 ∧ sv = .slice a n1 c ∧ j = .int .i64 k ∧ Below w.heap.size w wr ∧ Box wr w.heap.size 25 [.slice a1 n1 c1, .slice a2 n2 c2] ∧ Own Sx.enc 3 58 wr w.heap.size (.slice a n1 c) st ∧ Own encI 1 3 wr w.heap.size (.slice (some ⟨gm, 0, none⟩) n1 n1) M ∧ Own Bn.enc 5 37 wr w.heap.size (.slice (some ⟨gb, 0, none⟩) n1 n1) B ∧ BnI wr B C ∧ GrI p st (k : Int) C M) (fun _ j _ => n3 - (intOf j).toNat)
      case atStart => exact ⟨0, a5, c5, _, _, _, B, Nat.zero_le _, rfl, rfl, HB.out, HX.out, HO.out, HM.out, HN.out, HI.out, HGS.out⟩
      case round =>
        clear HB HX HO HM HN HI HBN HGS hgs HBL
        obtain ⟨k, a, c, st, C, M, B, hk, rfl, rfl, hbe, hx, ho, hm, hn, hi, hg⟩ := hrel
        have HB := Lib.hid hbe
        have HX := Lib.hid hx
        have HO := Lib.hid ho
        have HM := Lib.hid hm
        have HN := Lib.hid hn
        have HI := Lib.hid hi
        have HG := Lib.hid hg
        clear hbe hx ho hm hn hi hg
        by_cases hlt : k < n3
        · have hkl : k < ls.length := by rw [HNL.out]; exact hlt
          have d4 : decide ((k : Int) < (n3 : Int)) = true := decide_eq_true (by omega)
          have hRL := HRL.out ls[k] (List.getElem_mem hkl)
          obtain ⟨a3', c3', e3', -, hA3⟩ := HLS.out wr HB.out
          injection e3' with e1 e2 e3
          obtain ⟨b3, o3, hea, hbb, hcells⟩ := hA3 (by omega)
          rw [← e1] at hea
          subst hea
          obtain ⟨t0, t1, t2⟩ := (hcells k hkl).c3
          clear hcells hA3 e1 e2 e3
          generalize ls[k] = t at *
          obtain ⟨ta, tn, tc, g, m, l⟩ := t
          have HT := Lib.hid hRL
          dsimp only [RlV.enc] at t0 t1 t2
          have htn := hRL.n
          have htg := hRL.g
          have hm0 := hRL.m0
          have hm1 := hRL.m1
          dsimp only at htn htg hm0 hm1
          clear hRL hkl
          have hba := alloc_below wr (.cells #[.slice ta tn tc, .string g, .int .u8 m] 39)
          have HT1 := Lib.hid (Box.new wr #[.slice ta tn tc, .string g, .int .u8 m] 39)
          have HB1 := Lib.hid (HB.out.trans (hba.mono HB.out.size))
          have HX1 := Lib.hid (HX.out.later hba)
          have HO1 := Lib.hid (HO.out.later hba)
          have HM1 := Lib.hid (HM.out.later hba)
          have HN1 := Lib.hid (HN.out.later hba)
          clear hba
          by_cases h10 : 10 < tn
          · have d5 : decide ((10 : Int) < (tn : Int)) = true := decide_eq_true (by omega)
            have d5' : decide (10 < tn) = true := decide_eq_true h10
            clear h10
            go_wp2_with fail
            refine (HR.out _ HB1.out).mono ?_
            rintro e9 w9 ⟨rfl, hb⟩
            have HB9 := Lib.hid (HB1.out.trans (hb.mono HB1.out.size))
            clear hb
            go_wp2_with fail
            go_ret
            exact ⟨rfl, HB9.out⟩
          have d5 : decide ((10 : Int) < (tn : Int)) = false := decide_eq_false (by omega)
          have d5' : decide (10 < tn) = false := decide_eq_false h10
          by_cases h30 : 30 < g.size
          · have d6 : decide ((30 : Int) < (g.size : Int)) = true := decide_eq_true (by omega)
            have d6' : decide (30 < g.size) = true := decide_eq_true h30
            clear h30 h10
            go_wp2_with fail
            refine (HR.out _ HB1.out).mono ?_
            rintro e9 w9 ⟨rfl, hb⟩
            have HB9 := Lib.hid (HB1.out.trans (hb.mono HB1.out.size))
            clear hb
            go_wp2_with fail
            go_ret
            exact ⟨rfl, HB9.out⟩
          have d6 : decide ((30 : Int) < (g.size : Int)) = false := decide_eq_false (by omega)
          have d6' : decide (30 < g.size) = false := decide_eq_false h30
          have HSP := Lib.hid ((HT.out.p (show tn ≤ 10 by omega)).1)
          have HSL := Lib.hid (show l.length = tn from (HT.out.p (show tn ≤ 10 by omega)).2)
          clear h30 h10
          dsimp only at HSP
          obtain ⟨x0, x1, xf, xz⟩ := HX1.out.v2
          obtain ⟨y0, y1, y2, yf, yz⟩ := HT1.out.w3
          obtain ⟨E, hE⟩ : ∃ E, pathE p l = E := ⟨_, rfl⟩
          have HE := Lib.hid hE
          have hcp := HCP.out _ HB1.out (.slice ta tn tc) l (HSP.out.later HB1.out)
          rw [hE] at hcp
          have HC1 := Lib.hid hcp
          clear hE hcp
          go_wp2_with fail
          refine HC1.out.mono ?_
          rintro e8 w8 ⟨rfl, hb⟩
          clear HC1
          have HB2 := Lib.hid (HB1.out.trans (hb.mono HB1.out.size))
          have HX2 := Lib.hid (HX1.out.later hb)
          have HO2 := Lib.hid (HO1.out.later hb)
          have HM2 := Lib.hid (HM1.out.later hb)
          have HN2 := Lib.hid (HN1.out.later hb)
          have HT2 := Lib.hid (HT1.out.later hb)
          have HB2r := Lib.hid ((alloc_below wr (.cells #[.slice ta tn tc, .string g, .int .u8 m] 39)).trans (hb.mono (alloc_below wr (.cells #[.slice ta tn tc, .string g, .int .u8 m] 39)).size))
          clear hb x0 x1 xf xz y0 y1 y2 yf yz
          obtain ⟨x0, x1, xf, xz⟩ := HX2.out.v2
          obtain ⟨y0, y1, y2, yf, yz⟩ := HT2.out.w3
          by_cases hE0 : E = 0
          rotate_left
          · have k0 : (E != 0) = true := by simpa using hE0
            clear hE0
            go_wp2_with fail
            refine (HR.out _ HB2.out).mono ?_
            rintro e9 w9 ⟨rfl, hb⟩
            have HB9 := Lib.hid (HB2.out.trans (hb.mono HB2.out.size))
            clear hb
            go_wp2_with fail
            go_ret
            exact ⟨rfl, HB9.out⟩
          subst hE0
          obtain ⟨qn, hqn⟩ : ∃ q, isName g = q := ⟨_, rfl⟩
          have hnm := refName8 w8 g htg
          rw [hqn] at hnm
          have HNM := Lib.hid hnm
          have HQN := Lib.hid hqn
          clear hnm hqn
          go_wp2_with fail
          refine HNM.out.mono ?_
          rintro e7 w7' ⟨rfl, rfl⟩
          cases qn with
          | false =>
            go_wp2_with fail
            refine (HR.out _ HB2.out).mono ?_
            rintro e9 w9 ⟨rfl, hb⟩
            have HB9 := Lib.hid (HB2.out.trans (hb.mono HB2.out.size))
            clear hb
            go_wp2_with fail
            go_ret
            exact ⟨rfl, HB9.out⟩
          | true =>
          have PV := PaV.of HE.out
          have h2l := PV.two
          rw [HSL.out] at h2l
          obtain ⟨te, rfl⟩ : ∃ e, tn = e + 1 := ⟨tn - 1, by omega⟩
          obtain ⟨fi, hfi, hfx⟩ := PV.at_ 0 (by rw [HSL.out]; omega)
          obtain ⟨la, hla, hlx⟩ := PV.at_ te (by rw [HSL.out]; omega)
          have HLA := Lib.hid (show l.getD (l.length - 1) 0 = (la : Int) by rw [HSL.out]; exact hla)
          have HFI := Lib.hid hfi
          obtain ⟨a', c', e', -, hA⟩ := HSP.out
          injection e' with e1 e2 e3
          obtain ⟨b4, o4, hea, hbb4, hcells⟩ := hA (by rw [HSL.out]; omega)
          rw [← e1] at hea
          subst hea
          have u0 := ((hcells 0 (by rw [HSL.out]; omega)).below HB2.out hbb4).c1
          have u1 := ((hcells te (by rw [HSL.out]; omega)).below HB2.out hbb4).c1
          have g0 : l[0]'(by rw [HSL.out]; omega) = (fi : Int) := by rw [← hfi, List.getD_eq_getElem?_getD, List.getElem?_eq_getElem (by rw [HSL.out]; omega)]; rfl
          have g1 : l[te]'(by rw [HSL.out]; omega) = (la : Int) := by rw [← hla, List.getD_eq_getElem?_getD, List.getElem?_eq_getElem (by rw [HSL.out]; omega)]; rfl
          rw [g0, Nat.zero_mul, Nat.add_zero] at u0
          rw [g1, Nat.mul_one] at u1
          obtain ⟨⟨a', c', e4, -, hA1⟩, -⟩ := HPL.out w8 HB2.out
          injection e4 with e5 e6 e7
          obtain ⟨b1, o1, hea, hbb1, hcm⟩ := hA1 (by omega)
          rw [← e5] at hea
          subst hea
          obtain ⟨v0, v1⟩ := (hcm fi hfx).c2
          obtain ⟨r0, r1⟩ := (hcm la hlx).c2
          have HK0 := Lib.hid (kdA_nat hfx)
          have HK1 := Lib.hid (kdA_nat hlx)
          have hfn : fi < n1 := by rw [← HNP.out]; exact hfx
          have hln : la < n1 := by rw [← HNP.out]; exact hlx
          have hb4 : b4 < w8.heap.size := Nat.lt_of_lt_of_le hbb4 HB2.out.size
          clear hcells hA hcm hA1 g0 g1 e1 e2 e3 e5 e6 e7 hfi hla PV
          generalize p.ms[fi] = mf at *
          generalize p.ms[la] = ml at *
          clear hfx hlx
          obtain ⟨s0, tt0⟩ := mf
          obtain ⟨s1, tt1⟩ := ml
          dsimp only [Mc.enc] at v0 v1 r0 r1 HK0 HK1
          have d7 : decide ((fi : Int) < (n1 : Int)) = true := decide_eq_true (by omega)
          have d8 : decide ((la : Int) < (n1 : Int)) = true := decide_eq_true (by omega)
          obtain ⟨q0, hq0⟩ : ∃ q, (s0.toList == [112, 105, 116]) = q := ⟨_, rfl⟩
          obtain ⟨q1, hq1⟩ : ∃ q, (s1.toList == [98, 105, 110]) = q := ⟨_, rfl⟩
          have HI2 := Lib.hid (HI.out.later HB2r.out)
          have HLEK := Lib.hid (show k < n3 ∧ n3 ≤ 8 from ⟨hlt, hn3⟩)
          go_wp2_with fail
          cases q0 with
          | false =>
            go_quiet (fail)
            have hbq : Below w8.heap.size w8 (w8.drewN nq) := below_drewN (Below.refl _ _) _
            have HB3 := Lib.hid (HB2.out.trans (hbq.mono HB2.out.size))
            have HX3 := Lib.hid (HX2.out.later hbq)
            have HO3 := Lib.hid (HO2.out.later hbq)
            have HM3 := Lib.hid (HM2.out.later hbq)
            have HN3 := Lib.hid (HN2.out.later hbq)
            have HT3 := Lib.hid (HT2.out.later hbq)
            have HI3 := Lib.hid (HI2.out.later hbq)
            generalize w8.drewN nq = w9 at *
            clear hbq x0 x1 xf xz y0 y1 y2 yf yz u0 u1 v0 v1 r0 r1 HB2 HX2 HO2 HM2 HN2 HT2 HI2
            have hng := HLEK.out
            go_wp2_with fail
            go_roundw
            case rel => exact ⟨k + 1, a, c, st, C, M, B, by omega, rfl, by go_num, HB3.out, HX3.out, HO3.out, HM3.out, HN3.out, HI3.out, HG.out.up⟩
            case measure => simp [intOf]; omega
          | true =>
          cases q1 with
          | false =>
            go_quiet (fail)
            have hbq : Below w8.heap.size w8 (w8.drewN nq) := below_drewN (Below.refl _ _) _
            have HB3 := Lib.hid (HB2.out.trans (hbq.mono HB2.out.size))
            have HX3 := Lib.hid (HX2.out.later hbq)
            have HO3 := Lib.hid (HO2.out.later hbq)
            have HM3 := Lib.hid (HM2.out.later hbq)
            have HN3 := Lib.hid (HN2.out.later hbq)
            have HT3 := Lib.hid (HT2.out.later hbq)
            have HI3 := Lib.hid (HI2.out.later hbq)
            generalize w8.drewN nq = w9 at *
            clear hbq x0 x1 xf xz y0 y1 y2 yf yz u0 u1 v0 v1 r0 r1 HB2 HX2 HO2 HM2 HN2 HT2 HI2
            have hng := HLEK.out
            go_wp2_with fail
            go_roundw
            case rel => exact ⟨k + 1, a, c, st, C, M, B, by omega, rfl, by go_num, HB3.out, HX3.out, HO3.out, HM3.out, HN3.out, HI3.out, HG.out.up⟩
            case measure => simp [intOf]; omega
          | true =>
          go_quiet (fail)
          have hbq : Below w8.heap.size w8 (w8.drewN nq) := below_drewN (Below.refl _ _) _
          have HB3 := Lib.hid (HB2.out.trans (hbq.mono HB2.out.size))
          have HX3 := Lib.hid (HX2.out.later hbq)
          have HO3 := Lib.hid (HO2.out.later hbq)
          have HM3 := Lib.hid (HM2.out.later hbq)
          have HN3 := Lib.hid (HN2.out.later hbq)
          have HT3 := Lib.hid (HT2.out.later hbq)
          have HI3 := Lib.hid (HI2.out.later hbq)
          generalize w8.drewN nq = w9 at *
          clear hbq x0 x1 xf xz y0 y1 y2 yf yz u0 u1 v0 v1 r0 r1 HB2 HX2 HO2 HM2 HN2 HT2 HI2
          have HZ0 := Lib.hid (show kn (kdA p (l.getD 0 0)) = 0 by rw [HFI.out, HK0.out]; exact w0_kn hq0)
          have HZ1 := Lib.hid (show kn (kdA p la) = 1 by rw [HK1.out]; exact w1_kn hq1)
          clear hq0 hq1 HK0 HK1
          have hll : B.length = n1 := by rw [HI3.out.len, HG.out.cl, HNP.out]
          obtain ⟨cv, hcv, hce⟩ := HI3.out.at_ la (by rw [hll]; exact hln)
          have hat := Own.atN HN3.out hll Bn.enc_len la (by rw [hll]; exact hln)
          rw [hcv] at hat
          obtain ⟨bc, oc, cc, ac, nc, kc, rfl, -, hbcz, hcc, -⟩ := id hce.ex
          have q0 := hat 0 _ rfl
          have q1 := hat 1 _ rfl
          have q2 := hat 2 _ rfl
          have q3 := hat 3 _ rfl
          have q4 := hat 4 _ rfl
          rw [Nat.add_zero] at q0
          have hgz := (Own.ltN HN3.out).2
          have HCE3 := Lib.hid hce
          have HLL := Lib.hid hll
          clear hce hcv hat hll hcc hbcz
          have hpl : la < p.ms.length := by rw [HNP.out]; exact hln
          have HSU := Lib.hid (show sumM (C.getD la []) ≤ 2048 by have := HG.out.le la hpl; have := HLEK.out; omega)
          have HONE := Lib.hid (HG.out.one la hpl)
          clear hpl
          have hbl : Below w9.heap.size w9 ((w9.alloc (.cells #[.string ⟨#[97]⟩, .string ⟨#[49]⟩] 46)).alloc (.cells #[.string g, .int .i64 (1 + m), .slice (some ⟨w9.heap.size, 0, none⟩) 1 1] 49)) := ((Below.refl _ _).alloc (Nat.le_refl _) _).alloc (by simp) _
          have hsl := sl_litAt (f := Ly.enc) (sz := 3) Ly.enc_len [⟨g, 1 + m, some ⟨w9.heap.size, 0, none⟩, 1⟩] (w9.alloc (.cells #[.string ⟨#[97]⟩, .string ⟨#[49]⟩] 46)) #[.string g, .int .i64 (1 + m), .slice (some ⟨w9.heap.size, 0, none⟩) 1 1] 49 1 (w9.heap.size + 1) (by simp) rfl rfl (by simp)
          have hsh := (sl_litAt (f := encSh) (sz := 2) encSh_len sh1 w9 #[.string ⟨#[97]⟩, .string ⟨#[49]⟩] 46 1 w9.heap.size rfl rfl rfl (by simp [sh1])).later (alloc_below (w9.alloc (.cells #[.string ⟨#[97]⟩, .string ⟨#[49]⟩] 46)) (.cells #[.string g, .int .i64 (1 + m), .slice (some ⟨w9.heap.size, 0, none⟩) 1 1] 49))
          have HLY := Lib.hid (show LyR ((w9.alloc (.cells #[.string ⟨#[97]⟩, .string ⟨#[49]⟩] 46)).alloc (.cells #[.string g, .int .i64 (1 + m), .slice (some ⟨w9.heap.size, 0, none⟩) 1 1] 49)) (.slice (some ⟨w9.heap.size + 1, 0, none⟩) 1 1) [⟨g, 1 + m, some ⟨w9.heap.size, 0, none⟩, 1⟩] from ⟨hsl, fun y hy => by
            obtain rfl := List.mem_singleton.1 hy
            exact ⟨HQN.out, (show (1 : Int) ≤ 1 + m by omega), (show 1 + m ≤ (10000 : Int) by omega)⟩, fun y hy => by
            obtain rfl := List.mem_singleton.1 hy
            exact hsh⟩)
          clear hsl hsh
          have hst := GrI.step HG.out HCK.out HE.out HQN.out HZ0.out HLA.out HZ1.out (⟨g, 1 + m, some ⟨w9.heap.size, 0, none⟩, 1⟩ : Ly) rfl (show (1 : Int) ≤ 1 + m by omega) (show 1 + m ≤ (256 : Int) by omega)
          have HSTEP := Lib.hid hst
          clear hst
          have HB4 := Lib.hid (HB3.out.trans (hbl.mono HB3.out.size))
          have HX4 := Lib.hid (HX3.out.later hbl)
          have HO4 := Lib.hid (HO3.out.later hbl)
          have HM4 := Lib.hid (HM3.out.later hbl)
          have HN4 := Lib.hid (HN3.out.later hbl)
          have HT4 := Lib.hid (HT3.out.later hbl)
          have HI4 := Lib.hid (HI3.out.later hbl)
          have HCE4 := Lib.hid (HCE3.out.later hbl)
          clear hbl HB3 HO3 HM3 HN3 HI3
          obtain ⟨x0, x1, xf, xz⟩ := HX3.out.v2
          obtain ⟨y0, y1, y2, yf, yz⟩ := HT3.out.w3
          go_wp2_with fail
          refine (fill9 _ (HTB.out _ HB4.out) 10000 (.slice (some ⟨bc, oc, none⟩) 1 cc) (C.getD la []) [⟨g, 1 + m, some ⟨w9.heap.size, 0, none⟩, 1⟩] (by decide) (by decide) HCE4.out HONE.out _ 1 HLY.out rfl (by have := HSU.out; show sumM (C.getD la []) + ((1 + m) + 0) ≤ 10000; omega)).mono ?_
          rintro e10 w10 ⟨hb, hfill⟩
          have HFILL := Lib.hid hfill
          clear hfill
          have HB5 := Lib.hid (HB4.out.trans (hb.mono HB4.out.size))
          have HX5 := Lib.hid (HX4.out.later hb)
          have HO5 := Lib.hid (HO4.out.later hb)
          have HM5 := Lib.hid (HM4.out.later hb)
          have HN5 := Lib.hid (HN4.out.later hb)
          have HT5 := Lib.hid (HT4.out.later hb)
          have HI5 := Lib.hid (HI4.out.later hb)
          clear hb x0 x1 xf xz y0 y1 y2 yf yz q0 q1 q2 q3 q4 HB4 HX4 HO4 HM4 HN4 HT4 HI4 HCE4 HLY HCE3 HX3 HT3
          rcases HSTEP.out with ⟨hmx, hsE⟩ | ⟨hmx, hsE, hcE, hsz, hnext⟩
          · rcases HFILL.out with ⟨-, rfl⟩ | ⟨hm', -⟩
            rotate_left
            · rw [hmx] at hm'; cases hm'
            have hba := alloc_below w10 (.cells #[.string ⟨#[]⟩, .int .i64 0, .int .i64 0, .int .i64 0, .slice none 0 0] 37)
            have HB6 := Lib.hid (HB5.out.trans (hba.mono HB5.out.size))
            have HX6 := Lib.hid (HX5.out.later hba)
            have HO6 := Lib.hid (HO5.out.later hba)
            have HM6 := Lib.hid (HM5.out.later hba)
            have HN6 := Lib.hid (HN5.out.later hba)
            have HT6 := Lib.hid (HT5.out.later hba)
            have HI6 := Lib.hid (HI5.out.later hba)
            clear hba
            obtain ⟨x0, x1, xf, xz⟩ := HX5.out.v2
            obtain ⟨y0, y1, y2, yf, yz⟩ := HT5.out.w3
            have hstl : st.length = n1 := by rw [HG.out.sv.len, HNP.out]
            have HSS := Lib.hid (Sl.of_owns Sx.enc_len (by have := HLE.out; omega) HO6.out)
            have HSZ := Lib.hid hstl
            clear hstl
            go_wp2_with fail
            refine (HST.out _ HB6.out (.slice a n1 c) (.slice (some ⟨b4, o4, none⟩) (te + 1) tc) g st l 16 HSS.out (StV.sz HG.out.sv) (HSP.out.later HB6.out) htg HSZ.out hsE).mono ?_
            rintro e11 w11 ⟨a6, m6, c6, rfl, -, hb⟩
            have HB7 := Lib.hid (HB6.out.trans (hb.mono HB6.out.size))
            have HX7 := Lib.hid (HX6.out.later hb)
            have HO7 := Lib.hid (HO6.out.later hb)
            have HM7 := Lib.hid (HM6.out.later hb)
            have HN7 := Lib.hid (HN6.out.later hb)
            have HT7 := Lib.hid (HT6.out.later hb)
            have HI7 := Lib.hid (HI6.out.later hb)
            clear hb HSS hsE hmx HSTEP HFILL x0 x1 xf xz y0 y1 y2 yf yz HB5 HX5 HO5 HM5 HN5 HT5 HI5 HB6 HX6 HO6 HM6 HN6 HT6 HI6
            have hng := HLEK.out
            go_wp2_with fail
            go_roundw
            case rel => exact ⟨k + 1, a, c, st, C, M, B, by omega, rfl, by go_num, HB7.out, HX7.out, HO7.out, HM7.out, HN7.out, HI7.out, HG.out.up⟩
            case measure => simp [intOf]; omega
          · rcases HFILL.out with ⟨hm', -⟩ | ⟨-, cv', x, y, rfl, hcx, hhd, hxg, hxm⟩
            · rw [hmx] at hm'; cases hm'
            obtain ⟨bd, od, cd, ad, nd, kd, rfl, -, hbdz, hdd, -⟩ := id hcx.ex
            clear hdd hbdz
            have HCX5 := Lib.hid hcx
            have HNX := Lib.hid (hnext x y hhd hxg hxm)
            have HXM := Lib.hid (show x.m < 10000 by have := HSU.out; rw [hxm, sumM_snoc]; show sumM (C.getD la []) + (1 + m) < 10000; omega)
            have HCE := Lib.hid hcE
            have HSZ0 := Lib.hid hsz
            clear hcx hnext hhd hxg hxm hcE hsz
            have hba := alloc_below w10 (.cells #[.string ⟨#[109, 97, 115, 115]⟩, .int .i64 0, .int .i64 10000, .int .i64 0, .slice (some ⟨bd, od, none⟩) 1 cd] 37)
            have HF6 := Lib.hid (Box.new w10 #[.string ⟨#[109, 97, 115, 115]⟩, .int .i64 0, .int .i64 10000, .int .i64 0, .slice (some ⟨bd, od, none⟩) 1 cd] 37)
            have HB6 := Lib.hid (HB5.out.trans (hba.mono HB5.out.size))
            have HX6 := Lib.hid (HX5.out.later hba)
            have HO6 := Lib.hid (HO5.out.later hba)
            have HM6 := Lib.hid (HM5.out.later hba)
            have HN6 := Lib.hid (HN5.out.later hba)
            have HT6 := Lib.hid (HT5.out.later hba)
            have HI6 := Lib.hid (HI5.out.later hba)
            have HCX6 := Lib.hid (HCX5.out.later hba)
            clear hba
            obtain ⟨x0, x1, xf, xz⟩ := HX5.out.v2
            obtain ⟨y0, y1, y2, yf, yz⟩ := HT5.out.w3
            have hstl : st.length = n1 := by rw [HG.out.sv.len, HNP.out]
            have HSS := Lib.hid (Sl.of_owns Sx.enc_len (by have := HLE.out; omega) HO6.out)
            have HSZ := Lib.hid hstl
            clear hstl
            go_wp2_with fail
            refine (HST.out _ HB6.out (.slice a n1 c) (.slice (some ⟨b4, o4, none⟩) (te + 1) tc) g st l 0 HSS.out (StV.sz HG.out.sv) (HSP.out.later HB6.out) htg HSZ.out hsE).mono ?_
            rintro e11 w11 ⟨a6, m6, c6, rfl, h6, hb⟩
            obtain ⟨rfl, ho6⟩ := h6 rfl
            have HS7 := Lib.hid ho6
            have HB7 := Lib.hid (HB6.out.trans (hb.mono HB6.out.size))
            have HX7 := Lib.hid (HX6.out.later hb)
            have HM7 := Lib.hid (HM6.out.later hb)
            have HN7 := Lib.hid (HN6.out.later hb)
            have HT7 := Lib.hid (HT6.out.later hb)
            have HI7 := Lib.hid (HI6.out.later hb)
            have HCX7 := Lib.hid (HCX6.out.later hb)
            have HF7 := Lib.hid (HF6.out.later hb)
            obtain ⟨p10, hp10⟩ : ∃ q, w10.heap.size = q := ⟨_, rfl⟩
            rw [hp10] at HF7 ⊢
            clear hb hp10 ho6 h6 HSS hsE hmx HSTEP HFILL x0 x1 xf xz y0 y1 y2 yf yz HB5 HX5 HO5 HM5 HN5 HT5 HI5 HCX5 HB6 HX6 HO6 HM6 HN6 HT6 HI6 HCX6 HF6
            obtain ⟨x0, x1, xf, xz⟩ := HX7.out.v2
            obtain ⟨y0, y1, y2, yf, yz⟩ := HT7.out.w3
            obtain ⟨f0, f1, f2, f3, f4, ff, fz⟩ := HF7.out.w5
            have HST1 := Lib.hid (show (startTo p l g st l.length).length = m6 by rw [startTo_len]; exact HSZ.out)
            have HSS := Lib.hid (Sl.of_owns Sx.enc_len (by have := HLE.out; rw [HST1.out]; omega) HS7.out)
            go_wp2_with fail
            refine (HCL.out _ HB7.out (.slice a6 m6 c6) (.slice (some ⟨b4, o4, none⟩) (te + 1) tc) (startTo p l g st l.length) l HSS.out HSZ0.out (HSP.out.later HB7.out) HST1.out HCE.out).mono ?_
            rintro e12 w12 ⟨a7, c7, rfl, ho7, hb⟩
            have HS8 := Lib.hid (ho7.lower HB7.out.size)
            have HB8 := Lib.hid (HB7.out.trans (hb.mono HB7.out.size))
            have HX8 := Lib.hid (HX7.out.later hb)
            have HM8 := Lib.hid (HM7.out.later hb)
            have HN8 := Lib.hid (HN7.out.later hb)
            have HI8 := Lib.hid (HI7.out.later hb)
            have HCX8 := Lib.hid (HCX7.out.later hb)
            have HF8 := Lib.hid (HF7.out.later hb)
            clear hb ho7 HSS HB7 HX7 HM7 HN7 HT7 HI7 HCX7 HF7 HS7 HSZ0 HCE HST1 x0 x1 xf xz y0 y1 y2 yf yz f0 f1 f2 f3 f4 ff fz
            obtain ⟨x0, x1, xf, xz⟩ := HX8.out.v2
            obtain ⟨f0, f1, f2, f3, f4, ff, fz⟩ := HF8.out.w5
            go_wp2_with fail
            refine wp_region_head_drew 6 (by kernel_rfl) (by kernel_rfl) ?_
            simp only [List.take_succ_cons, List.take_zero, List.drop_succ_cons, List.drop_zero]
            repeat go_big_quiet_step (fail)
            refine wpQuiet_nil ?_
            rintro _ ⟨nq, rfl⟩
            have hbq : Below w12.heap.size w12 (w12.drewN nq) := below_drewN (Below.refl _ _) _
            have HB9 := Lib.hid (HB8.out.trans (hbq.mono HB8.out.size))
            have HX9 := Lib.hid (HX8.out.later hbq)
            have HM9 := Lib.hid (HM8.out.later hbq)
            have HN9 := Lib.hid (HN8.out.later hbq)
            have HI9 := Lib.hid (HI8.out.later hbq)
            have HCX9 := Lib.hid (HCX8.out.later hbq)
            have HS9 := Lib.hid (HS8.out.later hbq)
            generalize w12.drewN nq = w13 at *
            clear hbq x0 x1 xf xz f0 f1 f2 f3 f4 ff fz HB8 HX8 HM8 HN8 HI8 HCX8 HS8 HF8
            have hat := Own.atN HN9.out HLL.out Bn.enc_len la (by rw [HLL.out]; exact hln)
            have q0 := hat 0 _ rfl
            have q1 := hat 1 _ rfl
            have q2 := hat 2 _ rfl
            have q3 := hat 3 _ rfl
            have q4 := hat 4 _ rfl
            rw [Nat.add_zero] at q0
            have hfz := fun o => Own.frozenN HN9.out HLL.out o
            have hgz := (Own.ltN HN9.out).2
            clear hat
            have hml : M.length = m6 := by rw [HG.out.ml, HNP.out]
            have hmt := Own.atN HM9.out hml encI_len la (by rw [hml]; exact hln)
            have hzm : M[la]'(by rw [hml]; exact hln) = sumM (C.getD la []) := by
              rw [← HG.out.mass la (by rw [HNP.out]; exact hln), List.getD_eq_getElem?_getD, List.getElem?_eq_getElem (by rw [hml]; exact hln)]; rfl
            rw [hzm] at hmt
            have s0' := hmt 0 _ rfl
            rw [Nat.mul_one, Nat.add_zero] at s0'
            have hfm := fun o => Own.frozenN HM9.out hml o
            have hgm := (Own.ltN HM9.out).2
            have hg2 := HG2.out
            have hz1 : 0 ≤ sumM (C.getD la []) := by
              have h1 := HG.out.pos la (by rw [HNP.out]; exact hln)
              have h2 := HONE.out
              generalize C.getD la [] = A at *
              match A, h2 with
              | [], _ => simp [sumM]
              | [a], _ => have := h1 a (by simp); simp [sumM]; omega
            have hz2 := HSU.out
            have HML := Lib.hid hml
            obtain ⟨zm, hzme⟩ : ∃ z, sumM (C.getD la []) = z := ⟨_, rfl⟩
            rw [hzme] at s0' hz1 hz2
            have HZM := Lib.hid hzme
            clear hmt hzm hzme hml
            have hg1 := HG1.out
            have hKP := (kept_put5 (Kept.refl (InS gb gm) w13) (la * 5) (.inl rfl) (bnV (.slice (some ⟨bd, od, none⟩) 1 cd))).set (p := ⟨gm, la, none⟩) (.int .i64 (zm + (1 + m))) (.inl (.inr rfl))
            have hKQ := kept_put5 (Kept.refl (fun j => j = gb) w13) (la * 5) rfl (bnV (.slice (some ⟨bd, od, none⟩) 1 cd))
            have hBX := Own.box HN9.out
            have hMX := Own.box HM9.out
            have HBA := Lib.hid ((below_put5 HB9.out (la * 5) hg1 (bnV (.slice (some ⟨bd, od, none⟩) 1 cd))).setCell (p := ⟨gm, la, none⟩) (show w.heap.size ≤ gm by omega) (.int .i64 (zm + (1 + m))))
            have HXA := Lib.hid (HX9.out.keeps hKP (fun h => h.elim (box_ne_box HX9.out hBX (by decide)) (box_ne_box HX9.out hMX (by decide))))
            have HSA := Lib.hid (HS9.out.keeps hKP (fun k hk h => h.elim (Own.ne_box HS9.out hBX (by decide) k hk) (Own.ne_box HS9.out hMX (by decide) k hk)))
            have hma := Own.setN (HM9.out.keeps hKQ (Own.ne_box HM9.out hBX (by decide))) HML.out encI_len la (by rw [HML.out]; exact hln) 0 (by decide) (.int .i64 (zm + (1 + m))) (zm + (1 + m)) rfl
            rw [Nat.mul_one, Nat.add_zero] at hma
            have HMA := Lib.hid hma
            have HNA := Lib.hid ((Own.put5 HN9.out HLL.out la hln (bnV (.slice (some ⟨bd, od, none⟩) 1 cd))).other (a := ⟨gm, la, none⟩) (.int .i64 (zm + (1 + m))) (fun e => absurd (show gb = gm from Option.some.inj e) (by omega)))
            have HIA := Lib.hid (HI9.out.put hBX hMX hKP (fun k hk => HG.out.lt (by have := HLEK.out; omega) k hk) (show la < C.length by rw [HG.out.cl, HNP.out]; exact hln) HCX9.out HXM.out)
            have hgn := HNX.out
            rw [HG.out.mass la (by rw [HNP.out]; exact hln), HZM.out] at hgn
            have HGA := Lib.hid (show GrI p (stopTo p l true (startTo p l g st l.length) l.length) ((k + 1 : Nat) : Int) (C.set la [x]) (M.set la (zm + (1 + m))) from hgn)
            clear hKP hKQ hBX hMX hma hgn
            have hng := HLEK.out
            go_wp2_with fail
            go_roundw
            case rel => exact ⟨k + 1, a7, c7, _, _, _, _, by omega, rfl, by go_num, HBA.out, HXA.out, HSA.out, HMA.out, HNA.out, HIA.out, HGA.out⟩
            case measure => simp [intOf]; omega
        · obtain rfl : n3 = k := by omega
          obtain ⟨U, hU⟩ : ∃ U : World, U = wr := ⟨_, rfl⟩
          subst hU
          have d4 : decide ((n3 : Int) < (n3 : Int)) = false := decide_eq_false (by omega)
          obtain ⟨x0, x1, xf, xz⟩ := HX.out.v2
          have hstl : st.length = n1 := by rw [HG.out.sv.len, HNP.out]
          have HSZ := Lib.hid hstl
          have hml : M.length = n1 := by rw [HG.out.ml, HNP.out]
          have HML := Lib.hid hml
          have hll : B.length = n1 := by rw [HI.out.len, HG.out.cl, HNP.out]
          have HLL := Lib.hid hll
          clear hstl hml hll
          go_wp2_with fail
          go_loopw [211] (fun j wr => ∃ i : Nat, i ≤ n1 ∧ j = .int .i64 i ∧ Below U.heap.size U wr) (fun j _ => n1 - (intOf j).toNat)
          case atStart => exact ⟨0, Nat.zero_le _, rfl, Below.refl _ _⟩
          case round =>
            obtain ⟨i, hi, rfl, hbu⟩ := hrel
            have HU := Lib.hid hbu
            clear hbu x0 x1 xf xz
            by_cases hin : i < n1
            · have hip : i < p.ms.length := by rw [HNP.out]; exact hin
              have d5 : decide ((i : Int) < (n1 : Int)) = true := decide_eq_true (by omega)
              have hns := HN.out.later HU.out
              have hms := HM.out.later HU.out
              have hss := HO.out.later HU.out
              obtain ⟨cv, hcv, hce⟩ := (HI.out.later HU.out).at_ i (by rw [HLL.out]; exact hin)
              have hat := Own.atN hns HLL.out Bn.enc_len i (by rw [HLL.out]; exact hin)
              rw [hcv] at hat
              obtain ⟨bc, oc, cc, ac, nc, kc, rfl, hcc1, hbcz, hcc, hly⟩ := hce.ex
              have q4 := hat 4 _ rfl
              have hgz := (Own.ltN hns).2
              have hmt := Own.atN hms HML.out encI_len i (by rw [HML.out]; exact hin)
              have hzm : M[i]'(by rw [HML.out]; exact hin) = sumM (C.getD i []) := by
                rw [← HG.out.mass i hip, List.getD_eq_getElem?_getD, List.getElem?_eq_getElem (by rw [HML.out]; exact hin)]; rfl
              rw [hzm] at hmt
              have s0' := hmt 0 _ rfl
              rw [Nat.mul_one, Nat.add_zero] at s0'
              have hgm := (Own.ltN hms).2
              obtain ⟨gs, gc, e6, hgs1, hgs2⟩ := hss.form (by rw [HSZ.out]; omega)
              injection e6 with e61 e62 e63
              subst e61 e63
              have hst := Own.atN hss HSZ.out (by exact fun x => rfl) i (by rw [HSZ.out]; exact hin)
              have hge : st[i]'(by rw [HSZ.out]; exact hin) = sAt st i := (stGet (by rw [HSZ.out]; exact hin)).symm
              rw [hge] at hst
              obtain ⟨sr, hsr⟩ : ∃ r, sAt st i = r := ⟨_, rfl⟩
              have HEM := Lib.hid (HG.out.emp i hip)
              have HSM := Lib.hid (HG.out.same i hip)
              have HPO := Lib.hid (HG.out.pos i hip)
              have HON := Lib.hid (HG.out.one i hip)
              rw [hsr] at hst HEM HSM
              obtain ⟨rn, fd, gr⟩ := sr
              obtain ⟨p0, p1, p2⟩ := hst.c3
              have hnc : nc = (C.getD i []).length := by obtain ⟨a', c', e', _⟩ := hly.sl; injection e'
              have HLY := Lib.hid hly
              obtain ⟨A, hA⟩ : ∃ A, C.getD i [] = A := ⟨_, rfl⟩
              rw [hA] at HEM HSM HPO HON HLY s0' hnc
              have HB2 := Lib.hid (HB.out.trans (HU.out.mono HB.out.size))
              have HMA := Lib.hid (mass12 wr (HTB.out _ HB2.out) (.slice ac nc kc) A HLY.out (by have := HON.out; omega))
              have HNC := Lib.hid hnc
              clear hns hms hss hce hat hmt hst hge hsr hly hA hnc hcv hzm hip e62
              obtain ⟨z, hz⟩ : ∃ z, sumM A = z := ⟨_, rfl⟩
              rw [hz] at s0'
              have hma := HMA.out
              rw [hz] at hma
              replace HMA := Lib.hid hma
              have HZ := Lib.hid hz
              clear hma hz
              go_wp2_with fail
              refine HMA.out.mono ?_
              rintro e3 w3 ⟨rfl, hb⟩
              obtain ⟨V, hV⟩ : ∃ V : World, V = wr := ⟨_, rfl⟩
              subst hV
              replace q4 := (hb.cell (p := ⟨gb, i * 5 + 4, none⟩) hgz).trans q4
              replace hcc := (hb.cell (p := ⟨bc, oc, none⟩) hbcz).trans hcc
              have hs0 := (hb.cell (p := ⟨gm, i, none⟩) hgm).trans s0'
              replace p2 := (hb.cell (p := ⟨gs, i * 3 + 2, none⟩) hgs2).trans p2
              replace hgz := Nat.lt_of_lt_of_le hgz hb.size
              replace hgm := Nat.lt_of_lt_of_le hgm hb.size
              replace hgs2 := Nat.lt_of_lt_of_le hgs2 hb.size
              have HB3 := Lib.hid hb
              clear hb p0 p1 s0' HMA
              go_wp2_with fail
              go_loopw [243] (fun j wr => ∃ q : Nat, q ≤ nc ∧ j = .int .i64 q ∧ Below w3.heap.size w3 wr) (fun j _ => nc - (intOf j).toNat)
              case atStart => exact ⟨0, Nat.zero_le _, rfl, Below.refl _ _⟩
              case round =>
                obtain ⟨q, hq, rfl, hbq⟩ := hrel
                have HQ := Lib.hid hbq
                clear q4 hcc
                have p2' := (hbq.cell (p := ⟨gs, i * 3 + 2, none⟩) hgs2).trans p2
                have s2' := (hbq.cell (p := ⟨gm, i, none⟩) hgm).trans hs0
                have hz1 := Nat.lt_of_lt_of_le hgm hbq.size
                have hz2 := Nat.lt_of_lt_of_le hgs2 hbq.size
                clear hbq p2 hs0
                by_cases hqn : q < nc
                · have d6 : decide ((q : Int) < (nc : Int)) = true := decide_eq_true (by omega)
                  have hqa : q < A.length := by rw [← HNC.out]; exact hqn
                  obtain ⟨a', c', e', -, hA⟩ := HLY.out.sl
                  injection e' with e1 e2 e3
                  obtain ⟨b9, o9, hea, hbb, hcells⟩ := hA (by omega)
                  rw [← e1] at hea
                  subst hea
                  obtain ⟨l0, l1, l2⟩ := (((hcells q hqa).below HB3.out hbb).below HQ.out (Nat.lt_of_lt_of_le hbb HB3.out.size)).c3
                  have hz3 : b9 < wr.heap.size := Nat.lt_of_lt_of_le (Nat.lt_of_lt_of_le hbb HB3.out.size) HQ.out.size
                  have hgg : (A[q].g.toList == gr.toList) = true := beq_iff_eq.2 (HSM.out _ (List.getElem_mem hqa))
                  clear hcells hA e1 e2 e3 hbb
                  generalize A[q] = y at *
                  clear hqa
                  obtain ⟨yg, ym, ya, yc⟩ := y
                  dsimp only at l0 l1 l2 hgg
                  have HX9 := Lib.hid (Box.new wr #[.string yg, .int .i64 ym, .slice ya 1 yc] 49)
                  have HQ2 := Lib.hid (HQ.out.trans ((alloc_below wr (.cells #[.string yg, .int .i64 ym, .slice ya 1 yc] 49)).mono HQ.out.size))
                  obtain ⟨y0, y1, y2, yf, yz⟩ := HX9.out.w3
                  go_wp2_with fail
                  go_quiet (fail)
                  have HQ3 := Lib.hid (HQ2.out.trans (below_drewN (Below.refl w3.heap.size (wr.alloc (.cells #[.string yg, .int .i64 ym, .slice ya 1 yc] 49))) nq))
                  have hn8 := HON.out
                  rw [← HNC.out] at hn8
                  go_wp2_with fail
                  go_roundw
                  case rel => exact ⟨q + 1, by omega, by go_num, HQ3.out⟩
                  case measure => simp [intOf]; omega
                · obtain rfl : nc = q := by omega
                  have d6 : decide ((nc : Int) < (nc : Int)) = false := decide_eq_false (by omega)
                  obtain ⟨qz, hqz⟩ : ∃ b, (z == 0) = b := ⟨_, rfl⟩
                  have hqg : (gr.toList == []) = qz := by
                    have h1 := HEM.out
                    have h2 := HZ.out
                    have h3 := HPO.out
                    have h4 := HON.out
                    have h5 : gr.toList.isEmpty = (gr.toList == []) := by cases gr.toList <;> rfl
                    have h1 : A.isEmpty = gr.toList.isEmpty := h1
                    rw [← h5, ← h1, ← hqz, ← h2]
                    match A, h4 with
                    | [], _ => rfl
                    | [y], _ =>
                      have := h3 y (by simp)
                      simp only [sumM]
                      symm
                      simp
                      omega
                  have HB4 := Lib.hid (HU.out.trans ((HB3.out.trans (HQ.out.mono HB3.out.size)).mono HU.out.size))
                  cases qz with
                  | true =>
                    go_wp2_with fail
                    go_quiet (fail)
                    have HB5 := Lib.hid (HB4.out.trans (below_drewN (Below.refl U.heap.size wr) nq))
                    have hle := HLE.out
                    go_wp2_with fail
                    go_roundw
                    case rel => exact ⟨i + 1, by omega, by go_num, HB5.out⟩
                    case measure => simp [intOf]; omega
                  | false =>
                    go_wp2_with fail
                    go_quiet (fail)
                    have HB5 := Lib.hid (HB4.out.trans (below_drewN (Below.refl U.heap.size wr) nq))
                    have hle := HLE.out
                    go_wp2_with fail
                    go_roundw
                    case rel => exact ⟨i + 1, by omega, by go_num, HB5.out⟩
                    case measure => simp [intOf]; omega
            · obtain rfl : n1 = i := by omega
              have d5 : decide ((n1 : Int) < (n1 : Int)) = false := decide_eq_false (by omega)
              have HB5 := Lib.hid (HB.out.trans (HU.out.mono HB.out.size))
              go_wp2_with fail
              refine (HR.out _ HB5.out).mono ?_
              rintro e9 w9 ⟨rfl, hb⟩
              have HB9 := Lib.hid (HB5.out.trans (hb.mono HB5.out.size))
              clear hb
              go_wp2_with fail
              go_ret
              exact ⟨rfl, HB9.out⟩
end Go.Proofs.YtpafjhjpchdcdaaGreatDoor.Nu
