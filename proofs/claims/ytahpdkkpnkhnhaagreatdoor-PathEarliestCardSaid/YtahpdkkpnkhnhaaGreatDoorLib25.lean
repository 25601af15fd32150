/- Lemmas on the way to the laws (part 25): Ej Ek El -/
import Derived.Test.YtahpdkkpnkhnhaaGreatDoorLib23
import Derived.Test.YtahpdkkpnkhnhaaGreatDoorLib24
set_option linter.unusedVariables false
set_option linter.unusedSimpArgs false

/- Walks: most: the room of the arcs: the loop. -/
namespace Go.Proofs.YtahpdkkpnkhnhaaGreatDoor
open Go Go.Proofs Go.RowKit Go.Shelf

theorem ixA_succ (p : Pl) (src snk : List Int) (k : Nat) (h : k < p.arcs.length) : ixA p src snk (k + 1) = if okArc p src snk p.arcs[k] then ixA p src snk k ++ [(2 * p.arcs[k].fr.toNat + 1) * 130 + 2 * p.arcs[k].to.toNat] else ixA p src snk k := by
  unfold ixA
  rw [take_snoc p.arcs k h, List.filter_append, List.map_append, List.filter_cons, List.filter_nil]
  cases okArc p src snk p.arcs[k] <;> simp

set_option maxRecDepth 100000 in
set_option maxHeartbeats 1000000 in
theorem m2_walk (w W : World) (fb N src snk : Nat) (s t : Value) (b1 off1 c1 : Nat) (v2 : Value) (p : Pl) (ls lt : List Int) (rm : List Int) (z : Nat → Value) (hok : OkP p) (hwd : WdR w) (hs : Sl encI 1 w w.heap.size s ls) (ht : Sl encI 1 w w.heap.size t lt)
    (hbb : b1 < w.heap.size) (hat : ∀ k (h : k < p.ms.length), At w b1 (off1 + k * 2) [.string p.ms[k].kind, .int .i64 p.ms[k].time]) (har : Sl Ar.enc 2 w w.heap.size v2 p.arcs)
    (hm : MoM w W fb N (.slice (some ⟨b1, off1, none⟩) p.ms.length c1) v2 rm) (Q : Exit → Act → World → Prop)
    (hQ : ∀ z' W', MoM w W' fb N (.slice (some ⟨b1, off1, none⟩) p.ms.length c1) v2 (setAll 2 (ixA p ls lt p.arcs.length) rm) → Q .normal { tmps := (fr119 w.heap.size s t fb src snk z').toArray, defers := [] } W') :
    m2_119.wp Tryz.prog Q { tmps := (fr119 w.heap.size s t fb src snk z).toArray, defers := [] } W := by
  have HQ : Hid (∀ A W', (∃ z', A = { tmps := (fr119 w.heap.size s t fb src snk z').toArray, defers := [] }) → MoM w W' fb N (.slice (some ⟨b1, off1, none⟩) p.ms.length c1) v2 (setAll 2 (ixA p ls lt p.arcs.length) rm) → Q .normal A W') := Lib.hid (by rintro A W' ⟨z', rfl⟩ h; exact hQ z' W' h)
  clear hQ
  have HM := Lib.hid hm
  have HWD := Lib.hid hwd
  have HS := Lib.hid hs
  have HTT := Lib.hid ht
  have HOK := Lib.hid hok
  have HAT := Lib.hid hat
  obtain ⟨a2, c2, rfl, ⟨hl2, _⟩, hA2⟩ := har
  have HA2 := Lib.hid hA2
  have x0 := hm.px.cell 1
  have xz := hm.px.lt
  simp only [List.getElem?_cons_zero, List.getElem?_cons_succ] at x0
  have hn64 := hok.le
  obtain ⟨na, hna⟩ : ∃ n, p.arcs.length = n := ⟨_, rfl⟩
  obtain ⟨n, hn⟩ : ∃ n, p.ms.length = n := ⟨_, rfl⟩
  rw [hn] at HM HQ hn64
  rw [hna] at HM HQ x0 hl2
  have HNA := Lib.hid hna
  have HNN := Lib.hid hn
  obtain ⟨P11, hP11⟩ : ∃ q, r11_119 = q := ⟨_, rfl⟩
  have HP11 := Lib.hid hP11
  simp only [r11_119, x2_119, rd2_119, m2_119, c119, Tryz.f119, Option.getD, codeL, codeR] at hP11
  have HL11 := Lib.hid hP11
  obtain ⟨P12, hP12⟩ : ∃ q, r12_119 = q := ⟨_, rfl⟩
  have HP12 := Lib.hid hP12
  simp only [r12_119, x2_119, rd2_119, m2_119, c119, Tryz.f119, Option.getD, codeL, codeR] at hP12
  have HL12 := Lib.hid hP12
  clear hm hwd hs ht hok hat hA2 hna hn hP11 hP12
  simp only [m2_119, c119, Tryz.f119, Option.getD, codeL, codeR, fr119]
  go_wp2_with fail
  go_loopw [59] (fun i wr => ∃ k : Nat, k ≤ na ∧ i = .int .i64 k ∧ MoM w wr fb N (.slice (some ⟨b1, off1, none⟩) n c1) (.slice a2 na c2) (setAll 2 (ixA p ls lt k) rm)) (fun i _ => na - (intOf i).toNat)
  case atStart => exact ⟨0, by omega, rfl, by simpa [setAll, ixA] using HM.out⟩
  case round =>
    clear x0 xz HM
    obtain ⟨k, hk, rfl, hm⟩ := hrel
    by_cases hlt : k < na
    rotate_left
    · obtain rfl : na = k := by omega
      have HM := Lib.hid hm
      clear hm
      go_wp2_with fail
      refine HQ.out _ _ ?_ HM.out
      apply fr119_act <;> rfl
    have hkl : k < p.arcs.length := by rw [HNA.out]; exact hlt
    obtain ⟨b, off, rfl, hbb2, hcells⟩ := HA2.out (by omega)
    obtain ⟨c0, c0'⟩ := ((hcells k hkl).below hm.bw hbb2).c2
    have hbz : b < wr.heap.size := Nat.lt_of_lt_of_le hbb2 hm.bw.size
    obtain ⟨i1, i2, i3, _, _⟩ := HOK.out.ins _ (List.getElem_mem hkl)
    obtain ⟨f, hf, hfn⟩ := inN_nat i1
    obtain ⟨g, hg, hgn⟩ := inN_nat i2
    have HT : Hid (setAll 2 (ixA p ls lt (k + 1)) rm = if okArc p ls lt p.arcs[k] then (setAll 2 (ixA p ls lt k) rm).set ((2 * f + 1) * 130 + 2 * g) 2 else setAll 2 (ixA p ls lt k) rm) := Lib.hid (by
      rw [ixA_succ p ls lt k hkl, hf, hg, Int.toNat_natCast, Int.toNat_natCast]
      split
      · rw [setAll_snoc]
      · rfl)
    obtain ⟨R, hR⟩ : ∃ R, okArc p ls lt p.arcs[k] = R := ⟨_, rfl⟩
    have HR : Hid (((cvB p.ms[f].kind || ls.contains (f : Int)) && (cvB p.ms[g].kind || lt.contains (g : Int))) = R) := Lib.hid (by rw [← hR]; unfold okArc; rw [hf, hg, kdA_nat hfn, kdA_nat hgn])
    rw [hR] at HT
    rw [hf] at c0
    rw [hg] at c0'
    have HM := Lib.hid hm
    have hfz := hm.fl.lt
    clear hm hR hcells i1 i2 i3 hf hg
    have HNW := Lib.hid (Box.new wr #[.int .i64 (f : Int), .int .i64 (g : Int)] 123)
    have HMA := Lib.hid (HM.out.later ((Below.refl wr.heap.size wr).alloc (Nat.le_refl _) (.cells #[.int .i64 (f : Int), .int .i64 (g : Int)] 123)))
    rw [HL11.out, HL12.out]
    go_wp2_with fail
    have hfn' : f < n := by rw [← HNN.out]; exact hfn
    have hgn' : g < n := by rw [← HNN.out]; exact hgn
    rw [← HP11.out]
    refine wp_of_ex (F := fun y => { tmps := (fq119 w.heap.size s t fb src snk wr.heap.size na k (.slice (some ⟨b, off, none⟩) na c2) u14 u15 z y).toArray, defers := [] }) ⟨fun i => [_, _, _, _, _, _, _, _, _, _, _, _, _, _, _, _, _, _, _, _, _, _, _, _, _, _, _, _, _, _, _, _, _, _, _, _, _, _, _, _, _, _, _, _, _].getD (i - 60) undef, rfl⟩ fun y => ?_
    have hB0 := HMA.out.bw
    refine wp_mono (r11m_walk _ w.heap.size s t fb src snk wr.heap.size na k _ _ _ z y b1 off1 n c1 f g _ _ _ _ _ HMA.out.px HNW.out (by omega) (by omega) hn64 ((HAT.out f hfn).below hB0 hbb) ((HAT.out g hgn).below hB0 hbb) (Nat.lt_of_lt_of_le hbb hB0.size)) ?_
    rintro e A w3 ⟨rfl, b14, b15, y', rfl, h14, h15, hb3⟩
    have HM3 := Lib.hid (HMA.out.later hb3)
    have HN3 := Lib.hid (HNW.out.later hb3)
    clear hb3 hB0
    go_wp2_with fail
    rw [← HP12.out]
    refine r12m_walk w w3 w.heap.size s t fb src snk wr.heap.size na k _ b14 b15 z y' f g _ _ _ _ ls lt R HWD.out HM3.out.bw HS.out HTT.out HN3.out h14 h15 HR.out _ ?_
    intro y2 w4 hb4
    have HM4 := Lib.hid (HM3.out.later hb4)
    obtain ⟨n0, n1, nf, nz⟩ := (HN3.out.later hb4).v2
    clear hb4 h14 h15
    simp only [fr119d]
    cases R with
    | false =>
      have HT2 : Hid (setAll 2 (ixA p ls lt (k + 1)) rm = setAll 2 (ixA p ls lt k) rm) := Lib.hid (by rw [HT.out]; simp)
      go_wp2_with fail
      exact ⟨⟨k + 1, by omega, by go_num, by rw [HT2.out]; exact HM4.out⟩, by simp [intOf]; omega⟩
    | true =>
      have HT2 : Hid (setAll 2 (ixA p ls lt (k + 1)) rm = (setAll 2 (ixA p ls lt k) rm).set ((2 * f + 1) * 130 + 2 * g) 2) := Lib.hid (by rw [HT.out]; simp)
      have hf64 : f < 64 := by omega
      have hg64 : g < 64 := by omega
      obtain ⟨e1, he1⟩ : ∃ e, 2 * f + 1 = e := ⟨_, rfl⟩
      obtain ⟨e2, he2⟩ : ∃ e, 2 * g = e := ⟨_, rfl⟩
      rw [he1, he2] at HT2
      have HE1 := Lib.hid (fun w => exitN f e1 he1 (by omega) w)
      have HE2 := Lib.hid (fun w => entryN g e2 he2 (by omega) w)
      have h1 : (e1 : Int) < 130 := by omega
      have h2 : (e2 : Int) < 130 := by omega
      have HH : Hid (e1 < 130 ∧ e2 < 130) := Lib.hid (by omega)
      have HFX : Hid (∀ W', Below w4.heap.size w4 W' → MoM w W' fb N (.slice (some ⟨b1, off1, none⟩) n c1) (.slice (some ⟨b, off, none⟩) na c2) (setAll 2 (ixA p ls lt k) rm)) := Lib.hid (fun W' hb => HM4.out.later hb)
      have fz := HM4.out.fl.lt
      clear he1 he2 hf64 hg64
      go_wp2_with fail
      refine wp_region_head_later 11 (by kernel_rfl) (by kernel_rfl) ?_
      simp only [List.take_succ_cons, List.take_zero, List.drop_succ_cons, List.drop_zero]
      repeat go_big_quiet_step ((first | (go_at_call 120; exact Calls.later_same (HE1.out _)) | (go_at_call 121; exact Calls.later_same (HE2.out _))))
      refine wpQuiet_nil ?_
      rintro w2 ⟨⟨_, hb2⟩, rfl⟩
      have hm2 := HFX.out _ hb2
      have hc := (hm2.fl.cell (e1 * 130 + e2)).trans (roomV_get N hm2.len HH.out.1 HH.out.2)
      have hf := hm2.fl.frozen
      have hz := hm2.fl.lt
      have HM2 := Lib.hid hm2
      clear hm2
      go_wp2_with fail
      exact ⟨⟨k + 1, by omega, by go_num, by rw [HT2.out]; exact HM2.out.set HH.out.1 HH.out.2 2⟩, by simp [intOf]; omega⟩
end Go.Proofs.YtahpdkkpnkhnhaaGreatDoor

/- Walks: most: the greatest flow. -/
namespace Go.Proofs.YtahpdkkpnkhnhaaGreatDoor
open Go Go.Proofs Go.RowKit Go.Shelf

theorem BackR.congr {N : Nat} {C R0 R R' : Nat → Nat → Int} {ord : List Nat} {src snk : Nat} {n : Int} {v : Nat} (h : BackR N C R0 R ord src snk n v) (hlt : ∀ x ∈ ord, x < N) (hR : ∀ i j, i < N → j < N → R' i j = R i j) : BackR N C R0 R' ord src snk n v :=
  ⟨h.mv, h.fl.congr hR fun _ _ => rfl, fun u x hu hx a b => by rw [hR u x (hlt u hu) (hlt x hx)]; exact h.sm u x hu hx a b⟩
theorem getD_m1 (l : List Int) (i : Nat) (h : i < l.length) : l[i] = l.getD i (-1) := by rw [List.getD_eq_getElem?_getD, List.getElem?_eq_getElem h, Option.getD_some]
theorem RFlow.bd {N : Nat} {C R : Nat → Nat → Int} {x : Nat → Int} (h : RFlow N C R x) (hC : ∀ i j, 0 ≤ C i j ∧ C i j ≤ 2) {i j : Nat} (hi : i < N) (hj : j < N) : 0 ≤ R i j ∧ R i j ≤ 4 := by
  have h1 := h.nn i j hi hj
  have h2 := h.nn j i hj hi
  have h3 := h.sm i j hi hj
  have h4 := hC i j
  have h5 := hC j i
  omega
theorem sumF_bd {n : Nat} {f : Nat → Int} {c : Int} (h : ∀ v, v < n → f v ≤ c) : sumF n f ≤ n * c := by
  induction n with
  | zero => simp [sumF]
  | succ n ih =>
    have h1 := h n (by omega)
    have h2 := ih fun v hv => h v (by omega)
    simp only [sumF]
    have : ((n + 1 : Nat) : Int) * c = n * c + c := by push_cast; rw [Int.add_mul, Int.one_mul]
    omega
theorem RFlow.val_le {N : Nat} {C R : Nat → Nat → Int} {n : Int} (hN2 : 2 ≤ N) (hN : N ≤ 130) (hC : ∀ i j, 0 ≤ C i j ∧ C i j ≤ 2) (h : RFlow N C R (valX (N - 2) (N - 1) n)) : n ≤ 33800 := by
  have h1 := h.le_cap (by omega) (fun i => decide (i = N - 2)) (by simp) (by simp; omega)
  have h2 : capS N C (fun i => decide (i = N - 2)) ≤ N * 260 := by
    unfold capS
    refine sumF_bd fun i _ => ?_
    refine Int.le_trans (sumF_bd (c := 2) fun k _ => ?_) (by omega)
    have := hC i k
    split <;> omega
  omega
/-- What the flow of most is, when it is found. -/
structure MostR (p : Pl) (src snk : List Int) (rm : List Int) (n : Int) : Prop where
  fl : RFlow (2 * p.ms.length + 2) (capC p src snk) (matR rm) (valX (2 * p.ms.length) (2 * p.ms.length + 1) n)
  cl : ∃ bf ord, SpR (2 * p.ms.length + 2) (matR rm) (2 * p.ms.length) bf ord ∧ SpDone (2 * p.ms.length + 2) (matR rm) ord ord.length ∧ (2 * p.ms.length + 1) ∉ ord
def MostPost (w : World) (p : Pl) (src snk : List Int) (e : Ending) (w' : World) : Prop :=
  ∃ fb rm n, e = .returned (.tuple #[.pointer (some ⟨fb, 0, none⟩), .int .i64 n]) ∧ Box w' fb 150 (roomV rm (2 * p.ms.length + 2)) ∧ rm.length = 16900 ∧ MostR p src snk rm n ∧ w.heap.size ≤ fb ∧ Below w.heap.size w w'
theorem MostR.start (p : Pl) (src snk : List Int) (hp : p.ms.length ≤ 64) : RFlow (2 * p.ms.length + 2) (capC p src snk) (matR (roomL p src snk)) (valX (2 * p.ms.length) (2 * p.ms.length + 1) 0) :=
  (RFlow.start fun i j _ _ => (capC_bd p src snk i j).1).congr (fun i j hi hj => roomL_get p src snk (by omega) (by omega)) fun i _ => by unfold valX; simp

/-- What a search gives. -/
structure SpG (w w' : World) (N : Nat) (rm : List Int) (src : Nat) (g cb : Nat) (bf : List Int) (ord : List Nat) : Prop where
  o : Own encI 1 3 w' w.heap.size (.slice (some ⟨g, 0, none⟩) N cb) bf
  sp : SpR N (matR rm) src bf ord
  dn : SpDone N (matR rm) ord ord.length
  bw : Below w.heap.size w w'
theorem SpG.cell {w w' : World} {N : Nat} {rm : List Int} {src g cb : Nat} {bf : List Int} {ord : List Nat} (h : SpG w w' N rm src g cb bf ord) {i : Nat} (hi : i < N) : w'.cell? ⟨g, i, none⟩ = some (.int .i64 (bf.getD i (-1))) := by
  have hbl := h.sp.len
  have o0 := (h.o.atN hbl encI_len i (by omega)).c1
  rwa [Nat.mul_one, getD_m1] at o0
theorem own_cell {W : World} {base g N cb : Nat} {bf : List Int} (h : Own encI 1 3 W base (.slice (some ⟨g, 0, none⟩) N cb) bf) (hl : bf.length = N) {i : Nat} (hi : i < N) : W.cell? ⟨g, i, none⟩ = some (.int .i64 (bf.getD i (-1))) := by
  have o0 := (h.atN hl encI_len i (by omega)).c1
  rwa [Nat.mul_one, getD_m1] at o0
theorem own_set {W : World} {base g N cb fb o : Nat} {bf : List Int} (h : Own encI 1 3 W base (.slice (some ⟨g, 0, none⟩) N cb) bf) (hne : fb ≠ g) (u : Value) : Own encI 1 3 (W.setCell ⟨fb, o, none⟩ u) base (.slice (some ⟨g, 0, none⟩) N cb) bf :=
  h.kept (grownBy_set W ⟨fb, o, none⟩ u) (.inr (by simp [Value.ownBlock]; omega))
theorem own_drew {W : World} {base g N cb : Nat} {bf : List Int} (h : Own encI 1 3 W base (.slice (some ⟨g, 0, none⟩) N cb) bf) (q : Nat) : Own encI 1 3 (W.drewN q) base (.slice (some ⟨g, 0, none⟩) N cb) bf := h.drewN q
theorem spread_g {w : World} {fb N : Nat} {rm : List Int} (hl : rm.length = 16900) (hN2 : 2 ≤ N) (hN130 : N ≤ 130) (hf : Box w fb 150 (roomV rm N)) {src snk : Nat} (h1 : src + 2 = N) (h2 : snk + 1 = N) :
    Calls Tryz.prog 122 #[.pointer (some ⟨fb, 0, none⟩)] w fun e w' => ∃ g cb bf ord bs, e = .returned (.slice (some ⟨g, 0, none⟩) N cb) ∧ w'.cell? ⟨g, snk, none⟩ = some (.int .i64 bs) ∧ bf.getD snk (-1) = bs ∧ g < w'.heap.size ∧ SpG w w' N rm src g cb bf ord := by
  refine (spread122 w fb N rm hl hN2 hN130 hf).mono ?_
  rintro e w' ⟨g, cb, bf, ord, rfl, ho, hsp, hdn, hb⟩
  obtain rfl : src = N - 2 := by omega
  have hG : SpG w w' N rm (N - 2) g cb bf ord := ⟨ho, hsp, hdn, hb⟩
  exact ⟨g, cb, bf, ord, _, rfl, hG.cell (by omega), rfl, ho.ltN.2, hG⟩
noncomputable def m5_119 : Code := codeR (codeR (codeR (codeR (codeR (codeR (codeR c119))))))

set_option maxRecDepth 100000 in
set_option maxHeartbeats 1000000 in
theorem m5_walk (w W : World) (fb : Nat) (s t v1 v2 : Value) (p : Pl) (ls lt : List Int) (z : Nat → Value) (hp : p.ms.length ≤ 64)
    (hm : MoM w W fb (2 * p.ms.length + 2) v1 v2 (roomL p ls lt)) (Q : Exit → Act → World → Prop)
    (hQ : ∀ A W' rm n, A.tmps[6]? = some (.pointer (some ⟨fb, 0, none⟩)) → A.tmps[7]? = some (.int .i64 n) → A.defers = [] → MoM w W' fb (2 * p.ms.length + 2) v1 v2 rm → MostR p ls lt rm n → Q .ret A W') :
    m5_119.wp Tryz.prog Q { tmps := (fr119 w.heap.size s t fb (2 * p.ms.length) (2 * p.ms.length + 1) z).toArray, defers := [] } W := by
  have HQ := Lib.hid hQ
  have HM := Lib.hid hm
  have HF0 := Lib.hid (MostR.start p ls lt hp)
  have HMR := Lib.hid (fun rm n h1 h2 => (⟨h1, h2⟩ : MostR p ls lt rm n))
  clear hQ hm
  obtain ⟨N, hN⟩ : ∃ N, 2 * p.ms.length + 2 = N := ⟨_, rfl⟩
  obtain ⟨src, hsrc⟩ : ∃ N, 2 * p.ms.length = N := ⟨_, rfl⟩
  obtain ⟨snk, hsnk⟩ : ∃ N, 2 * p.ms.length + 1 = N := ⟨_, rfl⟩
  have hC := capC_bd p ls lt
  generalize capC p ls lt = C at *
  rw [hN, hsnk, hsrc] at HF0 HMR
  rw [hN] at HM HQ
  rw [hsnk, hsrc]
  have hN2 : 2 ≤ N := by omega
  have hN130 : N ≤ 130 := by omega
  have HC := Lib.hid hC
  have hs1 : src + 2 = N := by omega
  have hs2 : snk + 1 = N := by omega
  clear hN hsrc hsnk hC hp
  simp only [m5_119, c119, Tryz.f119, Option.getD, codeL, codeR, fr119]
  go_wp2_with fail
  go_loopw [20] (fun i wr => ∃ n : Int, 0 ≤ n ∧ i = .int .i64 n ∧ ∃ rm, MoM w wr fb N v1 v2 rm ∧ RFlow N C (matR rm) (valX src snk n)) (fun i _ => 40000 - (intOf i).toNat)
  case atStart => exact ⟨0, by omega, rfl, _, HM.out, HF0.out⟩
  case round =>
    clear HM HF0
    obtain ⟨n, hn0, rfl, rm, hm, hfl⟩ := hrel
    have hn1 : n ≤ 33800 := by
      have h := hfl
      rw [show src = N - 2 by omega, show snk = N - 1 by omega] at h
      exact h.val_le hN2 hN130 HC.out
    have HM := Lib.hid hm
    have HFL := Lib.hid hfl
    have HSP := Lib.hid (spread_g hm.len hN2 hN130 hm.fl hs1 hs2)
    have hsk : (snk : Int) < N := by omega
    have hsk0 : snk < N := by omega
    clear hm hfl
    go_wp2_with (go_at_call 122; refine HSP.out.mono ?_; rintro e w2 ⟨g, cb, bf, ord, bs, rfl, o0, hbs, oz, hG⟩; have HBS := Lib.hid hbs; have HG := Lib.hid hG; clear hbs hG)
    · have hneg : bs < 0 := by assumption
      refine HQ.out _ _ rm n rfl rfl rfl (HM.out.later HG.out.bw) (HMR.out rm n HFL.out ⟨bf, ord, HG.out.sp, HG.out.dn, fun hh => ?_⟩)
      have h1 := (HG.out.sp.mem snk (by omega)).2 hh
      rw [HBS.out] at h1
      omega
    have hneg : 0 ≤ bs := by omega
    have HNG := Lib.hid hneg
    have HB0 : Hid (BackR N C (matR rm) (matR rm) ord src snk n snk) := Lib.hid (BackR.start HFL.out ((HG.out.sp.mem snk (by omega)).1 (by rw [HBS.out]; exact hneg)))
    have HM2 := Lib.hid (HM.out.later HG.out.bw)
    have HGB := Lib.hid (show wr.heap.size ≤ g from HG.out.o.ltN.1)
    have HFB := Lib.hid HM.out.fl.lt
    clear hneg o0 HM HNG HSP
    obtain ⟨U, hU⟩ : ∃ U : World, U = wr := ⟨_, rfl⟩
    subst hU
    go_loopw [22] (fun i wr => ∃ v : Nat, i = .int .i64 v ∧ ∃ rm', MoM w wr fb N v1 v2 rm' ∧ BackR N C (matR rm) (matR rm') ord src snk n v ∧ Own encI 1 3 wr U.heap.size (.slice (some ⟨g, 0, none⟩) N cb) bf) (fun i _ => ord.idxOf (intOf i).toNat)
    case atStart => exact ⟨snk, rfl, rm, HM2.out, HB0.out, HG.out.o⟩
    case round =>
      clear HM2 HB0 oz
      obtain ⟨v, rfl, rm1, hm, hbk, ho⟩ := hrel
      have HM := Lib.hid hm
      have HBK := Lib.hid hbk
      have HO := Lib.hid ho
      by_cases hvs : v = src
      · subst hvs
        have k1 : ((v : Int) != (v : Int)) = false := by simp
        clear hm hbk ho
        go_wp2_with fail
        exact ⟨⟨n + 1, by omega, rfl, rm1, HM.out, HBK.out.done⟩, by simp [intOf]; omega⟩
      have k1 : ((v : Int) != (src : Int)) = true := by rw [bne_iff_ne]; omega
      have hvN : v < N := HG.out.sp.lt v hbk.mv
      obtain ⟨kk, h1, h2, h3, h4, h5, h6⟩ := hbk.step HG.out.sp hvs
      have hbl := HG.out.sp.len
      have hv130 : (v : Int) < 130 := by omega
      have hk130 : (kk : Int) < 130 := by omega
      have HV : Hid (v < 130 ∧ kk < 130 ∧ kk ≠ v) := Lib.hid ⟨by omega, by omega, h3⟩
      have H4 := Lib.hid h4
      have H6 := Lib.hid h6
      have H1 := Lib.hid h1
      have HBL := Lib.hid hbl
      have hbd1 := hbk.fl.bd HC.out h2 hvN
      have hbd2 := hbk.fl.bd HC.out hvN h2
      have hc1 := own_cell ho hbl hvN
      rw [h1] at hc1
      have hr1 := (hm.fl.cell (kk * 130 + v)).trans (roomV_get N hm.len (by omega) (by omega))
      obtain ⟨r1, hr1e⟩ : ∃ r, matR rm1 kk v = r := ⟨_, rfl⟩
      obtain ⟨r2, hr2e⟩ : ∃ r, matR rm1 v kk = r := ⟨_, rfl⟩
      rw [hr1e] at hr1 hbd1 h5
      rw [hr2e] at hbd2
      have hw8 : IntKind.i8.wrap (r1 - 1) = r1 - 1 := IntWalk.i8_in _ (by omega)
      have hw9 : IntKind.i8.wrap (r2 + 1) = r2 + 1 := IntWalk.i8_in _ (by omega)
      have HR1 := Lib.hid hr1e
      have HR2 := Lib.hid hr2e
      have hgz := ho.ltN.2
      have hfz := hm.fl.lt
      have hff := hm.fl.frozen
      have HNE : Hid (fb ≠ g) := Lib.hid (by have := HGB.out; have := HFB.out; omega)
      clear hm hbk ho h1 h3 h4 h6 hr1e hr2e hbl h5
      go_wp2_with fail
      refine wp_region_head_drew 16 (by kernel_rfl) (by kernel_rfl) ?_
      simp only [List.take_succ_cons, List.take_zero, List.drop_succ_cons, List.drop_zero]
      repeat go_big_quiet_step (fail)
      refine wpQuiet_nil ?_
      rintro _ ⟨nq, rfl⟩
      have HM1 := Lib.hid (HM.out.later (below_drewN (Below.refl _ _) nq))
      have HO1 := Lib.hid (own_drew HO.out nq)
      have hr1' := (HM1.out.fl.cell (kk * 130 + v)).trans (roomV_get N HM1.out.len HV.out.2.1 HV.out.1)
      rw [HR1.out] at hr1'
      have hfz1 := HM1.out.fl.lt
      have hff1 := HM1.out.fl.frozen
      have HM2 := Lib.hid (HM1.out.set HV.out.2.1 HV.out.1 (r1 - 1))
      have HO2 := Lib.hid (own_set (o := kk * 130 + v) HO1.out HNE.out (.int .i8 (r1 - 1)))
      clear hr1 hfz hff hgz hc1
      have hc1 := own_cell HO1.out HBL.out hvN
      rw [H1.out] at hc1
      go_wp2_with fail
      clear hc1 hr1' hfz1 hff1
      generalize (wr.drewN nq).setCell ⟨fb, kk * 130 + v, none⟩ (.int .i8 (r1 - 1)) = W1 at *
      obtain ⟨rm2, hrm2⟩ : ∃ x, rm1.set (kk * 130 + v) (r1 - 1) = x := ⟨_, rfl⟩
      rw [hrm2] at HM2
      have HE2 : Hid (matR rm2 v kk = r2) := Lib.hid (by rw [← hrm2, matR_set HM.out.len HV.out.2.1 HV.out.1 _ HV.out.2.1, if_neg (fun h => HV.out.2.2 h.1.symm)]; exact HR2.out)
      have HRM2 := Lib.hid hrm2
      have hc2 := own_cell HO2.out HBL.out hvN
      rw [H1.out] at hc2
      have hr2 := (HM2.out.fl.cell (v * 130 + kk)).trans (roomV_get N HM2.out.len HV.out.1 HV.out.2.1)
      rw [HE2.out] at hr2
      have hgz := HO2.out.ltN.2
      have hfz := HM2.out.fl.lt
      have hff := HM2.out.fl.frozen
      clear hrm2
      refine wp_region_head_drew 16 (by kernel_rfl) (by kernel_rfl) ?_
      simp only [List.take_succ_cons, List.take_zero, List.drop_succ_cons, List.drop_zero]
      repeat go_big_quiet_step (fail)
      refine wpQuiet_nil ?_
      rintro _ ⟨nq, rfl⟩
      have HM3 := Lib.hid (HM2.out.later (below_drewN (Below.refl _ _) nq))
      have HO3 := Lib.hid (own_drew HO2.out nq)
      have hr2' := (HM3.out.fl.cell (v * 130 + kk)).trans (roomV_get N HM3.out.len HV.out.1 HV.out.2.1)
      rw [HE2.out] at hr2'
      have hfz1 := HM3.out.fl.lt
      have hff1 := HM3.out.fl.frozen
      have HM4 := Lib.hid (HM3.out.set HV.out.1 HV.out.2.1 (r2 + 1))
      have HO4 := Lib.hid (own_set (o := v * 130 + kk) HO3.out HNE.out (.int .i8 (r2 + 1)))
      have hc4 := own_cell HO4.out HBL.out hvN
      rw [H1.out] at hc4
      have hgz4 := HO4.out.ltN.2
      clear hr2 hfz hff hgz hc2
      go_wp2_with fail
      refine ⟨⟨kk, rfl, _, HM4.out, H6.out.congr (fun x hx => HG.out.sp.lt x hx) (fun i j hi hj => ?_), HO4.out⟩, by simp only [intOf, Int.toNat_natCast]; exact H4.out⟩
      have h := matR_push (rm := rm1) (u := kk) (v := v) HM.out.len HV.out.2.1 HV.out.1 HV.out.2.2 (i := i) (j := j) (by omega)
      rwa [HR1.out, HR2.out, HRM2.out] at h
end Go.Proofs.YtahpdkkpnkhnhaaGreatDoor

/- Walks: most, and Most. -/
namespace Go.Proofs.YtahpdkkpnkhnhaaGreatDoor
open Go Go.Proofs Go.RowKit Go.Shelf

theorem most_room (p : Pl) (src snk : List Int) : setAll 2 (snk.map fun m => (2 * m.toNat + 1) * 130 + (2 * p.ms.length + 1)) (setAll 2 (src.map fun m => (2 * p.ms.length) * 130 + 2 * m.toNat) (setAll 2 (ixA p src snk p.arcs.length) (setAll 1 (ixM p.ms.length) zeros16900))) = roomL p src snk := rfl

theorem z150 (N : Nat) : Tryz.zeroCells150.setIfInBounds 16900 (.int .i64 (N : Int)) = (roomV zeros16900 N).toArray := by
  have hl := zz_list
  generalize Tryz.zeroCells150 = Z at *
  apply Array.ext'
  rw [Array.toList_setIfInBounds, hl]
  unfold roomV zeros16900
  rw [List.set_append_right _ _ (by rw [List.length_replicate]; exact Nat.le_refl _), List.length_replicate, Nat.sub_self, List.map_replicate]
  rfl
set_option maxRecDepth 100000 in
set_option maxHeartbeats 1000000 in
theorem most119 (w : World) (v1 v2 s t : Value) (p : Pl) (ls lt : List Int) (hwd : WdR w) (hpl : PlR w w.heap.size v1 v2 p) (hs : Sl encI 1 w w.heap.size s ls) (ht : Sl encI 1 w w.heap.size t lt) (hok : OkP p)
    (hin : ∀ x ∈ ls, inN p.ms.length x = true) (hin2 : ∀ x ∈ lt, inN p.ms.length x = true) :
    Calls Tryz.prog 119 #[.agg #[v1, v2], s, t] w (MostPost w p ls lt) := by
  obtain ⟨Q, hQ⟩ : ∃ Q, MostPost w p ls lt = Q := ⟨_, rfl⟩
  rw [hQ]
  have HQ : Hid (∀ fb rm n w', Box w' fb 150 (roomV rm (2 * p.ms.length + 2)) → rm.length = 16900 → MostR p ls lt rm n → w.heap.size ≤ fb → Below w.heap.size w w' → Q (.returned (.tuple #[.pointer (some ⟨fb, 0, none⟩), .int .i64 n])) w') := Lib.hid (fun fb rm n w' h1 h2 h3 h4 h5 => by rw [← hQ]; exact ⟨fb, rm, n, rfl, h1, h2, h3, h4, h5⟩)
  clear hQ
  have HWD := Lib.hid hwd
  have HS := Lib.hid hs
  have HTT := Lib.hid ht
  have HOK := Lib.hid hok
  have HIN := Lib.hid hin
  have HIN2 := Lib.hid hin2
  have HAR := Lib.hid hpl.arcs
  obtain ⟨⟨a1, c1, rfl, ⟨hl1, _⟩, hA1⟩, ⟨a2, c2, rfl, _, _⟩⟩ := hpl
  obtain ⟨b1, off1, rfl, hbb, hat⟩ := hA1 hok.pos
  have HAT := Lib.hid hat
  have HBB := Lib.hid hbb
  have hn64 := hok.le
  obtain ⟨sa, cs, rfl, _, _⟩ := hs
  obtain ⟨ta, ct, rfl, _, _⟩ := ht
  clear hwd hok hin hin2 hat hbb hA1
  obtain ⟨n, hn⟩ : ∃ n, p.ms.length = n := ⟨_, rfl⟩
  obtain ⟨na, hna⟩ : ∃ n, p.arcs.length = n := ⟨_, rfl⟩
  obtain ⟨ns, hns⟩ : ∃ n, ls.length = n := ⟨_, rfl⟩
  obtain ⟨nt, hnt⟩ : ∃ n, lt.length = n := ⟨_, rfl⟩
  have HNN := Lib.hid hn
  rw [hna] at HAR
  rw [hns] at HS
  rw [hnt] at HTT
  rw [hn] at hn64 hl1
  rw [hn, hna, hns, hnt]
  clear hn hna hns hnt
  obtain ⟨N, hN⟩ : ∃ N, 2 * n + 2 = N := ⟨_, rfl⟩
  obtain ⟨src, hsrc⟩ : ∃ N, 2 * n = N := ⟨_, rfl⟩
  obtain ⟨snk, hsnk⟩ : ∃ N, 2 * n + 1 = N := ⟨_, rfl⟩
  have HX2 := Lib.hid (show (2 * (n : Int) + 2) = (N : Int) by omega)
  have HB0 := Lib.hid ((Below.refl w.heap.size w).alloc (Nat.le_refl _) (.cells #[.slice (some ⟨b1, off1, none⟩) n c1, .slice a2 na c2] 25))
  have HX0 := Lib.hid (Box.new w #[.slice (some ⟨b1, off1, none⟩) n c1, .slice a2 na c2] 25)
  have HEN := Lib.hid hN
  have HES := Lib.hid hsrc
  have HET := Lib.hid hsnk
  clear hN hsrc hsnk
  obtain ⟨P1, hP1⟩ : ∃ q, m1_119 = q := ⟨_, rfl⟩
  have HP1 := Lib.hid hP1
  simp only [m1_119, c119, Tryz.f119, Option.getD, codeL, codeR] at hP1
  have HL1 := Lib.hid hP1
  obtain ⟨P2, hP2⟩ : ∃ q, m2_119 = q := ⟨_, rfl⟩
  have HP2 := Lib.hid hP2
  simp only [m2_119, c119, Tryz.f119, Option.getD, codeL, codeR] at hP2
  have HL2 := Lib.hid hP2
  obtain ⟨P3, hP3⟩ : ∃ q, m3_119 = q := ⟨_, rfl⟩
  have HP3 := Lib.hid hP3
  simp only [m3_119, c119, Tryz.f119, Option.getD, codeL, codeR] at hP3
  have HL3 := Lib.hid hP3
  obtain ⟨P4, hP4⟩ : ∃ q, m4_119 = q := ⟨_, rfl⟩
  have HP4 := Lib.hid hP4
  simp only [m4_119, c119, Tryz.f119, Option.getD, codeL, codeR] at hP4
  have HL4 := Lib.hid hP4
  obtain ⟨P5, hP5⟩ : ∃ q, m5_119 = q := ⟨_, rfl⟩
  have HP5 := Lib.hid hP5
  simp only [m5_119, c119, Tryz.f119, Option.getD, codeL, codeR] at hP5
  have HL5 := Lib.hid hP5
  clear hP1 hP2 hP3 hP4 hP5
  go_enter Tryz.func119, Tryz.ntmps119
  rw [HL1.out, HL2.out, HL3.out, HL4.out, HL5.out]
  clear HL1 HL2 HL3 HL4 HL5
  go_wp2_with fail
  rw [HX2.out, z150]
  have HM0 : Hid (MoM w ((w.alloc (.cells #[.slice (some ⟨b1, off1, none⟩) n c1, .slice a2 na c2] 25)).alloc (.cells (roomV zeros16900 N).toArray 150)) (w.heap.size + 1) N (.slice (some ⟨b1, off1, none⟩) n c1) (.slice a2 na c2) zeros16900) := Lib.hid (by
    have h1 := Box.new (w.alloc (.cells #[.slice (some ⟨b1, off1, none⟩) n c1, .slice a2 na c2] 25)) (roomV zeros16900 N).toArray 150
    rw [World.size_alloc] at h1
    exact ⟨HX0.out.alloc _, h1, zeros_len, by omega, HB0.out.alloc HB0.out.size _⟩)
  have hc0 := (HM0.out.fl.cell 16900).trans (roomV_size N zeros_len)
  have hz0 := HM0.out.fl.lt
  have k1 : IntKind.i64.wrap ((N : Int) - 2) = (src : Int) := by rw [IntWalk.i64_in _ (by have := HEN.out; omega)]; have := HEN.out; have := HES.out; omega
  have k2 : IntKind.i64.wrap ((N : Int) - 1) = (snk : Int) := by rw [IntWalk.i64_in _ (by have := HEN.out; omega)]; have := HEN.out; have := HET.out; omega
  go_quiet (fail)
  have HM := Lib.hid (HM0.out.later (below_drewN (Below.refl _ _) nq))
  clear hc0 hz0 k1 k2 HM0
  go_wp2_with fail
  rw [← HP1.out]
  refine wp_of_ex (F := fun z => { tmps := (fr119 w.heap.size (.slice sa ns cs) (.slice ta nt ct) (w.heap.size + 1) src snk z).toArray, defers := [] }) (by apply fr119_act <;> rfl) fun z => ?_
  refine m1_walk w _ _ N src snk _ _ (some ⟨b1, off1, none⟩) n c1 _ zeros16900 z HM.out hn64 _ ?_
  intro z1 W1 hm1
  have HM1 := Lib.hid hm1
  clear hm1
  simp only [fr119]
  go_wp2_with fail
  rw [← HP2.out]
  refine wp_of_ex (F := fun z => { tmps := (fr119 w.heap.size (.slice sa ns cs) (.slice ta nt ct) (w.heap.size + 1) src snk z).toArray, defers := [] }) (by apply fr119_act <;> rfl) fun z => ?_
  refine m2_walk w W1 _ N src snk _ _ b1 off1 c1 _ p ls lt _ z HOK.out HWD.out HS.out HTT.out HBB.out HAT.out HAR.out (by rw [HNN.out]; exact HM1.out) _ ?_
  intro z2 W2 hm2
  rw [HNN.out] at hm2
  have HM2 := Lib.hid hm2
  clear hm2
  simp only [fr119]
  go_wp2_with fail
  rw [← HP3.out]
  refine wp_of_ex (F := fun z => { tmps := (fr119 w.heap.size (.slice sa ns cs) (.slice ta nt ct) (w.heap.size + 1) src snk z).toArray, defers := [] }) (by apply fr119_act <;> rfl) fun z => ?_
  refine m3_walk w W2 _ N src snk _ _ _ _ _ ls n z HM2.out hn64 HS.out (by have := HIN.out; rwa [HNN.out] at this) (by have := HES.out; omega) _ ?_
  intro z3 W3 hm3
  have HM3 := Lib.hid hm3
  clear hm3
  simp only [fr119]
  go_wp2_with fail
  rw [← HP4.out]
  refine wp_of_ex (F := fun z => { tmps := (fr119 w.heap.size (.slice sa ns cs) (.slice ta nt ct) (w.heap.size + 1) src snk z).toArray, defers := [] }) (by apply fr119_act <;> rfl) fun z => ?_
  refine m4_walk w W3 _ N src snk _ _ _ _ _ lt n z HM3.out hn64 HTT.out (by have := HIN2.out; rwa [HNN.out] at this) (by have := HET.out; omega) _ ?_
  intro z4 W4 hm4
  have HM4 := Lib.hid hm4
  clear hm4
  simp only [fr119]
  go_wp2_with fail
  rw [← HP5.out]
  refine wp_of_ex (F := fun z => { tmps := (fr119 w.heap.size (.slice sa ns cs) (.slice ta nt ct) (w.heap.size + 1) src snk z).toArray, defers := [] }) (by apply fr119_act <;> rfl) fun z => ?_
  have HM5 : Hid (MoM w W4 (w.heap.size + 1) (2 * p.ms.length + 2) (.slice (some ⟨b1, off1, none⟩) n c1) (.slice a2 na c2) (roomL p ls lt)) := Lib.hid (by
    have h := HM4.out
    rw [← HEN.out, ← HES.out, ← HET.out, ← HNN.out, most_room] at h
    rw [← HNN.out]
    exact h)
  have e1 : src = 2 * p.ms.length := by rw [HNN.out]; exact HES.out.symm
  have e2 : snk = 2 * p.ms.length + 1 := by rw [HNN.out]; exact HET.out.symm
  subst e1 e2
  refine m5_walk w W4 _ _ _ _ _ p ls lt z (by rw [HNN.out]; exact hn64) HM5.out _ ?_
  intro A W' rm n' h6 h7 h8 hm5 hmr
  refine bodyPost_ret (results_tmp2 rfl _ _ _) h8 ?_
  rw [Array.getD_eq_getD_getElem?, Array.getD_eq_getD_getElem?, h6, h7]
  exact HQ.out _ _ _ _ hm5.fl hm5.len hmr (by omega) hm5.bw

/-- What sources and sinks without an error are. -/
structure OkE (p : Pl) (src snk : List Int) : Prop where
  in1 : ∀ x ∈ src, inN p.ms.length x = true
  in2 : ∀ x ∈ snk, inN p.ms.length x = true
  k1 : ∀ x ∈ src, bgB (kdA p x) = true
  k2 : ∀ x ∈ snk, enB (kdA p x) = true
  n1 : src.Nodup
  n2 : snk.Nodup
  ne : ∀ x ∈ snk, x ∉ src
theorem endE_ok {p : Pl} {f : ByteArray → Bool} {l : List Int} (h : endE p f l = 0) : (∀ x ∈ l, inN p.ms.length x = true) ∧ (∀ x ∈ l, f (kdA p x) = true) ∧ l.Nodup := by
  unfold endE at h
  split at h
  · cases h
  · rename_i h1
    split at h
    · cases h
    · rename_i h2
      split at h
      · cases h
      · rename_i h3
        refine ⟨unk_in (by simpa using h1), fun x hx => ?_, (nodup_dup l).1 (by simpa using h3)⟩
        have := List.any_eq_false.1 (by simpa using h2 : l.any (fun x => !f (kdA p x)) = false) x hx
        simpa using this
theorem endsE_ok {p : Pl} {src snk : List Int} (h : endsE p src snk = 0) : OkE p src snk := by
  unfold endsE at h
  split at h
  · rename_i h1; exact absurd h h1
  · rename_i h1
    split at h
    · rename_i h2; exact absurd h h2
    · rename_i h2
      split at h
      · cases h
      · rename_i h3
        obtain ⟨a1, a2, a3⟩ := endE_ok (Decidable.not_not.1 h1)
        obtain ⟨b1, b2, b3⟩ := endE_ok (Decidable.not_not.1 h2)
        refine ⟨a1, b1, a2, b2, a3, b3, fun x hx hs => ?_⟩
        have := List.any_eq_false.1 (by simpa using h3 : snk.any (fun x => src.contains x) = false) x hx
        simp at this
        exact this hs
theorem bothE_ok {p : Pl} {src snk : List Int} (h : bothE p src snk = 0) : OkP p ∧ OkE p src snk := by
  unfold bothE at h
  split at h
  · rename_i h1; exact absurd h h1
  · rename_i h1; exact ⟨ckPlant_ok (Decidable.not_not.1 h1), endsE_ok h⟩
def MostE (w : World) (p : Pl) (src snk : List Int) (e : Ending) (w' : World) : Prop :=
  ∃ n, e = .returned (.tuple #[.int .i64 n, .int .i64 (bothE p src snk)]) ∧ (bothE p src snk ≠ 0 → n = 0) ∧ (bothE p src snk = 0 → ∃ rm, MostR p src snk rm n) ∧ Below w.heap.size w w'
set_option maxRecDepth 100000 in
set_option maxHeartbeats 1000000 in
theorem most60 (w : World) (v1 v2 s t : Value) (p : Pl) (src snk : List Int) (hwd : WdR w) (hv : PlR w w.heap.size v1 v2 p) (hs : Sl encI 1 w w.heap.size s src) (ht : Sl encI 1 w w.heap.size t snk) :
    Calls Tryz.prog 60 #[.agg #[v1, v2], s, t] w (MostE w p src snk) := by
  have HP := Lib.hid (fun (w1 : World) (hb : Below w.heap.size w w1) => checkBoth118 w1 _ _ s t p src snk (hwd.later hb) (hv.later hb) (hs.later hb) (ht.later hb))
  have HM := Lib.hid (fun (w1 : World) (hb : Below w.heap.size w w1) (h : bothE p src snk = 0) => most119 w1 _ _ s t p src snk (hwd.later hb) (hv.later hb) (hs.later hb) (ht.later hb) (bothE_ok h).1 (bothE_ok h).2.in1 (bothE_ok h).2.in2)
  obtain ⟨a1, n1, a2, n2, rfl, rfl⟩ := hv.agg
  obtain ⟨sa, cs, rfl, _, _⟩ := id hs
  obtain ⟨ta, ct, rfl, _, _⟩ := id ht
  clear hwd hv hs ht
  have HB := Lib.hid ((Below.refl w.heap.size w).alloc (Nat.le_refl _) (.cells #[.slice a1 p.ms.length n1, .slice a2 p.arcs.length n2] 25))
  have HX := Lib.hid (Box.new w #[.slice a1 p.ms.length n1, .slice a2 p.arcs.length n2] 25)
  obtain ⟨Q, hQ⟩ : ∃ Q, MostE w p src snk = Q := ⟨_, rfl⟩
  rw [hQ]
  unfold MostE at hQ
  unfold MostPost at HM
  obtain ⟨c, hc⟩ : ∃ c, bothE p src snk = c := ⟨_, rfl⟩
  rw [hc] at HP hQ HM
  have HQ : Hid (∀ n w', (c ≠ 0 → n = 0) → (c = 0 → ∃ rm, MostR p src snk rm n) → Below w.heap.size w w' → Q (.returned (.tuple #[.int .i64 n, .int .i64 c])) w') := Lib.hid (fun n w' h1 h2 h3 => by rw [← hQ]; exact ⟨n, rfl, h1, h2, h3⟩)
  obtain ⟨n, hn⟩ : ∃ n, p.ms.length = n := ⟨_, rfl⟩
  obtain ⟨m, hm⟩ : ∃ n, p.arcs.length = n := ⟨_, rfl⟩
  obtain ⟨ns, hns⟩ : ∃ n, src.length = n := ⟨_, rfl⟩
  obtain ⟨nt, hnt⟩ : ∃ n, snk.length = n := ⟨_, rfl⟩
  rw [hn, hm, hns, hnt] at HP
  rw [hn, hm] at HB HX
  rw [hn, hm, hns, hnt] at HM
  rw [hn, hm, hns, hnt]
  clear hn hm hns hnt hc hQ
  go_enter Tryz.func60, Tryz.ntmps60
  by_cases h0 : c = 0
  · subst h0
    have HM2 := Lib.hid (fun w1 hb => HM.out w1 hb rfl)
    clear HM
    go_wp2_with (first | (go_at_call 118; refine (HP.out _ HB.out).mono ?_; rintro e w2 ⟨rfl, hb2⟩; have HB2 := Lib.hid (HB.out.trans (hb2.mono HB.out.size)); have HX2 := Lib.hid (HX.out.later hb2); obtain ⟨x0, x1, xf, xz⟩ := HX2.out.v2; clear hb2) | (go_at_call 119; refine (HM2.out _ HB2.out).mono ?_; rintro e w3 ⟨fb, rm, nn, rfl, hf, hl, hr, hge, hb3⟩; have HR := Lib.hid hr; have HB3 := Lib.hid (HB2.out.trans (hb3.mono HB2.out.size)); clear hf hl hr hge hb3))
    exact HQ.out _ _ (fun h => absurd rfl h) (fun _ => ⟨_, HR.out⟩) HB3.out
  · have k0 : (c != 0) = true := bne_iff_ne.2 h0
    have H0 := Lib.hid h0
    clear HM h0
    go_wp2_with (go_at_call 118; refine (HP.out _ HB.out).mono ?_; rintro e w2 ⟨rfl, hb2⟩; have HB2 := Lib.hid (HB.out.trans (hb2.mono HB.out.size)); have HX2 := Lib.hid (HX.out.later hb2); obtain ⟨x0, x1, xf, xz⟩ := HX2.out.v2; clear hb2)
    exact HQ.out _ _ (fun _ => rfl) (fun h => absurd h H0.out) HB2.out
end Go.Proofs.YtahpdkkpnkhnhaaGreatDoor
