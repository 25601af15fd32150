/- Lemmas on the way to the laws (part 13): Pd Pe Pf Pg Ph -/
import Derived.Test.YtlakcghdehdeiaaLib12
set_option linter.unusedVariables false
set_option linter.unusedSimpArgs false

/- Walks: shows (weigh), its walk. -/
namespace Go.Proofs.Ytlakcghdehdeiaa
open Go Go.Proofs Go.RowKit

/-- What the walk has: the book, the places that are in, three sums. -/
structure ShW (w wr : World) (xs : List Value) (g S n : Nat) (il : List Bool) (a0 a1 c0 c1 d0 d1 : Int) : Prop where
  below : Below w.heap.size w wr
  box : Box wr w.heap.size 38 xs
  own : Own encB 1 4 wr (w.heap.size + 1) (.slice (some ⟨g, 0, none⟩) il.length (n + 1)) il
  len : il.length = n + 1
  st : Box wr S 24 [.int .i64 a0, .int .i64 a1]
  cm : Box wr (S + 1) 24 [.int .i64 c0, .int .i64 c1]
  gn : Box wr (S + 1 + 1) 24 [.int .i64 d0, .int .i64 d1]
  ge : w.heap.size + 1 ≤ g
  sg : w.heap.size + 1 ≤ S
theorem ShW.later {w wr w' : World} {xs : List Value} {g S n : Nat} {il : List Bool} {a0 a1 c0 c1 d0 d1 : Int} (h : ShW w wr xs g S n il a0 a1 c0 c1 d0 d1) (hb : Below wr.heap.size wr w') : ShW w w' xs g S n il a0 a1 c0 c1 d0 d1 :=
  ⟨h.below.trans (hb.mono h.below.size), h.box.later hb, h.own.later hb, h.len, h.st.later hb, h.cm.later hb, h.gn.later hb, h.ge, h.sg⟩
theorem ShW.gne {w wr : World} {xs : List Value} {g S n : Nat} {il : List Bool} {a0 a1 c0 c1 d0 d1 : Int} (h : ShW w wr xs g S n il a0 a1 c0 c1 d0 d1) : g ≠ S ∧ g ≠ S + 1 ∧ g ≠ S + 1 + 1 ∧ g < wr.heap.size :=
  ⟨fun e => h.own.other_type h.st (by decide) (by rw [e]; rfl), fun e => h.own.other_type h.cm (by decide) (by rw [e]; rfl), fun e => h.own.other_type h.gn (by decide) (by rw [e]; rfl), (World.ownsRow.lt h.own g rfl).2⟩
theorem ShW.cell {w wr : World} {xs : List Value} {g S n : Nat} {il : List Bool} {a0 a1 c0 c1 d0 d1 : Int} (h : ShW w wr xs g S n il a0 a1 c0 c1 d0 d1) {i : Nat} {x : Bool} (hi : i < il.length) (e : il[i] = x) : wr.cell? ⟨g, i, none⟩ = some (.bool x) := by
  have := (h.own.at encB_len i hi).c1
  rwa [Nat.mul_one, e] at this
theorem ShW.setIn {w wr : World} {xs : List Value} {g S n : Nat} {il : List Bool} {a0 a1 c0 c1 d0 d1 : Int} (h : ShW w wr xs g S n il a0 a1 c0 c1 d0 d1) {i : Nat} (hi : i < il.length) : ShW w (wr.setCell ⟨g, i, none⟩ (.bool true)) xs g S n (il.set i true) a0 a1 c0 c1 d0 d1 := by
  have hge := h.ge
  obtain ⟨g1, g2, g3, _⟩ := h.gne
  have o1 := h.own.set encB_len i hi 0 (by omega) (.bool true) true rfl
  have e : il.length = (il.set i true).length := by simp
  rw [Nat.mul_one, Nat.add_zero, e] at o1
  exact ⟨h.below.setCell (by simp; omega) _, h.box.other _ (by simp; omega), o1, by rw [← e]; exact h.len, h.st.other _ g1, h.cm.other _ g2, h.gn.other _ g3, h.ge, h.sg⟩
theorem ShW.setSt {w wr : World} {xs : List Value} {g S n : Nat} {il : List Bool} {a0 a1 c0 c1 d0 d1 : Int} (h : ShW w wr xs g S n il a0 a1 c0 c1 d0 d1) (j : Nat) (x a0' a1' : Int) (he : [Value.int .i64 a0', .int .i64 a1'] = [Value.int .i64 a0, .int .i64 a1].set j (.int .i64 x)) :
    ShW w (wr.setCell ⟨S, j, none⟩ (.int .i64 x)) xs g S n il a0' a1' c0 c1 d0 d1 := by
  have hsg := h.sg
  obtain ⟨g1, g2, g3, _⟩ := h.gne
  refine ⟨h.below.setCell (by simp; omega) _, h.box.other _ (by simp; omega), h.own.other _ (by intro e; exact g1 (by simpa [Value.ownBlock] using e)), h.len, ?_, h.cm.other _ (by simp), h.gn.other _ (by simp; omega), h.ge, h.sg⟩
  rw [he]
  exact h.st.set j (.int .i64 x)
theorem ShW.setCm {w wr : World} {xs : List Value} {g S n : Nat} {il : List Bool} {a0 a1 c0 c1 d0 d1 : Int} (h : ShW w wr xs g S n il a0 a1 c0 c1 d0 d1) (x y : Int) :
    ShW w ((wr.setCell ⟨S + 1, 0, none⟩ (.int .i64 x)).setCell ⟨S + 1, 1, none⟩ (.int .i64 y)) xs g S n il a0 a1 x y d0 d1 := by
  have hsg := h.sg
  obtain ⟨g1, g2, g3, _⟩ := h.gne
  have hb1 : Below w.heap.size w (wr.setCell ⟨S + 1, 0, none⟩ (.int .i64 x)) := h.below.setCell (by simp; omega) _
  have ho : ∀ {v : Value} (W : World), Own encB 1 4 W (w.heap.size + 1) (.slice (some ⟨g, 0, none⟩) il.length (n + 1)) il → ∀ o, Own encB 1 4 (W.setCell ⟨S + 1, o, none⟩ v) (w.heap.size + 1) (.slice (some ⟨g, 0, none⟩) il.length (n + 1)) il :=
    fun W hW o => hW.other (a := ⟨S + 1, o, none⟩) _ (by intro e; exact g2 (by simpa [Value.ownBlock] using e))
  refine ⟨hb1.setCell (by simp; omega) _, ?_, ho _ (ho _ h.own 0) 1, h.len, ?_, ?_, ?_, h.ge, h.sg⟩
  · exact (h.box.other (a := ⟨S + 1, 0, none⟩) _ (by simp; omega)).other _ (by simp; omega)
  · exact (h.st.other (a := ⟨S + 1, 0, none⟩) _ (by simp)).other _ (by simp)
  · exact (h.cm.set 0 (.int .i64 x)).set 1 (.int .i64 y)
  · exact (h.gn.other (a := ⟨S + 1, 0, none⟩) _ (by simp)).other _ (by simp)
theorem ShW.setGn {w wr : World} {xs : List Value} {g S n : Nat} {il : List Bool} {a0 a1 c0 c1 d0 d1 : Int} (h : ShW w wr xs g S n il a0 a1 c0 c1 d0 d1) (x y : Int) :
    ShW w ((wr.setCell ⟨S + 1 + 1, 0, none⟩ (.int .i64 x)).setCell ⟨S + 1 + 1, 1, none⟩ (.int .i64 y)) xs g S n il a0 a1 c0 c1 x y := by
  have hsg := h.sg
  obtain ⟨g1, g2, g3, _⟩ := h.gne
  have hb1 : Below w.heap.size w (wr.setCell ⟨S + 1 + 1, 0, none⟩ (.int .i64 x)) := h.below.setCell (by simp; omega) _
  have ho : ∀ {v : Value} (W : World), Own encB 1 4 W (w.heap.size + 1) (.slice (some ⟨g, 0, none⟩) il.length (n + 1)) il → ∀ o, Own encB 1 4 (W.setCell ⟨S + 1 + 1, o, none⟩ v) (w.heap.size + 1) (.slice (some ⟨g, 0, none⟩) il.length (n + 1)) il :=
    fun W hW o => hW.other (a := ⟨S + 1 + 1, o, none⟩) _ (by intro e; exact g3 (by simpa [Value.ownBlock] using e))
  refine ⟨hb1.setCell (by simp; omega) _, ?_, ho _ (ho _ h.own 0) 1, h.len, ?_, ?_, ?_, h.ge, h.sg⟩
  · exact (h.box.other (a := ⟨S + 1 + 1, 0, none⟩) _ (by simp; omega)).other _ (by simp; omega)
  · exact (h.st.other (a := ⟨S + 1 + 1, 0, none⟩) _ (by simp; omega)).other _ (by simp; omega)
  · exact (h.cm.other (a := ⟨S + 1 + 1, 0, none⟩) _ (by simp)).other _ (by simp)
  · exact (h.gn.set 0 (.int .i64 x)).set 1 (.int .i64 y)

set_option maxRecDepth 100000 in
set_option maxHeartbeats 1000000 in
theorem shows82 (v1 v2 u : Value) (b : Bk) (P : List Int) (w : World) (hok : OkBk b) (hP : OkPl b P) (hv : BkR w w.heap.size v1 v2 b) (hu : Sl encI 1 w w.heap.size u P) (R : Bool) (hR : R = true ↔ ShowsP b P) :
    Calls Try.prog 82 #[.agg #[v1, v2], u] w (Ret (.bool R) w) := by
  have h32 := hok.st32
  have h128 := hok.ts128
  have hPl := hP.short
  obtain ⟨⟨a1, c1, rfl, hl1, hA1⟩, ⟨a2, c2, rfl, hl2, hA2⟩, hids⟩ := hv
  obtain ⟨a3, c3, rfl, hl3, hA3⟩ := hu
  clear hids
  have HOK := Lib.hid hok
  clear hok
  have HPL := Lib.hid hP
  clear hP
  have HA1 := Lib.hid hA1
  clear hA1
  have HA2 := Lib.hid hA2
  clear hA2
  have HA3 := Lib.hid hA3
  clear hA3
  have HR := Lib.hid hR
  clear hR
  go_enter Try.func82, Try.ntmps82
  go_wp2_with ((refine wpList_mk1 encB false (.bool false) rfl 112 4 1 Try.underlying112 Try.infoB rfl (by decide) (w.heap.size + 1) _ (b.st.length + 1) (by omega) (by simp) rfl _ _ rfl .i64 .i64 rfl rfl ?_); intro w2 hown hgr; have HOW := Lib.hid hown; have HGR := Lib.hid hgr; clear hown hgr)
  have hxx0 := Box.new w #[.slice a1 b.st.length c1, .slice a2 b.ts.length c2] 38
  have hxx1 := hxx0.grown HGR.out (by simp)
  have hsz : w.heap.size + 1 ≤ w2.heap.size := by have := HGR.out.size; simp at this; omega
  have HS0 := Lib.hid (show ShW w (((w2.alloc (.cells #[.int .i64 0, .int .i64 0] 24)).alloc (.cells #[.int .i64 0, .int .i64 0] 24)).alloc (.cells #[.int .i64 0, .int .i64 0] 24)) [.slice a1 b.st.length c1, .slice a2 b.ts.length c2] (w.heap.size + 1) w2.heap.size b.st.length (inL b.st.length (P.take 0)) (stLo b (P.take 0)) (stHi b (P.take 0)) 0 0 0 0 from by
    have hb2 : Below w.heap.size w w2 := ((Below.refl _ _).alloc (Nat.le_refl _) _).trans ((grown_none_below HGR.out).mono (by simp))
    refine ⟨((hb2.alloc (by omega) _).alloc (by simp; omega) _).alloc (by simp; omega) _, ((hxx1.alloc _).alloc _).alloc _, ?_, by rw [inL_len], ?_, ?_, ?_, Nat.le_refl _, hsz⟩
    · rw [inL_len, List.take_zero, inL_nil]
      have := HOW.out
      rw [show (w.alloc (.cells #[.slice a1 b.st.length c1, .slice a2 b.ts.length c2] 38)).heap.size = w.heap.size + 1 by simp] at this
      exact ((Own.alloc this _).alloc _).alloc _
    · exact ((Box.new w2 #[.int .i64 0, .int .i64 0] 24).alloc _).alloc _
    · exact (Box.newAt _ #[.int .i64 0, .int .i64 0] 24 (by simp)).alloc _
    · exact Box.newAt _ #[.int .i64 0, .int .i64 0] 24 (by simp))
  generalize ((w2.alloc (.cells #[.int .i64 0, .int .i64 0] 24)).alloc (.cells #[.int .i64 0, .int .i64 0] 24)).alloc (.cells #[.int .i64 0, .int .i64 0] 24) = W0 at *
  generalize w2.heap.size = S at *
  clear hxx0 hxx1 hsz HOW HGR
  go_loopw [20] (fun j wr => ∃ k : Nat, k ≤ P.length ∧ j = .int .i64 k ∧ ShW w wr [.slice a1 b.st.length c1, .slice a2 b.ts.length c2] (w.heap.size + 1) S b.st.length (inL b.st.length (P.take k)) (stLo b (P.take k)) (stHi b (P.take k)) 0 0 0 0) (fun j _ => P.length - (intOf j).toNat)
  case atStart => exact ⟨0, by omega, rfl, HS0.out⟩
  case round =>
    clear HS0
    obtain ⟨k, hk, rfl, hx⟩ := hrel
    by_cases hlt : k < P.length
    · obtain ⟨b3, o3, rfl, hb3, hcells3⟩ := HA3.out (by omega)
      have f0 := ((hcells3 k hlt).below hx.below hb3).c1
      rw [Nat.mul_one] at f0
      obtain ⟨p0, p1⟩ := HPL.out.inr P[k] (List.getElem_mem hlt)
      obtain ⟨q, hq⟩ : ∃ q : Nat, P[k] = q := ⟨P[k].toNat, by omega⟩
      rw [hq] at f0 p0 p1
      have hqn : q < b.st.length := by omega
      have HTK := Lib.hid (show P.take (k + 1) = P.take k ++ [(q : Int)] by rw [take_snoc _ _ hlt, hq])
      obtain ⟨bb, off, rfl, hbb, hcells⟩ := HA1.out (by omega)
      obtain ⟨e0, e1⟩ := ((hcells q hqn).below hx.below hbb).c2
      obtain ⟨⟨s1, s2⟩, s3, s4⟩ := st_bd HOK.out (P := P.take k) (fun x hx => HPL.out.inr x (List.mem_of_mem_take hx))
      have hlk : ((P.take k).length : Int) ≤ 32 := by have := List.length_take_le k P; omega
      obtain ⟨s5, s6, s7⟩ := HOK.out.st b.st[q] (List.getElem_mem hqn)
      have HSL := Lib.hid (show stLo b (P.take (k + 1)) = stLo b (P.take k) + b.st[q].lo ∧ stHi b (P.take (k + 1)) = stHi b (P.take k) + b.st[q].hi by
        rw [HTK.out]; unfold stLo stHi; rw [tot_snoc, tot_snoc]; simp [List.getD_eq_getElem?_getD, hqn])
      have HIN := Lib.hid (show inL b.st.length (P.take (k + 1)) = (inL b.st.length (P.take k)).set (q + 1) true by rw [HTK.out, inL_snoc _ _ _ hqn])
      generalize stLo b (P.take k) = A0 at *
      generalize stHi b (P.take k) = A1 at *
      obtain ⟨r, hr⟩ : ∃ r, b.st[q] = r := ⟨_, rfl⟩
      rw [hr] at e0 e1 s5 s6 s7 HSL
      have HRR := Lib.hid hr
      clear hr
      obtain ⟨lo, hi⟩ := r
      dsimp only at *
      have hil : q + 1 < (inL b.st.length (P.take k)).length := by rw [inL_len]; omega
      obtain ⟨x, hxc⟩ : ∃ x, (inL b.st.length (P.take k))[q + 1] = x := ⟨_, rfl⟩
      have hcl := hx.cell hil hxc
      have hfr := hx.own.frozen
      have hx2 := hx.setIn hil
      rw [← HIN.out] at hx2
      have HCE := Lib.hid (show ∀ W, Below w.heap.size w W → At W bb (off + q * 2) [.int .i64 lo, .int .i64 hi] from fun W hW => by have := (hcells q hqn).below hW hbb; rw [HRR.out] at this; exact this)
      clear hcells HA1 hcells3 HA3
      clear e0 e1
      go_wp2_with fail
      clear hcl hfr hx f0 hxc
      generalize wr.setCell ⟨w.heap.size + 1, q + 1, none⟩ (.bool true) = W1 at *
      obtain ⟨e0, e1⟩ := (HCE.out _ hx2.below).c2
      have x0 := hx2.box.cell 0
      have xz := hx2.box.lt
      have y0 := hx2.st.cell 0
      have yf := hx2.st.frozen
      have yz := hx2.st.lt
      simp only [List.getElem?_cons_zero, List.getElem?_cons_succ] at x0 y0
      have hn1 := hx2.gne
      have hst : ∀ nq, ShW w ((W1.drewN nq).setCell ⟨S, 0, none⟩ (.int .i64 (A0 + lo))) [.slice (some ⟨bb, off, none⟩) b.st.length c1, .slice a2 b.ts.length c2] (w.heap.size + 1) S b.st.length (inL b.st.length (P.take (k + 1))) (A0 + lo) A1 0 0 0 0 :=
        fun nq => (hx2.later (below_drewN (Below.refl _ _) nq)).setSt 0 _ _ _ rfl
      have HST := Lib.hid hst
      clear hst hx2
      refine wp_region_head_drew 9 (by kernel_rfl) (by kernel_rfl) ?_
      simp only [List.take_succ_cons, List.take_zero, List.drop_succ_cons, List.drop_zero]
      repeat go_big_quiet_step (fail)
      refine wpQuiet_nil ?_
      rintro _ ⟨nq, rfl⟩
      go_wp2_with fail
      have hx3 := HST.out nq
      generalize (W1.drewN nq).setCell ⟨S, 0, none⟩ (.int .i64 (A0 + lo)) = W2 at *
      clear nq
      clear HST e0 e1 x0 xz y0 yf yz
      obtain ⟨e0, e1⟩ := (HCE.out _ hx3.below).c2
      have x0 := hx3.box.cell 0
      have xz := hx3.box.lt
      have y1 := hx3.st.cell 1
      have yf := hx3.st.frozen
      have yz := hx3.st.lt
      simp only [List.getElem?_cons_zero, List.getElem?_cons_succ] at x0 y1
      have HST := Lib.hid (fun nq => (hx3.later (below_drewN (Below.refl _ _) nq)).setSt 1 (A1 + hi) _ _ rfl)
      clear hx3
      refine wp_region_head_drew 9 (by kernel_rfl) (by kernel_rfl) ?_
      simp only [List.take_succ_cons, List.take_zero, List.drop_succ_cons, List.drop_zero]
      repeat go_big_quiet_step (fail)
      refine wpQuiet_nil ?_
      rintro _ ⟨nq, rfl⟩
      go_wp2_with fail
      go_roundw
      case rel => exact ⟨k + 1, by omega, by go_num, by rw [HSL.out.1, HSL.out.2]; exact HST.out nq⟩
      case measure => simp [intOf]; omega
    · obtain rfl : P.length = k := by omega
      rw [List.take_length] at hx
      clear HA1 HA3
      obtain ⟨⟨s1, s2⟩, s3, s4⟩ := st_bd HOK.out (P := P) (fun x hx => HPL.out.inr x hx)
      have HAL := Lib.hid (show stLo b P = stLo b P ∧ stHi b P = stHi b P from ⟨rfl, rfl⟩)
      obtain ⟨A0, hA0⟩ : ∃ A0, stLo b P = A0 := ⟨_, rfl⟩
      obtain ⟨A1, hA1⟩ : ∃ A1, stHi b P = A1 := ⟨_, rfl⟩
      rw [hA0, hA1] at hx
      rw [hA0] at s1 s2
      rw [hA1] at s3 s4
      have HA0 := Lib.hid hA0
      clear hA0
      have HA1' := Lib.hid hA1
      clear hA1
      have x0 := hx.box.cell 0
      have x1 := hx.box.cell 1
      have xz := hx.box.lt
      simp only [List.getElem?_cons_zero, List.getElem?_cons_succ] at x0 x1
      have HX := Lib.hid (show ShW w wr [.slice a1 b.st.length c1, .slice a2 b.ts.length c2] (w.heap.size + 1) S b.st.length (inL b.st.length P) A0 A1 (comLo P (b.ts.take 0)) (comHi P (b.ts.take 0)) (goLo P (b.ts.take 0)) (goHi P (b.ts.take 0)) from hx)
      clear hx HAL
      go_wp2_with fail
      clear x0 x1 xz
      go_loopw [52] (fun j wr => ∃ k : Nat, k ≤ b.ts.length ∧ j = .int .i64 k ∧ ShW w wr [.slice a1 b.st.length c1, .slice a2 b.ts.length c2] (w.heap.size + 1) S b.st.length (inL b.st.length P) A0 A1 (comLo P (b.ts.take k)) (comHi P (b.ts.take k)) (goLo P (b.ts.take k)) (goHi P (b.ts.take k))) (fun j _ => b.ts.length - (intOf j).toNat)
      case atStart => exact ⟨0, by omega, rfl, HX.out⟩
      case round =>
        clear HX
        obtain ⟨k, hk, rfl, hx⟩ := hrel
        obtain ⟨⟨u1, u2⟩, ⟨u3, u4⟩, ⟨u5, u6⟩, u7, u8⟩ := sums_bd (P := P) (ts := b.ts.take k) (fun t ht => by have := HOK.out.tk t (List.mem_of_mem_take ht); omega)
        have hlk : ((b.ts.take k).length : Int) ≤ 128 := by have := List.length_take_le k b.ts; omega
        by_cases hlt : k < b.ts.length
        · obtain ⟨bb, off, rfl, hbb, hcells⟩ := HA2.out (by omega)
          obtain ⟨e0, e1, e2, e3, e4⟩ := ((hcells k hlt).below hx.below hbb).c5
          obtain ⟨m1, m2, m3, m4, m5, m6, m7, m8⟩ := HOK.out.tk b.ts[k] (List.getElem_mem hlt)
          have HTK := Lib.hid (take_snoc b.ts k hlt)
          have HS1 : Hid (comLo P (b.ts.take (k + 1)) = comLo P (b.ts.take k) + (if b.ts[k].to ∈ P ∧ b.ts[k].fr ∉ P then b.ts[k].m.lo else 0)) := Lib.hid (by rw [HTK.out]; exact tot_snoc _ _ _)
          have HS2 : Hid (comHi P (b.ts.take (k + 1)) = comHi P (b.ts.take k) + (if b.ts[k].to ∈ P ∧ b.ts[k].fr ∉ P then b.ts[k].m.hi else 0)) := Lib.hid (by rw [HTK.out]; exact tot_snoc _ _ _)
          have HS3 : Hid (goLo P (b.ts.take (k + 1)) = goLo P (b.ts.take k) + (if b.ts[k].fr ∈ P ∧ b.ts[k].to ∉ P then b.ts[k].m.lo else 0)) := Lib.hid (by rw [HTK.out]; exact tot_snoc _ _ _)
          have HS4 : Hid (goHi P (b.ts.take (k + 1)) = goHi P (b.ts.take k) + (if b.ts[k].fr ∈ P ∧ b.ts[k].to ∉ P then b.ts[k].m.hi else 0)) := Lib.hid (by rw [HTK.out]; exact tot_snoc _ _ _)
          generalize comLo P (b.ts.take k) = C0 at *
          generalize comHi P (b.ts.take k) = C1 at *
          generalize goLo P (b.ts.take k) = G0 at *
          generalize goHi P (b.ts.take k) = G1 at *
          obtain ⟨t, ht⟩ : ∃ t, b.ts[k] = t := ⟨_, rfl⟩
          rw [ht] at e0 e1 e2 e3 e4 m1 m2 m3 m4 m5 m6 m7 m8 HS1 HS2 HS3 HS4
          clear ht
          obtain ⟨tid, tfr, tto, tlo, thi⟩ := t
          dsimp only at *
          have i1 : (tto + 1).toNat < (inL b.st.length P).length := by rw [inL_len]; omega
          have i2 : (tfr + 1).toNat < (inL b.st.length P).length := by rw [inL_len]; omega
          have hg1 := inL_get b.st.length P (tto + 1).toNat (by omega)
          have hg2 := inL_get b.st.length P (tfr + 1).toNat (by omega)
          rw [show ((tto + 1).toNat : Int) - 1 = tto by omega] at hg1
          rw [show ((tfr + 1).toNat : Int) - 1 = tfr by omega] at hg2
          have n1 : 0 ≤ tto + 1 := by omega
          have n2 : 0 ≤ tfr + 1 := by omega
          have n3 : (tto + 1).toNat < b.st.length + 1 := by omega
          have n4 : (tfr + 1).toNat < b.st.length + 1 := by omega
          obtain ⟨bt, hbt⟩ : ∃ bt, decide (tto ∈ P) = bt := ⟨_, rfl⟩
          obtain ⟨bf, hbf⟩ : ∃ bf, decide (tfr ∈ P) = bf := ⟨_, rfl⟩
          rw [hbt] at hg1
          rw [hbf] at hg2
          have HI1 := Lib.hid (fun (W : World) (h : ShW w W [.slice a1 b.st.length c1, .slice (some ⟨bb, off, none⟩) b.ts.length c2] (w.heap.size + 1) S b.st.length (inL b.st.length P) A0 A1 C0 C1 G0 G1) => h.cell i1 hg1)
          have HI2 := Lib.hid (fun (W : World) (h : ShW w W [.slice a1 b.st.length c1, .slice (some ⟨bb, off, none⟩) b.ts.length c2] (w.heap.size + 1) S b.st.length (inL b.st.length P) A0 A1 C0 C1 G0 G1) => h.cell i2 hg2)
          clear hg1 hg2 i1 i2 hcells HA2
          have HBT := Lib.hid hbt
          have HBF := Lib.hid hbf
          clear hbt hbf
          have hxA := hx.later ((Below.refl _ _).alloc (Nat.le_refl _) (.cells #[.string tid, .int .i64 tfr, .int .i64 tto, .int .i64 tlo, .int .i64 thi] 53))
          have hbx := Box.new wr #[.string tid, .int .i64 tfr, .int .i64 tto, .int .i64 tlo, .int .i64 thi] 53
          have q1 := HI1.out _ hxA
          have q2 := HI2.out _ hxA
          have y0 := hxA.cm.cell 0
          have y1 := hxA.cm.cell 1
          have z0 := hxA.gn.cell 0
          have z1 := hxA.gn.cell 1
          have yf := hxA.cm.frozen
          have zf := hxA.gn.frozen
          simp only [List.getElem?_cons_zero, List.getElem?_cons_succ] at y0 y1 z0 z1
          cases bt <;> cases bf
          · have HXA := Lib.hid hxA
            clear hxA hx hbx
            go_wp2_with fail
            go_roundw
            case rel => exact ⟨k + 1, by omega, by go_num, by
              rw [HS1.out, HS2.out, HS3.out, HS4.out]
              have g1 := of_decide_eq_false HBT.out
              have g2 := of_decide_eq_false HBF.out
              simp only [g1, g2, false_and, if_false, Int.add_zero]
              exact HXA.out⟩
            case measure => simp [intOf]; omega
          · have HXA := Lib.hid (hxA.setGn (G0 + tlo) (G1 + thi))
            clear hxA hx hbx
            go_wp2_with fail
            go_roundw
            case rel => exact ⟨k + 1, by omega, by go_num, by
              rw [HS1.out, HS2.out, HS3.out, HS4.out]
              have g1 := of_decide_eq_false HBT.out
              have g2 := of_decide_eq_true HBF.out
              simp only [g1, g2, false_and, if_false, Int.add_zero, not_false_eq_true, and_self, if_true]
              exact HXA.out⟩
            case measure => simp [intOf]; omega
          · have HXA := Lib.hid (hxA.setCm (C0 + tlo) (C1 + thi))
            clear hxA hx hbx
            go_wp2_with fail
            go_roundw
            case rel => exact ⟨k + 1, by omega, by go_num, by
              rw [HS1.out, HS2.out, HS3.out, HS4.out]
              have g1 := of_decide_eq_true HBT.out
              have g2 := of_decide_eq_false HBF.out
              simp only [g1, g2, false_and, if_false, Int.add_zero, not_false_eq_true, and_self, if_true]
              exact HXA.out⟩
            case measure => simp [intOf]; omega
          · have HXA := Lib.hid hxA
            clear hxA hx hbx
            go_wp2_with fail
            go_roundw
            case rel => exact ⟨k + 1, by omega, by go_num, by
              rw [HS1.out, HS2.out, HS3.out, HS4.out]
              have g1 := of_decide_eq_true HBT.out
              have g2 := of_decide_eq_true HBF.out
              simp only [g1, g2, not_true_eq_false, and_false, if_false, Int.add_zero]
              exact HXA.out⟩
            case measure => simp [intOf]; omega
        · obtain rfl : b.ts.length = k := by omega
          rw [List.take_length] at hx u1 u2 u3 u4 u5 u6 u7 u8 hlk
          have HRR : Hid (R = true ↔ (comHi P b.ts - goLo P b.ts < A0 ∨ A1 < comLo P b.ts - goHi P b.ts)) := Lib.hid (by rw [HR.out]; unfold ShowsP; rw [HA0.out, HA1'.out])
          generalize comLo P b.ts = C0 at *
          generalize comHi P b.ts = C1 at *
          generalize goLo P b.ts = G0 at *
          generalize goHi P b.ts = G1 at *
          have s0 := hx.st.cell 0
          have s1' := hx.st.cell 1
          have y0 := hx.cm.cell 0
          have y1 := hx.cm.cell 1
          have z0 := hx.gn.cell 0
          have z1 := hx.gn.cell 1
          simp only [List.getElem?_cons_zero, List.getElem?_cons_succ] at s0 s1' y0 y1 z0 z1
          have HBE := Lib.hid hx.below
          clear hx
          by_cases h1 : C1 - G0 < A0
          · have hT : R = true := HRR.out.2 (.inl h1)
            subst hT
            go_wp2_with fail
            go_ret
            exact ⟨rfl, HBE.out⟩
          by_cases h2 : A1 < C0 - G1
          · have hT : R = true := HRR.out.2 (.inr h2)
            subst hT
            go_wp2_with fail
            go_ret
            exact ⟨rfl, HBE.out⟩
          · have hF : R = false := Bool.eq_false_iff.2 fun h => by have := HRR.out.1 h; omega
            subst hF
            go_wp2_with fail
            go_ret
            exact ⟨rfl, HBE.out⟩
end Go.Proofs.Ytlakcghdehdeiaa

/- Walks: CheckConflict. -/
namespace Go.Proofs.Ytlakcghdehdeiaa
open Go Go.Proofs Go.RowKit

instance (b : Bk) (P : List Int) : Decidable (ShowsP b P) := by unfold ShowsP; exact inferInstance
def ccE (b : Bk) (P : List Int) : Int := if chE b P ≠ 0 then chE b P else if ShowsP b P then 0 else 18
theorem okPl_of {b : Bk} {P : List Int} (h : ckNums P b.st.length = 0) : OkPl b P := ⟨(ckNums_ok h).1, (ckNums_ok h).2⟩

set_option maxRecDepth 100000 in
set_option maxHeartbeats 1000000 in
theorem checkConflict45 (w : World) (v1 v2 u : Value) (b : Bk) (ps : List Int) (hv : BkR w w.heap.size v1 v2 b) (hu : Sl encI 1 w w.heap.size u ps) : Calls Try.prog 45 #[.agg #[v1, v2], u] w (Ret (.int .i64 (ccE b ps)) w) := by
  obtain ⟨R, hR⟩ : ∃ R : Bool, R = true ↔ ShowsP b ps := ⟨decide (ShowsP b ps), by simp⟩
  have HC := Lib.hid (fun (w1 : World) (hb : Below w.heap.size w w1) => ckBook25 v1 v2 b w1 (hv.later hb))
  have HS := Lib.hid (fun (w1 : World) (hb : Below w.heap.size w w1) (hok : OkBk b) (hP : OkPl b ps) => shows82 v1 v2 u b ps w1 hok hP (hv.later hb) (hu.later hb) R hR)
  have hl1 : b.st.length ≤ 1000000000 := by obtain ⟨a1, n1, _, h, _⟩ := hv.st; exact h
  have HN := Lib.hid (fun (w1 : World) (hb : Below w.heap.size w w1) => numbers71 u ps b.st.length w1 (hu.later hb) (by omega))
  obtain ⟨n, hn⟩ : ∃ n, ccE b ps = n := ⟨_, rfl⟩
  rw [hn]
  have HNE := Lib.hid hn
  clear hn
  have HR := Lib.hid hR
  clear hR
  obtain ⟨⟨a1, n1, hv1, hl1, hA1⟩, ⟨a2, n2, hv2, hl2, hA2⟩, hids⟩ := hv
  subst hv1 hv2
  clear hA1 hA2 hids hu
  go_enter Try.func45, Try.ntmps45
  go_wp2_with fail
  have hx0 := Box.new w #[.slice a1 b.st.length n1, .slice a2 b.ts.length n2] 38
  have hb0 : Below w.heap.size w (w.alloc (.cells #[.slice a1 b.st.length n1, .slice a2 b.ts.length n2] 38)) := (Below.refl _ _).alloc (Nat.le_refl _) _
  generalize w.alloc (.cells #[.slice a1 b.st.length n1, .slice a2 b.ts.length n2] 38) = W0 at *
  have HC2 := Lib.hid (fun (X : Later W0) => HC.out X.w (hb0.trans (X.h.mono hb0.size)))
  have HN2 := Lib.hid (fun (X : Later W0) => HN.out X.w (hb0.trans (X.h.mono hb0.size)))
  have x0 := hx0.cell 0
  have x1 := hx0.cell 1
  have xz := hx0.lt
  simp only [List.getElem?_cons_zero, List.getElem?_cons_succ] at x0 x1
  have HX0 := Lib.hid hx0
  have HB0 := Lib.hid hb0
  clear hx0 hb0 HC HN
  refine wp_region_head_later 7 (by kernel_rfl) (by kernel_rfl) ?_
  simp only [List.take_succ_cons, List.take_zero, List.drop_succ_cons, List.drop_zero]
  repeat go_big_quiet_step ((first | (go_at_call 25; exact Calls.later (HC2.out _)) | (go_at_call 71; exact Calls.later (HN2.out _))))
  refine wpQuiet_nil ?_
  rintro w1 ⟨⟨_, hb1⟩, rfl⟩
  have hx1 := HX0.out.later hb1
  have HB1 := Lib.hid (HB0.out.trans (hb1.mono HB0.out.size))
  clear HX0 HB0 HC2 HN2 hb1 x0 x1 xz
  have HCE := Lib.hid (show chE b ps = firstNZ [ckBook b, ckNums ps b.st.length] from rfl)
  generalize hE : chE b ps = E at *
  have hfirst := first63 (.slice (some ⟨w1.heap.size, 0, none⟩) 2 2) [ckBook b, ckNums ps b.st.length] _ (Sl.lit encI_len _ w1 #[.int .i64 (ckBook b), .int .i64 (ckNums ps b.st.length)] 27 2 rfl rfl (by simp))
  rw [← HCE.out] at hfirst
  have HF := Lib.hid hfirst
  clear hfirst
  have HE := Lib.hid hE
  clear hE
  have hx2 := hx1.alloc (.cells #[.int .i64 (ckBook b), .int .i64 (ckNums ps b.st.length)] 27)
  have x0 := hx2.cell 0
  have x1 := hx2.cell 1
  have xz := hx2.lt
  simp only [List.getElem?_cons_zero, List.getElem?_cons_succ] at x0 x1
  have HB2 := Lib.hid (show Below w.heap.size w (w1.alloc (.cells #[.int .i64 (ckBook b), .int .i64 (ckNums ps b.st.length)] 27)) from HB1.out.alloc HB1.out.size _)
  clear hx1 hx2
  by_cases h0 : E = 0
  · subst h0
    have HCK := Lib.hid (firstNZ_2.1 HCE.out.symm)
    go_wp2_with (go_at_call 63; refine HF.out.mono ?_; rintro e w' ⟨rfl, rfl⟩)
    refine (HS.out _ HB2.out (okBk_of HCK.out.1) (okPl_of HCK.out.2)).mono ?_
    rintro e w3 ⟨rfl, hb3⟩
    have HB3 := Lib.hid (HB2.out.trans (hb3.mono HB2.out.size))
    clear hb3
    cases R
    · have hns : ¬ ShowsP b ps := fun h => by have := HR.out.2 h; cases this
      have HV := Lib.hid (show n = 18 by rw [← HNE.out]; unfold ccE; rw [HE.out]; simp [hns])
      clear hns
      go_wp2_with fail
      go_ret
      exact ⟨by rw [HV.out]; rfl, HB3.out⟩
    · have hns := HR.out.1 rfl
      have HV := Lib.hid (show n = 0 by rw [← HNE.out]; unfold ccE; rw [HE.out]; simp [hns])
      clear hns
      go_wp2_with fail
      go_ret
      exact ⟨by rw [HV.out]; rfl, HB3.out⟩
  · have hne : (E == 0) = false := by simp [h0]
    have HV := Lib.hid (show n = E by rw [← HNE.out]; unfold ccE; rw [HE.out]; simp [h0])
    go_wp2_with (go_at_call 63; refine HF.out.mono ?_; rintro e w' ⟨rfl, rfl⟩)
    go_ret
    exact ⟨by rw [HV.out]; rfl, HB2.out⟩
end Go.Proofs.Ytlakcghdehdeiaa

/- Walks: the example. -/
namespace Go.Proofs.Ytlakcghdehdeiaa
open Go Go.Proofs Go.RowKit

/-- The book of the document's examples, with these ranges of its tickets. -/
def exG (r1 r2 r3 r4 : Rg) : Bk := ⟨[⟨0, 0⟩, ⟨900, 950⟩], [⟨⟨#[116, 49]⟩, -1, 0, r1⟩, ⟨⟨#[116, 50]⟩, -1, 0, r2⟩, ⟨⟨#[116, 51]⟩, 0, 1, r3⟩, ⟨⟨#[116, 52]⟩, 1, -1, r4⟩]⟩
def exBk (lo hi : Int) : Bk := exG ⟨500, 510⟩ ⟨480, 500⟩ ⟨940, 1020⟩ ⟨lo, hi⟩
def ExPost (w : World) (lo hi : Int) (e : Ending) (w' : World) : Prop := ∃ v1 v2, e = .returned (.agg #[v1, v2]) ∧ BkR w' w'.heap.size v1 v2 (exBk lo hi) ∧ Below w.heap.size w w'
theorem ex_post (w : World) (lo hi : Int) : ExPost w lo hi (.returned (.agg #[.slice (some ⟨w.heap.size + 1, 0, none⟩) 2 2, .slice (some ⟨w.heap.size + 1 + 1, 0, none⟩) 4 4]))
    (((w.alloc (.cells #[.slice (some ⟨w.heap.size + 1, 0, none⟩) 2 2, .slice (some ⟨w.heap.size + 1 + 1, 0, none⟩) 4 4] 38)).alloc (.cells #[.int .i64 0, .int .i64 0, .int .i64 900, .int .i64 950] 24)).alloc
      (.cells #[.string ⟨#[116, 49]⟩, .int .i64 (-1), .int .i64 0, .int .i64 500, .int .i64 510, .string ⟨#[116, 50]⟩, .int .i64 (-1), .int .i64 0, .int .i64 480, .int .i64 500,
        .string ⟨#[116, 51]⟩, .int .i64 0, .int .i64 1, .int .i64 940, .int .i64 1020, .string ⟨#[116, 52]⟩, .int .i64 1, .int .i64 (-1), .int .i64 lo, .int .i64 hi] 53)) := by
  refine ⟨_, _, rfl, ⟨?_, ?_, ?_⟩, ?_⟩
  · have h := Sl.lit Rg.enc_len [⟨0, 0⟩, ⟨900, 950⟩] (w.alloc (.cells #[.slice (some ⟨w.heap.size + 1, 0, none⟩) 2 2, .slice (some ⟨w.heap.size + 1 + 1, 0, none⟩) 4 4] 38)) #[.int .i64 0, .int .i64 0, .int .i64 900, .int .i64 950] 24 2 rfl rfl (by simp)
    rw [show (w.alloc (.cells #[.slice (some ⟨w.heap.size + 1, 0, none⟩) 2 2, .slice (some ⟨w.heap.size + 1 + 1, 0, none⟩) 4 4] 38)).heap.size = w.heap.size + 1 by simp] at h
    exact h.later ((Below.refl _ _).alloc (Nat.le_refl _) _)
  · have h := Sl.lit Tk.enc_len' (exBk lo hi).ts ((w.alloc (.cells #[.slice (some ⟨w.heap.size + 1, 0, none⟩) 2 2, .slice (some ⟨w.heap.size + 1 + 1, 0, none⟩) 4 4] 38)).alloc (.cells #[.int .i64 0, .int .i64 0, .int .i64 900, .int .i64 950] 24)) #[.string ⟨#[116, 49]⟩, .int .i64 (-1), .int .i64 0, .int .i64 500, .int .i64 510, .string ⟨#[116, 50]⟩, .int .i64 (-1), .int .i64 0, .int .i64 480, .int .i64 500,
        .string ⟨#[116, 51]⟩, .int .i64 0, .int .i64 1, .int .i64 940, .int .i64 1020, .string ⟨#[116, 52]⟩, .int .i64 1, .int .i64 (-1), .int .i64 lo, .int .i64 hi] 53 4 rfl rfl (by simp [exBk, exG])
    rw [show ((w.alloc (.cells #[.slice (some ⟨w.heap.size + 1, 0, none⟩) 2 2, .slice (some ⟨w.heap.size + 1 + 1, 0, none⟩) 4 4] 38)).alloc (.cells #[.int .i64 0, .int .i64 0, .int .i64 900, .int .i64 950] 24)).heap.size = w.heap.size + 1 + 1 by simp] at h
    exact h
  · intro t ht
    simp only [exBk, exG, List.mem_cons, List.not_mem_nil, or_false] at ht
    rcases ht with rfl | rfl | rfl | rfl <;> exact Nat.le_of_ble_eq_true rfl
  · exact (((Below.refl _ _).alloc (Nat.le_refl _) _).alloc (by simp) _).alloc (by simp; omega) _
set_option maxRecDepth 100000 in
set_option maxHeartbeats 1000000 in
theorem example60 (lo hi : Int) (w : World) : Calls Try.prog 60 #[.int .i64 lo, .int .i64 hi] w (ExPost w lo hi) := by
  go_enter Try.func60, Try.ntmps60
  go_wp2_with fail
  refine bodyPost_ret (v := .agg #[.slice (some ⟨w.heap.size + 1, 0, none⟩) 2 2, .slice (some ⟨w.heap.size + 1 + 1, 0, none⟩) 4 4]) (by simp [results, Try.results60, go_sem]) rfl ?_
  exact ex_post w lo hi
end Go.Proofs.Ytlakcghdehdeiaa

/- The document's examples, plainly. -/
namespace Go.Proofs.Ytlakcghdehdeiaa
open Go Go.Proofs Go.RowKit

theorem exG_asg {r1 r2 r3 r4 : Rg} {ms : List Int} : IsAsg (exG r1 r2 r3 r4) ms ↔ ∃ a b c d : Int, ms = [a, b, c, d] ∧ r1.has a ∧ r2.has b ∧ r3.has c ∧ r4.has d ∧ a + b - c = 0 ∧ 900 ≤ c - d ∧ c - d ≤ 950 := by
  constructor
  · rintro ⟨h1, h2, h3⟩
    match ms, h1 with
    | [a, b, c, d], _ =>
      have t0 := h2 0 (show 0 < 4 by decide)
      have t1 := h2 1 (show 1 < 4 by decide)
      have t2 := h2 2 (show 2 < 4 by decide)
      have t3 := h2 3 (show 3 < 4 by decide)
      have p0 := h3 0 (show 0 < 2 by decide)
      have p1 := h3 1 (show 1 < 2 by decide)
      refine ⟨a, b, c, d, rfl, t0, t1, t2, t3, ?_⟩
      simp [Rg.has, exG, gain] at p0 p1
      omega
  · rintro ⟨a, b, c, d, rfl, t0, t1, t2, t3, h⟩
    refine ⟨rfl, fun i hi => ?_, fun p hp => ?_⟩
    · match i, hi with
      | 0, _ => exact t0
      | 1, _ => exact t1
      | 2, _ => exact t2
      | 3, _ => exact t3
    · match p, hp with
      | 0, _ => simp [Rg.has, exG, gain]; omega
      | 1, _ => simp [Rg.has, exG, gain]; omega
theorem ck_a : ckBook (exBk 50 100) = 0 := by decide +kernel
theorem ck_b : ckBook (exBk 120 130) = 0 := by decide +kernel
theorem asg_a : IsAsg (exBk 50 100) [500, 480, 980, 50] := exG_asg.2 ⟨_, _, _, _, rfl, by decide, by decide, by decide, by decide, by decide, by decide, by decide⟩
theorem asg_b : IsAsg (exBk 50 100) [510, 500, 1010, 100] := exG_asg.2 ⟨_, _, _, _, rfl, by decide, by decide, by decide, by decide, by decide, by decide, by decide⟩
theorem asg_c : IsAsg (exBk 50 100) [500, 480, 980, 80] := exG_asg.2 ⟨_, _, _, _, rfl, by decide, by decide, by decide, by decide, by decide, by decide, by decide⟩
theorem asg_d : IsAsg (exBk 50 100) [500, 500, 1000, 50] := exG_asg.2 ⟨_, _, _, _, rfl, by decide, by decide, by decide, by decide, by decide, by decide, by decide⟩
theorem con_a : Con (exBk 50 100) := (con_iff (okBk_of ck_a)).2 ⟨_, asg_a⟩
theorem con_b : ¬ Con (exBk 120 130) := fun h => by
  obtain ⟨ms, h⟩ := (con_iff (okBk_of ck_b)).1 h
  obtain ⟨a, b, c, d, rfl, t0, t1, t2, t3, h1, h2, h3⟩ := exG_asg.1 h
  simp only [Rg.has] at t0 t1 t2 t3
  omega
theorem span_2 : Span (exBk 50 100) (fun ms => ms.getD 2 0) 980 1010 := ⟨⟨_, asg_a, rfl⟩, ⟨_, asg_b, rfl⟩, fun ms h => by
  obtain ⟨a, b, c, d, rfl, t0, t1, t2, t3, h1, h2, h3⟩ := exG_asg.1 h
  simp only [Rg.has] at t0 t1 t2 t3
  show 980 ≤ c ∧ c ≤ 1010
  omega⟩
theorem span_3 : Span (exBk 50 100) (fun ms => ms.getD 3 0) 50 100 := ⟨⟨_, asg_a, rfl⟩, ⟨_, asg_b, rfl⟩, fun ms h => by
  obtain ⟨a, b, c, d, rfl, t0, t1, t2, t3, h1, h2, h3⟩ := exG_asg.1 h
  simp only [Rg.has] at t0 t1 t2 t3
  show 50 ≤ d ∧ d ≤ 100
  omega⟩
theorem span_ch : Span (exBk 50 100) (fun ms => gain [1, 0] (exBk 50 100).ts ms) 900 950 := ⟨⟨_, asg_c, by decide⟩, ⟨_, asg_d, by decide⟩, fun ms h => by
  obtain ⟨a, b, c, d, rfl, t0, t1, t2, t3, h1, h2, h3⟩ := exG_asg.1 h
  simp only [Rg.has] at t0 t1 t2 t3
  simp [exBk, exG, gain]
  omega⟩
theorem exG_ok {r1 r2 r3 r4 : Rg} (h1 : 0 ≤ r1.lo ∧ r1.lo ≤ r1.hi ∧ r1.hi ≤ 999999999) (h2 : 0 ≤ r2.lo ∧ r2.lo ≤ r2.hi ∧ r2.hi ≤ 999999999) (h3 : 0 ≤ r3.lo ∧ r3.lo ≤ r3.hi ∧ r3.hi ≤ 999999999) (h4 : 0 ≤ r4.lo ∧ r4.lo ≤ r4.hi ∧ r4.hi ≤ 999999999) : OkBk (exG r1 r2 r3 r4) := by
  refine ⟨show 2 ≤ 32 by decide, show 4 ≤ 128 by decide, ?_, ?_⟩
  · intro r hr
    simp only [exG, List.mem_cons, List.not_mem_nil, or_false] at hr
    rcases hr with rfl | rfl <;> decide
  · intro t ht
    simp only [exG, List.mem_cons, List.not_mem_nil, or_false] at ht
    rcases ht with rfl | rfl | rfl | rfl
    · exact ⟨by simp [exG], by simp [exG], by simp [exG], by simp [exG], by simp [exG], h1⟩
    · exact ⟨by simp [exG], by simp [exG], by simp [exG], by simp [exG], by simp [exG], h2⟩
    · exact ⟨by simp [exG], by simp [exG], by simp [exG], by simp [exG], by simp [exG], h3⟩
    · exact ⟨by simp [exG], by simp [exG], by simp [exG], by simp [exG], by simp [exG], h4⟩
theorem conL_0 : ConL (exBk 120 130) [1, 2, 3] := by
  show Con (exG ⟨0, 999999999⟩ ⟨480, 500⟩ ⟨940, 1020⟩ ⟨120, 130⟩)
  exact (con_iff (exG_ok (by decide) (by decide) (by decide) (by decide))).2 ⟨[520, 500, 1020, 120], exG_asg.2 ⟨_, _, _, _, rfl, by decide, by decide, by decide, by decide, by decide, by decide, by decide⟩⟩
theorem conL_1 : ConL (exBk 120 130) [0, 2, 3] := by
  show Con (exG ⟨500, 510⟩ ⟨0, 999999999⟩ ⟨940, 1020⟩ ⟨120, 130⟩)
  exact (con_iff (exG_ok (by decide) (by decide) (by decide) (by decide))).2 ⟨[510, 510, 1020, 120], exG_asg.2 ⟨_, _, _, _, rfl, by decide, by decide, by decide, by decide, by decide, by decide, by decide⟩⟩
theorem conL_2 : ¬ ConL (exBk 120 130) [0, 1, 3] := by
  show ¬ Con (exG ⟨500, 510⟩ ⟨480, 500⟩ ⟨0, 999999999⟩ ⟨120, 130⟩)
  intro h
  obtain ⟨ms, h⟩ := (con_iff (exG_ok (by decide) (by decide) (by decide) (by decide))).1 h
  obtain ⟨a, b, c, d, rfl, t0, t1, t2, t3, h1, h2, h3⟩ := exG_asg.1 h
  simp only [Rg.has] at t0 t1 t2 t3
  omega
theorem conL_3 : ConL (exBk 120 130) [0, 1] := by
  show Con (exG ⟨500, 510⟩ ⟨480, 500⟩ ⟨0, 999999999⟩ ⟨0, 999999999⟩)
  exact (con_iff (exG_ok (by decide) (by decide) (by decide) (by decide))).2 ⟨[500, 480, 980, 80], exG_asg.2 ⟨_, _, _, _, rfl, by decide, by decide, by decide, by decide, by decide, by decide, by decide⟩⟩
theorem min_b : minOf (exBk 120 130) = [0, 1, 3] := by
  have : minN (exBk 120 130) = [0, 1, 3] := by
    show greedy (ConL (exBk 120 130)) [] [0, 1, 2, 3] = _
    rw [greedy, if_pos (show ConL _ ([] ++ [1, 2, 3]) from conL_0), greedy, if_pos (show ConL _ ([] ++ [0] ++ [2, 3]) from conL_1), greedy, if_neg (show ¬ ConL _ ([] ++ [0] ++ [1] ++ [3]) from conL_2), greedy, if_pos (show ConL _ ([] ++ [0] ++ [1] ++ []) from conL_3), greedy]
    rfl
  unfold minOf
  rw [this]; rfl
theorem cc_b : ccE (exBk 120 130) [0, 1] = 0 := by decide +kernel
theorem drift_R : driftR [1000, 1000] ⟨0, 0⟩ ⟨3, 6⟩ = [⟨998, 999⟩, ⟨996, 998⟩] ∧ driftE [1000, 1000] ⟨0, 0⟩ ⟨3, 6⟩ = 0 := by decide +kernel
theorem net_R : netF ⟨14000, 14020⟩ ⟨4980, 5000⟩ = ⟨9000, 9040⟩ ∧ netB ⟨14000, 14020⟩ ⟨4980, 5000⟩ = 0 := by decide +kernel
theorem holds_E : holdsE (exBk 50 100) [500, 480, 980, 50] = 0 := by decide +kernel
end Go.Proofs.Ytlakcghdehdeiaa

/- Walks: awake. -/
namespace Go.Proofs.Ytlakcghdehdeiaa
open Go Go.Proofs Go.RowKit

theorem aw_net (w : World) : Calls Try.prog 36 #[.agg #[.int .i64 14000, .int .i64 14020], .agg #[.int .i64 4980, .int .i64 5000]] w (Ret (.tuple #[.agg #[.int .i64 9000, .int .i64 9040], .int .i64 0]) w) := by
  have h := net36 ⟨14000, 14020⟩ ⟨4980, 5000⟩ w
  rw [net_R.1, net_R.2] at h
  exact h
def SlEPost {α : Type} (f : α → List Value) (sz : Nat) (l : List α) (w : World) (e : Ending) (w' : World) : Prop := ∃ v, e = .returned (.tuple #[v, .int .i64 0]) ∧ Sl f sz w' w'.heap.size v l ∧ Below w.heap.size w w'
theorem aw_drift (w : World) (v : Value) (h : Sl encI 1 w w.heap.size v [1000, 1000]) : Calls Try.prog 17 #[v, .agg #[.int .i64 0, .int .i64 0], .agg #[.int .i64 3, .int .i64 6]] w (SlEPost Rg.enc 2 [⟨998, 999⟩, ⟨996, 998⟩] w) := by
  have h := drift17 v [1000, 1000] ⟨0, 0⟩ ⟨3, 6⟩ w h
  rw [drift_R.1, drift_R.2] at h
  exact h
theorem aw_holds (w : World) (v1 v2 u : Value) (hv : BkR w w.heap.size v1 v2 (exBk 50 100)) (hu : Sl encI 1 w w.heap.size u [500, 480, 980, 50]) :
    Calls Try.prog 26 #[.agg #[v1, v2], u] w (Ret (.tuple #[.bool true, .int .i64 0]) w) := by
  have h := holds26 v1 v2 u (exBk 50 100) [500, 480, 980, 50] w hv hu true (by simp only [true_iff]; exact ⟨ck_a, asg_a⟩)
  rw [holds_E] at h
  exact h
def TiPost (w : World) (e : Ending) (w' : World) : Prop := ∃ v r0 r1, e = .returned (.tuple #[v, .int .i64 0]) ∧ Sl Rg.enc 2 w' w'.heap.size v [r0, r1, ⟨980, 1010⟩, ⟨50, 100⟩] ∧ Below w.heap.size w w'
theorem aw_tight (w : World) (v1 v2 : Value) (hv : BkR w w.heap.size v1 v2 (exBk 50 100)) : Calls Try.prog 35 #[.agg #[v1, v2]] w (TiPost w) := by
  refine (tighten35 w v1 v2 _ hv).mono ?_
  rintro e w' ⟨hb, h | h | ⟨_, _, v, rs, rfl, hs, hl, ht⟩⟩
  · exact absurd ck_a h.1
  · exact absurd con_a h.2.1
  · match rs, hl with
    | [r0, r1, r2, r3], _ =>
      have e2 := (extent_span (okBk_of ck_a) (by decide) (ht 2 r2 rfl)).unique span_2
      have e3 := (extent_span (okBk_of ck_a) (by decide) (ht 3 r3 rfl)).unique span_3
      refine ⟨v, r0, r1, rfl, ?_, hb⟩
      obtain ⟨l2, h2⟩ := r2
      obtain ⟨l3, h3⟩ := r3
      obtain ⟨rfl, rfl⟩ := e2
      obtain ⟨rfl, rfl⟩ := e3
      exact hs
theorem aw_tight2 (w : World) (v1 v2 : Value) (hv : BkR w w.heap.size v1 v2 (exBk 120 130)) : Calls Try.prog 35 #[.agg #[v1, v2]] w (Ret (.tuple #[.slice none 0 0, .int .i64 15]) w) := by
  refine (tighten35 w v1 v2 _ hv).mono ?_
  rintro e w' ⟨hb, h | ⟨_, _, rfl⟩ | ⟨_, h, _⟩⟩
  · exact absurd ck_b h.1
  · exact ⟨rfl, hb⟩
  · exact absurd h con_b
theorem aw_min (w : World) (v1 v2 : Value) (hv : BkR w w.heap.size v1 v2 (exBk 120 130)) : Calls Try.prog 47 #[.agg #[v1, v2]] w (SlEPost encI 1 [0, 1, 3] w) := by
  refine (minimal47 w v1 v2 _ hv).mono ?_
  rintro e w' ⟨hb, h | h | ⟨_, _, v, rfl, hs⟩⟩
  · exact absurd ck_b h.1
  · exact absurd h.2.1 con_b
  · rw [min_b] at hs
    exact ⟨v, rfl, hs, hb⟩
theorem aw_cc (w : World) (v1 v2 u : Value) (hv : BkR w w.heap.size v1 v2 (exBk 120 130)) (hu : Sl encI 1 w w.heap.size u [0, 1]) : Calls Try.prog 45 #[.agg #[v1, v2], u] w (Ret (.int .i64 0) w) := by
  have h := checkConflict45 w v1 v2 u _ _ hv hu
  rw [cc_b] at h
  exact h
theorem aw_ch (w : World) (v1 v2 u : Value) (hv : BkR w w.heap.size v1 v2 (exBk 50 100)) (hu : Sl encI 1 w w.heap.size u [1, 0]) : Calls Try.prog 29 #[.agg #[v1, v2], u] w (Ret (.tuple #[.agg #[.int .i64 900, .int .i64 950], .int .i64 0]) w) := by
  have h0 : chE (exBk 50 100) [1, 0] = 0 := by decide +kernel
  refine (change29 w v1 v2 u _ _ hv hu).mono ?_
  rintro e w' ⟨hb, h | h | ⟨_, _, lo, hi, ht, h⟩⟩
  · exact absurd h0 h.1
  · exact absurd con_a h.2.1
  · obtain ⟨rfl, rfl⟩ := (together_span (okBk_of ck_a) (by decide) (by decide) ht).unique span_ch
    rcases h with ⟨h, _⟩ | ⟨_, rfl⟩
    · exact absurd (by decide) h
    · exact ⟨rfl, hb⟩

theorem Sl.litAt {α : Type} {f : α → List Value} {sz : Nat} (hf : ∀ x, (f x).length = sz) (l : List α) (w : World) (cs : Array Value) (e : TypeId) (n g : Nat) (hg : w.heap.size = g) (hn : n = l.length) (hcs : cs.toList = l.flatMap f) (hlen : l.length ≤ 1000000000) :
    Sl f sz (w.alloc (.cells cs e)) (w.alloc (.cells cs e)).heap.size (.slice (some ⟨g, 0, none⟩) n n) l := by
  subst hg
  exact Sl.lit hf l w cs e n hn hcs hlen

set_option maxRecDepth 100000 in
set_option maxHeartbeats 1000000 in
theorem awake16 (w : World) : Calls Try.prog 16 #[] w (Ret (.bool true) w) := by
  go_enter Try.func16, Try.ntmps16
  go_wp2_with fail
  refine (aw_net _).mono ?_
  rintro e w1 ⟨rfl, hb1⟩
  have HB1 := Lib.hid hb1
  clear hb1
  go_wp2_with fail
  have hba : Below w1.heap.size w1 ((w1.alloc (.cells #[.int .i64 9000, .int .i64 9040] 24)).alloc (.cells #[.int .i64 1000, .int .i64 1000] 3)) := ((Below.refl _ _).alloc (Nat.le_refl _) _).alloc (by simp) _
  have hbn := (Box.new w1 #[.int .i64 9000, .int .i64 9040] 24).alloc (.cells #[.int .i64 1000, .int .i64 1000] 3)
  refine (aw_drift _ _ (Sl.litAt encI_len _ _ _ _ _ _ (by simp) rfl rfl (by simp))).mono ?_
  rintro e w2 ⟨vd, rfl, hsd, hb⟩
  have HB2 := Lib.hid (HB1.out.trans ((hba.trans (hb.mono hba.size)).mono HB1.out.size))
  have HN2 := Lib.hid (hbn.later hb)
  have HD2 := Lib.hid hsd
  clear hba hbn hsd hb HB1
  go_wp2_with fail
  refine (example60 50 100 _).mono ?_
  rintro e w3 ⟨p0, q0, rfl, hbk, hb⟩
  have HB3 := Lib.hid (HB2.out.trans (hb.mono HB2.out.size))
  have HN3 := Lib.hid (HN2.out.later hb)
  have HD3 := Lib.hid (HD2.out.later hb)
  have HBK := Lib.hid hbk
  clear hb hbk
  clear HB2 HN2 HD2
  go_wp2_with fail
  have hba : Below w3.heap.size w3 (w3.alloc (.cells #[.int .i64 500, .int .i64 480, .int .i64 980, .int .i64 50] 3)) := (Below.refl _ _).alloc (Nat.le_refl _) _
  refine (aw_holds _ p0 q0 _ (HBK.out.later hba) (Sl.litAt encI_len _ _ _ _ _ _ rfl rfl rfl (by simp))).mono ?_
  rintro e w4 ⟨rfl, hb⟩
  have hb := hba.trans (hb.mono hba.size)
  have HB4 := Lib.hid (HB3.out.trans (hb.mono HB3.out.size))
  have HN4 := Lib.hid (HN3.out.later hb)
  have HD4 := Lib.hid (HD3.out.later hb)
  clear hb HBK hba
  clear HB3 HN3 HD3
  go_wp2_with fail
  refine (example60 50 100 _).mono ?_
  rintro e w5 ⟨p1, q1, rfl, hbk, hb⟩
  have HB5 := Lib.hid (HB4.out.trans (hb.mono HB4.out.size))
  have HN5 := Lib.hid (HN4.out.later hb)
  have HD5 := Lib.hid (HD4.out.later hb)
  have HBK := Lib.hid hbk
  clear hb hbk
  clear HB4 HN4 HD4
  go_wp2_with fail
  refine (aw_tight _ p1 q1 HBK.out).mono ?_
  rintro e w6 ⟨vt, r0, r1, rfl, hs, hb⟩
  have HB6 := Lib.hid (HB5.out.trans (hb.mono HB5.out.size))
  have HN6 := Lib.hid (HN5.out.later hb)
  have HD6 := Lib.hid (HD5.out.later hb)
  have HT6 := Lib.hid hs
  clear hb HBK hs
  clear HB5 HN5 HD5
  go_wp2_with fail
  refine (example60 120 130 _).mono ?_
  rintro e w7 ⟨p2, q2, rfl, hbk, hb⟩
  have HB7 := Lib.hid (HB6.out.trans (hb.mono HB6.out.size))
  have HN7 := Lib.hid (HN6.out.later hb)
  have HD7 := Lib.hid (HD6.out.later hb)
  have HT7 := Lib.hid (HT6.out.later hb)
  have HBK := Lib.hid hbk
  clear hb hbk
  clear HB6 HN6 HD6 HT6
  go_wp2_with fail
  refine (aw_tight2 _ p2 q2 HBK.out).mono ?_
  rintro e w8 ⟨rfl, hb⟩
  have HB8 := Lib.hid (HB7.out.trans (hb.mono HB7.out.size))
  have HN8 := Lib.hid (HN7.out.later hb)
  have HD8 := Lib.hid (HD7.out.later hb)
  have HT8 := Lib.hid (HT7.out.later hb)
  clear hb HBK
  clear HB7 HN7 HD7 HT7
  go_wp2_with fail
  refine (example60 120 130 _).mono ?_
  rintro e w9 ⟨p3, q3, rfl, hbk, hb⟩
  have HB9 := Lib.hid (HB8.out.trans (hb.mono HB8.out.size))
  have HN9 := Lib.hid (HN8.out.later hb)
  have HD9 := Lib.hid (HD8.out.later hb)
  have HT9 := Lib.hid (HT8.out.later hb)
  have HBK := Lib.hid hbk
  clear hb hbk
  clear HB8 HN8 HD8 HT8
  go_wp2_with fail
  refine (aw_min _ p3 q3 HBK.out).mono ?_
  rintro e w10 ⟨vm, rfl, hs, hb⟩
  have HB10 := Lib.hid (HB9.out.trans (hb.mono HB9.out.size))
  have HN10 := Lib.hid (HN9.out.later hb)
  have HD10 := Lib.hid (HD9.out.later hb)
  have HT10 := Lib.hid (HT9.out.later hb)
  have HM10 := Lib.hid hs
  clear hb HBK hs
  clear HB9 HN9 HD9 HT9
  go_wp2_with fail
  refine (example60 120 130 _).mono ?_
  rintro e w11 ⟨p4, q4, rfl, hbk, hb⟩
  have HB11 := Lib.hid (HB10.out.trans (hb.mono HB10.out.size))
  have HN11 := Lib.hid (HN10.out.later hb)
  have HD11 := Lib.hid (HD10.out.later hb)
  have HT11 := Lib.hid (HT10.out.later hb)
  have HM11 := Lib.hid (HM10.out.later hb)
  have HBK := Lib.hid hbk
  clear hb hbk
  clear HB10 HN10 HD10 HT10 HM10
  go_wp2_with fail
  have hba : Below w11.heap.size w11 (w11.alloc (.cells #[.int .i64 0, .int .i64 1] 3)) := (Below.refl _ _).alloc (Nat.le_refl _) _
  refine (aw_cc _ p4 q4 _ (HBK.out.later hba) (Sl.litAt encI_len _ _ _ _ _ _ rfl rfl rfl (by simp))).mono ?_
  rintro e w12 ⟨rfl, hb⟩
  have hb := hba.trans (hb.mono hba.size)
  have HB12 := Lib.hid (HB11.out.trans (hb.mono HB11.out.size))
  have HN12 := Lib.hid (HN11.out.later hb)
  have HD12 := Lib.hid (HD11.out.later hb)
  have HT12 := Lib.hid (HT11.out.later hb)
  have HM12 := Lib.hid (HM11.out.later hb)
  clear hb HBK hba
  clear HB11 HN11 HD11 HT11 HM11
  go_wp2_with fail
  refine (example60 50 100 _).mono ?_
  rintro e w13 ⟨p5, q5, rfl, hbk, hb⟩
  have HB13 := Lib.hid (HB12.out.trans (hb.mono HB12.out.size))
  have HN13 := Lib.hid (HN12.out.later hb)
  have HD13 := Lib.hid (HD12.out.later hb)
  have HT13 := Lib.hid (HT12.out.later hb)
  have HM13 := Lib.hid (HM12.out.later hb)
  have HBK := Lib.hid hbk
  clear hb hbk
  clear HB12 HN12 HD12 HT12 HM12
  go_wp2_with fail
  have hba : Below w13.heap.size w13 (w13.alloc (.cells #[.int .i64 1, .int .i64 0] 3)) := (Below.refl _ _).alloc (Nat.le_refl _) _
  refine (aw_ch _ p5 q5 _ (HBK.out.later hba) (Sl.litAt encI_len _ _ _ _ _ _ rfl rfl rfl (by simp))).mono ?_
  rintro e w14 ⟨rfl, hb⟩
  have hb := hba.trans (hb.mono hba.size)
  have HB14 := Lib.hid (HB13.out.trans (hb.mono HB13.out.size))
  have HN14 := Lib.hid (HN13.out.later hb)
  have HD14 := Lib.hid (HD13.out.later hb)
  have HT14 := Lib.hid (HT13.out.later hb)
  have HM14 := Lib.hid (HM13.out.later hb)
  clear hb HBK hba
  clear HB13 HN13 HD13 HT13 HM13
  have hbn := Box.new w14 #[.int .i64 900, .int .i64 950] 24
  have hba : Below w14.heap.size w14 (w14.alloc (.cells #[.int .i64 900, .int .i64 950] 24)) := (Below.refl _ _).alloc (Nat.le_refl _) _
  have hd := HD14.out.later hba
  have ht := HT14.out.later hba
  have hn := HN14.out.alloc (.cells #[.int .i64 900, .int .i64 950] 24)
  have hm := HM14.out.later hba
  have HBF := Lib.hid (HB14.out.trans (hba.mono HB14.out.size))
  have HSI := Lib.hid (fun (v : Value) (hv : Sl encI 1 ((w14.alloc (.cells #[.int .i64 900, .int .i64 950] 24)).alloc (.cells #[.int .i64 0, .int .i64 1, .int .i64 3] 3)) ((w14.alloc (.cells #[.int .i64 900, .int .i64 950] 24)).alloc (.cells #[.int .i64 0, .int .i64 1, .int .i64 3] 3)).heap.size v [0, 1, 3]) => sameInts49 vm v [0, 1, 3] [0, 1, 3] _ (hm.later ((Below.refl _ _).alloc (Nat.le_refl _) _)) hv)
  have HSL := Lib.hid (Sl.litAt encI_len [0, 1, 3] (w14.alloc (.cells #[.int .i64 900, .int .i64 950] 24)) #[.int .i64 0, .int .i64 1, .int .i64 3] 3 3 (w14.heap.size + 1) (by simp) rfl rfl (by simp))
  obtain ⟨ad, cd, rfl, _, hd2⟩ := hd
  obtain ⟨at', ct, rfl, _, ht2⟩ := ht
  obtain ⟨bd, od, rfl, hd3, hd4⟩ := hd2 (by simp)
  obtain ⟨bt, ot, rfl, ht3, ht4⟩ := ht2 (by simp)
  obtain ⟨d0, d1⟩ := (hd4 0 (by simp)).c2
  obtain ⟨d2, d3⟩ := (hd4 1 (by simp)).c2
  obtain ⟨t0, t1⟩ := (ht4 2 (by simp)).c2
  obtain ⟨t2, t3⟩ := (ht4 3 (by simp)).c2
  have n0 := hn.cell 0
  have n1 := hn.cell 1
  have c0 := hbn.cell 0
  have c1 := hbn.cell 1
  simp only [List.getElem?_cons_zero, List.getElem?_cons_succ, List.getElem_cons_zero, List.getElem_cons_succ, Nat.zero_mul, Nat.one_mul, Nat.add_zero] at d0 d1 d2 d3 t0 t1 t2 t3 n0 n1 c0 c1
  have nz := hn.lt
  have cz := hbn.lt
  clear hd2 ht2 hd4 ht4 hbn hn hm hba HD14 HT14 HN14 HB14 HM14
  go_wp2_with fail
  refine (HSI.out _ HSL.out).mono ?_
  rintro e w15 ⟨rfl, hb⟩
  have HB15 := Lib.hid (HBF.out.trans ((((Below.refl _ _).alloc (Nat.le_refl _) _).trans (hb.mono (by simp))).mono HBF.out.size))
  clear hb
  go_wp2_with fail
  go_ret
  exact ⟨rfl, HB15.out⟩
end Go.Proofs.Ytlakcghdehdeiaa
