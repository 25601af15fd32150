/- Lemmas on the way to the laws (part 16): Qj Qk Um -/
import Derived.Test.YtlakcghdehdeiaaLib15
import Derived.IntWalk
set_option linter.unusedVariables false
set_option linter.unusedSimpArgs false

/- The law of narrower books, plainly. -/
namespace Go.Proofs.Ytlakcghdehdeiaa
open Go Go.Proofs Go.RowKit

section
variable {b : Bk} {i : Nat} {mid : Int} {t u : List Rg}
theorem nar_ck (hck : ckBook b = 0) (hi : i < b.ts.length) (h1 : (b.ts[i]).m.lo ≤ mid) (h2 : mid ≤ (b.ts[i]).m.hi) : ckBook (b.ch i ⟨(b.ts[i]).m.lo, mid⟩) = 0 :=
  ch_ck hck hi (by have := (okBk_of hck).tk b.ts[i] (List.getElem_mem hi); dsimp only; omega)
theorem nar_asg (hi : i < b.ts.length) (h2 : mid ≤ (b.ts[i]).m.hi) {ms : List Int} : IsAsg (b.ch i ⟨(b.ts[i]).m.lo, mid⟩) ms ↔ IsAsg b ms ∧ ms.getD i 0 ≤ mid := by
  rw [ch_asg hi (by dsimp only; omega) (by exact h2)]
  constructor
  · rintro ⟨h, _, h3⟩; exact ⟨h, h3⟩
  · rintro ⟨h, h3⟩
    refine ⟨h, ?_, h3⟩
    have := h.tk i hi
    rw [getD_at ms i (by rw [h.len]; exact hi)]
    exact this.1
theorem nar_con1 (hck : ckBook b = 0) (hi : i < b.ts.length) (h1 : (b.ts[i]).m.lo ≤ mid) (h2 : mid ≤ (b.ts[i]).m.hi) (h : ¬ Con b) : ¬ Con (b.ch i ⟨(b.ts[i]).m.lo, mid⟩) := by
  rw [con_iff (okBk_of hck)] at h
  rw [con_iff (okBk_of (nar_ck hck hi h1 h2))]
  rintro ⟨ms, hm⟩
  exact h ⟨ms, ((nar_asg hi h2).1 hm).1⟩
theorem nar_con2 (hck : ckBook b = 0) (hi : i < b.ts.length) (h1 : (b.ts[i]).m.lo ≤ mid) (h2 : mid ≤ (b.ts[i]).m.hi) (ht : TightS b t) (hit : i < t.length) : Con (b.ch i ⟨(b.ts[i]).m.lo, mid⟩) ↔ t[i].lo ≤ mid := by
  rw [con_iff (okBk_of (nar_ck hck hi h1 h2))]
  obtain ⟨⟨m1, a1, e1⟩, _, h3⟩ := ht.sp i hit
  constructor
  · rintro ⟨ms, hm⟩
    obtain ⟨k1, k2⟩ := (nar_asg hi h2).1 hm
    have := h3 ms k1
    have e : t[i].lo ≤ ms.getD i 0 := this.1
    omega
  · intro h
    have e1' : m1.getD i 0 = t[i].lo := e1
    exact ⟨m1, (nar_asg hi h2).2 ⟨a1, by omega⟩⟩
theorem nar_in (hi : i < b.ts.length) (ht : TightS b t) (hit : i < t.length) : (b.ts[i]).m.lo ≤ t[i].lo ∧ t[i].lo ≤ t[i].hi ∧ t[i].hi ≤ (b.ts[i]).m.hi := by
  obtain ⟨⟨m1, a1, e1⟩, ⟨m2, a2, e2⟩, h3⟩ := ht.sp i hit
  have b1 := a1.tk i hi
  have b2 := a2.tk i hi
  have c1 : t[i].lo ≤ m1.getD i 0 ∧ m1.getD i 0 ≤ t[i].hi := h3 m1 a1
  have e1' : m1.getD i 0 = t[i].lo := e1
  have e2' : m2.getD i 0 = t[i].hi := e2
  rw [getD_at m1 i (by rw [a1.len]; exact hi)] at e1' c1
  rw [getD_at m2 i (by rw [a2.len]; exact hi)] at e2'
  unfold Rg.has at b1 b2
  omega
theorem nar_len (ht : TightS b t) (hu : TightS (b.ch i ⟨(b.ts.getD i ⟨⟨#[]⟩, 0, 0, ⟨0, 0⟩⟩).m.lo, mid⟩) u) : u.length = t.length := by
  rw [hu.len, ht.len]
  show (chT _ _ _).length = _
  rw [chT_len]
theorem nar_all (hi : i < b.ts.length) (h2 : mid ≤ (b.ts[i]).m.hi) (ht : TightS b t) (hu : TightS (b.ch i ⟨(b.ts[i]).m.lo, mid⟩) u) (k : Nat) (hk : k < t.length) (hk2 : k < u.length) : t[k].lo ≤ u[k].lo ∧ u[k].hi ≤ t[k].hi ∧ u[k].lo ≤ u[k].hi := by
  obtain ⟨_, _, h3⟩ := ht.sp k hk
  obtain ⟨⟨m1, a1, e1⟩, ⟨m2, a2, e2⟩, g3⟩ := hu.sp k hk2
  have c1 : t[k].lo ≤ m1.getD k 0 ∧ m1.getD k 0 ≤ t[k].hi := h3 m1 ((nar_asg hi h2).1 a1).1
  have c2 : t[k].lo ≤ m2.getD k 0 ∧ m2.getD k 0 ≤ t[k].hi := h3 m2 ((nar_asg hi h2).1 a2).1
  have c3 : u[k].lo ≤ m1.getD k 0 ∧ m1.getD k 0 ≤ u[k].hi := g3 m1 a1
  have e1' : m1.getD k 0 = u[k].lo := e1
  have e2' : m2.getD k 0 = u[k].hi := e2
  omega
theorem nar_min (w : World) (hck : ckBook b = 0) (hid : ∀ t ∈ b.ts, t.id.size ≤ 9223372036854775807) (hi : i < b.ts.length) (h2 : mid ≤ (b.ts[i]).m.hi) (ht : TightS b t) (hit : i < t.length) (hm : t[i].lo ≤ mid) (hu : TightS (b.ch i ⟨(b.ts[i]).m.lo, mid⟩) u) (hiu : i < u.length) :
    u[i].hi = min mid t[i].hi := by
  have hin := nar_in hi ht hit
  have hal := nar_all hi h2 ht hu i hit hiu
  obtain ⟨_, ⟨m2, a2, e2⟩, g3⟩ := hu.sp i hiu
  have e2' : m2.getD i 0 = u[i].hi := e2
  have k2 := ((nar_asg hi h2).1 a2).2
  by_cases hx : t[i].hi ≤ mid
  · obtain ⟨_, ⟨m3, a3, e3⟩, _⟩ := ht.sp i hit
    have e3' : m3.getD i 0 = t[i].hi := e3
    have : u[i].lo ≤ m3.getD i 0 ∧ m3.getD i 0 ≤ u[i].hi := g3 m3 ((nar_asg hi h2).2 ⟨a3, by omega⟩)
    omega
  · have hc := mid_con w hck hid ht hit hm (by omega)
    have hok := okBk_of hck
    have hmass := ht.mass hok t[i] (List.getElem_mem hit)
    rw [con_iff (okBk_of (ch_ck (q := ⟨mid, mid⟩) hck hi (by dsimp only; omega)))] at hc
    obtain ⟨ms, hms⟩ := hc
    obtain ⟨q1, q2, q3⟩ := (ch_asg hi (by dsimp only; omega) (by dsimp only; omega)).1 hms
    dsimp only at q2 q3
    have : u[i].lo ≤ ms.getD i 0 ∧ ms.getD i 0 ≤ u[i].hi := g3 ms ((nar_asg hi h2).2 ⟨q1, by omega⟩)
    omega
end
/-- The part a / 8 of a range, from its beginning. -/
theorem part_in {lo hi a : Int} (h : lo ≤ hi) (ha : 0 ≤ a ∧ a ≤ 8) : lo ≤ lo + (hi - lo) * a / 8 ∧ lo + (hi - lo) * a / 8 ≤ hi := by
  have h1 : 0 ≤ (hi - lo) * a := Int.mul_nonneg (by omega) ha.1
  have h2 : (hi - lo) * a ≤ (hi - lo) * 8 := Int.mul_le_mul_of_nonneg_left ha.2 (by omega)
  omega
end Go.Proofs.Ytlakcghdehdeiaa

/- The law of narrower books, walked. -/
namespace Go.Proofs.Ytlakcghdehdeiaa
open Go Go.Proofs Go.RowKit

/-- What Tighten does with a valid book. -/
def TiP (w : World) (b : Bk) (e : Ending) (w' : World) : Prop :=
  Below w.heap.size w w' ∧ ((¬ Con b ∧ e = .returned (.tuple #[.slice none 0 0, .int .i64 15])) ∨ (Con b ∧ ∃ a c rs, e = .returned (.tuple #[.slice a b.ts.length c, .int .i64 0]) ∧ Sl Rg.enc 2 w' w'.heap.size (.slice a b.ts.length c) rs ∧ TightS b rs))
theorem tight_p (w : World) (v1 v2 : Value) (b : Bk) (hv : BkR w w.heap.size v1 v2 b) (hck : ckBook b = 0) : Calls Try.prog 35 #[.agg #[v1, v2]] w (TiP w b) := by
  refine (tighten35 w v1 v2 b hv).mono ?_
  rintro e w' ⟨hb, h | ⟨_, h1, h2⟩ | ⟨_, h1, v, rs, rfl, hs, hl, ht⟩⟩
  · exact absurd hck h.1
  · exact ⟨hb, .inl ⟨h1, h2⟩⟩
  · obtain ⟨a, c, rfl, h4, h5⟩ := hs
    refine ⟨hb, .inr ⟨h1, a, c, rs, by rw [hl], ?_, tightS_of (okBk_of hck) hl ht⟩⟩
    rw [← hl]
    exact ⟨a, c, rfl, h4, h5⟩
/-- Not a light book, for Narrows, Settles, Either. -/
def Dark (w : World) (v : Value) : Prop := ∀ w1, Below w.heap.size w w1 → Calls Try.prog 34 #[v] w1 (Ret (.bool false) w1)

set_option maxRecDepth 100000 in
set_option maxHeartbeats 1000000 in
theorem narrows10_dark (v1 v2 : Value) (x1 x2 : Int) (w : World) (h : Dark w (.agg #[v1, v2])) (hs : (∃ a n c, v1 = .slice a n c) ∧ ∃ a n c, v2 = .slice a n c) :
    Calls Try.prog 10 #[.agg #[v1, v2], .int .u8 x1, .int .u8 x2] w (Ret (.bool true) w) := by
  obtain ⟨⟨a1, n1, c1, rfl⟩, a2, n2, c2, rfl⟩ := hs
  have H := Lib.hid h
  clear h
  go_enter Try.func10, Try.ntmps10
  go_wp2_with fail
  refine (awake16 _).mono ?_
  rintro e w1 ⟨rfl, hb1⟩
  have HX := Lib.hid ((Box.new w #[.slice a1 n1 c1, .slice a2 n2 c2] 38).later hb1)
  have HB1 := Lib.hid (((Below.refl w.heap.size w).alloc (Nat.le_refl _) (.cells #[.slice a1 n1 c1, .slice a2 n2 c2] 38)).trans (hb1.mono (by simp)))
  clear hb1
  obtain ⟨x0, x1', xf, xz⟩ := HX.out.v2
  go_wp2_with fail
  refine (H.out _ HB1.out).mono ?_
  rintro e w2 ⟨rfl, hb2⟩
  have HB2 := Lib.hid (HB1.out.trans (hb2.mono HB1.out.size))
  clear hb2 x0 x1' xf xz
  go_wp2_with fail
  refine (awake16 _).mono ?_
  rintro e w3 ⟨rfl, hb3⟩
  have HB3 := Lib.hid (HB2.out.trans (hb3.mono HB2.out.size))
  clear hb3
  go_wp2_with fail
  go_ret
  exact ⟨rfl, HB3.out⟩

set_option maxRecDepth 100000 in
set_option maxHeartbeats 1000000 in
theorem narrows10_none (v1 v2 : Value) (x1 x2 : Int) (b : Bk) (w : World) (hv : BkR w w.heap.size v1 v2 b) (hlt : lightB b = true) (h0 : b.ts.length = 0) :
    Calls Try.prog 10 #[.agg #[v1, v2], .int .u8 x1, .int .u8 x2] w (Ret (.bool true) w) := by
  have H := Lib.hid (fun (w1 : World) (hb : Below w.heap.size w w1) => light34 v1 v2 b w1 (hv.later hb))
  rw [hlt] at H
  obtain ⟨⟨a1, n1, hv1, hl1, hA1⟩, ⟨a2, n2, hv2, hl2, hA2⟩, hids⟩ := hv
  subst hv1 hv2
  clear hA1 hA2 hids hlt
  rw [h0] at H ⊢
  clear h0 hl2
  go_enter Try.func10, Try.ntmps10
  go_wp2_with fail
  refine (awake16 _).mono ?_
  rintro e w1 ⟨rfl, hb1⟩
  have HX := Lib.hid ((Box.new w #[.slice a1 b.st.length n1, .slice a2 0 n2] 38).later hb1)
  have HB1 := Lib.hid (((Below.refl w.heap.size w).alloc (Nat.le_refl _) (.cells #[.slice a1 b.st.length n1, .slice a2 0 n2] 38)).trans (hb1.mono (by simp)))
  clear hb1
  obtain ⟨x0, x1', xf, xz⟩ := HX.out.v2
  go_wp2_with fail
  refine (H.out _ HB1.out).mono ?_
  rintro e w2 ⟨rfl, hb2⟩
  have HB2 := Lib.hid (HB1.out.trans (hb2.mono HB1.out.size))
  have HX2 := Lib.hid (HX.out.later hb2)
  clear hb2 x0 x1' xf xz
  obtain ⟨x0, x1', xf, xz⟩ := HX2.out.v2
  go_wp2_with fail
  refine (awake16 _).mono ?_
  rintro e w3 ⟨rfl, hb3⟩
  have HB3 := Lib.hid (HB2.out.trans (hb3.mono HB2.out.size))
  clear hb3
  go_wp2_with fail
  go_ret
  exact ⟨rfl, HB3.out⟩
end Go.Proofs.Ytlakcghdehdeiaa

/- Books that are too big to be light. -/
namespace Go.Proofs.Ytlakcghdehdeiaa
open Go Go.Proofs Go.RowKit

set_option maxRecDepth 100000 in
set_option maxHeartbeats 1000000 in
theorem light34_big (a1 a2 : Option Addr) (n1 c1 n2 c2 : Nat) (w : World) (h1 : n1 ≤ 9223372036854775807) (h2 : n2 ≤ 9223372036854775807) (hb : 6 < n1 ∨ 8 < n2) :
    Calls Try.prog 34 #[.agg #[.slice a1 n1 c1, .slice a2 n2 c2]] w (Ret (.bool false) w) := by
  have W1 : Below w.heap.size w (w.alloc (.cells #[.slice a1 n1 c1, .slice a2 n2 c2] 38)) := (Below.refl _ _).alloc (Nat.le_refl _) _
  have HW1 := Lib.hid W1
  clear W1
  have hcs : 6 < n1 ∨ (n1 ≤ 6 ∧ 8 < n2) := by omega
  clear hb
  go_enter Try.func34, Try.ntmps34
  rcases hcs with h3 | ⟨h3, h4⟩
  all_goals go_wp2_with fail
  all_goals go_ret
  all_goals exact Ret.mk rfl HW1.out

theorem dark_big (a1 a2 : Option Addr) (n1 c1 n2 c2 : Nat) (w : World) (h1 : n1 ≤ 9223372036854775807) (h2 : n2 ≤ 9223372036854775807) (hb : 6 < n1 ∨ 8 < n2) :
    Dark w (.agg #[.slice a1 n1 c1, .slice a2 n2 c2]) := fun w1 _ => light34_big a1 a2 n1 c1 n2 c2 w1 h1 h2 hb

theorem dark_of {v1 v2 : Value} {b : Bk} {w : World} (hv : BkR w w.heap.size v1 v2 b) (h : lightB b = false) : Dark w (.agg #[v1, v2]) := fun w1 hb => by
  have := light34 v1 v2 b w1 (hv.later hb)
  rwa [h] at this
theorem byte_of {x : Int} (h : (Lit.int .u8 x).wf = true) : 0 ≤ x ∧ x ≤ 255 := by
  simpa [Lit.wf, IntKind.min, IntKind.max, IntKind.signed, IntKind.bits] using h
theorem long_of {x : Int} (h : (Lit.int .i64 x).wf = true) : -9223372036854775808 ≤ x ∧ x ≤ 9223372036854775807 := by
  simpa [Lit.wf, IntKind.min, IntKind.max, IntKind.signed, IntKind.bits] using h
end Go.Proofs.Ytlakcghdehdeiaa
