/- Lemmas on the way to the laws (part 11): Oh Oi Oj Ok -/
import Derived.Test.YtlakcghdehdeiaaLib10
import Derived.Deep.RegionWith
import Derived.Laws.OwnMore
set_option linter.unusedVariables false
set_option linter.unusedSimpArgs false

/- Walks: without. -/
namespace Go.Proofs.Ytlakcghdehdeiaa
open Go Go.Proofs Go.RowKit

/-- The tickets that are not kept may have any mass. -/
def loosen (t : Tk) (k : Bool) : Tk := if k then t else { t with m := ⟨0, 999999999⟩ }

def fr95 (N g : Nat) (u : Value) (z : Nat → Value) : List Value := [z 0, u, .pointer (some ⟨N, 0, none⟩), z 3, .pointer (some ⟨N + 1, 0, none⟩), .pointer (some ⟨g, 0, none⟩), z 6, z 7, z 8, z 9, z 10, z 11, z 12, z 13, z 14, z 15, z 16, z 17, z 18, z 19, z 20, z 21, z 22, z 23, z 24, z 25, z 26, z 27, z 28, z 29, z 30, z 31]
theorem fr95_of (N g : Nat) (u : Value) (L : List Value) (hL : L.length = 32) (h1 : L[1]? = some (u)) (h2 : L[2]? = some (.pointer (some ⟨N, 0, none⟩))) (h4 : L[4]? = some (.pointer (some ⟨N + 1, 0, none⟩))) (h5 : L[5]? = some (.pointer (some ⟨g, 0, none⟩))) : ∃ z, L = fr95 N g u z := by
  refine ⟨fun i => L.getD i undef, ?_⟩
  unfold fr95
  have e := list_range L 32 hL
  have e1 : L.getD 1 undef = u := by rw [List.getD_eq_getElem?_getD, h1]; rfl
  have e2 : L.getD 2 undef = .pointer (some ⟨N, 0, none⟩) := by rw [List.getD_eq_getElem?_getD, h2]; rfl
  have e4 : L.getD 4 undef = .pointer (some ⟨N + 1, 0, none⟩) := by rw [List.getD_eq_getElem?_getD, h4]; rfl
  have e5 : L.getD 5 undef = .pointer (some ⟨g, 0, none⟩) := by rw [List.getD_eq_getElem?_getD, h5]; rfl
  rw [← e1, ← e2, ← e4, ← e5]
  exact e
theorem fr95_act (N g : Nat) (u : Value) (A : Act) (ds : List Deferred) (hds : A.defers = ds) (hL : A.tmps.size = 32) (h1 : A.tmps[1]? = some (u)) (h2 : A.tmps[2]? = some (.pointer (some ⟨N, 0, none⟩))) (h4 : A.tmps[4]? = some (.pointer (some ⟨N + 1, 0, none⟩))) (h5 : A.tmps[5]? = some (.pointer (some ⟨g, 0, none⟩))) : ∃ z, A = { tmps := (fr95 N g u z).toArray, defers := ds } := by
  obtain ⟨z, e⟩ := fr95_of N g u A.tmps.toList (by rw [Array.length_toList]; exact hL) (by rw [Array.getElem?_toList]; exact h1) (by rw [Array.getElem?_toList]; exact h2) (by rw [Array.getElem?_toList]; exact h4) (by rw [Array.getElem?_toList]; exact h5)
  exact ⟨z, by cases A; subst hds; dsimp only at e ⊢; rw [← e]⟩


theorem wo_a {W0 w' : World} {N : Nat} {s v : Value} {l : List Tk} (hN : N ≤ W0.heap.size) (hb : Below W0.drew.heap.size W0.drew w') (ho : Own Tk.enc 5 53 w' W0.drew.heap.size v l) :
    Box (w'.alloc (.cells #[s, v] 38)) w'.heap.size 38 [s, v] ∧ Own Tk.enc 5 53 (w'.alloc (.cells #[s, v] 38)) N v l ∧ Below W0.heap.size W0 (w'.alloc (.cells #[s, v] 38)) ∧ W0.heap.size ≤ w'.heap.size := by
  have h1 : Below W0.heap.size W0 w' := (Below.refl W0.heap.size W0).drew.trans hb
  exact ⟨Box.new w' #[s, v] 38, (ho.lower hN).alloc _, h1.alloc h1.size _, h1.size⟩
theorem wo_b {W0 w' : World} {N : Nat} {s v x y : Value} {l : List Tk} (hN : N ≤ W0.heap.size) (hb : Below (W0.alloc (.cells #[x, y] 38)).drew.heap.size (W0.alloc (.cells #[x, y] 38)).drew w') (ho : Own Tk.enc 5 53 w' (W0.alloc (.cells #[x, y] 38)).drew.heap.size v l) :
    Box ((w'.setCell ⟨W0.heap.size, 0, none⟩ s).setCell ⟨W0.heap.size, 1, none⟩ v) W0.heap.size 38 [s, v] ∧ Own Tk.enc 5 53 ((w'.setCell ⟨W0.heap.size, 0, none⟩ s).setCell ⟨W0.heap.size, 1, none⟩ v) N v l ∧
      Below W0.heap.size W0 ((w'.setCell ⟨W0.heap.size, 0, none⟩ s).setCell ⟨W0.heap.size, 1, none⟩ v) ∧ W0.heap.size ≤ W0.heap.size := by
  have hx : Box (W0.alloc (.cells #[x, y] 38)).drew W0.heap.size 38 [x, y] := (Box.new W0 #[x, y] 38).drew
  have h0 : Below W0.heap.size W0 (W0.alloc (.cells #[x, y] 38)).drew := ((Below.refl _ _).alloc (Nat.le_refl _) _).drew
  have h1 : Below W0.heap.size W0 w' := h0.trans (hb.mono h0.size)
  have hlt : W0.heap.size < (W0.alloc (.cells #[x, y] 38)).drew.heap.size := hx.lt
  refine ⟨((hx.later hb).set 0 s).set 1 v, ?_, ?_, Nat.le_refl _⟩
  · exact ((ho.below s hlt).below v hlt).lower (by omega)
  · exact (h1.setCell (Nat.le_refl _) _).setCell (Nat.le_refl _) _

/-- The tickets of which the first k have been looked at. -/
def wo (ts : List Tk) (ks : List Bool) (k : Nat) : List Tk := ts.mapIdx fun i t => if i < k then loosen t (ks.getD i true) else t
theorem wo_len (ts : List Tk) (ks : List Bool) (k : Nat) : (wo ts ks k).length = ts.length := by simp [wo]
theorem wo_zero (ts : List Tk) (ks : List Bool) : wo ts ks 0 = ts := by
  apply List.ext_getElem (by simp [wo])
  intro i h1 h2
  simp [wo]
theorem wo_get (ts : List Tk) (ks : List Bool) (k i : Nat) (h : i < ts.length) : (wo ts ks k)[i]'(by rw [wo_len]; exact h) = if i < k then loosen ts[i] (ks.getD i true) else ts[i] := by simp [wo]
theorem wo_succ (ts : List Tk) (ks : List Bool) (k : Nat) (h : k < ts.length) : wo ts ks (k + 1) = (wo ts ks k).set k (loosen ts[k] (ks.getD k true)) := by
  apply List.ext_getElem (by simp [wo])
  intro i h1 h2
  have hi : i < ts.length := by simpa [wo] using h1
  rw [wo_get _ _ _ _ hi, List.getElem_set]
  by_cases hk : k = i
  · subst hk; simp
  · rw [if_neg hk, wo_get _ _ _ _ hi]
    by_cases h3 : i < k
    · simp [h3, show i < k + 1 by omega]
    · simp [h3, show ¬ i < k + 1 by omega]
/-- The book in which the tickets that are not kept are left out. -/
def Bk.wout (b : Bk) (ks : List Bool) : Bk := { b with ts := wo b.ts ks b.ts.length }

def fp95 (N : Nat) (u : Value) (z : Nat → Value) : List Value := [z 0, u, .pointer (some ⟨N, 0, none⟩), z 3, .pointer (some ⟨N + 1, 0, none⟩), z 5, z 6, z 7, z 8, z 9, z 10, z 11, z 12, z 13, z 14, z 15, z 16, z 17, z 18, z 19, z 20, z 21, z 22, z 23, z 24, z 25, z 26, z 27, z 28, z 29, z 30, z 31]
theorem fp95_of (N : Nat) (u : Value) (L : List Value) (hL : L.length = 32) (h1 : L[1]? = some (u)) (h2 : L[2]? = some (.pointer (some ⟨N, 0, none⟩))) (h4 : L[4]? = some (.pointer (some ⟨N + 1, 0, none⟩))) : ∃ z, L = fp95 N u z := by
  refine ⟨fun i => L.getD i undef, ?_⟩
  unfold fp95
  have e := list_range L 32 hL
  have e1 : L.getD 1 undef = u := by rw [List.getD_eq_getElem?_getD, h1]; rfl
  have e2 : L.getD 2 undef = .pointer (some ⟨N, 0, none⟩) := by rw [List.getD_eq_getElem?_getD, h2]; rfl
  have e4 : L.getD 4 undef = .pointer (some ⟨N + 1, 0, none⟩) := by rw [List.getD_eq_getElem?_getD, h4]; rfl
  rw [← e1, ← e2, ← e4]
  exact e
theorem fp95_act (N : Nat) (u : Value) (A : Act) (ds : List Deferred) (hds : A.defers = ds) (hL : A.tmps.size = 32) (h1 : A.tmps[1]? = some (u)) (h2 : A.tmps[2]? = some (.pointer (some ⟨N, 0, none⟩))) (h4 : A.tmps[4]? = some (.pointer (some ⟨N + 1, 0, none⟩))) : ∃ z, A = { tmps := (fp95 N u z).toArray, defers := ds } := by
  obtain ⟨z, e⟩ := fp95_of N u A.tmps.toList (by rw [Array.length_toList]; exact hL) (by rw [Array.getElem?_toList]; exact h1) (by rw [Array.getElem?_toList]; exact h2) (by rw [Array.getElem?_toList]; exact h4)
  exact ⟨z, by cases A; subst hds; dsimp only at e ⊢; rw [← e]⟩


/-- What 'out' is after its first statement. -/
def Wo1 (N : Nat) (W0 : World) (u s1 : Value) (b : Bk) (e : Exit) (a : Act) (W' : World) : Prop :=
  e = .normal ∧ ∃ g v', (∃ z, a = { tmps := (fr95 N g u z).toArray, defers := [] }) ∧ Box W' g 38 [s1, v'] ∧ Own Tk.enc 5 53 W' N v' b.ts ∧ Below W0.heap.size W0 W' ∧ W0.heap.size ≤ g
noncomputable def c95 : Code := Try.f95.body.getD .skip
noncomputable def r95 : Code := codeL (codeR c95)
noncomputable def s95 : Code := codeR (codeR c95)

set_option maxRecDepth 100000 in
set_option maxHeartbeats 1000000 in
theorem r95_walk (W0 : World) (N : Nat) (v1 v2 u : Value) (b : Bk) (z : Nat → Value) (hN : N < W0.heap.size) (hx : Box W0 N 38 [v1, v2])
    (hc : ∀ w1, Below W0.heap.size W0 w1 → Calls Try.prog 98 #[v2] w1 (ClonePost w1 b.ts)) (hv1 : ∃ a c, v1 = .slice a b.st.length c) (hv2 : ∃ a c, v2 = .slice a b.ts.length c) :
    r95.wp Try.prog (Wo1 N W0 u v1 b) { tmps := (fp95 N u z).toArray, defers := [] } W0 := by
  obtain ⟨a1, n1, rfl⟩ := hv1
  obtain ⟨a2, n2, rfl⟩ := hv2
  have x0 := hx.cell 0
  have x1 := hx.cell 1
  have xz := hx.lt
  simp only [List.getElem?_cons_zero, List.getElem?_cons_succ] at x0 x1
  have HCL2 := Lib.hid hc
  have hN' : N ≤ W0.heap.size := Nat.le_of_lt hN
  have HN := Lib.hid hN'
  clear hN'
  clear hx hc hN
  simp only [r95, c95, codeL, codeR, Try.f95, Option.getD, fp95]
  refine wp_region_noPanic ?_
  go_region_with (go_at_call 98; refine (HCL2.out _ (by repeat (first | exact Below.refl _ _ | refine Below.alloc ?_ (Nat.le_refl _) _ | refine Below.drew ?_))).mono ?_; rintro e w' ⟨v', rfl, hown, hbel⟩; obtain ⟨a', c', rfl⟩ := hown.shape; have q3 := fun o => hbel.cell (p := ⟨N, o, none⟩) (by first | exact xz | (simp; omega)); have q4 : N < w'.heap.size := Nat.lt_of_lt_of_le (by first | exact xz | (simp; omega)) hbel.size; have q0 := fun o h => hbel.cell (p := ⟨W0.heap.size, o, none⟩) h; have q1 := fun o h => hbel.frozen (p := ⟨W0.heap.size, o, none⟩) h)
  all_goals refine NoPanic.normal ?_
  all_goals first
    | exact ⟨rfl, w'.heap.size, _, by apply fr95_act <;> rfl, wo_a HN.out hbel hown⟩
    | exact ⟨rfl, W0.heap.size, _, by apply fr95_act <;> rfl, wo_b HN.out hbel hown⟩
end Go.Proofs.Ytlakcghdehdeiaa

/- Walks: without, its loop. -/
namespace Go.Proofs.Ytlakcghdehdeiaa
open Go Go.Proofs Go.RowKit

def WoPost (w : World) (v1 : Value) (b : Bk) (e : Ending) (w' : World) : Prop := ∃ v', e = .returned (.agg #[v1, v']) ∧ BkR w' w'.heap.size v1 v' b ∧ Below w.heap.size w w'
theorem wo_post {w w' : World} {v1 v' : Value} {b : Bk} {ts : List Tk} (h1 : Sl Rg.enc 2 w w.heap.size v1 b.st) (hb : Below w.heap.size w w') (h2 : Own Tk.enc 5 53 w' w.heap.size v' ts) (hlen : ts.length ≤ 1000000000) (hid : ∀ t ∈ ts, t.id.size ≤ 9223372036854775807) : BkR w' w'.heap.size v1 v' { b with ts := ts } :=
  ⟨h1.later hb, h2.toSl Tk.enc_len hlen, hid⟩
theorem wo_ids {b : Bk} {ks : List Bool} {k : Nat} (h : ∀ t ∈ b.ts, t.id.size ≤ 9223372036854775807) : ∀ t ∈ wo b.ts ks k, t.id.size ≤ 9223372036854775807 := by
  intro t ht
  obtain ⟨i, hi, rfl⟩ := List.mem_iff_getElem.1 ht
  have hi' : i < b.ts.length := by rwa [wo_len] at hi
  rw [wo_get _ _ _ _ hi']
  have := h b.ts[i] (List.getElem_mem hi')
  split
  · unfold loosen; split <;> exact this
  · exact this
theorem wo_fin {w wr : World} {s v x y : Value} {b : Bk} {ks : List Bool} (h1 : Sl Rg.enc 2 w w.heap.size s b.st) (hb : Below w.heap.size w wr) (hr : Box wr (w.heap.size + 1) 38 [x, y]) (ho : Own Tk.enc 5 53 wr w.heap.size v (wo b.ts ks b.ts.length)) (hl : b.ts.length ≤ 1000)
    (hid : ∀ t ∈ b.ts, t.id.size ≤ 9223372036854775807) : WoPost w s (b.wout ks) (.returned (.agg #[s, v])) ((wr.setCell ⟨w.heap.size + 1, 0, none⟩ s).setCell ⟨w.heap.size + 1, 1, none⟩ v) := by
  have hne := ho.other_type hr (by decide)
  have hb2 : Below w.heap.size w ((wr.setCell ⟨w.heap.size + 1, 0, none⟩ s).setCell ⟨w.heap.size + 1, 1, none⟩ v) := (hb.setCell (by simp) _).setCell (by simp) _
  exact ⟨v, rfl, wo_post h1 hb2 ((ho.other _ hne).other _ hne) (by rw [wo_len]; omega) (wo_ids hid), hb2⟩
theorem wo_round {w wr : World} {k g gg c' : Nat} {s v : Value} {b : Bk} {ks : List Bool} (hk : k < b.ts.length) (hy : ks.getD k true = false) (hb : Below w.heap.size w wr) (hx : Box wr g 38 [s, v]) (hr : Box wr (w.heap.size + 1) 38 [.slice none 0 0, .slice none 0 0])
    (ho : Own Tk.enc 5 53 wr w.heap.size (.slice (some ⟨gg, 0, none⟩) b.ts.length c') (wo b.ts ks k)) :
    let W := (wr.setCell ⟨gg, k * 5 + 3, none⟩ (.int .i64 0)).setCell ⟨gg, k * 5 + 3 + 1, none⟩ (.int .i64 999999999)
    Below w.heap.size w W ∧ Box W g 38 [s, v] ∧ Box W (w.heap.size + 1) 38 [.slice none 0 0, .slice none 0 0] ∧ Own Tk.enc 5 53 W w.heap.size (.slice (some ⟨gg, 0, none⟩) b.ts.length c') (wo b.ts ks (k + 1)) := by
  have n1 := ho.other_type hx (by decide)
  have n2 := ho.other_type hr (by decide)
  have hge : w.heap.size ≤ gg := ho.lt' gg rfl
  have h1 : gg ≠ g := fun e => n1 (by rw [e]; rfl)
  have h2 : gg ≠ w.heap.size + 1 := fun e => n2 (by rw [e]; rfl)
  refine ⟨(hb.setCell hge _).setCell hge _, (hx.other _ h1).other _ h1, (hr.other _ h2).other _ h2, ?_⟩
  have hL : (wo b.ts ks k).length = b.ts.length := wo_len _ _ _
  rw [← hL] at ho ⊢
  have hk' : k < (wo b.ts ks k).length := by omega
  obtain ⟨t, ht⟩ : ∃ t, (wo b.ts ks k)[k] = t := ⟨_, rfl⟩
  have hg := wo_get b.ts ks k k hk
  rw [if_neg (by omega)] at hg
  have o1 := ho.set Tk.enc_len' k hk' 3 (by omega) (.int .i64 0) { t with m := ⟨0, t.m.hi⟩ } (by rw [ht]; rfl)
  have hl2 : ((wo b.ts ks k).set k { t with m := ⟨0, t.m.hi⟩ }).length = (wo b.ts ks k).length := by simp
  rw [← hl2] at o1
  have o2 := o1.set Tk.enc_len' k (by rw [hl2]; exact hk') 4 (by omega) (.int .i64 999999999) { t with m := ⟨0, 999999999⟩ } (by rw [List.getElem_set_self]; rfl)
  rw [List.set_set] at o2
  rw [hl2] at o2
  have e : wo b.ts ks (k + 1) = (wo b.ts ks k).set k { t with m := ⟨0, 999999999⟩ } := by
    rw [wo_succ _ _ _ hk, hy, ← ht, hg]
    simp [loosen]
  rw [e]
  exact o2
set_option maxRecDepth 100000 in
set_option maxHeartbeats 1000000 in
theorem s95_walk (w W0 : World) (N g : Nat) (v1 v' u : Value) (b : Bk) (ks : List Bool) (z : Nat → Value) (hN : N = w.heap.size) (h1 : Sl Rg.enc 2 w w.heap.size v1 b.st) (hu : Sl encB 1 w w.heap.size u ks) (hk : ks.length = b.ts.length) (hl : b.ts.length ≤ 1000)
    (hid : ∀ t ∈ b.ts, t.id.size ≤ 9223372036854775807) (hb : Below w.heap.size w W0) (hx : Box W0 g 38 [v1, v']) (hr : Box W0 (N + 1) 38 [.slice none 0 0, .slice none 0 0]) (ho : Own Tk.enc 5 53 W0 N v' b.ts) (hg : N + 1 < g) :
    s95.wp Try.prog (bodyPost Try.prog Try.f95 (WoPost w v1 (b.wout ks))) { tmps := (fr95 N g u z).toArray, defers := [] } W0 := by
  obtain ⟨Q, hQ⟩ : ∃ Q, bodyPost Try.prog Try.f95 (WoPost w v1 (b.wout ks)) = Q := ⟨_, rfl⟩
  rw [hQ]
  have HQ := Lib.hid hQ
  clear hQ
  obtain ⟨a', c', rfl⟩ := ho.shape
  obtain ⟨a3, c3, rfl, hl3, hA3⟩ := hu
  obtain ⟨m, hm⟩ : ∃ m, b.ts.length = m := ⟨_, rfl⟩
  rw [hm] at hk hl hx ho
  have HO := Lib.hid (show Own Tk.enc 5 53 W0 N (.slice a' m c') (wo b.ts ks 0) by rw [wo_zero]; exact ho)
  have HA3 := Lib.hid (show 0 < m → ∃ bb off, a3 = some ⟨bb, off, none⟩ ∧ bb < w.heap.size ∧ ∀ i (h : i < ks.length), At w bb (off + i * 1) (encB ks[i]) from fun h => hA3 (by omega))
  clear hA3
  rw [hk] at hl3 ⊢
  have hml : m ≤ 1000 := by omega
  have HM := Lib.hid hm
  clear hm
  have HK := Lib.hid hk
  clear hk
  have HID := Lib.hid hid
  clear hid
  have h1' := h1
  obtain ⟨a1, c1, rfl, hl1, _⟩ := h1'
  have HS1 := Lib.hid h1
  subst hN
  have x1 := hx.cell 1
  have xz := hx.lt
  simp only [List.getElem?_cons_zero, List.getElem?_cons_succ] at x1
  have HX := Lib.hid hx
  have HR := Lib.hid hr
  have HB := Lib.hid hb
  have HG := Lib.hid hg
  clear hx hr hb h1 ho hg
  simp only [s95, c95, codeL, codeR, Try.f95, Option.getD, fr95]
  go_wp2_with fail
  clear x1 xz
  go_loopw [16] (fun j wr => ∃ k : Nat, k ≤ m ∧ j = .int .i64 k ∧ Below w.heap.size w wr ∧ Box wr g 38 [.slice a1 b.st.length c1, .slice a' m c'] ∧ Box wr (w.heap.size + 1) 38 [.slice none 0 0, .slice none 0 0] ∧ Own Tk.enc 5 53 wr w.heap.size (.slice a' m c') (wo b.ts ks k)) (fun j _ => m - (intOf j).toNat)
  case atStart => exact ⟨0, by omega, rfl, HB.out, HX.out, HR.out, HO.out⟩
  case round =>
    obtain ⟨k, hk, rfl, hbe, hx, hr, ho⟩ := hrel
    have x0 := hx.cell 0
    have x1 := hx.cell 1
    have xz := hx.lt
    simp only [List.getElem?_cons_zero, List.getElem?_cons_succ] at x0 x1
    by_cases hlt : k < m
    · obtain ⟨bb, off, rfl, hbb, hcells⟩ := HA3.out (by omega)
      have hk3 : k < ks.length := by rw [HK.out]; exact hlt
      have f0 := ((hcells k hk3).below hbe hbb).c1
      rw [Nat.mul_one] at f0
      have hkt : k < b.ts.length := by rw [HM.out]; exact hlt
      have HWS := Lib.hid (wo_succ b.ts ks k hkt)
      have HGK := Lib.hid (show ks.getD k true = ks[k] by rw [List.getD_eq_getElem?_getD, List.getElem?_eq_getElem hk3]; rfl)
      have hg := HG.out
      obtain ⟨gg, cap, hform, hgN, hgl⟩ := ho.form (Nat.lt_of_le_of_lt (Nat.zero_le k) (Nat.lt_of_lt_of_eq hkt (wo_len b.ts ks k).symm))
      obtain ⟨y, hy⟩ : ∃ y, ks[k] = y := ⟨_, rfl⟩
      rw [hy] at f0 HGK
      clear hcells HA3 hy
      obtain rfl : a' = some ⟨gg, 0, none⟩ := by cases hform; rfl
      have ho' : Own Tk.enc 5 53 wr w.heap.size (.slice (some ⟨gg, 0, none⟩) (wo b.ts ks k).length c') (wo b.ts ks k) := by rw [wo_len, HM.out]; exact ho
      have hcl := ho'.at Tk.enc_len k (Nat.lt_of_lt_of_eq hkt (wo_len b.ts ks k).symm)
      have z3 := hcl 3 _ rfl
      have z4 := hcl 4 _ rfl
      have hfr3 := ho'.frozen (k * 5 + 3)
      have hfr4 := ho'.frozen (k * 5 + 4)
      clear hcl ho'
      cases y
      · have HR2 := Lib.hid (wo_round hkt HGK.out hbe hx hr (by rw [HM.out]; exact ho))
        clear hbe hx hr ho
        go_wp2_with fail
        go_roundw
        case rel =>
          obtain ⟨r1, r2, r3, r4⟩ := HR2.out
          exact ⟨k + 1, by omega, by go_num, r1, r2, r3, by rw [HM.out] at r4; exact r4⟩
        case measure => simp [intOf]; omega
      · have hsame : wo b.ts ks (k + 1) = wo b.ts ks k := by
          rw [HWS.out, HGK.out]
          have hg := wo_get b.ts ks k k hkt
          rw [if_neg (by omega)] at hg
          rw [show loosen b.ts[k] true = b.ts[k] from rfl, ← hg, List.set_getElem_self]
        have HSM := Lib.hid hsame
        clear hsame
        go_wp2_with fail
        go_roundw
        case rel => exact ⟨k + 1, by omega, by go_num, hbe, hx, hr, by rw [HSM.out]; exact ho⟩
        case measure => simp [intOf]; omega
    · obtain rfl : m = k := by omega
      have HFI := Lib.hid (wo_fin (b := b) (ks := ks) HS1.out hbe hr (by rw [HM.out]; exact ho) (by rw [HM.out]; exact hl) HID.out)
      have hrz := hr.lt
      have hrf0 := hr.frozen 0
      have hrf1 := hr.frozen 1
      have hr0 := hr.cell 0
      have hr1 := hr.cell 1
      simp only [List.getElem?_cons_zero, List.getElem?_cons_succ] at hr0 hr1
      have hne : g ≠ w.heap.size + 1 := by have := HG.out; omega
      have HBE := Lib.hid hbe
      clear hbe hx hr ho
      go_wp2_with fail
      rw [← HQ.out]
      refine bodyPost_ret (v := .agg #[.slice a1 b.st.length c1, .slice a' m c']) (by simp [results, Try.results95, go_sem, *]) rfl ?_
      exact HFI.out

set_option maxRecDepth 100000 in
set_option maxHeartbeats 1000000 in
theorem without95 (w : World) (v1 v2 u : Value) (b : Bk) (ks : List Bool) (hv : BkR w w.heap.size v1 v2 b) (hu : Sl encB 1 w w.heap.size u ks) (hk : ks.length = b.ts.length) (hl : b.ts.length ≤ 1000) :
    Calls Try.prog 95 #[.agg #[v1, v2], u] w (WoPost w v1 (b.wout ks)) := by
  have FIN : ∀ (A' : Act) (W' : World), (∃ z', A' = { tmps := (fp95 w.heap.size u z').toArray, defers := [] }) →
      W' = (w.alloc (.cells #[v1, v2] 38)).alloc (.cells #[.slice none 0 0, .slice none 0 0] 38) → (Code.seq r95 s95).wp Try.prog (bodyPost Try.prog Try.f95 (WoPost w v1 (b.wout ks))) A' W' := by
    rintro A' W' ⟨z', rfl⟩ rfl
    have hx := (Box.new w #[v1, v2] 38).alloc (.cells #[.slice none 0 0, .slice none 0 0] 38)
    have hr := Box.newAt (w.alloc (.cells #[v1, v2] 38)) #[.slice none 0 0, .slice none 0 0] 38 (n := w.heap.size + 1) (by simp)
    have hb : Below w.heap.size w ((w.alloc (.cells #[v1, v2] 38)).alloc (.cells #[.slice none 0 0, .slice none 0 0] 38)) := ((Below.refl _ _).alloc (Nat.le_refl _) _).alloc (by simp) _
    have hb' := hb
    refine wp_seq (wp_mono (r95_walk _ w.heap.size v1 v2 u b z' hx.lt hx (fun w1 h1 => clone98 w1 v2 b.ts (hv.later (hb.trans (h1.mono hb'.size))).ts) ?_ ?_) ?_)
    · obtain ⟨a, c, h, _⟩ := hv.st; exact ⟨a, c, h⟩
    · obtain ⟨a, c, h, _⟩ := hv.ts; exact ⟨a, c, h⟩
    rintro e a W2 ⟨rfl, g, v', ⟨z2, rfl⟩, hbox, hown, hb2, hg⟩
    exact s95_walk w W2 w.heap.size g v1 v' u b ks z2 rfl hv.st hu hk hl hv.ids (hb.trans (hb2.mono hb'.size)) hbox (hr.later hb2) hown (Nat.lt_of_lt_of_le hr.lt hg)
  obtain ⟨⟨a1, n1, hv1, hl1, hA1⟩, ⟨a2, n2, hv2, hl2, hA2⟩, hids⟩ := hv
  subst hv1 hv2
  clear hA1 hA2 hids
  have HFIN := Lib.hid FIN
  clear FIN
  obtain ⟨R, hR⟩ : ∃ R, Code.seq r95 s95 = R := ⟨_, rfl⟩
  rw [hR] at HFIN
  refine calls_of_wp Try.func95 (c := c95) rfl ?_
  simp only [Try.ntmps95, List.size_toArray, List.length_cons, List.length_nil, Nat.reduceAdd, Nat.reduceSub, Array.replicate_succ, Array.replicate_zero, List.push_toArray, List.append_toArray, List.nil_append, List.cons_append]
  obtain ⟨Q, hQ⟩ : ∃ Q, bodyPost Try.prog Try.f95 (WoPost w (.slice a1 b.st.length n1) (b.wout ks)) = Q := ⟨_, rfl⟩
  rw [hQ] at HFIN ⊢
  rw [show c95 = .seq (codeL c95) R from by rw [← hR]; rfl]
  simp only [c95, Try.f95, Option.getD, codeL, codeR]
  go_wp2_with fail
  refine HFIN.out _ _ ?_ rfl
  apply fp95_act <;> rfl

theorem OkBk.wout {b : Bk} (h : OkBk b) (ks : List Bool) : OkBk (b.wout ks) := by
  refine ⟨h.st32, by show (wo _ _ _).length ≤ _; rw [wo_len]; exact h.ts128, h.st, fun t ht => ?_⟩
  obtain ⟨i, hi, rfl⟩ := List.mem_iff_getElem.1 ht
  have hi' : i < b.ts.length := by have : i < (wo b.ts ks b.ts.length).length := hi; rwa [wo_len] at this
  have hg := wo_get b.ts ks b.ts.length i hi'
  rw [if_pos hi'] at hg
  have hm := h.tk b.ts[i] (List.getElem_mem hi')
  show -1 ≤ ((wo b.ts ks b.ts.length)[i]'hi).fr ∧ _
  have e : (wo b.ts ks b.ts.length)[i]'hi = loosen b.ts[i] (ks.getD i true) := hg
  show _ ∧ ((wo b.ts ks b.ts.length)[i]'hi).fr < _ ∧ _ ≤ ((wo b.ts ks b.ts.length)[i]'hi).to ∧ ((wo b.ts ks b.ts.length)[i]'hi).to < _ ∧ ((wo b.ts ks b.ts.length)[i]'hi).fr ≠ ((wo b.ts ks b.ts.length)[i]'hi).to ∧ _ ≤ ((wo b.ts ks b.ts.length)[i]'hi).m.lo ∧ ((wo b.ts ks b.ts.length)[i]'hi).m.lo ≤ ((wo b.ts ks b.ts.length)[i]'hi).m.hi ∧ ((wo b.ts ks b.ts.length)[i]'hi).m.hi ≤ _
  rw [e]
  unfold loosen
  split
  · exact hm
  · obtain ⟨m1, m2, m3, m4, m5, _⟩ := hm
    exact ⟨m1, m2, m3, m4, m5, by simp, by simp, by simp⟩
def ContraPost (w : World) (b : Bk) (ks : List Bool) (e : Ending) (w' : World) : Prop := ∃ c, e = .returned (.bool c) ∧ (c = true ↔ ¬ Con (b.wout ks)) ∧ Below w.heap.size w w'
set_option maxRecDepth 100000 in
set_option maxHeartbeats 1000000 in
theorem contradict83 (w : World) (v1 v2 u : Value) (b : Bk) (ks : List Bool) (hok : OkBk b) (hv : BkR w w.heap.size v1 v2 b) (hu : Sl encB 1 w w.heap.size u ks) (hk : ks.length = b.ts.length) :
    Calls Try.prog 83 #[.agg #[v1, v2], u] w (ContraPost w b ks) := by
  have H128 := hok.ts128
  have HC := Lib.hid (fun (w1 : World) (hb : Below w.heap.size w w1) => without95 w1 v1 v2 u b ks (hv.later hb) ((hu.later hb)) hk (by omega))
  have HOK := Lib.hid (hok.wout ks)
  obtain ⟨⟨a1, n1, hv1, hl1, hA1⟩, ⟨a2, n2, hv2, hl2, hA2⟩, hids⟩ := hv
  subst hv1 hv2
  clear hA1 hA2 hids hok hu hk
  go_enter Try.func83, Try.ntmps83
  go_wp2_with fail
  refine (HC.out _ ((Below.refl _ _).alloc (Nat.le_refl _) _)).mono ?_
  rintro e w1 ⟨v', rfl, hbk, hb1⟩
  have HB1 := Lib.hid (((Below.refl w.heap.size w).alloc (Nat.le_refl _) (.cells #[.slice a1 b.st.length n1, .slice a2 b.ts.length n2] 38)).trans (hb1.mono (by simp)))
  have HS := Lib.hid (settle72 w1 (.slice a1 b.st.length n1) v' (b.wout ks) HOK.out hbk)
  have hbk2 := hbk.ts
  obtain ⟨a', c', rfl, _⟩ := hbk2
  clear hbk hb1
  go_wp2_with fail
  refine HS.out.mono ?_
  intro e w2 hp
  obtain ⟨ok, nb, v, l, rc, rfl, hn, hb2, hnb, hsh, _, hiff, _⟩ := settle_con HOK.out hp
  have HB2 := Lib.hid (HB1.out.trans (hb2.mono HB1.out.size))
  have HIF := Lib.hid hiff
  clear hp hn hb2 hnb hsh hiff
  go_wp2_with fail
  go_ret
  exact ⟨_, rfl, by rw [← HIF.out]; cases ok <;> simp, HB2.out⟩
end Go.Proofs.Ytlakcghdehdeiaa

/- Tickets that contradict each other, one left out after the other, plainly; make. -/
namespace Go.Proofs.Ytlakcghdehdeiaa
open Go Go.Proofs Go.RowKit

/-- 'make([]T, n)' of elements of one cell. -/
theorem wpList_mk1 {α : Type} (f : α → List Value) (x0 : α) (z : Value) (hz : f x0 = [z]) (t e : TypeId) (bytes : Nat) {P : Program} (hT : P.underlying t = some (.slice e)) (hI : (P.info? e).map (fun i => (i.zero, i.size, i.bytes)) = some (some z, 1, bytes)) (hzc : z.cells = #[z])
    (hby : bytes ≤ 1000) (base : Nat) (w : World) (n : Nat) (hn : n ≤ 1000000) (hb : base ≤ w.heap.size)
    {ops : Array Oper} {rest : List Oper} {o : Oper} {a : Act} {Q : Exit → Act → World → Prop} (hg : o.guard = none) (l c : Operand) (hop : o.op = Op.makeSlice t l c) (kl kc : IntKind) (hl : a.eval l = .int kl n) (hc : a.eval c = .int kc n)
    (h : ∀ w', Own f 1 e w' base (.slice (some ⟨w.heap.size, 0, none⟩) n n) (List.replicate n x0) → w.grownBy w' none → wpList P ops Q rest (a.put o.dst (.slice (some ⟨w.heap.size, 0, none⟩) n n)) w') : wpList P ops Q (o :: rest) a w := by
  obtain ⟨i, hi, h0, h1, h2⟩ := info_parts hI
  have hmul : bytes * n ≤ 1000 * 1000000 := Nat.mul_le_mul hby hn
  refine wpList_make_full w hg l c t hop base e i z 1 hT hi h0 h1 kl kc _ _ n hl hc rfl rfl (by rw [h2]; omega) (by unfold maxLen; omega) hb ?_
  intro w' how hgr
  refine h w' ?_ hgr
  unfold Own
  rw [hzc, Nat.mul_one, toList_madeCells_one] at how
  have : (List.replicate n x0).flatMap f = List.replicate n z := by
    clear how hmul h hl hc hn
    induction n with
    | zero => rfl
    | succ n ih => rw [List.replicate_succ, List.flatMap_cons, ih, hz, List.replicate_succ]; rfl
  rw [this, List.length_replicate]
  exact how
theorem grown_none_below {w w' : World} (h : w.grownBy w' none) : Below w.heap.size w w' := (Below.refl _ _).grown h (Nat.le_refl _) (fun k hk => by cases hk)

/-- Which of n numbers are in a list. -/
def ksOf (n : Nat) (l : List Nat) : List Bool := (List.range n).map fun i => decide (i ∈ l)
theorem ksOf_len (n : Nat) (l : List Nat) : (ksOf n l).length = n := by simp [ksOf]
theorem ksOf_get (n : Nat) (l : List Nat) (i : Nat) (h : i < n) : (ksOf n l)[i]'(by rw [ksOf_len]; exact h) = decide (i ∈ l) := by simp [ksOf]
theorem ksOf_congr {n : Nat} {l l' : List Nat} (h : ∀ i, i < n → (i ∈ l ↔ i ∈ l')) : ksOf n l = ksOf n l' := by
  unfold ksOf
  apply List.map_congr_left
  intro i hi
  rw [decide_eq_decide]
  exact h i (List.mem_range.1 hi)
theorem ksOf_set (n k : Nat) (l l' : List Nat) (x : Bool) (h : ∀ i, i < n → i ≠ k → (i ∈ l' ↔ i ∈ l)) (hx : k < n → (k ∈ l' ↔ x = true)) : (ksOf n l).set k x = ksOf n l' := by
  apply List.ext_getElem (by simp [ksOf])
  intro i h1 h2
  have hi : i < n := by rw [ksOf_len] at h2; exact h2
  rw [List.getElem_set, ksOf_get _ _ _ hi]
  by_cases hk : k = i
  · subst hk
    have := hx hi
    rw [if_pos rfl, ksOf_get _ _ _ hi]
    cases x
    · simp [this]
    · simp [this]
  · rw [if_neg hk, ksOf_get _ _ _ hi, decide_eq_decide]
    exact (h i hi (Ne.symm hk)).symm
/-- The tickets of a list alone contradict each other, or not. -/
def ConL (b : Bk) (l : List Nat) : Prop := Con (b.wout (ksOf b.ts.length l))
theorem wout_all (b : Bk) (ks : List Bool) (h : ∀ i, i < b.ts.length → ks.getD i true = true) : b.wout ks = b := by
  have : wo b.ts ks b.ts.length = b.ts := by
    apply List.ext_getElem (by rw [wo_len])
    intro i h1 h2
    rw [wo_get _ _ _ _ h2, if_pos h2, h i h2]; rfl
  unfold Bk.wout
  rw [this]
theorem conL_all (b : Bk) (l : List Nat) (h : ∀ i, i < b.ts.length → i ∈ l) : ConL b l ↔ Con b := by
  unfold ConL
  rw [wout_all]
  intro i hi
  rw [List.getD_eq_getElem?_getD, List.getElem?_eq_getElem (by rw [ksOf_len]; exact hi), ksOf_get _ _ _ hi]
  simpa using h i hi
open Classical in
/-- One ticket after the other is left out, if the others contradict each other without it. -/
noncomputable def greedy (C : List Nat → Prop) : List Nat → List Nat → List Nat
  | done, [] => done
  | done, x :: r => if C (done ++ r) then greedy C (done ++ [x]) r else greedy C done r
noncomputable def minN (b : Bk) : List Nat := greedy (ConL b) [] (List.range b.ts.length)
noncomputable def minOf (b : Bk) : List Int := List.map (fun (i : Nat) => (i : Int)) (minN b)
theorem range_from (m k : Nat) (h : k < m) : List.range' k (m - k) = k :: List.range' (k + 1) (m - (k + 1)) := by
  rw [show m - k = (m - (k + 1)) + 1 by omega, List.range'_succ]
/-- The state of the search before ticket k: the tickets that stay. -/
structure Gr (b : Bk) (k : Nat) (done : List Nat) : Prop where
  le : k ≤ b.ts.length
  lt : ∀ i ∈ done, i < k
  len : done.length ≤ k
  fin : greedy (ConL b) done (List.range' k (b.ts.length - k)) = minN b
def grL (b : Bk) (k : Nat) (done : List Nat) : List Nat := done ++ List.range' k (b.ts.length - k)
theorem Gr.zero (b : Bk) : Gr b 0 [] := ⟨by omega, by simp, by simp, by unfold minN; rw [List.range_eq_range', Nat.sub_zero]⟩
theorem Gr.keep {b : Bk} {k : Nat} {done : List Nat} (h : Gr b k done) (hk : k < b.ts.length) (hc : ConL b (grL b (k + 1) done)) : Gr b (k + 1) (done ++ [k]) := by
  refine ⟨by omega, ?_, by have := h.len; simp; omega, ?_⟩
  · intro i hi
    rcases List.mem_append.1 hi with hi | hi
    · have := h.lt i hi; omega
    · simp at hi; omega
  · have := h.fin
    rw [range_from _ _ hk, greedy, if_pos (show ConL b (done ++ List.range' (k + 1) (b.ts.length - (k + 1))) from hc)] at this
    exact this
theorem Gr.drop {b : Bk} {k : Nat} {done : List Nat} (h : Gr b k done) (hk : k < b.ts.length) (hc : ¬ ConL b (grL b (k + 1) done)) : Gr b (k + 1) done := by
  refine ⟨by omega, ?_, by have := h.len; omega, ?_⟩
  · intro i hi
    have := h.lt i hi; omega
  · have := h.fin
    rw [range_from _ _ hk, greedy, if_neg (show ¬ ConL b (done ++ List.range' (k + 1) (b.ts.length - (k + 1))) from hc)] at this
    exact this
theorem Gr.last {b : Bk} {done : List Nat} (h : Gr b b.ts.length done) : done = minN b := by
  have := h.fin
  rw [Nat.sub_self] at this
  simpa [greedy] using this
theorem mem_grL {b : Bk} {k : Nat} {done : List Nat} {i : Nat} : i ∈ grL b k done ↔ i ∈ done ∨ (k ≤ i ∧ i < b.ts.length) := by
  unfold grL
  rw [List.mem_append, List.mem_range'_1]
  have : (k ≤ i ∧ i < k + (b.ts.length - k)) ↔ (k ≤ i ∧ i < b.ts.length) := by omega
  rw [this]
theorem Gr.set_false {b : Bk} {k : Nat} {done : List Nat} (h : Gr b k done) : (ksOf b.ts.length (grL b k done)).set k false = ksOf b.ts.length (grL b (k + 1) done) := by
  refine ksOf_set _ _ _ _ _ (fun i hi hk => ?_) (fun hk => ?_)
  · rw [mem_grL, mem_grL]
    have : (k + 1 ≤ i ∧ i < b.ts.length) ↔ (k ≤ i ∧ i < b.ts.length) := by omega
    rw [this]
  · rw [mem_grL]
    have := h.lt k
    constructor
    · intro h2
      rcases h2 with h2 | h2
      · have := this h2; omega
      · omega
    · intro h2; cases h2
theorem Gr.set_true {b : Bk} {k : Nat} {done : List Nat} (h : Gr b k done) : (ksOf b.ts.length (grL b (k + 1) done)).set k true = ksOf b.ts.length (grL b (k + 1) (done ++ [k])) := by
  refine ksOf_set _ _ _ _ _ (fun i hi hk => ?_) (fun hk => ?_)
  · rw [mem_grL, mem_grL, List.mem_append]
    constructor
    · rintro ((h1 | h1) | h1)
      · exact .inl h1
      · simp at h1; omega
      · exact .inr h1
    · rintro (h1 | h1)
      · exact .inl (.inl h1)
      · exact .inr h1
  · rw [mem_grL]
    simp
end Go.Proofs.Ytlakcghdehdeiaa

/- Walks: Minimal. -/
namespace Go.Proofs.Ytlakcghdehdeiaa
open Go Go.Proofs Go.RowKit

theorem Try.infoI : (Try.prog.info? 3).map (fun i => (i.zero, i.size, i.bytes)) = some (some (.int .i64 0), 1, 8) := by kernel_rfl
theorem Try.infoB : (Try.prog.info? 4).map (fun i => (i.zero, i.size, i.bytes)) = some (some (.bool false), 1, 1) := by kernel_rfl
theorem encI_one (x : Int) : ∀ u ∈ encI x, u.oneCell' = true := by intro u hu; simp [encI] at hu; subst hu; rfl
theorem encB_one (x : Bool) : ∀ u ∈ encB x, u.oneCell' = true := by intro u hu; simp [encB] at hu; subst hu; rfl

/-- It returns tickets that contradict each other, none of which can be left out. -/
def MinPost (w : World) (b : Bk) (e : Ending) (w' : World) : Prop :=
  Below w.heap.size w w' ∧ ((ckBook b ≠ 0 ∧ e = .returned (.tuple #[.slice none 0 0, .int .i64 (ckBook b)])) ∨ (ckBook b = 0 ∧ Con b ∧ e = .returned (.tuple #[.slice none 0 0, .int .i64 7])) ∨
    (ckBook b = 0 ∧ ¬ Con b ∧ ∃ v, e = .returned (.tuple #[v, .int .i64 0]) ∧ Sl encI 1 w' w'.heap.size v (minOf b)))

/-- What the search has: which tickets are kept, and which ones it has found. -/
structure MinX (w wr : World) (xs : List Value) (m g : Nat) (vo : Value) (l : List Nat) (outl : List Int) : Prop where
  below : Below w.heap.size w wr
  box : Box wr w.heap.size 38 xs
  kept : Own encB 1 4 wr (w.heap.size + 1) (.slice (some ⟨g, 0, none⟩) m m) (ksOf m l)
  out : Own encI 1 3 wr (w.heap.size + 1) vo outl
  ge : w.heap.size + 1 ≤ g
theorem MinX.gne {w wr : World} {xs : List Value} {m g : Nat} {vo : Value} {l : List Nat} {outl : List Int} (h : MinX w wr xs m g vo l outl) : vo.ownBlock ≠ some g := fun e => h.kept.two_types h.out (by decide) g rfl e
theorem MinX.set {w wr : World} {xs : List Value} {m g : Nat} {vo : Value} {l l' : List Nat} {outl : List Int} (h : MinX w wr xs m g vo l outl) (k : Nat) (hk : k < m) (y : Bool) (hset : (ksOf m l).set k y = ksOf m l') :
    wr.frozen? ⟨g, k, none⟩ = false ∧ (∃ u, wr.cell? ⟨g, k, none⟩ = some u) ∧ MinX w (wr.setCell ⟨g, k, none⟩ (.bool y)) xs m g vo l' outl := by
  have hne : g ≠ w.heap.size := by have := h.ge; omega
  have hL := ksOf_len m l
  have ho' : Own encB 1 4 wr (w.heap.size + 1) (.slice (some ⟨g, 0, none⟩) (ksOf m l).length m) (ksOf m l) := by rw [hL]; exact h.kept
  refine ⟨ho'.frozen k, ?_, h.below.setCell (by have := h.ge; simp; omega) _, h.box.other _ hne, ?_, h.out.other _ h.gne, h.ge⟩
  · have := ho'.at encB_len k (by rw [hL]; exact hk) 0 _ rfl
    rw [Nat.mul_one] at this
    exact ⟨_, this⟩
  · have := ho'.set encB_len k (by rw [hL]; exact hk) 0 (by omega) (.bool y) y rfl
    rw [Nat.mul_one, hL, hset] at this
    exact this
theorem MinX.later {w wr w' : World} {xs : List Value} {m g : Nat} {vo : Value} {l : List Nat} {outl : List Int} (h : MinX w wr xs m g vo l outl) (hb : Below wr.heap.size wr w') : MinX w w' xs m g vo l outl :=
  ⟨h.below.trans (hb.mono h.below.size), h.box.later hb, h.kept.later hb, h.out.later hb, h.ge⟩
theorem MinX.push {w wr w' : World} {xs : List Value} {m g : Nat} {vo vo' : Value} {l : List Nat} {outl outl' : List Int} (h : MinX w wr xs m g vo l outl) (ho : Own encI 1 3 w' (w.heap.size + 1) vo' outl') (hg : wr.grownBy w' vo.ownBlock) : MinX w w' xs m g vo' l outl' := by
  refine ⟨h.below.grown hg h.below.size fun k hk => by have := h.out.lt' k hk; omega, h.box.grown hg ?_, h.kept.kept hg ?_, ho, h.ge⟩
  · intro e
    have := h.out.lt' _ e.symm
    omega
  · exact .inr fun e => h.gne e.symm
theorem MinX.slice {w wr : World} {xs : List Value} {m g : Nat} {vo : Value} {l : List Nat} {outl : List Int} (h : MinX w wr xs m g vo l outl) (hm : m ≤ 1000000000) : Sl encB 1 wr wr.heap.size (.slice (some ⟨g, 0, none⟩) m m) (ksOf m l) :=
  h.kept.toSl encB_len (by rw [ksOf_len]; exact hm)

theorem ksOf_zero (m : Nat) : ksOf m (List.range 0) = List.replicate m false := by
  apply List.ext_getElem (by simp [ksOf])
  intro i h1 h2
  simp [ksOf]
theorem set_more (m k : Nat) : (ksOf m (List.range k)).set k true = ksOf m (List.range (k + 1)) :=
  ksOf_set _ _ _ _ _ (by intro i hi hik; simp; omega) (by simp)
abbrev outI (l : List Nat) : List Int := l.map (fun (i : Nat) => (i : Int))
set_option maxRecDepth 100000 in
set_option maxHeartbeats 1000000 in
theorem minimal47 (w : World) (v1 v2 : Value) (b : Bk) (hv : BkR w w.heap.size v1 v2 b) : Calls Try.prog 47 #[.agg #[v1, v2]] w (MinPost w b) := by
  have HC := Lib.hid (fun (w1 : World) (hb : Below w.heap.size w w1) (hok : OkBk b) u ks hu hk => contradict83 w1 v1 v2 u b ks hok (hv.later hb) hu hk)
  have HCK := Lib.hid (fun (w1 : World) (hb : Below w.heap.size w w1) => ckBook25 v1 v2 b w1 (hv.later hb))
  obtain ⟨⟨a1, n1, hv1, hl1, hA1⟩, ⟨a2, n2, hv2, hl2, hA2⟩, hids⟩ := hv
  subst hv1 hv2
  clear hA1 hA2 hids
  obtain ⟨n, hn⟩ : ∃ n, ckBook b = n := ⟨_, rfl⟩
  rw [hn] at HCK
  have HN := Lib.hid hn
  clear hn
  go_enter Try.func47, Try.ntmps47
  go_wp2_with fail
  refine (HCK.out _ ((Below.refl _ _).alloc (Nat.le_refl _) _)).mono ?_
  rintro e w1 ⟨rfl, hb1⟩
  have hx1 := (Box.new w #[.slice a1 b.st.length n1, .slice a2 b.ts.length n2] 38).later hb1
  have HB1 := Lib.hid (((Below.refl w.heap.size w).alloc (Nat.le_refl _) (.cells #[.slice a1 b.st.length n1, .slice a2 b.ts.length n2] 38)).trans (hb1.mono (by simp)))
  have x0 := hx1.cell 0
  have x1 := hx1.cell 1
  have xz := hx1.lt
  simp only [List.getElem?_cons_zero, List.getElem?_cons_succ] at x0 x1
  have HX1 := Lib.hid hx1
  clear hb1 hx1
  by_cases h0 : n = 0
  · subst h0
    have HOK := Lib.hid (okBk_of HN.out)
    have h128 := HOK.out.ts128
    obtain ⟨m, hm⟩ : ∃ m, b.ts.length = m := ⟨_, rfl⟩
    rw [hm] at x1 h128 HX1
    have HC2 := Lib.hid (fun w1 hb u ks hu (hk : ks.length = m) => HC.out w1 hb HOK.out u ks hu (by rw [hm]; exact hk))
    rw [hm] at HC2 ⊢
    have HM := Lib.hid hm
    clear hm
    have hbz : w.heap.size + 1 ≤ w1.heap.size := xz
    go_wp2_with ((with_reducible refine wpList_mk1 encB false (.bool false) rfl 112 4 1 Try.underlying112 Try.infoB rfl (by decide) (w.heap.size + 1) w1 m (by omega) hbz rfl _ _ rfl _ _ rfl rfl ?_); intro w2 hown hgr; have HOW := Lib.hid hown; have HGR := Lib.hid hgr; clear hown hgr)
    have HB2 := Lib.hid (show MinX w w2 [.slice a1 b.st.length n1, .slice a2 m n2] m w1.heap.size (.slice none 0 0) (List.range 0) [] from
      ⟨HB1.out.trans ((grown_none_below HGR.out).mono HB1.out.size), HX1.out.grown HGR.out (by simp), by rw [ksOf_zero]; exact HOW.out, Own.nil _ _ _ _ _, hbz⟩)
    clear hbz x0 x1 xz HOW HGR
    go_loopw [20] (fun j wr => ∃ k : Nat, k ≤ m ∧ j = .int .i64 k ∧ MinX w wr [.slice a1 b.st.length n1, .slice a2 m n2] m w1.heap.size (.slice none 0 0) (List.range k) []) (fun j _ => m - (intOf j).toNat)
    case atStart => exact ⟨0, by omega, rfl, HB2.out⟩
    case round =>
      obtain ⟨k, hk, rfl, hx⟩ := hrel
      clear HB2
      by_cases hlt : k < m
      · obtain ⟨hf, ⟨u0, hcl⟩, HR2⟩ := hx.set k hlt true (set_more m k)
        have HR3 := Lib.hid HR2
        clear HR2 hx
        go_wp2_with fail
        go_roundw
        case rel => exact ⟨k + 1, by omega, by go_num, HR3.out⟩
        case measure => simp [intOf]; omega
      · obtain rfl : m = k := by omega
        have x0 := hx.box.cell 0
        have x1 := hx.box.cell 1
        have xz := hx.box.lt
        simp only [List.getElem?_cons_zero, List.getElem?_cons_succ] at x0 x1
        have HX := Lib.hid hx
        clear hx
        go_wp2_with fail
        refine (HC2.out _ HX.out.below _ _ (HX.out.slice (by omega)) (ksOf_len _ _)).mono ?_
        rintro e w3 ⟨c, rfl, hiff, hb3⟩
        have hall := conL_all b (List.range m) (by intro i hi; rw [HM.out] at hi; simpa using hi)
        unfold ConL at hall
        rw [HM.out] at hall
        rw [hall] at hiff
        clear hall
        have HX3 := Lib.hid (HX.out.later hb3)
        clear hb3 x0 x1 xz HX
        have x0 := HX3.out.box.cell 0
        have x1 := HX3.out.box.cell 1
        have xz := HX3.out.box.lt
        simp only [List.getElem?_cons_zero, List.getElem?_cons_succ] at x0 x1
        cases c
        · have HCN := Lib.hid (show Con b from Classical.byContradiction fun h => by have := hiff.2 h; cases this)
          clear hiff
          go_wp2_with fail
          refine bodyPost_ret (results_tmp2 rfl _ _ _) rfl ?_
          exact ⟨HX3.out.below, .inr (.inl ⟨HN.out, HCN.out, rfl⟩)⟩
        · have HCN := Lib.hid (hiff.1 rfl)
          have HX4 := Lib.hid (show MinX w w3 [.slice a1 b.st.length n1, .slice a2 m n2] m w1.heap.size (.slice none 0 0) (grL b 0 []) (outI []) from by
            have h := HX3.out
            refine ⟨h.below, h.box, ?_, h.out, h.ge⟩
            have := h.kept
            rwa [ksOf_congr (l' := grL b 0 []) (by intro i hi; rw [mem_grL, HM.out]; simp)] at this)
          clear hiff HX3 x0 x1 xz
          go_wp2_with fail
          go_loopw [33, 7] (fun j o wr => ∃ (k : Nat) (vo : Value) (done : List Nat) (od : List Int), k ≤ m ∧ j = .int .i64 k ∧ o = vo ∧ Gr b k done ∧ od = outI done ∧ MinX w wr [.slice a1 b.st.length n1, .slice a2 m n2] m w1.heap.size vo (grL b k done) od) (fun j _ _ => m - (intOf j).toNat)
          case atStart => exact ⟨0, _, [], [], by omega, rfl, rfl, Gr.zero b, rfl, HX4.out⟩
          case round =>
            clear HX4
            obtain ⟨k, vo, done, od, hk, rfl, rfl, hgr, hod, hx⟩ := hrel
            have HOD := Lib.hid hod
            clear hod
            obtain ⟨av, cv, rfl⟩ := hx.out.shape
            by_cases hlt : k < m
            · have hsf := hgr.set_false
              have hst := hgr.set_true
              rw [HM.out] at hsf hst
              have HST := Lib.hid hst
              obtain ⟨hf, ⟨u0, hcl⟩, HR2⟩ := hx.set k hlt false hsf
              have HR3 := Lib.hid HR2
              have HGR := Lib.hid hgr
              clear hst hsf hgr HR2
              have HLD := Lib.hid (show od.length ≤ 1000000 by rw [HOD.out]; have := HGR.out.len; simp; omega)
              have x0 := hx.box.cell 0
              have x1 := hx.box.cell 1
              have xz := hx.box.lt
              simp only [List.getElem?_cons_zero, List.getElem?_cons_succ] at x0 x1
              have hne : w1.heap.size ≠ w.heap.size := by have := hx.ge; omega
              clear hx
              go_wp2_with fail
              refine (HC2.out _ HR3.out.below _ _ (HR3.out.slice (by omega)) (ksOf_len _ _)).mono ?_
              rintro e w4 ⟨c, rfl, hiff, hb4⟩
              have HX5 := Lib.hid (HR3.out.later hb4)
              clear hb4 x0 x1 xz HR3 hcl hf
              have x0 := HX5.out.box.cell 0
              have x1 := HX5.out.box.cell 1
              have xz := HX5.out.box.lt
              simp only [List.getElem?_cons_zero, List.getElem?_cons_succ] at x0 x1
              have HC4 := Lib.hid (show c = true ↔ ¬ ConL b (grL b (k + 1) done) by unfold ConL; rw [HM.out]; exact hiff)
              clear hiff
              have hkb : k < b.ts.length := by rw [HM.out]; exact hlt
              cases c
              · have HG2 := Lib.hid (HGR.out.keep hkb (Classical.byContradiction fun h => by have := HC4.out.2 h; cases this))
                obtain ⟨hf, ⟨u0, hcl⟩, HR2⟩ := HX5.out.set k hlt true HST.out
                have HR6 := Lib.hid HR2
                have HR7 := Lib.hid (HR2.later ((Below.refl _ _).alloc (Nat.le_refl _) (.cells #[.int .i64 k] 3)))
                have HBA := Lib.hid (show w.heap.size + 1 ≤ ((w4.setCell ⟨w1.heap.size, k, none⟩ (.bool true)).alloc (.cells #[.int .i64 k] 3)).heap.size from HR7.out.box.lt)
                have HNW := Lib.hid (show ((w4.setCell ⟨w1.heap.size, k, none⟩ (.bool true)).alloc (.cells #[.int .i64 k] 3)).heap[w4.heap.size]? = some (.cells #[.int .i64 k] 3 (0, 0)) by simpa using heap_alloc_new (w4.setCell ⟨w1.heap.size, k, none⟩ (.bool true)) (.cells #[.int .i64 k] 3))
                clear HR2 hkb
                go_wp2_with (at_builtin; go_loud (refine wpList_pushB encI 1 8 22 3 _ Try.underlying22 Try.infoI rfl (by decide) (by decide) encI_len encI_one od (k : Int) (w.heap.size + 1) ((w4.setCell ⟨w1.heap.size, k, none⟩ (.bool true)).alloc (.cells #[.int .i64 k] 3)) w4.heap.size #[.int .i64 k] 3 HNW.out rfl _ HR7.out.out HBA.out HLD.out rfl _ _ rfl rfl rfl ?_; intro v' w' hown' hg'; have HOW := Lib.hid hown'; have HGW := Lib.hid hg'; clear hown' hg'))
                go_roundw
                case rel => exact ⟨k + 1, _, done ++ [k], od ++ [(k : Int)], by omega, by go_num, rfl, HG2.out, by rw [HOD.out]; simp [outI], HR7.out.push HOW.out HGW.out⟩
                case measure => simp [intOf]; omega
              · have HG2 := Lib.hid (HGR.out.drop hkb (HC4.out.1 rfl))
                clear hkb
                go_wp2_with fail
                go_roundw
                case rel => exact ⟨k + 1, _, done, od, by omega, by go_num, rfl, HG2.out, HOD.out, HX5.out⟩
                case measure => simp [intOf]; omega
            · obtain rfl : m = k := by omega
              have hl := hgr.len
              rw [← HM.out] at hgr
              have hlast := hgr.last
              have HFI := Lib.hid (show MinPost w b (.returned (.tuple #[.slice av od.length cv, .int .i64 0])) wr from ⟨hx.below, .inr (.inr ⟨HN.out, HCN.out, _, rfl, by
                have := hx.out.toSl encI_len (by rw [HOD.out]; simp; omega)
                rw [show minOf b = od by rw [HOD.out, hlast]; rfl]; exact this⟩)⟩)
              clear hgr hlast hx
              go_wp2_with fail
              refine bodyPost_ret (results_tmp2 rfl _ _ _) rfl ?_
              exact HFI.out
  · have hne : (n == 0) = false := by simp [h0]
    go_wp2_with fail
    refine bodyPost_ret (results_tmp2 rfl _ _ _) rfl ?_
    exact ⟨HB1.out, .inl ⟨by rw [HN.out]; exact h0, by rw [HN.out]; rfl⟩⟩
end Go.Proofs.Ytlakcghdehdeiaa
