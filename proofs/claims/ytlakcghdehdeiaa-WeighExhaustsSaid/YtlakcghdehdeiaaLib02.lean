/- Lemmas on the way to the laws (part 2): G H I J K -/
import Derived.Test.YtlakcghdehdeiaaLib01
import Derived.Deep.RegionLaw
set_option linter.unusedVariables false
set_option linter.unusedSimpArgs false

/- Walks: common masses. -/
namespace Go.Proofs.Ytlakcghdehdeiaa
open Go Go.Proofs Go.RowKit

def meet2 (a x : Rg) : Rg := ⟨max a.lo x.lo, min a.hi x.hi⟩
theorem meet2_enc (s x : Rg) : (meet2 s x).enc = [.int .i64 (if s.lo < x.lo then x.lo else s.lo), .int .i64 (if x.hi < s.hi then x.hi else s.hi)] := by
  have h1 : max s.lo x.lo = if s.lo < x.lo then x.lo else s.lo := by split <;> omega
  have h2 : min s.hi x.hi = if x.hi < s.hi then x.hi else s.hi := by split <;> omega
  simp only [meet2, Rg.enc, h1, h2]
def agL (r : Rg) : List Rg → Rg
  | [] => r
  | x :: l => agL (meet2 r x) l
theorem agL_snoc (r : Rg) (l : List Rg) (x : Rg) : agL r (l ++ [x]) = meet2 (agL r l) x := by
  induction l generalizing r with
  | nil => rfl
  | cons y l ih => simp only [List.cons_append, agL, ih]
theorem meet2_self (r : Rg) : meet2 r r = r := by simp [meet2]
def ag (l : List Rg) : Rg := agL (l.headD z) l
theorem ag_1 (l : List Rg) (h : 0 < l.length) : agL (l.headD z) (l.take 1) = l[0] := by
  cases l with
  | nil => simp at h
  | cons x l => simp [agL, meet2_self]
theorem ag_succ (l : List Rg) (k : Nat) (h : k < l.length) : agL (l.headD z) (l.take (k + 1)) = meet2 (agL (l.headD z) (l.take k)) l[k] := by
  rw [take_snoc l k h, agL_snoc]
theorem headD_0 (l : List Rg) (h : 0 < l.length) : l.headD z = l[0] := by
  cases l with
  | nil => simp at h
  | cons x l => rfl
def agE (l : List Rg) : Int := if ckMasses l ≠ 0 then ckMasses l else if (ag l).hi < (ag l).lo then 15 else 0
def agR (l : List Rg) : Rg := if agE l = 0 then ag l else z

set_option maxHeartbeats 400000 in
theorem agree59 (v : Value) (l : List Rg) (w : World) (hv : Sl Rg.enc 2 w w.heap.size v l) (h0 : 0 < l.length) :
    Calls Try.prog 59 #[v] w (Ret (.tuple #[.agg #[.int .i64 (ag l).lo, .int .i64 (ag l).hi], .bool (decide ((ag l).lo ≤ (ag l).hi))]) w) := by
  obtain ⟨a, c, rfl, hlen, hA⟩ := hv
  obtain ⟨b, off, rfl, hbb, hcells⟩ := hA h0
  have hc0 := (hcells 0 h0).c2
  rw [Nat.zero_mul, Nat.add_zero] at hc0
  obtain ⟨k0, k1⟩ := hc0
  have h1 := Lib.hid (ag_1 l h0)
  generalize l[0] = x0 at *
  have HA := Lib.hid hcells
  clear hcells
  clear hA
  go_enter Try.func59, Try.ntmps59
  go_wp2_with fail
  go_loopw [5] (fun i wr => ∃ k : Nat, 1 ≤ k ∧ k ≤ l.length ∧ i = .int .i64 k ∧ Below w.heap.size w wr ∧ Box wr w.heap.size 24 [.int .i64 0, .int .i64 0] ∧ Box wr (w.heap.size + 1) 24 (agL (l.headD z) (l.take k)).enc) (fun i _ => l.length - (intOf i).toNat)
  case atStart =>
    refine ⟨1, by omega, by omega, rfl, ?_, ?_, ?_⟩
    · repeat (first | exact Below.refl _ _ | exact Below.refl _ _ | refine Below.setCell ?_ (by first | (dsimp only; omega) | (simp; done) | (simp; omega)) _ | refine Below.alloc ?_ (by first | omega | (simp; done) | (simp; omega)) _ | refine Below.drew ?_)
    · exact (Box.newAt _ _ _ rfl).alloc _
    · rw [h1.out]; exact Box.newAt _ _ _ (by simp)
  case round =>
    obtain ⟨k, hk1, hk, rfl, hb, hx0, hx1⟩ := hrel
    by_cases hlt : k < l.length
    · obtain ⟨c0, c1⟩ := ((HA.out k hlt).below hb hbb).c2
      clear HA k0 k1
      obtain ⟨d0, d1, df, dz⟩ := hx1.v2
      have hd := Lib.hid (ag_succ l k hlt)
      generalize l[k] = x at *
      generalize agL (l.headD z) (l.take k) = s at *
      go_wp2_with fail
      go_region
      all_goals go_wp2_with fail
      go_roundw
      case rel =>
        refine ⟨k + 1, by omega, by omega, by go_num, ?_, ?_, ?_⟩
        · repeat (first | exact hb | exact Below.refl _ _ | refine Below.setCell ?_ (by first | (dsimp only; omega) | (simp; done) | (simp; omega)) _ | refine Below.alloc ?_ (by first | omega | (simp; done) | (simp; omega)) _ | refine Below.drew ?_)
        · repeat (first | exact hx0 | refine Box.alloc ?_ _ | refine Box.drew ?_ | refine Box.other ?_ _ (by first | (dsimp only; omega) | (simp; done) | (simp; omega)))
        · rw [hd.out, meet2_enc]; exact (hx1.set 0 _).set 1 _
      case measure => simp [intOf]; omega
    · obtain rfl : l.length = k := by omega
      rw [List.take_length, show agL (l.headD z) l = ag l from rfl] at hx1
      generalize ag l = s at *
      obtain ⟨d0, d1, df, dz⟩ := hx1.v2
      obtain ⟨e0, e1, ef, ez⟩ := hx0.v2
      clear k0 k1 hx0 hx1
      go_wp2_with fail
      go_region
      all_goals go_wp2_with fail
      refine bodyPost_ret (v := .tuple #[.agg #[.int .i64 s.lo, .int .i64 s.hi], .bool (decide (s.lo ≤ s.hi))]) (by simp [results, Try.results59, go_sem, *]) rfl ?_
      refine Ret.mk rfl ?_
      repeat (first | exact hb | exact Below.refl _ _ | refine Below.setCell ?_ (by first | (dsimp only; omega) | (simp; done) | (simp; omega)) _ | refine Below.alloc ?_ (by first | omega | (simp; done) | (simp; omega)) _ | refine Below.drew ?_)

set_option maxHeartbeats 400000 in
theorem agree53 (v : Value) (l : List Rg) (w : World) (hv : Sl Rg.enc 2 w w.heap.size v l) :
    Calls Try.prog 53 #[v] w (Ret (.tuple #[.agg #[.int .i64 (agR l).lo, .int .i64 (agR l).hi], .int .i64 (agE l)]) w) := by
  obtain ⟨a, c, hve, hlen, hA⟩ := id hv
  generalize hRF : agR l = RF
  generalize hRB : agE l = RB
  have HRF := Lib.hid hRF
  clear hRF
  have HRB := Lib.hid hRB
  clear hRB
  have HA := Lib.hid hA
  clear hA
  have H0 := Lib.hid (@ckMasses_0 l)
  have hC := ckMasses86 v l (w.alloc (.cells #[.int .i64 0, .int .i64 0] 24)) (hv.later ((Below.refl _ _).alloc (Nat.le_refl _) _))
  subst hve
  obtain ⟨E, hE⟩ : ∃ E, ckMasses l = E := ⟨_, rfl⟩
  rw [hE] at hC H0
  have HE := Lib.hid hE
  clear hE
  have HC := Lib.hid hC
  clear hC
  clear hv
  go_enter Try.func53, Try.ntmps53
  by_cases h0 : E = 0
  rotate_left
  · go_wp2_with (go_at_call 86; refine HC.out.mono ?_; rintro e w1 ⟨rfl, hb1⟩; obtain ⟨c0, f0, z0⟩ := boxes1 (w := w) (by simp) hb1)
    refine bodyPost_ret (v := .tuple #[.agg #[.int .i64 0, .int .i64 0], .int .i64 E]) (by simp [results, Try.results53, go_sem, *]) rfl ?_
    refine Ret.mk ?_ ?_
    · rw [← HRF.out, ← HRB.out]
      have := HE.out
      simp [agR, agE, this, h0, z]
    · have hB : Below w.heap.size w w1 := ((Below.refl _ _).alloc (Nat.le_refl _) _).trans (hb1.mono (by simp))
      repeat (first | exact hB | exact Below.refl _ _ | refine Below.setCell ?_ (by first | (dsimp only; omega) | (simp; done) | (simp; omega)) _ | refine Below.alloc ?_ (by first | omega | (simp; done) | (simp; omega)) _ | refine Below.drew ?_)
  subst h0
  obtain ⟨hl0, hl, hok⟩ := H0.out rfl
  clear H0
  obtain ⟨b, off, rfl, hbb, hcells⟩ := HA.out hl0
  clear HA
  have h1 := Lib.hid (headD_0 l hl0)
  have HA := Lib.hid hcells
  clear hcells
  have hz : ∀ w1 : World, Below (w.alloc (.cells #[.int .i64 0, .int .i64 0] 24)).heap.size (w.alloc (.cells #[.int .i64 0, .int .i64 0] 24)) w1 → Below w.heap.size w w1 ∧ At w1 b off l[0].enc := fun _ h => by
    have := ((Below.refl w.heap.size w).alloc (Nat.le_refl _) _).trans (h.mono (by simp))
    refine ⟨this, ?_⟩
    have h2 := (HA.out 0 hl0).below this hbb
    rwa [Nat.zero_mul, Nat.add_zero] at h2
  generalize l[0] = x0 at *
  have HZ := Lib.hid hz
  clear hz
  clear hok
  go_wp2_with (go_at_call 86; refine HC.out.mono ?_; rintro e w1 ⟨rfl, hb1⟩; obtain ⟨c0, f0, z0⟩ := boxes1 (w := w) (by simp) hb1; have hBB := HZ.out _ hb1; obtain ⟨k0, k1⟩ := hBB.2.c2; have hB := hBB.1; clear hBB)
  have hx := (Box.newAt w #[.int .i64 0, .int .i64 0] 24 rfl).later hb1
  clear HC HZ hb1
  go_loopw [19] (fun i wr => ∃ k : Nat, k ≤ l.length ∧ i = .int .i64 k ∧ Below w.heap.size w wr ∧ Box wr w.heap.size 24 [.int .i64 0, .int .i64 0] ∧ Box wr w1.heap.size 24 (agL (l.headD z) (l.take k)).enc) (fun i _ => l.length - (intOf i).toNat)
  case atStart =>
    refine ⟨0, by omega, rfl, ?_, ?_, ?_⟩
    · repeat (first | exact hB | exact Below.refl _ _ | refine Below.setCell ?_ (by first | (dsimp only; omega) | (simp; done) | (simp; omega)) _ | refine Below.alloc ?_ (by first | omega | (simp; done) | (simp; omega)) _ | refine Below.drew ?_)
    · exact hx.alloc _
    · simp only [List.take_zero, agL]; rw [h1.out]; exact Box.newAt _ _ _ rfl
  case round =>
    obtain ⟨k, hk, rfl, hb, hx0, hx1⟩ := hrel
    clear c0 f0 hB hx k0 k1
    by_cases hlt : k < l.length
    · obtain ⟨c0, c1⟩ := ((HA.out k hlt).below hb hbb).c2
      clear HA
      obtain ⟨d0, d1, df, dz⟩ := hx1.v2
      have hd := Lib.hid (ag_succ l k hlt)
      generalize l[k] = x at *
      generalize agL (l.headD z) (l.take k) = s at *
      go_wp2_with fail
      go_roundw
      case rel =>
        refine ⟨k + 1, by omega, by go_num, ?_, ?_, ?_⟩
        · repeat (first | exact hb | exact Below.refl _ _ | refine Below.setCell ?_ (by first | (dsimp only; omega) | (simp; done) | (simp; omega)) _ | refine Below.alloc ?_ (by first | omega | (simp; done) | (simp; omega)) _ | refine Below.drew ?_)
        · repeat (first | exact hx0 | refine Box.alloc ?_ _ | refine Box.drew ?_ | refine Box.other ?_ _ (by first | (dsimp only; omega) | (simp; done) | (simp; omega)))
        · rw [hd.out, meet2_enc]; exact ((hx1.set 0 _).set 1 _).alloc _
      case measure => simp [intOf]; omega
    · obtain rfl : l.length = k := by omega
      rw [List.take_length, show agL (l.headD z) l = ag l from rfl] at hx1
      obtain ⟨s, hs⟩ : ∃ s, ag l = s := ⟨_, rfl⟩
      rw [hs] at hx1
      have HS := Lib.hid hs
      clear hs
      obtain ⟨d0, d1, df, dz⟩ := hx1.v2
      obtain ⟨e0, e1, ef, ez⟩ := hx0.v2
      clear hx0 hx1
      by_cases hbig : s.hi < s.lo
      · go_wp2_with fail
        refine bodyPost_ret (v := .tuple #[.agg #[.int .i64 0, .int .i64 0], .int .i64 15]) (by simp [results, Try.results53, go_sem, *]) rfl ?_
        refine Ret.mk ?_ ?_
        · rw [← HRF.out, ← HRB.out]
          simp [agR, agE, HE.out, HS.out, hbig, z]
        · repeat (first | exact hb | exact Below.refl _ _ | refine Below.setCell ?_ (by first | (dsimp only; omega) | (simp; done) | (simp; omega)) _ | refine Below.alloc ?_ (by first | omega | (simp; done) | (simp; omega)) _ | refine Below.drew ?_)
      · go_wp2_with fail
        refine bodyPost_ret (v := .tuple #[.agg #[.int .i64 s.lo, .int .i64 s.hi], .int .i64 0]) (by simp [results, Try.results53, go_sem, *]) rfl ?_
        refine Ret.mk ?_ ?_
        · rw [← HRF.out, ← HRB.out]
          have : ¬ s.hi < s.lo := by omega
          simp [agR, agE, HE.out, HS.out, this]
        · repeat (first | exact hb | exact Below.refl _ _ | refine Below.setCell ?_ (by first | (dsimp only; omega) | (simp; done) | (simp; omega)) _ | refine Below.alloc ?_ (by first | omega | (simp; done) | (simp; omega)) _ | refine Below.drew ?_)
end Go.Proofs.Ytlakcghdehdeiaa

/- Walks: what a scale showed. -/
namespace Go.Proofs.Ytlakcghdehdeiaa
open Go Go.Proofs Go.RowKit

def badN (n : Int) : Bool := decide (n < 0) || decide (999999999 < n)
theorem badN_eq (n : Int) (b : Bool) (h : b = true ↔ (n < 0 ∨ 999999999 < n)) : b = badN n := by
  unfold badN; rw [Bool.eq_iff_iff, h]; simp only [Bool.or_eq_true, decide_eq_true_eq]
set_option maxHeartbeats 400000 in
theorem bad62 (n : Int) (w : World)  : Calls Try.prog 62 #[.int .i64 n] w fun e w' => e = .returned (.bool (badN n)) ∧ w = w' := by
  go_enter Try.func62, Try.ntmps62
  by_cases h : n < 0 <;> by_cases h2 : 999999999 < n
  all_goals
    go_wp2
    go_ret
    exact ⟨ret_bool (badN_eq n _ (by constructor <;> intro _ <;> first | rfl | omega | contradiction)), rfl⟩

def ckShownL : List Int → Int
  | [] => 0
  | n :: l => if badN n then 3 else ckShownL l
def ckShown (l : List Int) : Int := if l.length = 0 then 2 else if 256 < l.length then 5 else ckShownL l
theorem ckShownL_drop (l : List Int) (k : Nat) (h : k < l.length) : ckShownL (l.drop k) = if badN l[k] then 3 else ckShownL (l.drop (k+1)) := by
  rw [List.drop_eq_getElem_cons h]; rfl
theorem ckShownL_any (l : List Int) : ckShownL l = if l.any badN then 3 else 0 := by
  induction l with
  | nil => rfl
  | cons n l ih => simp only [ckShownL, List.any_cons]; by_cases h : badN n = true <;> simp [h, ih]

set_option maxHeartbeats 400000 in
theorem ckShown19 (v : Value) (l : List Int) (w : World) (hv : Sl encI 1 w w.heap.size v l) : Calls Try.prog 19 #[v] w fun e w' => e = .returned (.int .i64 (ckShown l)) ∧ w = w' := by
  obtain ⟨a, c, rfl, hlen, hA⟩ := hv
  generalize hR : ckShown l = R
  unfold ckShown at hR
  have HR := Lib.hid hR
  clear hR
  have HA := Lib.hid hA
  clear hA
  go_enter Try.func19, Try.ntmps19
  by_cases h0 : l.length = 0
  · go_wp2_with fail
    go_ret
    have := HR.out
    exact ⟨by simp_all, rfl⟩
  have h0' := eq0_false h0
  by_cases h1 : 256 < l.length
  · go_wp2_with fail
    go_ret
    have := HR.out
    exact ⟨by simp_all, rfl⟩
  go_wp2_with fail
  have HR1 : Hid (ckShownL l = R) := by have := HR.out; rw [if_neg h0, if_neg h1] at this; exact this
  clear HR
  go_loop [3] (fun i => ∃ k : Nat, k ≤ l.length ∧ i = .int .i64 k ∧ ckShownL (l.drop k) = R) (fun i => l.length - (intOf i).toNat)
  case atStart => exact ⟨0, by omega, rfl, HR1.out⟩
  case round =>
    obtain ⟨k, hk, rfl, hrel⟩ := hrel
    have HR := Lib.hid hrel
    clear hrel
    clear HR1
    by_cases hlt : k < l.length
    · obtain ⟨b, off, rfl, hbb, hcells⟩ := HA.out (by omega)
      have hd := Lib.hid (ckShownL_drop l k hlt)
      have c0 := (hcells k hlt).c1
      rw [Nat.mul_one] at c0
      clear hcells HA
      generalize l[k] = x at *
      by_cases h2 : x < 0
      · go_wp2_with fail
        go_ret
        have e : badN x = true := by simp [badN, h2]
        have := HR.out
        rw [hd.out, e] at this
        exact ⟨by simp [← this], rfl⟩
      · by_cases h3 : 999999999 < x
        · go_wp2_with fail
          go_ret
          have e : badN x = true := by simp [badN, h3]
          have := HR.out
          rw [hd.out, e] at this
          exact ⟨by simp [← this], rfl⟩
        · have e := Lib.hid (show badN x = false by simp [badN]; omega)
          go_wp2_with fail
          go_round
          case rel => exact ⟨k + 1, by omega, by go_num, by rw [← HR.out, hd.out, e.out]; rfl⟩
          case measure => simp [intOf]; omega
    · obtain rfl : l.length = k := by omega
      go_wp2_with fail
      go_ret
      exact ⟨by have := HR.out; simp [ckShownL] at this; simp [this], rfl⟩

set_option maxHeartbeats 400000 in
theorem index88 (v : Value) (l : List Int) (w : World) (hv : Sl encI 1 w w.heap.size v l) : Calls Try.prog 88 #[v, .func (.func 62) #[] #[]] w fun e w' => (∃ n : Int, e = .returned (.int .i64 n) ∧ l.any badN = decide (0 ≤ n)) ∧ w = w' := by
  obtain ⟨a, c, rfl, hlen, hA⟩ := hv
  generalize hR : l.any badN = R
  have HA := Lib.hid hA
  clear hA
  go_enter Try.func88, Try.ntmps88
  go_wp2_with fail
  go_loop [8] (fun i => ∃ k : Nat, k ≤ l.length ∧ i = .int .i64 k ∧ (l.drop k).any badN = R) (fun i => l.length - (intOf i).toNat)
  case atStart => exact ⟨0, by omega, rfl, by simpa using hR⟩
  case round =>
    obtain ⟨k, hk, rfl, hrel⟩ := hrel
    have HR := Lib.hid hrel
    clear hrel
    clear hR
    by_cases hlt : k < l.length
    · obtain ⟨b, off, rfl, hbb, hcells⟩ := HA.out (by omega)
      have hd := Lib.hid (show (l.drop k).any badN = (badN l[k] || (l.drop (k + 1)).any badN) by rw [List.drop_eq_getElem_cons hlt]; rfl)
      have c0 := (hcells k hlt).c1
      rw [Nat.mul_one] at c0
      clear hcells HA
      generalize l[k] = x at *
      have hb := bad62 x
      obtain ⟨y, hy⟩ : ∃ y, badN x = y := ⟨_, rfl⟩
      rw [hy] at hd hb
      clear hy
      have HB := Lib.hid hb
      clear hb
      cases y
      · go_wp2_with (go_at_call 62; refine (HB.out _).mono ?_; rintro e w' ⟨rfl, rfl⟩)
        go_round
        case rel => exact ⟨k + 1, by omega, by go_num, by rw [← HR.out, hd.out]; rfl⟩
        case measure => simp [intOf]; omega
      · go_wp2_with (go_at_call 62; refine (HB.out _).mono ?_; rintro e w' ⟨rfl, rfl⟩)
        go_ret
        refine ⟨⟨k, rfl, ?_⟩, rfl⟩
        rw [← HR.out, hd.out]; simp
    · obtain rfl : l.length = k := by omega
      go_wp2_with fail
      go_ret
      refine ⟨⟨-1, rfl, ?_⟩, rfl⟩
      rw [← HR.out]; simp
set_option maxHeartbeats 400000 in
theorem contains61 (v : Value) (l : List Int) (w : World) (hv : Sl encI 1 w w.heap.size v l) : Calls Try.prog 61 #[v, .func (.func 62) #[] #[]] w fun e w' => e = .returned (.bool (l.any badN)) ∧ w = w' := by
  have H := Lib.hid (index88 v l w hv)
  generalize l.any badN = R at *
  go_enter Try.func61, Try.ntmps61
  go_wp2_with (go_at_call 88; refine H.out.mono ?_; rintro e w' ⟨⟨n, rfl, hn⟩, rfl⟩)
  go_ret
  exact ⟨ret_bool hn.symm, rfl⟩
end Go.Proofs.Ytlakcghdehdeiaa

/- Walks: the drift of a scale. -/
namespace Go.Proofs.Ytlakcghdehdeiaa
open Go Go.Proofs Go.RowKit

theorem mul_bd (x y X Y : Int) (hx : -X ≤ x ∧ x ≤ X) (hy : 0 ≤ y ∧ y ≤ Y) (hX : 0 ≤ X) : -(X * Y) ≤ x * y ∧ x * y ≤ X * Y := by
  have h1 : x * y ≤ X * y := Int.mul_le_mul_of_nonneg_right hx.2 hy.1
  have h2 : X * y ≤ X * Y := Int.mul_le_mul_of_nonneg_left hy.2 hX
  have h3 : -X * y ≤ x * y := Int.mul_le_mul_of_nonneg_right hx.1 hy.1
  have h4 : -X * y = -(X * y) := Int.neg_mul ..
  omega

/-- It returns a slice of its own that reads as l. -/
def RetSl {α : Type} (f : α → List Value) (sz : Nat) (l : List α) (w : World) (e : Ending) (w' : World) : Prop := ∃ v, e = .returned v ∧ Sl f sz w' w'.heap.size v l ∧ Below w.heap.size w w'

/-- The range of draft i (from 0) of those shown. -/
def driftAt (s : List Int) (b a : Rg) (i : Nat) : Rg :=
  let n : Int := s.length + 1
  let k : Int := i + 1
  let m : Int := s.getD i 0
  ⟨(m * n - (b.hi * (n - k) + a.hi * k)) / n, -((b.lo * (n - k) + a.lo * k - m * n) / n)⟩
def driftL (s : List Int) (b a : Rg) : List Rg := (List.range s.length).map (driftAt s b a)

theorem Rg.enc_one (x : Rg) : ∀ u ∈ x.enc, u.oneCell' = true := by intro u hu; simp [Rg.enc] at hu; rcases hu with rfl | rfl <;> rfl
theorem driftL_length (s : List Int) (b a : Rg) : (driftL s b a).length = s.length := by simp [driftL]
theorem driftL_get (s : List Int) (b a : Rg) (k : Nat) (h : k < s.length) : (driftL s b a)[k]? = some (driftAt s b a k) := by simp [driftL, h]
theorem take_snoc' {α : Type} (l : List α) (k : Nat) (x : α) (h : l[k]? = some x) : l.take (k + 1) = l.take k ++ [x] := by
  rw [List.take_add_one, h]; rfl
theorem Try.infoRg : (Try.prog.info? 24).map (fun i => (i.zero, i.size, i.bytes)) = some (some (.agg #[.int .i64 0, .int .i64 0]), 2, 16) := by kernel_rfl

set_option maxHeartbeats 1000000 in
theorem drift22 (v : Value) (s : List Int) (b a : Rg) (w : World) (hv : Sl encI 1 w w.heap.size v s) (hn : s.length ≤ 256) (hs : ∀ n ∈ s, 0 ≤ n ∧ n ≤ 999999999)
    (hb : -999999999 ≤ b.lo ∧ b.lo ≤ b.hi ∧ b.hi ≤ 999999999) (ha : -999999999 ≤ a.lo ∧ a.lo ≤ a.hi ∧ a.hi ≤ 999999999) :
    Calls Try.prog 22 #[v, .agg #[.int .i64 b.lo, .int .i64 b.hi], .agg #[.int .i64 a.lo, .int .i64 a.hi]] w (RetSl Rg.enc 2 (driftL s b a) w) := by
  obtain ⟨ad, c, rfl, hlen, hA⟩ := hv
  obtain ⟨bl, bh⟩ := b
  obtain ⟨al, ah⟩ := a
  dsimp only at hb ha
  have hRL := driftL_length s ⟨bl, bh⟩ ⟨al, ah⟩
  have hRG := driftL_get s ⟨bl, bh⟩ ⟨al, ah⟩
  generalize driftL s ⟨bl, bh⟩ ⟨al, ah⟩ = R at *
  have HRL := Lib.hid hRL
  clear hRL
  have HRG := Lib.hid hRG
  clear hRG
  have HA := Lib.hid hA
  clear hA
  have HS := Lib.hid hs
  clear hs
  go_enter Try.func22, Try.ntmps22
  go_wp2_with fail
  go_loopw [9, 7] (fun i o wr => ∃ k : Nat, k ≤ s.length ∧ i = .int .i64 ((k : Int) + 1) ∧ Below w.heap.size w wr ∧ Box wr w.heap.size 24 [.int .i64 bl, .int .i64 bh] ∧ Box wr (w.heap.size + 1) 24 [.int .i64 al, .int .i64 ah] ∧
      Own Rg.enc 2 24 wr (w.heap.size + 2) o (R.take k)) (fun i _ _ => s.length + 1 - (intOf i).toNat)
  case atStart =>
    refine ⟨0, by omega, rfl, ?_, ?_, ?_, ?_⟩
    · repeat (first | exact Below.refl _ _ | exact Below.refl _ _ | refine Below.setCell ?_ (by first | (dsimp only; omega) | (simp; done) | (simp; omega)) _ | refine Below.alloc ?_ (by first | omega | (simp; done) | (simp; omega)) _ | refine Below.drew ?_)
    · exact (Box.newAt _ _ _ rfl).alloc _
    · exact Box.newAt _ _ _ (by simp)
    · exact Own.nil _ _ _ _ _
  case round =>
    obtain ⟨k, hk, rfl, hbe, hx0, hx1, hown⟩ := hrel
    by_cases hlt : k < s.length
    · obtain ⟨bb, off, rfl, hbb, hcells⟩ := HA.out (by omega)
      have c0 := ((hcells k hlt).below hbe hbb).c1
      rw [Nat.mul_one] at c0
      clear hcells HA
      have bm := HS.out s[k] (List.getElem_mem hlt)
      have hg := Lib.hid (take_snoc' R k _ (HRG.out k hlt))
      have hgd : Hid (driftAt s ⟨bl, bh⟩ ⟨al, ah⟩ k = ⟨(s[k] * ((s.length : Int) + 1) - (bh * ((s.length : Int) + 1 - ((k : Int) + 1)) + ah * ((k : Int) + 1))) / ((s.length : Int) + 1), -((bl * ((s.length : Int) + 1 - ((k : Int) + 1)) + al * ((k : Int) + 1) - s[k] * ((s.length : Int) + 1)) / ((s.length : Int) + 1))⟩) := by
        show _ = _
        simp [driftAt, List.getD_eq_getElem?_getD, hlt]
      generalize driftAt s ⟨bl, bh⟩ ⟨al, ah⟩ k = y at *
      generalize s[k] = m at *
      obtain ⟨b1, b2⟩ := bm
      obtain ⟨d0, d1, df, dz⟩ := hx0.v2
      obtain ⟨e0, e1, ef, ez⟩ := hx1.v2
      have p1 := mul_bd bl ((s.length : Int) + 1 - ((k : Int) + 1)) 999999999 257 (by omega) (by omega) (by omega)
      have p2 := mul_bd bh ((s.length : Int) + 1 - ((k : Int) + 1)) 999999999 257 (by omega) (by omega) (by omega)
      have p3 := mul_bd al ((k : Int) + 1) 999999999 257 (by omega) (by omega) (by omega)
      have p4 := mul_bd ah ((k : Int) + 1) 999999999 257 (by omega) (by omega) (by omega)
      have p5 := mul_bd m ((s.length : Int) + 1) 999999999 257 (by omega) (by omega) (by omega)
      simp only [Int.reduceMul, Int.reduceNeg] at p1 p2 p3 p4 p5
      have kk : (k : Int) + 1 - 1 = k := by omega
      go_wp2_with fail
      have hsz : w.heap.size + 2 ≤ wr.heap.size := by omega
      have htl : (R.take k).length ≤ 1000000 := by have := List.length_take_le k R; omega
      have hbz : bb < wr.heap.size := by have := hbe.size; omega
      have q1 := ediv_bd (m * ((s.length : Int) + 1) - (bh * ((s.length : Int) + 1 - ((k : Int) + 1)) + ah * ((k : Int) + 1))) ((s.length : Int) + 1) (by omega) 1000000000000 (by omega)
      have q2 := ediv_bd (bl * ((s.length : Int) + 1 - ((k : Int) + 1)) + al * ((k : Int) + 1) - m * ((s.length : Int) + 1)) ((s.length : Int) + 1) (by omega) 1000000000000 (by omega)
      refine wp_region_flow 26 25 _ 1 24 (by kernel_rfl) (by kernel_rfl) rfl ?_
      apply Exists.intro
      refine ⟨fun Y => ?_, ?_⟩
      simp only [headsOf, List.take_succ_cons, List.drop_succ_cons, List.take_zero, List.drop_zero, Nat.reduceSub, List.cons_append, List.nil_append]
      repeat go_big_quiet_step ((go_at_call 66; exact Calls.later2_same ((floor66 _ _ _ ⟨by omega, by omega⟩ ⟨by omega, by omega⟩).mono fun _ _ h => h)))
      exact wpQuiet_nil rfl
      apply Exists.intro
      refine ⟨fun w => ?_, fun g w2 hb2 hg2 hc2 => ?_⟩
      go_simp
      first | rfl | (go_ints; rfl)
      clear p1 p2 p3 p4 p5 c0 d0 d1 df dz e0 e1 ef ez
      have hown2 := hown.later hb2
      have hx02 := hx0.later hb2
      have hx12 := hx1.later hb2
      have hbe2 := hbe.trans (hb2.mono hbe.size)
      have hsz2 : w.heap.size + 2 ≤ w2.heap.size := by have := hb2.size; omega
      clear hown hx0 hx1 hbe hb2
      simp only [Act.put, List.setIfInBounds_toArray, List.set_cons_succ, List.set_cons_zero, List.drop_succ_cons, List.drop_zero]
      go_wp2_with (at_builtin; refine wpList_pushB Rg.enc 2 16 26 24 _ Try.underlying26 Try.infoRg rfl (by decide) (by decide) Rg.enc_len Rg.enc_one (R.take k) ⟨_, _⟩ (w.heap.size + 2) w2 g _ _ hc2 rfl u7 hown2 hsz2 htl rfl _ _ rfl rfl rfl ?_; intro v' w' hown' hg')
      go_roundw
      case rel =>
        refine ⟨k + 1, by omega, by go_num, grown_below hbe2 hg' (by omega) hown2.lt' (by omega), hx02.kept hg' (hown2.ne (by omega)), hx12.kept hg' (hown2.ne (by omega)), ?_⟩
        rw [hg.out, hgd.out]
        exact hown'
      case measure => simp [intOf]; omega
    · obtain rfl : s.length = k := by omega
      have hRl : R.length ≤ 1000000000 := by have := HRL.out; omega
      rw [List.take_of_length_le (by have := HRL.out; omega)] at hown
      go_wp2_with fail
      go_ret
      exact ⟨_, rfl, hown.toSl Rg.enc_len hRl, hbe⟩

def driftE (s : List Int) (b a : Rg) : Int := if s.length = 0 then 2 else if 256 < s.length then 5 else if s.any badN then 3 else if firstNZ [ckRange b, ckRange a] ≠ 0 then firstNZ [ckRange b, ckRange a] else if (driftL s b a).any (fun r => ckRange r ≠ 0) then 4 else 0
end Go.Proofs.Ytlakcghdehdeiaa

/- Walks: the drift of a scale, by the program. -/
namespace Go.Proofs.Ytlakcghdehdeiaa
open Go Go.Proofs Go.RowKit

/-- It returns a slice of its own that reads as l, and a number. -/
def RetSlE {α : Type} (f : α → List Value) (sz : Nat) (l : List α) (n : Int) (w : World) (e : Ending) (w' : World) : Prop := ∃ v, e = .returned (.tuple #[v, .int .i64 n]) ∧ Sl f sz w' w'.heap.size v l ∧ Below w.heap.size w w'
theorem RetSlE.fail {α : Type} {f : α → List Value} {sz : Nat} {n : Int} {w w' : World} (hb : Below w.heap.size w w') (v v' : Value) (hv : v = .slice none 0 0) (hn : v' = .int .i64 n) : RetSlE f sz [] n w (.returned (.tuple #[v, v'])) w' :=
  ⟨v, by rw [hn], by rw [hv]; exact Sl.nil f sz w' _ 0 none, hb⟩
def driftR (s : List Int) (b a : Rg) : List Rg := if driftE s b a = 0 then driftL s b a else []

theorem any_take_snoc {α : Type} (l : List α) (p : α → Bool) (k : Nat) (x : α) (h : l[k]? = some x) : (l.take (k + 1)).any p = ((l.take k).any p || p x) := by
  rw [take_snoc' l k x h]; simp
theorem any_of_get {α : Type} (l : List α) (p : α → Bool) (k : Nat) (x : α) (h : l[k]? = some x) (hp : p x = true) : l.any p = true := by
  rw [List.any_eq_true]; exact ⟨x, List.mem_of_getElem? h, hp⟩

set_option maxHeartbeats 1000000 in
theorem drift17 (v : Value) (s : List Int) (b a : Rg) (w : World) (hv : Sl encI 1 w w.heap.size v s) :
    Calls Try.prog 17 #[v, .agg #[.int .i64 b.lo, .int .i64 b.hi], .agg #[.int .i64 a.lo, .int .i64 a.hi]] w (RetSlE Rg.enc 2 (driftR s b a) (driftE s b a) w) := by
  generalize hRR : driftR s b a = RR
  generalize hRE : driftE s b a = RE
  have HRR := Lib.hid hRR
  clear hRR
  have HRE := Lib.hid hRE
  clear hRE
  have W2 : Below w.heap.size w ((w.alloc (.cells #[.int .i64 b.lo, .int .i64 b.hi] 24)).alloc (.cells #[.int .i64 a.lo, .int .i64 a.hi] 24)) := ((Below.refl _ _).alloc (Nat.le_refl _) _).alloc (by simp) _
  have hC := contains61 v s _ (hv.later W2)
  obtain ⟨ad, c, rfl, hlen, hA⟩ := hv
  have HW2 := Lib.hid W2
  clear W2
  have HA := Lib.hid hA
  clear hA
  obtain ⟨x, hx⟩ : ∃ x, s.any badN = x := ⟨_, rfl⟩
  rw [hx] at hC
  have HX := Lib.hid hx
  clear hx
  have HC := Lib.hid hC
  clear hC
  go_enter Try.func17, Try.ntmps17
  by_cases h0 : s.length = 0
  · go_wp2_with fail
    go_ret2
    have e : driftE s b a = 2 := by simp [driftE, h0]
    rw [← HRR.out, ← HRE.out, show driftR s b a = [] by simp [driftR, e]]
    exact RetSlE.fail (by exact HW2.out) _ _ rfl (by rw [e]; rfl)
  have h0' := eq0_false h0
  by_cases h1 : 256 < s.length
  · go_wp2_with fail
    go_ret2
    have e : driftE s b a = 5 := by simp [driftE, h0, h1]
    rw [← HRR.out, ← HRE.out, show driftR s b a = [] by simp [driftR, e]]
    exact RetSlE.fail (by exact HW2.out) _ _ rfl (by rw [e]; rfl)
  cases x
  rotate_left
  · go_wp2_with (go_at_call 61; refine HC.out.mono ?_; rintro e w' ⟨rfl, rfl⟩)
    go_ret2
    have e : driftE s b a = 3 := by simp only [driftE, if_neg h0, if_neg h1, HX.out, if_true]
    rw [← HRR.out, ← HRE.out, show driftR s b a = [] by simp [driftR, e]]
    exact RetSlE.fail (by exact HW2.out) _ _ rfl (by rw [e]; rfl)
  go_wp2_with (go_at_call 61; refine HC.out.mono ?_; rintro e w' ⟨rfl, rfl⟩)
  refine wp_region_head_later 4 (by kernel_rfl) (by kernel_rfl) ?_
  simp only [List.take_succ_cons, List.take_zero, List.drop_succ_cons, List.drop_zero]
  repeat go_big_quiet_step ((go_at_call 54; exact Calls.later (ckRange54 ⟨_, _⟩ _)))
  refine wpQuiet_nil ?_
  rintro w1 ⟨⟨_, hb1⟩, rfl⟩
  obtain ⟨c0, c1, f0, f1, z0, z1⟩ := boxes2 (w := w) (by simp) hb1
  have hB : Below w.heap.size w w1 := HW2.out.trans (hb1.mono (by simp; omega))
  have hX0 := ((Box.newAt w #[.int .i64 b.lo, .int .i64 b.hi] 24 rfl).alloc (.cells #[.int .i64 a.lo, .int .i64 a.hi] 24)).later hb1
  have hX1 := (Box.newAt (w.alloc (.cells #[.int .i64 b.lo, .int .i64 b.hi] 24)) #[.int .i64 a.lo, .int .i64 a.hi] 24 (n := w.heap.size + 1) (by simp)).later hb1
  clear hb1 HC
  have hfirst := first63 (.slice (some ⟨w1.heap.size, 0, none⟩) 2 2) [ckRange b, ckRange a] _ (Sl.lit encI_len _ w1 #[.int .i64 (ckRange b), .int .i64 (ckRange a)] 27 2 rfl rfl (by simp))
  obtain ⟨E, hE⟩ : ∃ E, firstNZ [ckRange b, ckRange a] = E := ⟨_, rfl⟩
  rw [hE] at hfirst
  have HE := Lib.hid hE
  clear hE
  have HF := Lib.hid hfirst
  clear hfirst
  have HX0 := Lib.hid hX0
  clear hX0
  have HX1 := Lib.hid hX1
  clear hX1
  have HB := Lib.hid hB
  clear hB
  by_cases hE0 : E = 0
  rotate_left
  · go_wp2_with (go_at_call 63; refine HF.out.mono ?_; rintro e w' ⟨rfl, rfl⟩)
    go_ret2
    have e : driftE s b a = E := by simp only [driftE, if_neg h0, if_neg h1, HX.out, HE.out, if_pos hE0, Bool.false_eq_true, if_false]
    rw [← HRR.out, ← HRE.out, show driftR s b a = [] by rw [driftR, e, if_neg hE0]]
    refine RetSlE.fail ?_ _ _ rfl (by rw [e]; rfl)
    repeat (first | exact HB.out | exact Below.refl _ _ | refine Below.setCell ?_ (by first | (dsimp only; omega) | (simp; done) | (simp; omega)) _ | refine Below.alloc ?_ (by first | omega | (simp; done) | (simp; omega)) _ | refine Below.drew ?_)
  subst hE0
  go_wp2_with (go_at_call 63; refine HF.out.mono ?_; rintro e w' ⟨rfl, rfl⟩)
  have hb0 : ckRange b = 0 ∧ ckRange a = 0 := firstNZ_2.1 HE.out
  obtain ⟨g1, g2, g3⟩ := ckRange_0 hb0.1
  obtain ⟨k1, k2, k3⟩ := ckRange_0 hb0.2
  clear hb0
  have hs : ∀ n ∈ s, 0 ≤ n ∧ n ≤ 999999999 := fun n hn => by
    have h := List.any_eq_false.1 HX.out n hn
    simp [badN] at h
    omega
  have HS := Lib.hid hs
  clear hs
  have hRL := driftL_length s b a
  have hRG := driftL_get s b a
  have hfin : Hid (driftE s b a = if (driftL s b a).any (fun r => ckRange r ≠ 0) then 4 else 0) := by
    show _ = _
    simp only [driftE, if_neg h0, if_neg h1, HX.out, HE.out, Bool.false_eq_true, if_false]
    simp
  have hfin2 : Hid (driftR s b a = if driftE s b a = 0 then driftL s b a else []) := rfl
  generalize driftL s b a = R at *
  have HRL := Lib.hid hRL
  clear hRL
  have HRG := Lib.hid hRG
  clear hRG
  clear HE HX
  go_loopw [42, 10] (fun i o wr => ∃ k : Nat, k ≤ s.length ∧ i = .int .i64 (k : Int) ∧ Below w.heap.size w wr ∧ w1.heap.size ≤ wr.heap.size ∧ Box wr w.heap.size 24 [.int .i64 b.lo, .int .i64 b.hi] ∧ Box wr (w.heap.size + 1) 24 [.int .i64 a.lo, .int .i64 a.hi] ∧
      Own Rg.enc 2 24 wr w1.heap.size o (R.take k) ∧ (R.take k).any (fun r => ckRange r ≠ 0) = false) (fun i _ _ => s.length - (intOf i).toNat)
  case atStart =>
    refine ⟨0, by omega, rfl, ?_, by simp, ?_, ?_, Own.nil _ _ _ _ _, by simp⟩
    · repeat (first | exact HB.out | exact Below.refl _ _ | refine Below.setCell ?_ (by first | (dsimp only; omega) | (simp; done) | (simp; omega)) _ | refine Below.alloc ?_ (by first | omega | (simp; done) | (simp; omega)) _ | refine Below.drew ?_)
    · exact HX0.out.alloc _
    · exact HX1.out.alloc _
  case round =>
    obtain ⟨k, hk, rfl, hbe, hz1, hx0, hx1, hown, hany⟩ := hrel
    have HN := Lib.hid hany
    clear hany
    have HB' := HB
    clear HX0 HX1 HB c0 c1 f0 f1
    by_cases hlt : k < s.length
    · obtain ⟨bb, off, rfl, hbb, hcells⟩ := HA.out (by omega)
      have c0 := ((hcells k hlt).below hbe hbb).c1
      rw [Nat.mul_one] at c0
      clear hcells HA
      have bm := HS.out s[k] (List.getElem_mem hlt)
      have hyk := HRG.out k hlt
      have hany2 := any_take_snoc R (fun r => ckRange r ≠ 0) k _ hyk
      rw [HN.out, Bool.false_or] at hany2
      have hg := Lib.hid (take_snoc' R k _ hyk)
      have hgd : Hid (driftAt s b a k = ⟨(s[k] * ((s.length : Int) + 1) - (b.hi * ((s.length : Int) + 1 - ((k : Int) + 1)) + a.hi * ((k : Int) + 1))) / ((s.length : Int) + 1), -((b.lo * ((s.length : Int) + 1 - ((k : Int) + 1)) + a.lo * ((k : Int) + 1) - s[k] * ((s.length : Int) + 1)) / ((s.length : Int) + 1))⟩) := by
        show _ = _
        simp [driftAt, List.getD_eq_getElem?_getD, hlt]
      have HN2 := Lib.hid hany2
      clear hany2
      have HYK := Lib.hid hyk
      clear hyk
      generalize driftAt s b a k = y at *
      generalize s[k] = m at *
      obtain ⟨b1, b2⟩ := bm
      obtain ⟨d0, d1, df, dz⟩ := hx0.v2
      obtain ⟨e0, e1, ef, ez⟩ := hx1.v2
      have p1 := mul_bd b.lo ((s.length : Int) + 1 - ((k : Int) + 1)) 999999999 257 (by omega) (by omega) (by omega)
      have p2 := mul_bd b.hi ((s.length : Int) + 1 - ((k : Int) + 1)) 999999999 257 (by omega) (by omega) (by omega)
      have p3 := mul_bd a.lo ((k : Int) + 1) 999999999 257 (by omega) (by omega) (by omega)
      have p4 := mul_bd a.hi ((k : Int) + 1) 999999999 257 (by omega) (by omega) (by omega)
      have p5 := mul_bd m ((s.length : Int) + 1) 999999999 257 (by omega) (by omega) (by omega)
      simp only [Int.reduceMul, Int.reduceNeg] at p1 p2 p3 p4 p5
      have q1 := ediv_bd (m * ((s.length : Int) + 1) - (b.hi * ((s.length : Int) + 1 - ((k : Int) + 1)) + a.hi * ((k : Int) + 1))) ((s.length : Int) + 1) (by omega) 1000000000000 (by omega)
      have q2 := ediv_bd (b.lo * ((s.length : Int) + 1 - ((k : Int) + 1)) + a.lo * ((k : Int) + 1) - m * ((s.length : Int) + 1)) ((s.length : Int) + 1) (by omega) 1000000000000 (by omega)
      have htl : (R.take k).length ≤ 1000000 := by have := List.length_take_le k R; omega
      go_wp2_with fail
      have hbz : bb < wr.heap.size := by have := hbe.size; omega
      refine wp_region_later (by kernel_rfl) (by kernel_rfl) ?_
      repeat go_big_quiet_step (fail)
      refine wpQuiet_nil ?_
      rintro w2 ⟨⟨_, hb2⟩, rfl⟩
      have hown := hown.later hb2
      have hx0 := hx0.later hb2
      have hx1 := hx1.later hb2
      have hbe := hbe.trans (hb2.mono hbe.size)
      have hz2 : w1.heap.size ≤ w2.heap.size := by have := hb2.size; omega
      clear hb2 c0 d0 d1 df dz e0 e1 ef ez
      go_wp2_with (go_at_call 64; refine (floor64 _ _ _ ⟨by omega, by omega⟩ ⟨by omega, by omega⟩).mono ?_; rintro e w' ⟨rfl, rfl⟩)
      generalize (m * ((s.length : Int) + 1) - (b.hi * ((s.length : Int) + 1 - ((k : Int) + 1)) + a.hi * ((k : Int) + 1))) / ((s.length : Int) + 1) = ylo at *
      generalize (b.lo * ((s.length : Int) + 1 - ((k : Int) + 1)) + a.lo * ((k : Int) + 1) - m * ((s.length : Int) + 1)) / ((s.length : Int) + 1) = yhi at *
      have hcall := ckRange54 y
      obtain ⟨n, hn⟩ : ∃ n, ckRange y = n := ⟨_, rfl⟩
      rw [hn, hgd.out] at hcall
      dsimp only at hcall
      have HNN := Lib.hid hn
      clear hn
      refine (hcall _).mono ?_
      clear hcall p1 p2 p3 p4 p5 q1 q2
      rintro e w3 ⟨rfl, hb3⟩
      obtain ⟨c0, f0, z0⟩ := boxes1 (w := w2) (by simp) hb3
      have hown3 := (hown.alloc (.cells #[.int .i64 ylo, .int .i64 (-yhi)] 24)).later hb3
      have hx03 := (hx0.alloc (.cells #[.int .i64 ylo, .int .i64 (-yhi)] 24)).later hb3
      have hx13 := (hx1.alloc (.cells #[.int .i64 ylo, .int .i64 (-yhi)] 24)).later hb3
      have hbe3 : Below w.heap.size w w3 := (hbe.alloc hbe.size _).trans (hb3.mono (by have := hbe.size; simp; omega))
      have hz3 : w1.heap.size ≤ w3.heap.size := by omega
      clear hown hx0 hx1 hbe hb3
      by_cases hn0 : n = 0
      · subst hn0
        go_wp2_with (at_builtin; refine wpList_push Rg.enc 2 16 26 24 _ Try.underlying26 Try.infoRg rfl (by decide) (by decide) Rg.enc_len Rg.enc_one (R.take k) ⟨_, _⟩ w1.heap.size w3 _ rfl u10 hown3 hz3 htl rfl _ _ rfl rfl rfl ?_; intro v' w' hown' hg')
        go_roundw
        case rel =>
          refine ⟨k + 1, by omega, by go_num, grown_below hbe3 hg' (by have := hbe3.size; omega) hown3.lt' (by have := HB'.out.size; omega), by have := hg'.size; omega, hx03.kept hg' (hown3.ne (by omega)), hx13.kept hg' (hown3.ne (by omega)), ?_, ?_⟩
          · rw [hg.out, hgd.out]
            exact hown'
          · rw [HN2.out, HNN.out]; rfl
        case measure => simp [intOf]; omega
      · go_wp2_with fail
        go_ret2
        have e : driftE s b a = 4 := by
          rw [hfin.out, if_pos]
          exact any_of_get R _ k y HYK.out (by simp [HNN.out, hn0])
        rw [← HRR.out, ← HRE.out, hfin2.out, e, if_neg (by decide)]
        exact RetSlE.fail hbe3 _ _ rfl rfl
    · obtain rfl : s.length = k := by omega
      have hRl : R.length ≤ 1000000000 := by have := HRL.out; omega
      rw [List.take_of_length_le (by have := HRL.out; omega)] at hown
      have HN' : Hid (R.any (fun r => ckRange r ≠ 0) = false) := by have := HN.out; rw [List.take_of_length_le (by have := HRL.out; omega)] at this; exact this
      clear HN
      go_wp2_with fail
      go_ret2
      have e : driftE s b a = 0 := by rw [hfin.out, HN'.out]; rfl
      rw [← HRR.out, ← HRE.out, hfin2.out, e, if_pos rfl]
      exact ⟨_, rfl, hown.toSl Rg.enc_len hRl, hbe⟩
end Go.Proofs.Ytlakcghdehdeiaa

/- Walks: lists of numbers. -/
namespace Go.Proofs.Ytlakcghdehdeiaa
open Go Go.Proofs Go.RowKit

theorem decide_mem_drop (l : List Int) (x : Int) (k : Nat) (h : k < l.length) : decide (x ∈ l.drop k) = (decide (l[k] = x) || decide (x ∈ l.drop (k + 1))) := by
  rw [List.drop_eq_getElem_cons h, Bool.eq_iff_iff]
  simp only [decide_eq_true_eq, Bool.or_eq_true, List.mem_cons]
  exact or_congr eq_comm Iff.rfl
set_option maxHeartbeats 400000 in
theorem in76 (v : Value) (l : List Int) (x : Int) (w : World) (hv : Sl encI 1 w w.heap.size v l) : Calls Try.prog 76 #[v, .int .i64 x] w fun e w' => e = .returned (.bool (decide (x ∈ l))) ∧ w = w' := by
  obtain ⟨a, c, rfl, hlen, hA⟩ := hv
  have HA := Lib.hid hA
  clear hA
  obtain ⟨R, hR⟩ : ∃ R, decide (x ∈ l) = R := ⟨_, rfl⟩
  rw [hR]
  have HR0 := Lib.hid hR
  clear hR
  go_enter Try.func76, Try.ntmps76
  go_wp2_with fail
  go_loop [5] (fun i => ∃ k : Nat, k ≤ l.length ∧ i = .int .i64 k ∧ decide (x ∈ l.drop k) = R) (fun i => l.length - (intOf i).toNat)
  case atStart => exact ⟨0, by omega, rfl, HR0.out⟩
  case round =>
    obtain ⟨k, hk, rfl, hrel⟩ := hrel
    have HR := Lib.hid hrel
    clear hrel
    clear HR0
    by_cases hlt : k < l.length
    · obtain ⟨b, off, rfl, hbb, hcells⟩ := HA.out (by omega)
      have hd := Lib.hid (decide_mem_drop l x k hlt)
      have c0 := (hcells k hlt).c1
      rw [Nat.mul_one] at c0
      clear hcells HA
      generalize l[k] = y at *
      by_cases h2 : y = x
      · go_wp2_with fail
        go_ret
        exact ⟨ret_bool (by rw [← HR.out, hd.out]; simp [h2]), rfl⟩
      · go_wp2_with fail
        go_round
        case rel => exact ⟨k + 1, by omega, by go_num, by rw [← HR.out, hd.out]; simp [h2]⟩
        case measure => simp [intOf]; omega
    · obtain rfl : l.length = k := by omega
      go_wp2_with fail
      go_ret
      exact ⟨ret_bool (by rw [← HR.out]; simp), rfl⟩

theorem drop_eq_drop (a b : List Int) (k : Nat) (ha : k < a.length) (hb : k < b.length) : decide (a.drop k = b.drop k) = (decide (a[k] = b[k]) && decide (a.drop (k + 1) = b.drop (k + 1))) := by
  rw [List.drop_eq_getElem_cons ha, List.drop_eq_getElem_cons hb, Bool.eq_iff_iff]
  simp only [decide_eq_true_eq, Bool.and_eq_true, List.cons.injEq]
set_option maxHeartbeats 400000 in
theorem sameInts49 (v v' : Value) (a b : List Int) (w : World) (hv : Sl encI 1 w w.heap.size v a) (hv' : Sl encI 1 w w.heap.size v' b) : Calls Try.prog 49 #[v, v'] w (Ret (.bool (decide (a = b))) w) := by
  obtain ⟨ad, c, rfl, hlen, hA⟩ := hv
  obtain ⟨ad', c', rfl, hlen', hA'⟩ := hv'
  have HA := Lib.hid hA
  clear hA
  have HA' := Lib.hid hA'
  clear hA'
  obtain ⟨R, hR⟩ : ∃ R, decide (a = b) = R := ⟨_, rfl⟩
  rw [hR]
  have HR0 := Lib.hid hR
  clear hR
  go_enter Try.func49, Try.ntmps49
  by_cases hl : a.length = b.length
  rotate_left
  · go_wp2_with fail
    go_ret
    exact Ret.mk (by rw [← HR0.out]; simp; intro h; exact hl (by rw [h])) (Below.refl _ _)
  have hl1 : a.length ≤ b.length := by omega
  have hl2 : b.length ≤ a.length := by omega
  have hl3 : ((a.length : Int) != (b.length : Int)) = false := by simp [hl]
  clear hl
  go_wp2_with fail
  go_loopw [5] (fun i wr => ∃ k : Nat, k ≤ a.length ∧ i = .int .i64 k ∧ Below w.heap.size w wr ∧ decide (a.drop k = b.drop k) = R) (fun i _ => a.length - (intOf i).toNat)
  case atStart => exact ⟨0, by omega, rfl, Below.refl _ _, HR0.out⟩
  case round =>
    obtain ⟨k, hk, rfl, hbe, hrel⟩ := hrel
    have HR := Lib.hid hrel
    clear hrel
    clear HR0
    by_cases hlt : k < a.length
    · obtain ⟨bb, off, rfl, hbb, hcells⟩ := HA.out (by omega)
      obtain ⟨bb', off', rfl, hbb', hcells'⟩ := HA'.out (by omega)
      have hd := Lib.hid (drop_eq_drop a b k hlt (by omega))
      have c0 := ((hcells k hlt).below hbe hbb).c1
      have c1 := ((hcells' k (by omega)).below hbe hbb').c1
      rw [Nat.mul_one] at c0 c1
      clear hcells HA hcells' HA'
      have hkb : k < b.length := by omega
      have hz := hbe.size
      have hz1 : bb < wr.heap.size := by omega
      have hz2 : bb' < wr.heap.size := by omega
      generalize a[k] = x at *
      generalize b[k] = y at *
      by_cases h2 : x = y
      · subst h2
        go_wp2_with fail
        refine wp_region_later (by kernel_rfl) (by kernel_rfl) ?_
        repeat go_big_quiet_step (fail)
        refine wpQuiet_nil ?_
        rintro w2 ⟨⟨_, hb2⟩, rfl⟩
        go_wp2_with fail
        go_roundw
        case rel => exact ⟨k + 1, by omega, by go_num, hbe.trans (hb2.mono hbe.size), by rw [← HR.out, hd.out]; simp⟩
        case measure => simp [intOf]; omega
      · have hne := bne_iff_ne.2 h2
        go_wp2_with fail
        refine wp_region_later (by kernel_rfl) (by kernel_rfl) ?_
        repeat go_big_quiet_step (fail)
        refine wpQuiet_nil ?_
        rintro w2 ⟨⟨_, hb2⟩, rfl⟩
        go_wp2_with fail
        go_ret
        exact Ret.mk (by rw [← HR.out, hd.out]; simp [h2]) (hbe.trans (hb2.mono hbe.size))
    · obtain rfl : a.length = k := by omega
      go_wp2_with fail
      go_ret
      exact Ret.mk (by rw [← HR.out]; simp; omega) hbe

def outB (n : Int) (i : Int) : Bool := decide (i < 0) || decide (n ≤ i)
def ckNums (l : List Int) (n : Int) : Int := if l.any (outB n) then 10 else if l.Nodup then 0 else 9
theorem ckNums_10 {l : List Int} {n : Int} (h : l.any (outB n) = true) : ckNums l n = 10 := by unfold ckNums; rw [if_pos h]
theorem ckNums_9 {l : List Int} {n : Int} (h : l.any (outB n) = false) (h2 : ¬ l.Nodup) : ckNums l n = 9 := by unfold ckNums; rw [if_neg (by simp [h]), if_neg h2]
theorem ckNums_0 {l : List Int} {n : Int} (h : l.any (outB n) = false) (h2 : l.Nodup) : ckNums l n = 0 := by unfold ckNums; rw [if_neg (by simp [h]), if_pos h2]
theorem nodup_snoc (l : List Int) (k : Nat) (h : k < l.length) : (l.take (k + 1)).Nodup ↔ (l.take k).Nodup ∧ l[k] ∉ l.take k := by
  rw [List.take_succ_eq_append_getElem h, List.nodup_append]
  simp
  intro _
  constructor
  · intro h1 h2; exact h1 _ h2 rfl
  · intro h1 a ha e; subst e; exact h1 ha
theorem dup_at {l : List Int} {i k : Nat} (hi : i < l.length) (hk : k < i) (h : l[i] = l[k]'(by omega)) : ¬ l.Nodup := by
  intro hn
  exact (List.pairwise_iff_getElem.1 hn k i (by omega) hi hk) h.symm
set_option maxHeartbeats 1000000 in
theorem ckNums30 (v : Value) (l : List Int) (n : Int) (w : World) (hv : Sl encI 1 w w.heap.size v l) : Calls Try.prog 30 #[v, .int .i64 n] w (Ret (.int .i64 (ckNums l n)) w) := by
  obtain ⟨a, c, rfl, hlen, hA⟩ := hv
  have HA := Lib.hid hA
  clear hA
  obtain ⟨R, hR⟩ : ∃ R, ckNums l n = R := ⟨_, rfl⟩
  rw [hR]
  have HR := Lib.hid hR
  clear hR
  go_enter Try.func30, Try.ntmps30
  go_wp2_with fail
  go_loop [5] (fun i => ∃ k : Nat, k ≤ l.length ∧ i = .int .i64 k ∧ (l.take k).any (outB n) = false) (fun i => l.length - (intOf i).toNat)
  case atStart => exact ⟨0, by omega, rfl, by simp⟩
  case round =>
    obtain ⟨k, hk, rfl, hrel⟩ := hrel
    have HN := Lib.hid hrel
    clear hrel
    by_cases hlt : k < l.length
    · obtain ⟨b, off, rfl, hbb, hcells⟩ := HA.out (by omega)
      have hd := Lib.hid (any_take_snoc l (outB n) k _ (List.getElem?_eq_getElem hlt))
      have hm := Lib.hid (List.getElem_mem hlt)
      have c0 := (hcells k hlt).c1
      rw [Nat.mul_one] at c0
      clear hcells HA
      generalize l[k] = y at *
      by_cases h2 : y < 0
      · go_wp2_with fail
        go_ret
        exact Ret.mk (by rw [← HR.out, ckNums_10 (List.any_eq_true.2 ⟨y, hm.out, by simp [outB, h2]⟩)]; rfl) (Below.refl _ _)
      · by_cases h3 : n ≤ y
        · go_wp2_with fail
          go_ret
          exact Ret.mk (by rw [← HR.out, ckNums_10 (List.any_eq_true.2 ⟨y, hm.out, by simp [outB, h3]⟩)]; rfl) (Below.refl _ _)
        · have e := Lib.hid (show outB n y = false by simp [outB]; omega)
          go_wp2_with fail
          go_round
          case rel => exact ⟨k + 1, by omega, by go_num, by rw [hd.out, HN.out, e.out]; rfl⟩
          case measure => simp [intOf]; omega
    · obtain rfl : l.length = k := by omega
      have HO : Hid (l.any (outB n) = false) := by have := HN.out; rw [List.take_length] at this; exact this
      clear HN
      go_wp2_with fail
      go_loopw [6] (fun i wr => ∃ k : Nat, k ≤ l.length ∧ i = .int .i64 k ∧ Below w.heap.size w wr ∧ (l.take k).Nodup) (fun i _ => l.length - (intOf i).toNat)
      case atStart => exact ⟨0, by omega, rfl, Below.refl _ _, by simp⟩
      case round =>
        obtain ⟨i, hi, rfl, hbe, hnd⟩ := hrel
        have HN := Lib.hid hnd
        clear hnd
        by_cases hlt : i < l.length
        · obtain ⟨b, off, rfl, hbb, hcells⟩ := HA.out (by omega)
          have HC := Lib.hid hcells
          clear hcells
          clear HA
          go_wp2_with fail
          obtain ⟨wo, hwo⟩ : ∃ wo : World, wo = wr := ⟨_, rfl⟩
          subst hwo
          go_loopw [7] (fun j wr => ∃ k : Nat, k ≤ i ∧ j = .int .i64 k ∧ Below w.heap.size w wr ∧ ∀ m (_ : m < k) (h2 : m < l.length), l[i] ≠ l[m]) (fun j _ => i - (intOf j).toNat)
          case atStart => exact ⟨0, by omega, rfl, hbe, fun m h _ => by omega⟩
          case round =>
            obtain ⟨k, hk, rfl, hbe2, hne⟩ := hrel
            have HE := Lib.hid hne
            clear hne
            by_cases hki : k < i
            · have c0 := ((HC.out i hlt).below hbe2 hbb).c1
              have c1 := ((HC.out k (by omega)).below hbe2 hbb).c1
              rw [Nat.mul_one] at c0 c1
              have hz := hbe2.size
              have hz1 : b < wr.heap.size := by omega
              have hkl : k < l.length := by omega
              have hdup := Lib.hid (@dup_at l i k hlt hki)
              have hst := Lib.hid (show ∀ m (_ : m < k + 1) (h2 : m < l.length), l[i] ≠ l[k] → l[i] ≠ l[m] from fun m h h2 hn => by
                have hmk := h
                by_cases hm : m = k
                · subst hm; exact hn
                · exact HE.out m (by omega) h2)
              generalize hx : l[i] = x at *
              generalize hy : l[k] = y at *
              by_cases h2 : x = y
              · go_wp2_with fail
                refine wp_region_later (by kernel_rfl) (by kernel_rfl) ?_
                repeat go_big_quiet_step (fail)
                refine wpQuiet_nil ?_
                rintro w2 ⟨⟨_, hb2⟩, rfl⟩
                go_wp2_with fail
                go_ret
                exact Ret.mk (by rw [← HR.out, ckNums_9 HO.out (hdup.out h2)]; rfl) (hbe2.trans (hb2.mono hbe2.size))
              · have h2' := beq_eq_false_iff_ne.2 h2
                go_wp2_with fail
                refine wp_region_later (by kernel_rfl) (by kernel_rfl) ?_
                repeat go_big_quiet_step (fail)
                refine wpQuiet_nil ?_
                rintro w2 ⟨⟨_, hb2⟩, rfl⟩
                go_wp2_with fail
                go_roundw
                case rel => exact ⟨k + 1, by omega, by go_num, hbe2.trans (hb2.mono hbe2.size), fun m h h3 => hst.out m h h3 h2⟩
                case measure => simp [intOf]; omega
            · obtain rfl : k = i := by omega
              go_wp2_with fail
              go_roundw
              case rel => exact ⟨k + 1, by omega, by go_num, hbe2, (nodup_snoc l k hlt).2 ⟨HN.out, fun hm => by
                obtain ⟨m, hm1, hm2⟩ := List.mem_take_iff_getElem.1 hm
                exact HE.out m (by omega) (by omega) hm2.symm⟩⟩
              case measure => simp [intOf]; omega
        · obtain rfl : l.length = i := by omega
          go_wp2_with fail
          go_ret
          exact Ret.mk (by rw [← HR.out, ckNums_0 HO.out (by have := HN.out; rwa [List.take_length] at this)]; rfl) hbe
end Go.Proofs.Ytlakcghdehdeiaa
