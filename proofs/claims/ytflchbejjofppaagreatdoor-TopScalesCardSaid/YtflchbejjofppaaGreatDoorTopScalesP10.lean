/- Lemmas on the way to the law TopScales (part 10): WNv WNw WNx Rc -/
import Derived.Test.YtflchbejjofppaaGreatDoorTopScalesP09
import Derived.Test.YtflchbejjofppaaGreatDoorTopScalesP08
set_option linter.unusedVariables false
set_option linter.unusedSimpArgs false

/- Walks: settle: the network of a book, and whether its flows are an assignment. -/
namespace Go.Proofs.YtflchbejjofppaaGreatDoor
open Go Go.Proofs Go.RowKit
def SettlePost (w : World) (b : Bk) (e : Ending) (w' : World) : Prop :=
  ∃ ok nb v l rc, e = .returned (.tuple #[.pointer (some ⟨nb, 0, none⟩), .bool ok]) ∧ NetR w' w.heap.size nb v l b.ts.length b.st.length rc ∧ Below w.heap.size w w' ∧ w.heap.size ≤ nb ∧ shp l = shp (arcsOf b) ∧ Fits l ∧
    (ok = true → Circ (b.st.length + 1) l) ∧ (ok = false → 0 < cutv (fun x => rc.getD x false) (arcsOf b))
theorem Own.take {α : Type} {f : α → List Value} {sz : Nat} {e : TypeId} {w : World} {base g cap : Nat} {l l' : List α} (hf : ∀ x, (f x).length = sz) (h : Own f sz e w base (.slice (some ⟨g, 0, none⟩) (l ++ l').length cap) (l ++ l')) :
    Own f sz e w base (.slice (some ⟨g, 0, none⟩) l.length cap) l := by
  obtain ⟨h1, h2⟩ := h
  refine ⟨flat_length f sz hf l, ?_⟩
  rcases h2 with ⟨h2, _⟩ | ⟨g', cap', cur, h2, h3, h4, h5, h6, h7, h8⟩
  · cases h2
  · simp only [Value.slice.injEq, Option.some.injEq, Addr.mk.injEq, and_true, true_and] at h2
    obtain ⟨rfl, rfl⟩ := h2
    refine .inr ⟨g, cap, cur, rfl, h3, h4, by simp at h5; omega, h6, h7, ?_⟩
    have e := congrArg (List.take (l.length * sz)) h8
    have hle : l.length * sz ≤ (l ++ l').length * sz := Nat.mul_le_mul_right _ (by simp)
    have hl := flat_length f sz hf l
    rw [List.take_take, Nat.min_eq_left hle, List.flatMap_append, List.take_append_of_le_length (by omega), List.take_of_length_le (l := l.flatMap f) (by omega)] at e
    exact e
theorem NetR.trim {w : World} {B nb g cap : Nat} {l l' : List Ac} {tk pl : Nat} {rc : List Bool} (h : NetR w B nb (.slice (some ⟨g, 0, none⟩) (l ++ l').length cap) (l ++ l') tk pl rc) :
    NetR (w.setCell ⟨nb, 0, none⟩ (.slice (some ⟨g, 0, none⟩) l.length cap)) B nb (.slice (some ⟨g, 0, none⟩) l.length cap) l tk pl rc := by
  have h1 := h.ne
  refine ⟨h.box.set 0 _, (h.own.take Ac.encW_len).other _ ?_, ?_, h.n36⟩
  · intro e; exact h1 e
  · intro e; exact h1 e
theorem NetR.trim0 {w : World} {B nb : Nat} {tk pl : Nat} {rc : List Bool} (h : NetR w B nb (.slice none 0 0) [] tk pl rc) : NetR (w.setCell ⟨nb, 0, none⟩ (.slice none 0 0)) B nb (.slice none 0 0) [] tk pl rc :=
  ⟨h.box.set 0 _, Own.nil _ _ _ _ _, by simp [Value.ownBlock], h.n36⟩
def fr72g (N own : Nat) (want got : Int) (z : Nat → Value) : List Value := [z 0, .pointer (some ⟨N, 0, none⟩), z 2, z 3, .pointer (some ⟨N + 1, 0, none⟩), z 5, z 6, z 7, z 8, z 9, z 10, z 11, z 12, z 13, .int .i64 own, .int .i64 want, z 16, z 17, .int .i64 got, z 19, z 20, z 21, z 22, z 23, z 24, z 25, z 26, z 27, z 28, z 29, z 30, z 31, z 32, z 33, z 34, z 35, z 36, z 37, z 38, z 39, z 40, z 41, z 42, z 43, z 44, z 45, z 46, z 47, z 48, z 49, z 50, z 51, z 52, z 53, z 54, z 55, z 56, z 57, z 58, z 59, z 60, z 61, z 62, z 63, z 64, z 65, z 66, z 67, z 68, z 69, z 70, z 71, z 72, z 73, z 74, z 75, z 76, z 77, z 78, z 79, z 80, z 81, z 82, z 83, z 84, z 85, z 86, z 87, z 88, z 89, z 90, z 91, z 92, z 93, z 94, z 95, z 96, z 97, z 98, z 99, z 100, z 101, z 102, z 103, z 104, z 105, z 106, z 107, z 108, z 109, z 110, z 111, z 112, z 113, z 114, z 115, z 116, z 117, z 118, z 119, z 120, z 121, z 122, z 123, z 124, z 125, z 126, z 127, z 128, z 129, z 130, z 131, z 132, z 133, z 134, z 135, z 136, z 137, z 138, z 139, z 140, z 141, z 142, z 143, z 144, z 145, z 146, z 147, z 148, z 149, z 150, z 151, z 152, z 153, z 154, z 155, z 156, z 157, z 158, z 159, z 160, z 161, z 162, z 163, z 164, z 165, z 166, z 167, z 168, z 169, z 170, z 171, z 172, z 173, z 174, z 175, z 176, z 177, z 178, z 179, z 180, z 181, z 182, z 183, z 184, z 185, z 186, z 187, z 188, z 189, z 190, z 191, z 192]
theorem fr72g_of (N own : Nat) (want got : Int) (L : List Value) (hL : L.length = 193) (h1 : L[1]? = some (.pointer (some ⟨N, 0, none⟩))) (h4 : L[4]? = some (.pointer (some ⟨N + 1, 0, none⟩))) (h14 : L[14]? = some (.int .i64 own)) (h15 : L[15]? = some (.int .i64 want)) (h18 : L[18]? = some (.int .i64 got)) : ∃ z, L = fr72g N own want got z := by
  refine ⟨fun i => L.getD i undef, ?_⟩
  unfold fr72g
  have e := list_range L 193 hL
  have e1 : L.getD 1 undef = .pointer (some ⟨N, 0, none⟩) := by rw [List.getD_eq_getElem?_getD, h1]; rfl
  have e4 : L.getD 4 undef = .pointer (some ⟨N + 1, 0, none⟩) := by rw [List.getD_eq_getElem?_getD, h4]; rfl
  have e14 : L.getD 14 undef = .int .i64 own := by rw [List.getD_eq_getElem?_getD, h14]; rfl
  have e15 : L.getD 15 undef = .int .i64 want := by rw [List.getD_eq_getElem?_getD, h15]; rfl
  have e18 : L.getD 18 undef = .int .i64 got := by rw [List.getD_eq_getElem?_getD, h18]; rfl
  rw [← e1, ← e4, ← e14, ← e15, ← e18]
  exact e
theorem fr72g_act (N own : Nat) (want got : Int) (A : Act) (ds : List Deferred) (hds : A.defers = ds) (hL : A.tmps.size = 193) (h1 : A.tmps[1]? = some (.pointer (some ⟨N, 0, none⟩))) (h4 : A.tmps[4]? = some (.pointer (some ⟨N + 1, 0, none⟩))) (h14 : A.tmps[14]? = some (.int .i64 own)) (h15 : A.tmps[15]? = some (.int .i64 want)) (h18 : A.tmps[18]? = some (.int .i64 got)) : ∃ z, A = { tmps := (fr72g N own want got z).toArray, defers := ds } := by
  obtain ⟨z, e⟩ := fr72g_of N own want got A.tmps.toList (by rw [Array.length_toList]; exact hL) (by rw [Array.getElem?_toList]; exact h1) (by rw [Array.getElem?_toList]; exact h4) (by rw [Array.getElem?_toList]; exact h14) (by rw [Array.getElem?_toList]; exact h15) (by rw [Array.getElem?_toList]; exact h18)
  exact ⟨z, by cases A; subst hds; dsimp only at e ⊢; rw [← e]⟩
noncomputable def e72 : Code := codeR (codeR (codeR q72b))
def netOf (b : Bk) : List Ac := arcsOf b ++ extras (fun v => exc v (arcsOf b)) (b.st.length + 2) (b.st.length + 3) 36
theorem arcs_ends {b : Bk} (hok : OkBk b) : Ends (b.st.length + 1) (arcsOf b) := fun a ha => by have := arcs_props hok ha; omega
theorem exc_bd {b : Bk} (hok : OkBk b) (v : Nat) : -160000000000 ≤ exc v (arcsOf b) ∧ exc v (arcsOf b) ≤ 160000000000 := by
  have h := tot_bound (fun a => a.at v) 999999999 (arcsOf b) (fun a ha => by
    have := arcs_props hok ha
    unfold Ac.at
    split <;> split <;> omega)
  have h1 := arcs_len b
  have h2 := hok.ts128
  have h3 := hok.st32
  have : ((arcsOf b).length : Int) ≤ 160 := by omega
  unfold exc
  omega
theorem net_facts {b : Bk} (hok : OkBk b) : (netOf b).length ≤ 1000 ∧ SmallS (netOf b) 1000000000000 ∧ Fits (netOf b) ∧ Ends 36 (netOf b) := by
  have h1 := arcs_len b
  have h2 := hok.ts128
  have h3 := hok.st32
  have hE := arcs_ends hok
  refine ⟨?_, ?_, ?_, ?_⟩
  · have := extras_len (fun v => exc v (arcsOf b)) (b.st.length + 2) (b.st.length + 3) 36
    unfold netOf; rw [List.length_append]; omega
  · intro a ha
    rcases List.mem_append.1 ha with ha | ha
    · have := arcs_props hok ha; omega
    · obtain ⟨v, _, ⟨h4, rfl⟩ | ⟨h4, rfl⟩⟩ := extras_mem _ _ _ ha <;> (have := exc_bd hok v; dsimp only at *; omega)
  · intro a ha
    rcases List.mem_append.1 ha with ha | ha
    · have := arcs_props hok ha; omega
    · obtain ⟨v, _, ⟨h4, rfl⟩ | ⟨h4, rfl⟩⟩ := extras_mem _ _ _ ha <;> (dsimp only at *; omega)
  · intro a ha
    rcases List.mem_append.1 ha with ha | ha
    · have := hE a ha; omega
    · obtain ⟨v, _, ⟨h4, rfl⟩ | ⟨h4, rfl⟩⟩ := extras_mem _ _ _ ha <;> (dsimp only at *; omega)
noncomputable def g72 : Code := codeR (codeR e72)
set_option maxRecDepth 100000 in
set_option maxHeartbeats 1000000 in
theorem g72_walk (w W : World) (N : Nat) (v : Value) (b : Bk) (A X : List Ac) (rc : List Bool) (got want : Int) (hl : A.length = (arcsOf b).length) (hX : X.length ≤ 36) (hb5 : A.length ≤ 1000) (hn : NetR W N (N + 1) v (A ++ X) b.ts.length b.st.length rc) (hN : N = w.heap.size) (hb : Below N w W) (z : Nat → Value)
    (hs : shp A = shp (arcsOf b)) (hf : Fits A) (hok : got = want → Circ (b.st.length + 1) A) (hno : got ≠ want → 0 < cutv (fun x => rc.getD x false) (arcsOf b)) :
    g72.wp Tryz.prog (bodyPost Tryz.prog Tryz.f36 (SettlePost w b)) { tmps := (fr72g N (arcsOf b).length want got z).toArray, defers := [] } W := by
  obtain ⟨Q, hQ⟩ : ∃ Q, bodyPost Tryz.prog Tryz.f36 (SettlePost w b) = Q := ⟨_, rfl⟩
  rw [hQ]
  have HQ := Lib.hid hQ
  clear hQ
  have zn := hn.box.lt
  have fn := hn.box.frozen 0
  have c0 := hn.toA.c0
  rw [← hl]
  have HL := Lib.hid hl
  clear hl
  have HS := Lib.hid (show shp A = shp (arcsOf b) ∧ Fits A ∧ (got = want → Circ (b.st.length + 1) A) ∧ (got ≠ want → 0 < cutv (fun x => rc.getD x false) (arcsOf b)) from ⟨hs, hf, hok, hno⟩)
  clear hs hf hok hno
  have HN := Lib.hid hn
  have hlen : (A ++ X).length = A.length + X.length := List.length_append
  have HFIN := Lib.hid (show ∀ (v' : Value) (W' : World) (ok : Bool), NetR W' N (N + 1) v' A b.ts.length b.st.length rc → Below N w W' → ok = (got == want) → SettlePost w b (.returned (.tuple #[.pointer (some ⟨N + 1, 0, none⟩), .bool ok])) W' from fun v' W' ok k1 k2 k3 => by
    have h := HS.out
    refine ⟨ok, N + 1, v', A, rc, rfl, by rw [← hN]; exact k1, by rw [← hN]; exact k2, by omega, h.1, h.2.1, fun e => h.2.2.1 ?_, fun e => h.2.2.2 ?_⟩
    · rw [k3] at e; exact eq_of_beq e
    · rw [k3] at e; exact fun e' => by rw [e'] at e; simp at e)
  have hb' := hb.size
  have HBL := Lib.hid hb
  have HNN := Lib.hid hN
  clear hN
  clear hb
  rcases hn.own.2 with ⟨rfl, h0⟩ | ⟨g, cap, cur, rfl, _, _, hcap, hmx, _⟩
  · obtain rfl : A = [] := List.eq_nil_of_length_eq_zero (by omega)
    obtain rfl : X = [] := List.eq_nil_of_length_eq_zero (by omega)
    simp only [List.length_nil]
    clear hn hlen h0
    simp only [g72, e72, q72b, q72, c72, Tryz.f36, Option.getD, codeL, codeR, fr72g]
    go_wp2_with fail
    rw [← HQ.out]
    go_ret2
    exact HFIN.out _ _ _ HN.out.trim0 (HBL.out.setCell (by dsimp only; omega) _) rfl
  · rw [hlen] at hcap c0
    simp only [g72, e72, q72b, q72, c72, Tryz.f36, Option.getD, codeL, codeR, fr72g]
    by_cases hc0 : cap = 0
    · subst hc0
      obtain rfl : A = [] := List.eq_nil_of_length_eq_zero (by omega)
      obtain rfl : X = [] := List.eq_nil_of_length_eq_zero (by omega)
      simp only [List.length_nil] at hlen hcap c0 ⊢
      go_wp2_with fail
      rw [← HQ.out]
      go_ret2
      exact HFIN.out _ _ _ HN.out.trim (HBL.out.setCell (by dsimp only; omega) _) rfl
    · go_wp2_with fail
      rw [← HQ.out]
      go_ret2
      exact HFIN.out _ _ _ HN.out.trim (HBL.out.setCell (by dsimp only; omega) _) rfl
end Go.Proofs.YtflchbejjofppaaGreatDoor
/- Walks: settle, whole. -/
namespace Go.Proofs.YtflchbejjofppaaGreatDoor
open Go Go.Proofs Go.RowKit
theorem e72_eq : e72 = .seq (codeL e72) (.seq (codeL (codeR e72)) g72) := rfl
set_option maxRecDepth 100000 in
set_option maxHeartbeats 1000000 in
theorem e72_walk (w W : World) (N : Nat) (v1 v2 v : Value) (b : Bk) (hok : OkBk b) (s11 : Value) (z : Nat → Value) (hw : SetW w W N v1 v2 v b (netOf b)) :
    e72.wp Tryz.prog (bodyPost Tryz.prog Tryz.f36 (SettlePost w b))
      { tmps := (fr72 N (.int .i64 (b.st.length + 2 : Nat)) (.int .i64 (b.st.length + 3 : Nat)) s11 (.int .i64 (arcsOf b).length) (.int .i64 (wantOf (fun v => exc v (arcsOf b)) 36)) z).toArray, defers := [] } W := by
  obtain ⟨f1, f2, f3, f4⟩ := net_facts hok
  have hwb := wantOf_bd (fun v => exc v (arcsOf b)) 160000000000 (exc_bd hok) 36
  have hE := arcs_ends hok
  have h32 := hok.st32
  have hlen := arcs_len b
  have h128 := hok.ts128
  have hxl := extras_len (fun v => exc v (arcsOf b)) (b.st.length + 2) (b.st.length + 3) 36
  obtain ⟨want, hwant⟩ : ∃ x, wantOf (fun v => exc v (arcsOf b)) 36 = x := ⟨_, rfl⟩
  rw [hwant] at hwb ⊢
  have FIN : ∀ (A' : Act) (W2 : World) (got : Int) (l' : List Ac) (rc : List Bool), NetR W2 N (N + 1) v l' b.ts.length b.st.length rc → Kept (Mine (N + 1) v) W W2 → Flow (netOf b) l' (b.st.length + 2) (b.st.length + 3) (-1) got → got ≤ want →
      (got ≠ want → Closed (fun x => rc.getD x false) (-1) l' ∧ rc.getD (b.st.length + 2) false = true ∧ rc.getD (b.st.length + 3) false = false) → (∃ z', A' = { tmps := (fr72g N (arcsOf b).length want got z').toArray, defers := [] }) →
      g72.wp Tryz.prog (bodyPost Tryz.prog Tryz.f36 (SettlePost w b)) A' W2 := by
    rintro A' W2 got l' rc hn hk hfl hle hcl ⟨z', rfl⟩
    have hsh : shp l' = shp (arcsOf b ++ extras (fun v => exc v (arcsOf b)) (b.st.length + 1 + 1) (b.st.length + 1 + 2) 36) := hfl.shape
    have hfit := hfl.fits f3
    have hex : ∀ x, exc x l' = exc x (arcsOf b ++ extras (fun v => exc v (arcsOf b)) (b.st.length + 1 + 1) (b.st.length + 1 + 2) 36) + (if b.st.length + 1 + 2 = x then got else 0) - (if b.st.length + 1 + 1 = x then got else 0) := hfl.ex
    obtain ⟨A, X, hAX, hl1, hl2, hl3⟩ := split_shp hsh
    have hX : X.length ≤ 36 := by rw [shp_length hl3]; exact hxl
    subst hAX
    have hbel : Below N w W2 := hw.below.trans (hk.toBelow (by have := hw.box.lt; omega) fun k hk => by
      rcases hk with rfl | hk
      · omega
      · exact (World.ownsRow.lt hw.net.own k hk).1)
    refine g72_walk w W2 N v b A X rc got want hl1 hX (by omega) hn hw.hN hbel z' hl2 (fun a ha => hfit a (List.mem_append_left _ ha)) (fun e => ?_) (fun e => ?_)
    · obtain ⟨A2, X2, e1, e2, e3, e4⟩ := settle_ok hE (by omega) hsh hfit hex (by rw [e, hwant])
      obtain ⟨rfl, _⟩ := List.append_inj e1 (by omega)
      exact e4
    · obtain ⟨c1, c2, c3⟩ := hcl e
      exact settle_cut hE (by omega) hsh hex (by rw [hwant]; omega) c1 c2 c3
  have HFIN := Lib.hid FIN
  clear FIN
  have HAUG := Lib.hid (fun (w1 : World) (l' : List Ac) (rc : List Bool) (got : Int) (hn : NetR w1 N (N + 1) v l' b.ts.length b.st.length rc) (hfl : Flow (netOf b) l' (b.st.length + 2) (b.st.length + 3) (-1) got) (h0 : 0 < want) =>
    aug91 N (N + 1) v l' b.ts.length b.st.length rc (b.st.length + 2) (b.st.length + 3) want (-1) w1 hn (by rw [shp_length hfl.shape]; exact f1) (small_of (f2.shp hfl.shape) (hfl.fits f3)) (shp_ends hfl.shape.symm f4) (by omega) (by omega) (by omega) h0 (by omega))
  have HC := Lib.hid (flood90 N (N + 1) v (netOf b) b.ts.length b.st.length (List.replicate 36 false) (b.st.length + 2) (b.st.length + 3) want (-1) W hw.net f1 f2 f3 f4 (by omega) (by omega) (by omega) hwb.1 (by omega))
  clear f1 f2 f3 f4 hE hw hok hxl
  obtain ⟨S, hS⟩ : ∃ S, b.st.length + 2 = S := ⟨_, rfl⟩
  obtain ⟨T, hT⟩ : ∃ T, b.st.length + 3 = T := ⟨_, rfl⟩
  rw [hS, hT] at HC HAUG HFIN ⊢
  have HWANT := Lib.hid hwant
  clear hwant
  have HS := Lib.hid hS
  clear hS
  have HT := Lib.hid hT
  clear hT
  have HLEN := Lib.hid hlen
  clear hlen
  obtain ⟨Q, hQ⟩ : ∃ Q, bodyPost Tryz.prog Tryz.f36 (SettlePost w b) = Q := ⟨_, rfl⟩
  rw [hQ] at HFIN ⊢
  have HQ := Lib.hid hQ
  clear hQ
  rw [e72_eq]
  simp only [e72, q72b, q72, c72, Tryz.f36, Option.getD, codeL, codeR, fr72]
  go_wp2_with fail
  refine HC.out.mono ?_
  rintro e w1 ⟨got, l', rc', rfl, hn, hk, hfl, hg0, hg1, hor⟩
  have HN := Lib.hid hn
  have HK := Lib.hid hk
  have HFL := Lib.hid hfl
  have HOR := Lib.hid hor
  clear hn hk hfl hor
  by_cases hgw : got = want
  · subst hgw
    go_wp2_with fail
    refine HFIN.out _ w1 got l' rc' HN.out HK.out HFL.out (by omega) (fun h => absurd rfl h) ?_
    apply fr72g_act <;> rfl
  · have hlt : got < want := by omega
    have HGW := Lib.hid hgw
    clear hgw
    go_wp2_with fail
    refine (HAUG.out w1 l' rc' got HN.out HFL.out (by omega)).mono ?_
    rintro e w2 ⟨m, l2, rc2, rfl, hn2, hk2, (⟨rfl, rfl, c1, c2, c3⟩ | ⟨p, p1, p2, p3, p4, p5, rfl⟩)⟩
    · have HN2 := Lib.hid hn2
      have HK2 := Lib.hid hk2
      have HCC := Lib.hid (show Closed (fun x => rc2.getD x false) (-1) l2 ∧ rc2.getD S false = true ∧ rc2.getD T false = false from ⟨c1, c2, c3⟩)
      clear hn2 hk2 c1 c2 c3
      go_wp2_with fail
      refine HFIN.out _ w2 got l2 rc2 HN2.out (HK.out.trans HK2.out) HFL.out (by omega) (fun _ => HCC.out) ?_
      apply fr72g_act <;> rfl
    · exfalso
      obtain ⟨c1, c2, c3⟩ := HOR.out.resolve_left HGW.out
      have := c1.no_way p1 (fun s hs => by have := p3 s hs; omega) c2
      rw [c3] at this
      cases this
end Go.Proofs.YtflchbejjofppaaGreatDoor
/- Walks: settle, whole. -/
namespace Go.Proofs.YtflchbejjofppaaGreatDoor
open Go Go.Proofs Go.RowKit
theorem q72_eq : q72 = .seq (codeL q72) (.seq (codeL (codeR q72)) (.seq l72c q72b)) := rfl
theorem q72b_eq : q72b = .seq (codeL q72b) (.seq (codeL (codeR q72b)) (.seq p72d e72)) := rfl
set_option maxRecDepth 100000 in
set_option maxHeartbeats 1000000 in
theorem q72b_walk (w W : World) (N X : Nat) (v1 v2 v : Value) (b : Bk) (hok : OkBk b) (s14 s15 : Value) (z : Nat → Value) (hw : SetW w W N v1 v2 v b (arcsOf b)) (hx : Box W X 112 (excV (arcsOf b))) (hX : N + 1 < X) :
    q72b.wp Tryz.prog (bodyPost Tryz.prog Tryz.f36 (SettlePost w b))
      { tmps := (fr72 N (.int .i64 (b.st.length + 2 : Nat)) (.int .i64 (b.st.length + 3 : Nat)) (.pointer (some ⟨X, 0, none⟩)) s14 s15 z).toArray, defers := [] } W := by
  have FIN : ∀ (A' : Act), (∃ z', A' = { tmps := (fr72 N (.int .i64 (b.st.length + 2 : Nat)) (.int .i64 (b.st.length + 3 : Nat)) (.pointer (some ⟨X, 0, none⟩)) (.int .i64 (arcsOf b).length) (.int .i64 0) z').toArray, defers := [] }) → (Code.seq p72d e72).wp Tryz.prog (bodyPost Tryz.prog Tryz.f36 (SettlePost w b)) A' W := by
    rintro A' ⟨z', rfl⟩
    refine wp_seq (wp_mono (p72d_walk w W N X v1 v2 v b hok _ z' hw hx hX) ?_)
    rintro e a W' ⟨rfl, ⟨z2, rfl⟩, v', hw'⟩
    exact e72_walk w W' N v1 v2 v' b hok _ z2 hw'
  have c0 := hw.net.toA.c0
  have zn := hw.net.box.lt
  have f0 := hw.net.box.frozen 0
  obtain ⟨a', cap', rfl⟩ := hw.net.own.shape
  have hlen := arcs_len b
  have h32 := hok.st32
  have h128 := hok.ts128
  obtain ⟨m, hm⟩ : ∃ m, (arcsOf b).length = m := ⟨_, rfl⟩
  rw [hm] at hlen c0 FIN
  have HLEN := Lib.hid hlen
  clear hlen
  clear hm hw hx hok
  have HFIN := Lib.hid FIN
  clear FIN
  obtain ⟨Q, hQ⟩ : ∃ Q, bodyPost Tryz.prog Tryz.f36 (SettlePost w b) = Q := ⟨_, rfl⟩
  rw [hQ] at HFIN ⊢
  have HQ := Lib.hid hQ
  clear hQ
  rw [q72b_eq]
  obtain ⟨R, hR⟩ : ∃ R, Code.seq p72d e72 = R := ⟨_, rfl⟩
  rw [hR] at HFIN ⊢
  have HR := Lib.hid hR
  clear hR
  obtain ⟨S, hS⟩ : ∃ S, b.st.length + 2 = S := ⟨_, rfl⟩
  obtain ⟨T, hT⟩ : ∃ T, b.st.length + 3 = T := ⟨_, rfl⟩
  rw [hS, hT] at HFIN ⊢
  have HS := Lib.hid hS
  clear hS
  have HT := Lib.hid hT
  clear hT
  simp only [q72b, q72, c72, Tryz.f36, Option.getD, codeL, codeR, fr72]
  go_wp2_with fail
  refine HFIN.out _ ?_
  apply fr72_act <;> rfl
theorem excV_nil : excV [] = ints (List.replicate 36 0) := by kernel_rfl
set_option maxRecDepth 100000 in
set_option maxHeartbeats 1000000 in
theorem q72_walk (w W : World) (N : Nat) (v1 v2 v : Value) (b : Bk) (hok : OkBk b) (s9 s10 s11 s14 s15 : Value) (z : Nat → Value) (hw : SetW w W N v1 v2 v b (arcsOf b)) :
    q72.wp Tryz.prog (bodyPost Tryz.prog Tryz.f36 (SettlePost w b)) { tmps := (fr72 N s9 s10 s11 s14 s15 z).toArray, defers := [] } W := by
  have FIN : ∀ (A' : Act) (W' : World), (∃ z', A' = { tmps := (fr72 N (.int .i64 (b.st.length + 2 : Nat)) (.int .i64 (b.st.length + 3 : Nat)) (.pointer (some ⟨W.heap.size, 0, none⟩)) s14 s15 z').toArray, defers := [] }) →
      (∃ nq, W' = (W.drewN nq).alloc (.cells (ints (List.replicate 36 0)).toArray 112)) → (Code.seq l72c q72b).wp Tryz.prog (bodyPost Tryz.prog Tryz.f36 (SettlePost w b)) A' W' := by
    rintro A' W' ⟨z', rfl⟩ ⟨nq, rfl⟩
    have hX : N + 1 < W.heap.size := hw.net.box.lt
    have hw1 := hw.later ((below_drewN (Below.refl _ _) nq).alloc (Nat.le_refl _) (.cells (ints (List.replicate 36 0)).toArray 112))
    have hx1 := Box.new (W.drewN nq) (ints (List.replicate 36 0)).toArray 112
    refine wp_seq (wp_mono (l72c_walk w _ N W.heap.size v1 v2 v b hok _ _ _ _ z' hw1 (by rw [excV_nil]; exact hx1) hX) ?_)
    rintro e a W2 ⟨rfl, ⟨z2, rfl⟩, hw2, hx2⟩
    exact q72b_walk w W2 N _ v1 v2 v b hok _ _ z2 hw2 hx2 hX
  have c2 := hw.net.box.cell 2
  have zn := hw.net.box.lt
  simp only [netCells, List.getElem?_cons_zero, List.getElem?_cons_succ] at c2
  have h32 := hok.st32
  have f2 := hw.net.box.frozen 2
  clear hw hok
  have HFIN := Lib.hid FIN
  clear FIN
  obtain ⟨Q, hQ⟩ : ∃ Q, bodyPost Tryz.prog Tryz.f36 (SettlePost w b) = Q := ⟨_, rfl⟩
  rw [hQ] at HFIN ⊢
  have HQ := Lib.hid hQ
  clear hQ
  rw [q72_eq]
  obtain ⟨R, hR⟩ : ∃ R, Code.seq l72c q72b = R := ⟨_, rfl⟩
  rw [hR] at HFIN ⊢
  have HR := Lib.hid hR
  clear hR
  simp only [q72, c72, Tryz.f36, Option.getD, codeL, codeR, fr72]
  go_wp2_with fail
  go_quiet (fail)
  go_wp2_with fail
  refine HFIN.out _ _ ?_ ⟨nq, rfl⟩
  apply fr72_act <;> rfl
set_option maxRecDepth 100000 in
set_option maxHeartbeats 1000000 in
theorem settle72 (w : World) (v1 v2 : Value) (b : Bk) (hok : OkBk b) (hv : BkR w w.heap.size v1 v2 b) :
    Calls Tryz.prog 36 #[.agg #[v1, v2]] w (SettlePost w b) := by
  have FIN : ∀ (A' : Act) (W' : World), (∃ s9 s10 s11 s14 s15 z', A' = { tmps := (fr72 w.heap.size s9 s10 s11 s14 s15 z').toArray, defers := [] }) →
      W' = (w.alloc (.cells #[v1, v2] 25)).alloc (.cells (netCells (.slice none 0 0) b.ts.length b.st.length (List.replicate 36 false)).toArray 96) → (Code.seq p72a (.seq p72b q72)).wp Tryz.prog (bodyPost Tryz.prog Tryz.f36 (SettlePost w b)) A' W' := by
    rintro A' W' ⟨s9, s10, s11, s14, s15, z', rfl⟩ rfl
    have hw : SetW w ((w.alloc (.cells #[v1, v2] 25)).alloc (.cells (netCells (.slice none 0 0) b.ts.length b.st.length (List.replicate 36 false)).toArray 96)) w.heap.size v1 v2 (.slice none 0 0) b [] := by
      have hx1 := Box.new w #[v1, v2] 25
      have hx2 := Box.new (w.alloc (.cells #[v1, v2] 25)) (netCells (.slice none 0 0) b.ts.length b.st.length (List.replicate 36 false)).toArray 96
      have hs : (w.alloc (.cells #[v1, v2] 25)).heap.size = w.heap.size + 1 := by simp
      rw [hs] at hx2
      refine ⟨rfl, hv, hx1.alloc _, ⟨by simpa using hx2, ⟨by simp, Or.inl ⟨rfl, rfl⟩⟩, by simp [Value.ownBlock], by simp⟩, by simp [Value.ownBlock], ?_⟩
      exact ((Below.refl _ _).alloc (Nat.le_refl _) _).alloc (by simp) _
    refine wp_seq (wp_mono (p72a_walk w _ _ v1 v2 b hok _ _ _ _ _ z' hw) ?_)
    rintro e a W2 ⟨rfl, ⟨z2, rfl⟩, v', hw2⟩
    refine wp_seq (wp_mono (p72b_walk w _ _ v1 v2 v' b hok _ _ _ _ _ z2 hw2) ?_)
    rintro e a W3 ⟨rfl, ⟨z3, rfl⟩, v3, hw3⟩
    exact q72_walk w W3 _ v1 v2 v3 b hok _ _ _ _ _ z3 hw3
  obtain ⟨⟨a1, n1, hv1, hl1, hA1⟩, ⟨a2, n2, hv2, hl2, hA2⟩, hids⟩ := hv
  subst hv1 hv2
  clear hA1 hA2 hids
  have h128 := hok.ts128
  have h32 := hok.st32
  clear hok
  have HFIN := Lib.hid FIN
  clear FIN
  obtain ⟨R, hR⟩ : ∃ R, Code.seq p72a (.seq p72b q72) = R := ⟨_, rfl⟩
  rw [hR] at HFIN
  refine calls_of_wp Tryz.func36 (c := c72) rfl ?_
  simp only [Tryz.ntmps36, List.size_toArray, List.length_cons, List.length_nil, Nat.reduceAdd, Nat.reduceSub, Array.replicate_succ, Array.replicate_zero, List.push_toArray, List.append_toArray, List.nil_append, List.cons_append]
  obtain ⟨Q, hQ⟩ : ∃ Q, bodyPost Tryz.prog Tryz.f36 (SettlePost w b) = Q := ⟨_, rfl⟩
  rw [hQ] at HFIN ⊢
  have HQ := Lib.hid hQ
  clear hQ
  rw [c72_eq, hR]
  have HR := Lib.hid hR
  clear hR
  simp only [c72, Tryz.f36, Option.getD, codeL, codeR]
  go_wp2_with fail
  refine HFIN.out _ _ ⟨undef, undef, undef, undef, undef, ?_⟩ rfl
  apply fr72_act <;> rfl
end Go.Proofs.YtflchbejjofppaaGreatDoor
/- A region that draws its order, of whose head operations one calls a function that writes memory; the others only read, and read the same before and after the call. -/
namespace Go
open Go.RowKit
section
structure CallFlow (ops : Array Oper) (n b : Nat) (ob : Oper) (W : World) (a0 A : Act) (D : Value → World → Prop) (listed : Array Bool) (a : Act) (w : World) (v : Value) : Prop where
  inv : HeadInv .any ops n listed
  size : a.tmps.size = a0.tmps.size
  defers : a.defers = a0.defers
  slot : ∀ j o t, j < n → ops[j]? = some o → o.dst = some t → j ≠ b → a.tmps[t]? = if listed.getD j false = true then A.tmps[t]? else a0.tmps[t]?
  slotb : ∀ t, ob.dst = some t → a.tmps[t]? = if listed.getD b false = true then a0.tmps[t]?.map (fun _ => v) else a0.tmps[t]?
  other : ∀ t, (∀ j o, j < n → ops[j]? = some o → o.dst ≠ some t) → a.tmps[t]? = a0.tmps[t]?
  wld : (listed.getD b false = true → D v w) ∧ (listed.getD b false = false → w = W)
variable {P : Program} {l : List Oper} {n b : Nat} {ob : Oper} {W : World} {a0 A : Act} {D : Value → World → Prop} {fn : FuncId} {args : Array Value} {Q : Exit → Act → World → Prop}
theorem callflow_run (hB : Region.flowB l.toArray n b = true) (hob : l[b]? = some ob)
    (hq : ∀ w, (w = W ∨ ∃ v, D v w) → wpQuiet P l.toArray (fun w' => w' = w) (fun a' => a' = A) (headsOf l n b) a0)
    (hb : (execOp A.eval ob).run P W = .ok (.enter fn args) W) (hc : Calls P fn args W fun e w' => ∃ v, e = .returned v ∧ D v w')
    (ht : ∀ v w, D v w → wpList P l.toArray Q (l.drop n) (A.put ob.dst v) w) :
    ∀ (f : Nat) (U : List Nat) (listed : Array Bool) (a : Act) (w : World) (v : Value), U.length = f → U.Nodup → (∀ i, i ∈ U ↔ i < n ∧ listed.getD i false = false) →
      CallFlow l.toArray n b ob W a0 A D listed a w v → wpAny P .any l.toArray Q (f + (l.toArray.size - n)) listed a w := by
  simp only [Region.flowB, Bool.and_eq_true, decide_eq_true_eq, List.all_eq_true, List.mem_range] at hB
  obtain ⟨⟨⟨⟨⟨⟨⟨⟨⟨hsel, hn⟩, hbn⟩, hsink⟩, hchain⟩, hseq⟩, hedge⟩, hpair⟩, hguard⟩, hblind⟩ := hB
  have hn' : n ≤ l.length := by have h := hn; rw [List.size_toArray] at h; omega
  have hsz : l.toArray.size = l.length := by simp
  have hget : ∀ i : Nat, l.toArray[i]? = l[i]? := fun i => by simp
  have hselect := Region.noSelect_spec hsel
  have hpw : (headsOf l n b).Pairwise (fun o o' => ∀ t, o.dst = some t → o'.dst ≠ some t) := by
    rw [List.pairwise_iff_getElem]
    intro i j hi hj hij t ht
    obtain ⟨i', h1, h2, h3, h4⟩ := headsOf_from hbn hn' (List.getElem?_eq_getElem hi)
    obtain ⟨j', k1, k2, k3, k4⟩ := headsOf_from hbn hn' (List.getElem?_eq_getElem hj)
    exact Region.flowPair_dst (hpair i' h1 j' k1) (by rw [hget]; exact h3) (by rw [hget]; exact k3) (fun e => by subst e; omega) ht
  have hA := quiet_text _ _ (hq W (.inl rfl)) hpw
  have hAo : ∀ t, (∀ j o, j < n → l.toArray[j]? = some o → j ≠ b → o.dst ≠ some t) → A.tmps[t]? = a0.tmps[t]? := fun t h => hA.1 t fun o ho => by
    obtain ⟨q, hq'⟩ := List.mem_iff_getElem?.1 ho
    obtain ⟨j, h1, h2, h3, _⟩ := headsOf_from hbn hn' hq'
    exact h j o h1 (by rw [hget]; exact h3) h2
  have hAs := hA.2.1
  have hAd := hA.2.2.1
  have hobA : l.toArray[b]? = some ob := by rw [hget]; exact hob
  intro f
  induction f with
  | zero =>
    intro U listed a w vb hU _ hUm hF
    obtain rfl : U = [] := List.eq_nil_of_length_eq_zero hU
    have hall : ∀ i, i < n → listed.getD i false = true := fun i hi => by
      cases h : listed.getD i false with
      | true => rfl
      | false => have := (hUm i).2 ⟨hi, h⟩; simp at this
    have hl : listed = Region.marked l.toArray.size n := by
      apply Array.ext_getElem?
      intro i
      by_cases hi : i < l.toArray.size
      · have hil : i < listed.size := by rw [hF.inv.size]; exact hi
        have e2 : (Region.marked l.toArray.size n)[i]? = some (decide (i < n)) := by
          rw [List.size_toArray] at hi
          unfold Region.marked
          simp [hi]
        rw [e2, Array.getElem?_eq_getElem hil]
        by_cases hin : i < n
        · have := hall i hin
          simp [hil] at this
          simp [this, hin]
        · have := hF.inv.tail i (by omega) hi
          simp [hil] at this
          simp [this, hin]
      · rw [Array.getElem?_eq_none (by rw [hF.inv.size]; omega), Array.getElem?_eq_none (by rw [List.size_toArray] at hi; unfold Region.marked; simp; omega)]
    have hbt := hall b hbn
    have ha : a = A.put ob.dst vb := by
      have htm : a.tmps = (A.put ob.dst vb).tmps := by
        apply Array.ext_getElem?
        intro t
        rw [put_get]
        by_cases hbd : ob.dst = some t
        · rw [if_pos hbd, hF.slotb t hbd, if_pos hbt]
          by_cases h : t < a0.tmps.size
          · rw [Array.getElem?_eq_getElem h, Array.getElem?_eq_getElem (by rw [hAs]; exact h)]; rfl
          · rw [Array.getElem?_eq_none (by omega), Array.getElem?_eq_none (by rw [hAs]; omega)] <;> rfl
        · rw [if_neg hbd]
          by_cases h : ∃ j o, j < n ∧ l.toArray[j]? = some o ∧ o.dst = some t
          · obtain ⟨j, o, h1, h2, h3⟩ := h
            have hjb : j ≠ b := fun e => by subst e; rw [hobA] at h2; cases h2; exact hbd h3
            rw [hF.slot j o t h1 h2 h3 hjb, if_pos (hall j h1)]
          · have h' : ∀ j o, j < n → l.toArray[j]? = some o → o.dst ≠ some t := fun j o h1 h2 h3 => h ⟨j, o, h1, h2, h3⟩
            rw [hF.other t h', hAo t fun j o h1 h2 _ => h' j o h1 h2]
      have hd : a.defers = (A.put ob.dst vb).defers := by rw [put_defers, hAd, hF.defers]
      cases a; simp only at htm hd; cases hX : A.put ob.dst vb; rw [hX] at htm hd; simp only at htm hd; rw [htm, hd]
    rw [ha]
    have hdl : (l.drop n).length = l.toArray.size - n := by simp
    have := wpAny_of_seq (md := .any) (Q' := Q) (ops := l.toArray) (l.drop n) n listed (A.put ob.dst vb) w (fun j => by simp [List.getElem?_drop]) (by rw [hdl, hl]; exact hseq) (ht vb w (hF.wld.1 hbt))
    rw [hdl] at this
    rwa [Nat.zero_add]
  | succ f ih =>
    intro U listed a w vb hU hnd hUm hF
    obtain ⟨i0, hi0, hleast⟩ := exists_leastM U (fun e => by rw [e] at hU; simp at hU)
    obtain ⟨hi0n, hi0u⟩ := (hUm i0).1 hi0
    have hin : ∀ i, i < n → i < listed.size := fun i hi => by rw [hF.inv.size]; omega
    have hready : i0 ∈ Region.ready .any l.toArray listed := by
      have hlt : i0 < l.toArray.size := by omega
      refine mem_ready.2 ⟨getD_in (hin _ hi0n) hi0u, l.toArray[i0], Array.getElem?_eq_getElem hlt, fun e he hbd => ?_⟩
      have h1 := hedge i0 hi0n
      rw [Array.getElem?_eq_getElem hlt] at h1
      simp only [Array.all_eq_true_iff_forall_mem] at h1
      have h2 := h1 e he
      simp only [hbd, Bool.not_true, Bool.false_or, decide_eq_true_eq] at h2
      cases h : listed.getD e.on false with
      | true => rfl
      | false =>
        have := hleast e.on ((hUm e.on).2 ⟨by omega, h⟩)
        omega
    rw [show f + 1 + (l.toArray.size - n) = (f + (l.toArray.size - n)) + 1 by omega]
    refine ⟨fun h => (by rw [h] at hready; cases hready), fun i hi => ?_⟩
    obtain ⟨hiu, o, ho, hdep⟩ := mem_ready.1 hi
    have hilt : i < n := Nat.lt_of_not_le fun h => tail_waits hsink hchain hn hF.inv _ i0 rfl hi0n (getD_in (hin _ hi0n) hi0u) i h hi
    have hiU : i ∈ U := (hUm i).2 ⟨hilt, getD_both hiu⟩
    have hinv := hF.inv.set hi hilt
    have hlist : ∀ j, (listed.setIfInBounds i true).getD j false = if j = i then true else listed.getD j false := fun j => by
      by_cases h : j = i
      · subst h; rw [if_pos rfl]; simp [hin j hilt]
      · rw [if_neg h, getD_set_ne false (Ne.symm h)]
    have hUm' : ∀ j, j ∈ U.erase i ↔ j < n ∧ (listed.setIfInBounds i true).getD j false = false := fun j => by
      rw [hnd.mem_erase_iff, hUm j, hlist j]
      by_cases h : j = i
      · simp [h]
      · simp [h]
    have hlen' : (U.erase i).length = f := by rw [List.length_erase_of_mem hiU]; omega
    have hnd' := hnd.erase i
    have hseen : ∀ t ∈ o.looksAt l.toArray, ∀ j oj, j < n → l.toArray[j]? = some oj → oj.dst = some t → i ≠ j ∧ j < i ∧ listed.getD j false = true := by
      intro t ht j oj hj hoj hd
      have hne : i ≠ j := fun e => by
        subst e
        rw [ho] at hoj; cases hoj
        exact Region.flowPair_self (hpair i hilt i hilt) ho hd ht
      have h1 := Region.flowPair_looks (hpair i hilt j hj) ho hoj hne hd ht
      obtain ⟨o', ho', e, he, hbd, hon⟩ := Region.waitsFor_spec h1.2
      rw [ho] at ho'; cases ho'
      have := hdep e he hbd
      rw [hon] at this
      exact ⟨hne, h1.1, this⟩
    by_cases hib : i = b
    · subst hib
      rw [hobA] at ho; cases ho
      have hg : ob.guard = none := by rw [hobA] at hguard; simpa using hguard
      obtain rfl : w = W := hF.wld.2 (getD_both hiu)
      have hex : execOp a.eval ob = execOp A.eval ob := (seen_alike (ops := l.toArray) (fun cs bb => hselect i ob cs bb hobA) fun t htl => by
        by_cases h : ∃ j o, j < n ∧ l.toArray[j]? = some o ∧ o.dst = some t
        · obtain ⟨j, oj, h1, h2, h3⟩ := h
          obtain ⟨k1, k2, k3⟩ := hseen t htl j oj h1 h2 h3
          rw [hF.slot j oj t h1 h2 h3 (Ne.symm k1), if_pos k3]
        · have h' : ∀ j o, j < n → l.toArray[j]? = some o → o.dst ≠ some t := fun j o h1 h2 h3 => h ⟨j, o, h1, h2, h3⟩
          rw [hF.other t h', hAo t fun j o h1 h2 _ => h' j o h1 h2]).1
      unfold wpOp
      simp only [hobA]
      rw [if_pos (by simp [Region.wanted, hg])]
      refine .inl ?_
      unfold Oper.wp
      rw [hex, hb, Oper.upon_enter]
      refine hc.mono ?_
      rintro _ w' ⟨v', rfl, hD⟩
      refine ih (U.erase i) _ _ _ v' hlen' hnd' hUm' ⟨hinv, by rw [put_size, hF.size], by rw [put_defers, hF.defers], ?_, ?_, ?_, fun _ => hD, fun h => (by rw [hlist i, if_pos rfl] at h; cases h)⟩
      · intro j oj t hj hoj hd hjb
        have hne : ob.dst ≠ some t := fun h => Region.flowPair_dst (hpair i hilt j hj) hobA hoj (Ne.symm hjb) h hd
        rw [put_get, if_neg hne, hF.slot j oj t hj hoj hd hjb, hlist j, if_neg hjb]
      · intro t hd
        rw [put_get, if_pos hd, hlist i, if_pos rfl, if_pos rfl, hF.slotb t hd, if_neg (by rw [getD_both hiu]; simp)]
      · intro t h
        rw [put_get, if_neg (h i ob hilt hobA), hF.other t h]
    · have hcl : w = W ∨ ∃ v, D v w := by
        cases h : listed.getD b false with
        | true => exact .inr ⟨vb, hF.wld.1 h⟩
        | false => exact .inl (hF.wld.2 h)
      have hpos := headsOf_get hbn hn' hilt hib
      have hol : l[i]? = some o := by rw [← hget]; exact ho
      rw [hol] at hpos
      have hsplit : headsOf l n b = (headsOf l n b).take (posOf b i) ++ o :: (headsOf l n b).drop (posOf b i + 1) := by
        have hlt := (List.getElem?_eq_some_iff.1 hpos).1
        have e := (List.getElem?_eq_some_iff.1 hpos).2
        rw [← e, ← List.drop_eq_getElem_cons hlt, List.take_append_drop]
      obtain ⟨_, _, _, htext⟩ := quiet_text _ _ (hq w hcl) hpw
      obtain ⟨ai, v, hy, t1, t2, t3⟩ := htext _ o _ hsplit
      have hal := seen_alike (ops := l.toArray) (o := o) (a := a) (a' := ai) (fun cs bb => hselect i o cs bb ho) fun t htl => by
        by_cases h : ∃ j o, j < n ∧ l.toArray[j]? = some o ∧ o.dst = some t
        · obtain ⟨j, oj, h1, h2, h3⟩ := h
          obtain ⟨k1, k2, k3⟩ := hseen t htl j oj h1 h2 h3
          by_cases hjb : j = b
          · -- nobody else looks at b's yield
            subst hjb
            have h4 := hblind i hilt
            simp only [Bool.or_eq_true, beq_iff_eq, hib, false_or] at h4
            exact absurd htl (Region.blindTo_spec h4 ho h2 h3)
          · rw [hF.slot j oj t h1 h2 h3 hjb, if_pos k3]
            refine (t1 t ⟨oj, ?_, h3⟩).symm
            have hjp := headsOf_get hbn hn' h1 hjb
            rw [← hget, h2] at hjp
            refine List.mem_of_getElem? (i := posOf b j) ?_
            rw [List.getElem?_take, if_pos (by unfold posOf; split <;> split <;> omega)]
            exact hjp
        · have h' : ∀ j o, j < n → l.toArray[j]? = some o → o.dst ≠ some t := fun j o h1 h2 h3 => h ⟨j, o, h1, h2, h3⟩
          rw [hF.other t h']
          refine (t2 t fun p hp => ?_).symm
          obtain ⟨q, hq'⟩ := List.mem_iff_getElem?.1 (List.mem_of_mem_take hp)
          obtain ⟨j, h1, h2, h3, _⟩ := headsOf_from hbn hn' hq'
          exact h' j p h1 (by rw [hget]; exact h3)
      have hy' := hy.of_same hal.1 hal.2
      have hqo := hy'.qOp (K := fun a' => a' = a.put o.dst v) ho rfl
      refine wpOp_of_qOp (C := fun w' => w' = w) rfl ?_ hqo
      rintro a' w' rfl rfl
      refine ih (U.erase i) _ _ _ vb hlen' hnd' hUm' ⟨hinv, by rw [put_size, hF.size], by rw [put_defers, hF.defers], ?_, ?_, ?_, ?_⟩
      · intro j oj t hj hoj hd hjb
        rw [put_get, hlist j]
        by_cases hji : j = i
        · subst hji
          rw [ho] at hoj; cases hoj
          rw [if_pos hd, if_pos rfl, if_pos rfl, hF.slot j o t hj ho hd hjb, if_neg (by rw [getD_both hiu]; simp), t3 t hd]
        · have hne : o.dst ≠ some t := fun h => Region.flowPair_dst (hpair i hilt j hj) ho hoj (Ne.symm hji) h hd
          rw [if_neg hne, if_neg hji, hF.slot j oj t hj hoj hd hjb]
      · intro t hd
        have hne : o.dst ≠ some t := fun h => Region.flowPair_dst (hpair i hilt b hbn) ho hobA hib h hd
        rw [put_get, if_neg hne, hF.slotb t hd, hlist b, if_neg (Ne.symm hib)]
      · intro t h
        rw [put_get, if_neg (h i o hilt ho), hF.other t h]
      · rw [hlist b, if_neg (Ne.symm hib)]
        exact hF.wld
theorem wp_region_callflow {id : Nat} (n b : Nat) (ob : Oper) (fn : FuncId) (D : Value → World → Prop) (hm : P.follows .mixedOrders = true) (hB : Region.flowB l.toArray n b = true) (hob : l[b]? = some ob)
    (hh : ∃ A, (∀ w, (w = { W with drawn := W.drawn + 1 } ∨ ∃ v, D v w) → wpQuiet P l.toArray (fun w' => w' = w) (fun a' => a' = A) (headsOf l n b) a0) ∧
      ∃ args, (execOp A.eval ob).run P { W with drawn := W.drawn + 1 } = .ok (.enter fn args) { W with drawn := W.drawn + 1 } ∧ (Calls P fn args { W with drawn := W.drawn + 1 } fun e w' => ∃ v, e = .returned v ∧ D v w') ∧
        ∀ v w, D v w → wpList P l.toArray Q (l.drop n) (A.put ob.dst v) w) :
    (Code.region id l.toArray true).wp P Q a0 W := by
  obtain ⟨A, hq, args, hb, hc, ht⟩ := hh
  refine wp_region_any hm ?_
  have hB' := hB
  simp only [Region.flowB, Bool.and_eq_true, decide_eq_true_eq] at hB'
  have hn := hB'.1.1.1.1.1.1.1.1.2
  have inv0 : HeadInv .any l.toArray n (Array.replicate l.toArray.size false) :=
    ⟨by simp, fun j oj _ hl => (by rw [getD_replicate_false] at hl; cases hl), fun t _ ht => getD_in (by simpa using ht) (getD_replicate_false _ _)⟩
  have h := callflow_run (W := { W with drawn := W.drawn + 1 }) (a0 := a0) (A := A) (D := D) (Q := Q) hB hob hq hb hc ht n (List.range n) (Array.replicate l.toArray.size false) a0 _ undef (by simp) List.nodup_range (fun i => by rw [List.mem_range]; exact ⟨fun h => ⟨h, getD_replicate_false _ _⟩, fun h => h.1⟩)
    ⟨inv0, rfl, rfl, fun j o t _ _ _ _ => by rw [getD_replicate_false]; rfl, fun t _ => by rw [getD_replicate_false]; rfl, fun _ _ => rfl, fun h => (by rw [getD_replicate_false] at h; cases h), fun _ => rfl⟩
  rwa [show n + (l.toArray.size - n) = l.toArray.size by omega] at h
structure Keep (W : World) (S : Nat → Nat → Prop) where
  w : World
  cells : ∀ b o, S b o → w.cell? ⟨b, o, none⟩ = W.cell? ⟨b, o, none⟩
structure Keep1 {W : World} {S : Nat → Nat → Prop} (X : Keep W S) where
  w : World
  h : w = X.w
instance {W : World} {S : Nat → Nat → Prop} (X : Keep W S) : Nonempty (Keep1 X) := ⟨⟨X.w, rfl⟩⟩
theorem Keep1.cell {W : World} {S : Nat → Nat → Prop} {X : Keep W S} (Y : Keep1 X) (b o : Nat) (h : S b o) : Y.w.cell? ⟨b, o, none⟩ = W.cell? ⟨b, o, none⟩ := by rw [Y.h]; exact X.cells b o h
attribute [go_sem] Keep1.cell
theorem keep1_class {W : World} {S : Nat → Nat → Prop} (X : Keep W S) : (fun w' => ∃ Y : Keep1 X, w' = Y.w) = (fun w' => w' = X.w) := funext fun w' => propext ⟨fun ⟨Y, h⟩ => h.trans Y.h, fun h => ⟨⟨X.w, rfl⟩, h⟩⟩
end
end Go
