/- Lemmas on the way to the law PathMenger (part 11): Ne Wd We Rj -/
import Derived.Test.YtahpdkkpnkhnhaaGreatDoorPathMengerP10
import Derived.Test.YtahpdkkpnkhnhaaGreatDoorPathMengerP03
import Derived.Test.YtahpdkkpnkhnhaaGreatDoorBA06
import Derived.Test.YtahpdkkpnkhnhaaGreatDoorPathMengerP08
import Derived.Test.YtahpdkkpnkhnhaaGreatDoorPathMengerP01
import Derived.Test.YtahpdkkpnkhnhaaGreatDoorPathMengerP02
import Derived.Test.YtahpdkkpnkhnhaaGreatDoorBA02
set_option linter.unusedVariables false
set_option linter.unusedSimpArgs false

/- Walks: Few; a command. -/
namespace Go.Proofs.YtahpdkkpnkhnhaaGreatDoor
open Go Go.Proofs Go.RowKit Go.Shelf
def fewB (p : Pl) (n : Int) : Bool := decide ((p.ms.length : Int) ≤ n) && ckPlant p == 0
set_option maxRecDepth 100000 in
set_option maxHeartbeats 1000000 in
theorem few67 (w : World) (v1 v2 : Value) (p : Pl) (n : Int) (hv : PlR w w.heap.size v1 v2 p) : Calls Tryz.prog 67 #[.agg #[v1, v2], .int .i64 n] w (Ret (.bool (fewB p n)) w) := by
  have HC := Lib.hid (fun (w1 : World) (hb : Below w.heap.size w w1) => ckPlant19 w1 _ _ p (hv.later hb))
  obtain ⟨a1, n1, a2, n2, rfl, rfl⟩ := hv.agg
  clear hv
  have HB := Lib.hid ((Below.refl w.heap.size w).alloc (Nat.le_refl _) (.cells #[.slice a1 p.ms.length n1, .slice a2 p.arcs.length n2] 25))
  have HX := Lib.hid (Box.new w #[.slice a1 p.ms.length n1, .slice a2 p.arcs.length n2] 25)
  obtain ⟨R, hR⟩ : ∃ R, fewB p n = R := ⟨_, rfl⟩
  rw [hR]
  unfold fewB at hR
  have HR := Lib.hid hR
  clear hR
  obtain ⟨m, hm⟩ : ∃ n, p.ms.length = n := ⟨_, rfl⟩
  obtain ⟨k, hk⟩ : ∃ n, p.arcs.length = n := ⟨_, rfl⟩
  obtain ⟨ck, hck⟩ : ∃ n, ckPlant p = n := ⟨_, rfl⟩
  rw [hm] at HB HX HC HR ⊢
  rw [hk] at HB HX HC ⊢
  rw [hck] at HC HR
  clear hm hk hck
  cases hq : decide ((m : Int) ≤ n) with
  | false =>
    rw [hq] at HR
    go_enter Tryz.func67, Tryz.ntmps67
    go_wp2_with fail
    go_ret
    exact ⟨by rw [← HR.out]; rfl, HB.out⟩
  | true =>
    rw [hq, Bool.true_and] at HR
    go_enter Tryz.func67, Tryz.ntmps67
    go_wp2_with fail
    refine (HC.out _ HB.out).mono ?_
    rintro e w2 ⟨rfl, hb⟩
    have HB2 := Lib.hid (HB.out.trans (hb.mono HB.out.size))
    go_wp2_with fail
    go_ret
    exact ⟨by rw [← HR.out]; rfl, HB2.out⟩
theorem StE.two {w W1 w' : World} {E : Int} {st : List Sx} {e : Ending} {Q : Ending → World → Prop} (h : StE W1 E st e w') (hb : Below w.heap.size w W1) (hQ : StE w E st = Q) : ∃ v c, e = .returned (.tuple #[v, .int .i64 c]) ∧ Q e w' := by
  subst hQ
  obtain ⟨v, rfl, ho, hb'⟩ := h
  exact ⟨v, E, rfl, v, rfl, ho.lower hb.size, hb.trans (hb'.mono hb.size)⟩
end Go.Proofs.YtahpdkkpnkhnhaaGreatDoor
/- Walks: a plant of too many arcs is no plant; Few. -/
namespace Go.Proofs.YtahpdkkpnkhnhaaGreatDoor
open Go Go.Proofs Go.RowKit Go.Shelf
def manyE (p : Pl) : Int := if p.ms.length = 0 then 2 else if 64 < p.ms.length then 5 else if ckMsL p.ms ≠ 0 then ckMsL p.ms else 5
theorem manyE_ne (p : Pl) : manyE p ≠ 0 := by
  unfold manyE
  split
  · decide
  · split
    · decide
    · split
      · assumption
      · decide
set_option maxRecDepth 100000 in
set_option maxHeartbeats 1000000 in
theorem ckMany19 (w : World) (v1 : Value) (a2 : Option Addr) (m n2 : Nat) (p : Pl) (hv : Sl Mc.enc 2 w w.heap.size v1 p.ms) (h256 : 256 < m) (hm63 : m ≤ 9223372036854775807) : Calls Tryz.prog 19 #[.agg #[v1, .slice a2 m n2]] w (Ret (.int .i64 (manyE p)) w) := by
  obtain ⟨a1, n1, rfl, hl1, hA1⟩ := hv
  have HA1 := Lib.hid hA1
  clear hA1
  obtain ⟨h11, h12⟩ := hl1
  obtain ⟨R, hR⟩ : ∃ R, manyE p = R := ⟨_, rfl⟩
  rw [hR]
  unfold manyE at hR
  have HR := Lib.hid hR
  clear hR
  have HB := Lib.hid ((Below.refl w.heap.size w).alloc (Nat.le_refl _) (.cells #[.slice a1 p.ms.length n1, .slice a2 m n2] 25))
  have HX := Lib.hid (Box.new w #[.slice a1 p.ms.length n1, .slice a2 m n2] 25)
  obtain ⟨n, hn⟩ : ∃ n, p.ms.length = n := ⟨_, rfl⟩
  rw [hn] at HR HB HX h11 h12 ⊢
  have HN := Lib.hid hn
  clear hn
  go_enter Tryz.func19, Tryz.ntmps19
  by_cases h0 : n = 0
  · subst h0
    have HV := Lib.hid (show R = 2 by rw [← HR.out]; rfl)
    go_wp2_with fail
    go_ret
    exact ⟨by rw [HV.out]; rfl, HB.out⟩
  have k0 : ((n : Int) == 0) = false := by simp; omega
  by_cases h64 : 64 < n
  · have HV := Lib.hid (show R = 5 by rw [← HR.out, if_neg h0, if_pos h64])
    have k1 : decide ((64 : Int) < (n : Int)) = true := decide_eq_true (by omega)
    go_wp2_with fail
    go_ret
    exact ⟨by rw [HV.out]; rfl, HB.out⟩
  have k1 : decide ((64 : Int) < (n : Int)) = false := decide_eq_false (by omega)
  obtain ⟨S, hS⟩ : ∃ S, ckMsL p.ms = S := ⟨_, rfl⟩
  have HR1 := Lib.hid (show (if S ≠ 0 then S else 5) = R by have h := HR.out; rw [if_neg h0, if_neg h64, hS] at h; exact h)
  have HS := Lib.hid hS
  clear HR hS
  go_wp2_with fail
  go_loopw [4] (fun j wr => ∃ k : Nat, k ≤ n ∧ j = .int .i64 k ∧ Below w.heap.size w wr ∧ Box wr w.heap.size 25 [.slice a1 n n1, .slice a2 m n2] ∧ ckMsL (p.ms.drop k) = S) (fun j _ => n - (intOf j).toNat)
  case atStart => exact ⟨0, by omega, rfl, HB.out, HX.out, HS.out⟩
  case round =>
    clear HB HX HS
    obtain ⟨k, hk, rfl, hbe, hx, hrel⟩ := hrel
    have HL := Lib.hid hrel
    have HBE := Lib.hid hbe
    have HXE := Lib.hid hx
    clear hrel
    obtain ⟨x0, x1, xf, xz⟩ := hx.v2
    by_cases hlt : k < n
    · have hkl : k < p.ms.length := by rw [HN.out]; exact hlt
      obtain ⟨b, off, rfl, hbb, hcells⟩ := HA1.out (by omega)
      obtain ⟨c0, c1⟩ := ((hcells k hkl).below hbe hbb).c2
      have hbz : b < wr.heap.size := by have := hbe.size; omega
      have hd := Lib.hid (ckMsL_drop p.ms k hkl)
      clear hcells hbe hx
      generalize p.ms[k] = mc at *
      obtain ⟨s, t⟩ := mc
      dsimp only at c0 c1
      have hba : Below wr.heap.size wr (wr.alloc (.cells #[.string s, .int .i64 t] 65)) := (Below.refl _ _).alloc (Nat.le_refl _) _
      have HK := Lib.hid (kn_some s)
      have HF1 := Lib.hid (fun w => isConveyor42 s w)
      have HF2 := Lib.hid (fun w => isFirst86 s w)
      have HF3 := Lib.hid (fun w => isLast87 s w)
      have HMB := Lib.hid (Box.new wr #[.string s, .int .i64 t] 65)
      have HB3 := Lib.hid (HBE.out.trans (hba.mono HBE.out.size))
      have HX3 := Lib.hid (HXE.out.later hba)
      obtain ⟨m0, m1, mf, mz⟩ := HMB.out.v2
      obtain ⟨qc, hqc⟩ : ∃ q, cvB s = q := ⟨_, rfl⟩
      obtain ⟨qb, hqb⟩ : ∃ q, bgB s = q := ⟨_, rfl⟩
      obtain ⟨qe, hqe⟩ : ∃ q, enB s = q := ⟨_, rfl⟩
      rw [hqc] at HK HF1
      rw [hqb] at HK HF2
      rw [hqe] at HK HF3
      obtain ⟨q, hq⟩ : ∃ q, kn s = q := ⟨_, rfl⟩
      rw [hq] at HK
      have HS2 := Lib.hid (show (if q < 0 then 20 else if t < 0 ∨ 100000 < t then 3 else ckMsL (p.ms.drop (k + 1))) = S by have h := HL.out; rw [hd.out] at h; (try dsimp only at h); rw [hq] at h; exact h)
      have HS3 := Lib.hid (show (qc || qb || qe) = true → (if t < 0 ∨ 100000 < t then 3 else ckMsL (p.ms.drop (k + 1))) = S from fun e => by
        have h1 := of_decide_eq_true (HK.out.trans e)
        have h := HS2.out
        rw [if_neg (by omega)] at h
        exact h)
      clear hba hq hqc hqb hqe HMB
      have HTL : Hid (t < 0 ∨ 100000 < t → S = 3 → R = 3) := Lib.hid (fun _ h => by rw [← HR1.out, h]; rfl)
      obtain ⟨y0, y1, yf, yz⟩ := HX3.out.v2
      go_wp2_with fail
      refine (HF1.out _).mono ?_
      rintro e w3 ⟨rfl, rfl⟩
      cases qc with
      | true =>
        have HS4 := Lib.hid (HS3.out rfl)
        clear HS3 HS2 HK HF1 HF2 HF3
        by_cases ht0 : t < 0
        · have d1 : decide (t < 0) = true := decide_eq_true ht0
          have HV := Lib.hid (show R = 3 from HTL.out (Or.inl ht0) (by rw [← HS4.out, if_pos (Or.inl ht0)]))
          clear ht0
          go_wp2_with fail
          go_ret
          exact ⟨by rw [HV.out]; rfl, HB3.out⟩
        have d1 : decide (t < 0) = false := decide_eq_false ht0
        by_cases ht1 : 100000 < t
        · have d2 : decide (100000 < t) = true := decide_eq_true ht1
          have HV := Lib.hid (show R = 3 from HTL.out (Or.inr ht1) (by rw [← HS4.out, if_pos (Or.inr ht1)]))
          clear ht0 ht1
          go_wp2_with fail
          go_ret
          exact ⟨by rw [HV.out]; rfl, HB3.out⟩
        have d2 : decide (100000 < t) = false := decide_eq_false ht1
        have HV := Lib.hid (show ckMsL (p.ms.drop (k + 1)) = S by rw [← HS4.out, if_neg (fun h => h.elim ht0 ht1)])
        clear ht0 ht1
        go_wp2_with fail
        go_roundw
        case rel => exact ⟨k + 1, by omega, by go_num, HB3.out, HX3.out, HV.out⟩
        case measure => simp [intOf]; omega
      | false =>
        go_wp2_with fail
        refine (HF2.out _).mono ?_
        rintro e w3 ⟨rfl, rfl⟩
        cases qb with
        | true =>
          have HS4 := Lib.hid (HS3.out rfl)
          clear HS3 HS2 HK HF1 HF2 HF3
          by_cases ht0 : t < 0
          · have d1 : decide (t < 0) = true := decide_eq_true ht0
            have HV := Lib.hid (show R = 3 from HTL.out (Or.inl ht0) (by rw [← HS4.out, if_pos (Or.inl ht0)]))
            clear ht0
            go_wp2_with fail
            go_ret
            exact ⟨by rw [HV.out]; rfl, HB3.out⟩
          have d1 : decide (t < 0) = false := decide_eq_false ht0
          by_cases ht1 : 100000 < t
          · have d2 : decide (100000 < t) = true := decide_eq_true ht1
            have HV := Lib.hid (show R = 3 from HTL.out (Or.inr ht1) (by rw [← HS4.out, if_pos (Or.inr ht1)]))
            clear ht0 ht1
            go_wp2_with fail
            go_ret
            exact ⟨by rw [HV.out]; rfl, HB3.out⟩
          have d2 : decide (100000 < t) = false := decide_eq_false ht1
          have HV := Lib.hid (show ckMsL (p.ms.drop (k + 1)) = S by rw [← HS4.out, if_neg (fun h => h.elim ht0 ht1)])
          clear ht0 ht1
          go_wp2_with fail
          go_roundw
          case rel => exact ⟨k + 1, by omega, by go_num, HB3.out, HX3.out, HV.out⟩
          case measure => simp [intOf]; omega
        | false =>
          go_wp2_with fail
          refine (HF3.out _).mono ?_
          rintro e w3 ⟨rfl, rfl⟩
          cases qe with
          | true =>
            have HS4 := Lib.hid (HS3.out rfl)
            clear HS3 HS2 HK HF1 HF2 HF3
            by_cases ht0 : t < 0
            · have d1 : decide (t < 0) = true := decide_eq_true ht0
              have HV := Lib.hid (show R = 3 from HTL.out (Or.inl ht0) (by rw [← HS4.out, if_pos (Or.inl ht0)]))
              clear ht0
              go_wp2_with fail
              go_ret
              exact ⟨by rw [HV.out]; rfl, HB3.out⟩
            have d1 : decide (t < 0) = false := decide_eq_false ht0
            by_cases ht1 : 100000 < t
            · have d2 : decide (100000 < t) = true := decide_eq_true ht1
              have HV := Lib.hid (show R = 3 from HTL.out (Or.inr ht1) (by rw [← HS4.out, if_pos (Or.inr ht1)]))
              clear ht0 ht1
              go_wp2_with fail
              go_ret
              exact ⟨by rw [HV.out]; rfl, HB3.out⟩
            have d2 : decide (100000 < t) = false := decide_eq_false ht1
            have HV := Lib.hid (show ckMsL (p.ms.drop (k + 1)) = S by rw [← HS4.out, if_neg (fun h => h.elim ht0 ht1)])
            clear ht0 ht1
            go_wp2_with fail
            go_roundw
            case rel => exact ⟨k + 1, by omega, by go_num, HB3.out, HX3.out, HV.out⟩
            case measure => simp [intOf]; omega
          | false =>
            have HV := Lib.hid (show R = 20 by
              have h1 := of_decide_eq_false HK.out
              have h := HS2.out
              rw [if_pos (by omega)] at h
              rw [← HR1.out, ← h]; rfl)
            clear HS3 HS2 HK HF1 HF2 HF3
            go_wp2_with fail
            go_ret
            exact ⟨by rw [HV.out]; rfl, HB3.out⟩
    · obtain rfl : n = k := by omega
      have HS0 := Lib.hid (show S = 0 by rw [← HL.out, ← HN.out, List.drop_length]; rfl)
      clear hbe hx
      · have k2 : decide ((256 : Int) < (m : Int)) = true := decide_eq_true (by omega)
        have HV := Lib.hid (show R = 5 by rw [← HR1.out, HS0.out, if_neg (by simp)])
        go_wp2_with fail
        go_ret
        exact ⟨by rw [HV.out]; rfl, HBE.out⟩
theorem few67_no (w : World) (a1 : Option Addr) (n1 c1 : Nat) (v2 : Value) (n : Int) (h : n < (n1 : Int)) (hn1 : n1 ≤ 9223372036854775807) : Calls Tryz.prog 67 #[.agg #[.slice a1 n1 c1, v2], .int .i64 n] w (Ret (.bool false) w) := by
  have HB := Lib.hid ((Below.refl w.heap.size w).alloc (Nat.le_refl _) (.cells #[.slice a1 n1 c1, v2] 25))
  have HX := Lib.hid (Box.new w #[.slice a1 n1 c1, v2] 25)
  have d1 : decide ((n1 : Int) ≤ n) = false := decide_eq_false (by omega)
  clear h
  go_enter Tryz.func67, Tryz.ntmps67
  go_wp2_with fail
  go_ret
  exact ⟨rfl, HB.out⟩
theorem few67_many (w : World) (v1 : Value) (a2 : Option Addr) (m c2 : Nat) (p : Pl) (n : Int) (hv : Sl Mc.enc 2 w w.heap.size v1 p.ms) (h256 : 256 < m) (hm63 : m ≤ 9223372036854775807) (hn : (p.ms.length : Int) ≤ n) : Calls Tryz.prog 67 #[.agg #[v1, .slice a2 m c2], .int .i64 n] w (Ret (.bool false) w) := by
  have HC := Lib.hid (fun (w1 : World) (hb : Below w.heap.size w w1) => ckMany19 w1 v1 a2 m c2 p (hv.later hb) h256 hm63)
  obtain ⟨a1, c1, rfl, ⟨h1, _⟩, h3⟩ := hv
  clear h3
  have hne := manyE_ne p
  obtain ⟨E, hE⟩ : ∃ x, manyE p = x := ⟨_, rfl⟩
  obtain ⟨n1, hn1⟩ : ∃ x, p.ms.length = x := ⟨_, rfl⟩
  rw [hE] at hne HC
  rw [hn1] at HC h1 hn ⊢
  clear hE hn1
  have HB := Lib.hid ((Below.refl w.heap.size w).alloc (Nat.le_refl _) (.cells #[.slice a1 n1 c1, .slice a2 m c2] 25))
  have HX := Lib.hid (Box.new w #[.slice a1 n1 c1, .slice a2 m c2] 25)
  have d1 : decide ((n1 : Int) ≤ n) = true := decide_eq_true (by omega)
  have d2 : (E == 0) = false := beq_eq_false_iff_ne.2 hne
  clear hne hn h256
  go_enter Tryz.func67, Tryz.ntmps67
  go_wp2_with fail
  refine (HC.out _ HB.out).mono ?_
  rintro e w2 ⟨rfl, hb⟩
  have HB2 := Lib.hid (HB.out.trans (hb.mono HB.out.size))
  go_wp2_with fail
  go_ret
  exact ⟨rfl, HB2.out⟩
end Go.Proofs.YtahpdkkpnkhnhaaGreatDoor
/- Plain: the paths of the law PathMenger: ways, the cut on each of them, the fastest. -/
namespace Go.Proofs.YtahpdkkpnkhnhaaGreatDoor
open Go Go.Proofs Go.RowKit Go.Shelf
theorem path_steps {p : Pl} {x : List Int} (h : pathB p x = true) {bl : List Int} (hb : ∀ y ∈ x, y ∉ bl) : ∀ k, k + 1 < x.length → StepR p bl (lastI x) (x.getD k 0) (x.getD (k + 1) 0) := by
  intro k hk
  obtain ⟨q2, _, _, hnd, hok⟩ := (pathB_iff p _).1 h
  have h1 := hok (k + 1) hk
  unfold okK at h1
  rw [Nat.add_sub_cancel] at h1
  simp only [Bool.or_eq_true, Bool.and_eq_true, decide_eq_true_eq] at h1
  have h2 := h1.resolve_left (by omega)
  have hm : ∀ j (hj : j < x.length), x.getD j 0 = x[j] := fun j hj => by rw [List.getD_eq_getElem?_getD, List.getElem?_eq_getElem hj, Option.getD_some]
  refine ⟨h2.2, fun e => ?_, ?_, ?_⟩
  · unfold lastI at e
    rw [hm k (by omega), hm (x.length - 1) (by omega)] at e
    have := (List.getElem_inj hnd).1 e
    omega
  · rcases h2.1 with h3 | h3
    · left
      unfold lastI
      rw [show x.length - 1 = k + 1 by omega]
    · exact .inr h3
  · rw [hm (k + 1) hk]
    exact hb _ (List.getElem_mem hk)
theorem path_way {p : Pl} {x : List Int} (h : pathB p x = true) {bl : List Int} (hb : ∀ y ∈ x, y ∉ bl) : ∀ k, k < x.length → WayT p bl (lastI x) (x.getD 0 0) (x.getD k 0) (tSum p (x.take (k + 1)) - tAt p (x.getD 0 0) + 1)
  | 0, hk => by
    have e : x.take 1 = [x.getD 0 0] := by
      cases x with
      | nil => simp at hk
      | cons y r => rfl
    have e2 : tSum p (x.take (0 + 1)) - tAt p (x.getD 0 0) + 1 = 1 := by
      rw [show (0 + 1) = 1 from rfl, e]; simp [tSum]
    rw [e2]
    exact .start
  | k + 1, hk => by
    have h1 := path_way h hb k (by omega)
    have h2 := WayT.step h1 (path_steps h hb k hk)
    have e2 : tSum p (x.take (k + 1 + 1)) - tAt p (x.getD 0 0) + 1 = tSum p (x.take (k + 1)) - tAt p (x.getD 0 0) + 1 + tAt p (x.getD (k + 1) 0) := by
      rw [tSum_take hk]
      have : x.getD (k + 1) 0 = x[k + 1] := by rw [List.getD_eq_getElem?_getD, List.getElem?_eq_getElem hk, Option.getD_some]
      rw [this]; omega
    rw [e2]
    exact h2
theorem path_all {p : Pl} {x : List Int} (h : pathB p x = true) {bl : List Int} (hb : ∀ y ∈ x, y ∉ bl) : WayT p bl (lastI x) (x.getD 0 0) (lastI x) (tSum p x - tAt p (x.getD 0 0) + 1) := by
  have h2 := ((pathB_iff p _).1 h).1
  have := path_way h hb (x.length - 1) (by omega)
  rw [show x.length - 1 + 1 = x.length by omega, List.take_length] at this
  exact this
theorem path_cut {p : Pl} (hok : OkP p) {src snk cut : List Int} (he : OkE p src snk) (hc : cutB p src snk cut = false) {x : List Int} (h : pathB p x = true) (hf : x.getD 0 0 ∈ src) (ht : lastI x ∈ snk) : ∃ m ∈ cut, m ∈ x := by
  apply Classical.byContradiction
  intro hno
  have hb : ∀ y ∈ x, y ∉ cut := fun y hy hm => hno ⟨y, hm, hy⟩
  have h2 := ((pathB_iff p _).1 h).1
  have hfc : x.getD 0 0 ∉ cut := by
    have e : x.getD 0 0 = x[0]'(by omega) := by rw [List.getD_eq_getElem?_getD, List.getElem?_eq_getElem (by omega), Option.getD_some]
    rw [e]; exact hb _ (List.getElem_mem _)
  have := (cutB_iff hok he.in1).2 ⟨_, ht, way_v he hf hfc ht (path_all h hb)⟩
  rw [hc] at this
  cases this
theorem ways_spec {p : Pl} (hok : OkP p) {f : Nat} {fr : Int} {x : List Int} (hx : x ∈ waysF p f [fr]) : pathB p x = true ∧ x.getD 0 0 = fr ∧ (∀ y ∈ x, inN p.ms.length y = true) ∧ 2 ≤ x.length ∧ x.length ≤ p.ms.length := by
  obtain ⟨h1, t, rfl⟩ := waysF_good p f [fr] x hx
  have hin := path_in hok h1
  exact ⟨h1, rfl, hin, ((pathB_iff p _).1 h1).1, way_nodup_len h1 hin⟩
theorem ways_time {p : Pl} (hck : ckPlant p = 0) {x : List Int} (h : pathB p x = true) : timeV p x = (tSum p x, 0) ∧ 0 ≤ tSum p x ∧ tSum p x ≤ 100000 * x.length := by
  have hok := ckPlant_ok hck
  have hin := path_in hok h
  have he : pathE p x = 0 := by
    rw [pathE_in, if_pos h]
    rw [List.any_eq_false]
    intro y hy
    rw [hin y hy]; simp
  unfold timeV
  rw [if_neg (by simp [hck]), if_neg (by simp [he])]
  exact ⟨rfl, tSum_bd hok hin⟩
def LeastP (p : Pl) (to : Int) (all : List (List Int)) (k : Nat) (a : Int) : Prop :=
  (a = -1 ∧ ∀ i (h : i < all.length), i < k → lastI all[i] ≠ to) ∨ (0 ≤ a ∧ (∃ i, ∃ h : i < all.length, lastI all[i] = to ∧ tSum p all[i] = a) ∧ ∀ i (h : i < all.length), i < k → lastI all[i] = to → a ≤ tSum p all[i])
theorem LeastP.start (p : Pl) (to : Int) (all : List (List Int)) : LeastP p to all 0 (-1) := .inl ⟨rfl, fun _ _ h => absurd h (Nat.not_lt_zero _)⟩
theorem LeastP.skip {p : Pl} {to : Int} {all : List (List Int)} {k : Nat} {a : Int} (h : LeastP p to all k a) (hk : k < all.length) (hn : lastI all[k] ≠ to) : LeastP p to all (k + 1) a := by
  rcases h with ⟨h1, h2⟩ | ⟨h1, h2, h3⟩
  · refine .inl ⟨h1, fun i hi hik => ?_⟩
    by_cases e : i = k
    · subst e; exact hn
    · exact h2 i hi (by omega)
  · refine .inr ⟨h1, h2, fun i hi hik hl => ?_⟩
    by_cases e : i = k
    · subst e; exact absurd hl hn
    · exact h3 i hi (by omega) hl
theorem LeastP.take {p : Pl} {to : Int} {all : List (List Int)} {k : Nat} {a t : Int} (h : LeastP p to all k a) (hk : k < all.length) (hn : lastI all[k] = to) (ht : tSum p all[k] = t) (h0 : 0 ≤ t) (hl : a < 0 ∨ t < a) : LeastP p to all (k + 1) t := by
  refine .inr ⟨h0, ⟨k, hk, hn, ht⟩, fun i hi hik hl2 => ?_⟩
  by_cases e : i = k
  · subst e; omega
  · rcases h with ⟨h1, h2⟩ | ⟨h1, _, h3⟩
    · exact absurd hl2 (h2 i hi (by omega))
    · have := h3 i hi (by omega) hl2
      omega
theorem LeastP.keep {p : Pl} {to : Int} {all : List (List Int)} {k : Nat} {a t : Int} (h : LeastP p to all k a) (hk : k < all.length) (ht : tSum p all[k] = t) (h0 : 0 ≤ a) (hl : ¬ t < a) : LeastP p to all (k + 1) a := by
  rcases h with ⟨h1, h2⟩ | ⟨h1, h2, h3⟩
  · omega
  · refine .inr ⟨h1, h2, fun i hi hik hl2 => ?_⟩
    by_cases e : i = k
    · subst e; omega
    · exact h3 i hi (by omega) hl2
theorem LeastP.bd {p : Pl} {to : Int} {all : List (List Int)} {k : Nat} {a : Int} (h : LeastP p to all k a) (hb : ∀ x ∈ all, tSum p x ≤ 100000000) : -1 ≤ a ∧ a ≤ 100000000 := by
  rcases h with ⟨h1, _⟩ | ⟨h1, ⟨i, hi, _, e⟩, _⟩
  · omega
  · have := hb _ (List.getElem_mem hi)
    omega
theorem menger_route {p : Pl} (hck : ckPlant p = 0) {src snk : List Int} (he : OkE p src snk) {fr to : Int} (hf : fr ∈ src) (ht : to ∈ snk) {f : Nat} (hf2 : p.ms.length ≤ f) (hl : (waysF p f [fr]).length ≤ 500) :
    ∃ L c, RtOut p [] fr to L c ∧ L.length ≤ 64 ∧ ∀ a, LeastP p to (waysF p f [fr]) (waysF p f [fr]).length a → (a < 0 → c = 7) ∧ (0 ≤ a → c = 0 ∧ timeV p L = (a, 0)) := by
  have hok := ckPlant_ok hck
  have hu : unkE p.ms.length [fr, to] = 0 := by
    unfold unkE
    rw [if_neg]
    simp [he.in1 fr hf, he.in2 to ht]
  have hbad := he.good (cut := []) hf ht (by simp) (by simp)
  obtain ⟨L, c, h1, h2⟩ := rt_spec (bl := []) hck hu
  refine ⟨L, c, h1, ?_, fun a ha => ?_⟩
  · rcases h2 with ⟨_, rfl, _⟩ | ⟨_, _, _, _, h3, _⟩
    · simp
    · have := way_nodup_len h3 (path_in hok h3)
      have := hok.le
      omega
  have hpl : pathB p L = true → L.getD 0 0 = fr → 1 ≤ L.length → L ∈ waysF p f [fr] := fun h3 h4 h5 => by
    have h6 := ((pathB_iff p _).1 h3).1
    refine waysF_all f [fr] L (by simp) h3 ?_ (by simp; omega) ?_ hl
    · cases L with
      | nil => simp at h5
      | cons y r =>
        have : y = fr := h4
        subst this
        exact ⟨r, rfl⟩
    · have := way_nodup_len h3 (path_in hok h3)
      simp; omega
  rcases h2 with ⟨hc, hL, h2⟩ | ⟨hc, _, t, h3, h4, _, h6⟩
  · refine ⟨fun _ => hc, fun h0 => ?_⟩
    rcases ha with ⟨e, _⟩ | ⟨_, ⟨i, hi, hla, _⟩, _⟩
    · omega
    · exfalso
      obtain ⟨k1, k2, _, _, _⟩ := ways_spec hok (List.getElem_mem hi)
      have hw := path_all k1 (bl := []) (by simp)
      rw [hla, k2] at hw
      rcases h2 with h2 | h2
      · rw [hbad] at h2; cases h2
      · exact h2 _ hw
  · have hmem := hpl h4 h3.hd h3.len
    obtain ⟨j, hj, hjL⟩ := List.mem_iff_getElem.1 hmem
    have hlast : lastI L = to := h3.last
    obtain ⟨q1, q2, _⟩ := ways_time hck h4
    refine ⟨fun h0 => ?_, fun h0 => ⟨hc, ?_⟩⟩
    · rcases ha with ⟨_, e⟩ | ⟨e, _⟩
      · exact absurd (by rw [hjL]; exact hlast) (e j hj hj)
      · omega
    · rcases ha with ⟨e, _⟩ | ⟨_, ⟨i, hi, hla, hsum⟩, hmin⟩
      · omega
      obtain ⟨k1, k2, _, _, _⟩ := ways_spec hok (List.getElem_mem hi)
      have hw := path_all k1 (bl := []) (by simp)
      rw [hla, k2] at hw
      have h7 := h6 _ hw
      have h8 := hmin j hj hj (by rw [hjL]; exact hlast)
      rw [hjL] at h8
      have h9 := h3.sum
      rw [q1]
      have : tSum p L = a := by omega
      rw [this]
end Go.Proofs.YtahpdkkpnkhnhaaGreatDoor
/- A region that draws its order, of whose head operations one makes memory by itself; the others are quiet in every world that has grown. -/
namespace Go
open Go.RowKit
section
structure AllocFlow (ops : Array Oper) (n b : Nat) (ob : Oper) (W : World) (a0 A : Act) (D : Value → World → Prop) (listed : Array Bool) (a : Act) (w : World) (v : Value) : Prop where
  inv : HeadInv .any ops n listed
  later : Below W.heap.size W w
  size : a.tmps.size = a0.tmps.size
  defers : a.defers = a0.defers
  slot : ∀ j o t, j < n → ops[j]? = some o → o.dst = some t → j ≠ b → a.tmps[t]? = if listed.getD j false = true then A.tmps[t]? else a0.tmps[t]?
  slotb : ∀ t, ob.dst = some t → a.tmps[t]? = if listed.getD b false = true then a0.tmps[t]?.map (fun _ => v) else a0.tmps[t]?
  other : ∀ t, (∀ j o, j < n → ops[j]? = some o → o.dst ≠ some t) → a.tmps[t]? = a0.tmps[t]?
  box : listed.getD b false = true → D v w
variable {P : Program} {l : List Oper} {n b : Nat} {ob : Oper} {W : World} {a0 A : Act} {D : Value → World → Prop} {Q : Exit → Act → World → Prop}
theorem allocflow_run (hB : Region.flowB l.toArray n b = true) (hob : l[b]? = some ob)
    (hq : ∀ Y : Later W, wpQuiet P l.toArray (fun w' => ∃ X : Later2 Y, w' = X.w) (fun a' => a' = A) (headsOf l n b) a0)
    (hb : ∀ w, Below W.heap.size W w → ∃ v w', (execOp A.eval ob).run P w = .ok (.value v) w' ∧ D v w' ∧ Below w.heap.size w w')
    (hBp : ∀ v w w', D v w → Below w.heap.size w w' → D v w')
    (ht : ∀ v w, Below W.heap.size W w → D v w → wpList P l.toArray Q (l.drop n) (A.put ob.dst v) w) :
    ∀ (f : Nat) (U : List Nat) (listed : Array Bool) (a : Act) (w : World) (vb : Value), U.length = f → U.Nodup → (∀ i, i ∈ U ↔ i < n ∧ listed.getD i false = false) →
      AllocFlow l.toArray n b ob W a0 A D listed a w vb → wpAny P .any l.toArray Q (f + (l.toArray.size - n)) listed a w := by
  simp only [Region.flowB, Bool.and_eq_true, decide_eq_true_eq, List.all_eq_true, List.mem_range] at hB
  obtain ⟨⟨⟨⟨⟨⟨⟨⟨⟨hsel, hn⟩, hbn⟩, hsink⟩, hchain⟩, hseq⟩, hedge⟩, hpair⟩, hguard⟩, hblind⟩ := hB
  have hn' : n ≤ l.length := by have h := hn; rw [List.size_toArray] at h; omega
  have hsz : l.toArray.size = l.length := by simp
  have hget : ∀ i : Nat, l.toArray[i]? = l[i]? := fun i => by simp
  have hselect := Region.noSelect_spec hsel
  have hpw : (headsOf l n b).Pairwise (fun o o' => ∀ t, o.dst = some t → o'.dst ≠ some t) := by
    rw [List.pairwise_iff_getElem]
    intro i j hi hj hij t ht
    obtain ⟨i', h1, h2, h3, h4⟩ := headsOf_from hbn hn' (List.getElem?_eq_getElem hi)
    obtain ⟨j', k1, k2, k3, k4⟩ := headsOf_from hbn hn' (List.getElem?_eq_getElem hj)
    exact Region.flowPair_dst (hpair i' h1 j' k1) (by rw [hget]; exact h3) (by rw [hget]; exact k3) (fun e => by subst e; omega) ht
  have hA := quiet_text _ _ (hq ⟨W, Below.refl _ _⟩) hpw
  have hAo : ∀ t, (∀ j o, j < n → l.toArray[j]? = some o → j ≠ b → o.dst ≠ some t) → A.tmps[t]? = a0.tmps[t]? := fun t h => hA.1 t fun o ho => by
    obtain ⟨q, hq'⟩ := List.mem_iff_getElem?.1 ho
    obtain ⟨j, h1, h2, h3, _⟩ := headsOf_from hbn hn' hq'
    exact h j o h1 (by rw [hget]; exact h3) h2
  have hAs := hA.2.1
  have hAd := hA.2.2.1
  have hobA : l.toArray[b]? = some ob := by rw [hget]; exact hob
  intro f
  induction f with
  | zero =>
    intro U listed a w vb hU _ hUm hF
    obtain rfl : U = [] := List.eq_nil_of_length_eq_zero hU
    have hall : ∀ i, i < n → listed.getD i false = true := fun i hi => by
      cases h : listed.getD i false with
      | true => rfl
      | false => have := (hUm i).2 ⟨hi, h⟩; simp at this
    have hl : listed = Region.marked l.toArray.size n := by
      apply Array.ext_getElem?
      intro i
      by_cases hi : i < l.toArray.size
      · have hil : i < listed.size := by rw [hF.inv.size]; exact hi
        have e2 : (Region.marked l.toArray.size n)[i]? = some (decide (i < n)) := by
          rw [List.size_toArray] at hi
          unfold Region.marked
          simp [hi]
        rw [e2, Array.getElem?_eq_getElem hil]
        by_cases hin : i < n
        · have := hall i hin
          simp [hil] at this
          simp [this, hin]
        · have := hF.inv.tail i (by omega) hi
          simp [hil] at this
          simp [this, hin]
      · rw [Array.getElem?_eq_none (by rw [hF.inv.size]; omega), Array.getElem?_eq_none (by rw [List.size_toArray] at hi; unfold Region.marked; simp; omega)]
    have hbt := hall b hbn
    have ha : a = A.put ob.dst vb := by
      have htm : a.tmps = (A.put ob.dst vb).tmps := by
        apply Array.ext_getElem?
        intro t
        rw [put_get]
        by_cases hbd : ob.dst = some t
        · rw [if_pos hbd, hF.slotb t hbd, if_pos hbt]
          by_cases h : t < a0.tmps.size
          · rw [Array.getElem?_eq_getElem h, Array.getElem?_eq_getElem (by rw [hAs]; exact h)]; rfl
          · rw [Array.getElem?_eq_none (by omega), Array.getElem?_eq_none (by rw [hAs]; omega)] <;> rfl
        · rw [if_neg hbd]
          by_cases h : ∃ j o, j < n ∧ l.toArray[j]? = some o ∧ o.dst = some t
          · obtain ⟨j, o, h1, h2, h3⟩ := h
            have hjb : j ≠ b := fun e => by subst e; rw [hobA] at h2; cases h2; exact hbd h3
            rw [hF.slot j o t h1 h2 h3 hjb, if_pos (hall j h1)]
          · have h' : ∀ j o, j < n → l.toArray[j]? = some o → o.dst ≠ some t := fun j o h1 h2 h3 => h ⟨j, o, h1, h2, h3⟩
            rw [hF.other t h', hAo t fun j o h1 h2 _ => h' j o h1 h2]
      have hd : a.defers = (A.put ob.dst vb).defers := by rw [put_defers, hAd, hF.defers]
      cases a; simp only at htm hd; cases hX : A.put ob.dst vb; rw [hX] at htm hd; simp only at htm hd; rw [htm, hd]
    rw [ha]
    have hdl : (l.drop n).length = l.toArray.size - n := by simp
    have := wpAny_of_seq (md := .any) (Q' := Q) (ops := l.toArray) (l.drop n) n listed (A.put ob.dst vb) w (fun j => by simp [List.getElem?_drop]) (by rw [hdl, hl]; exact hseq) (ht vb w hF.later (hF.box hbt))
    rw [hdl] at this
    rwa [Nat.zero_add]
  | succ f ih =>
    intro U listed a w vb hU hnd hUm hF
    obtain ⟨i0, hi0, hleast⟩ := exists_leastM U (fun e => by rw [e] at hU; simp at hU)
    obtain ⟨hi0n, hi0u⟩ := (hUm i0).1 hi0
    have hin : ∀ i, i < n → i < listed.size := fun i hi => by rw [hF.inv.size]; omega
    have hready : i0 ∈ Region.ready .any l.toArray listed := by
      have hlt : i0 < l.toArray.size := by omega
      refine mem_ready.2 ⟨getD_in (hin _ hi0n) hi0u, l.toArray[i0], Array.getElem?_eq_getElem hlt, fun e he hbd => ?_⟩
      have h1 := hedge i0 hi0n
      rw [Array.getElem?_eq_getElem hlt] at h1
      simp only [Array.all_eq_true_iff_forall_mem] at h1
      have h2 := h1 e he
      simp only [hbd, Bool.not_true, Bool.false_or, decide_eq_true_eq] at h2
      cases h : listed.getD e.on false with
      | true => rfl
      | false =>
        have := hleast e.on ((hUm e.on).2 ⟨by omega, h⟩)
        omega
    rw [show f + 1 + (l.toArray.size - n) = (f + (l.toArray.size - n)) + 1 by omega]
    refine ⟨fun h => (by rw [h] at hready; cases hready), fun i hi => ?_⟩
    obtain ⟨hiu, o, ho, hdep⟩ := mem_ready.1 hi
    have hilt : i < n := Nat.lt_of_not_le fun h => tail_waits hsink hchain hn hF.inv _ i0 rfl hi0n (getD_in (hin _ hi0n) hi0u) i h hi
    have hiU : i ∈ U := (hUm i).2 ⟨hilt, getD_both hiu⟩
    have hinv := hF.inv.set hi hilt
    have hlist : ∀ j, (listed.setIfInBounds i true).getD j false = if j = i then true else listed.getD j false := fun j => by
      by_cases h : j = i
      · subst h; rw [if_pos rfl]; simp [hin j hilt]
      · rw [if_neg h, getD_set_ne false (Ne.symm h)]
    have hUm' : ∀ j, j ∈ U.erase i ↔ j < n ∧ (listed.setIfInBounds i true).getD j false = false := fun j => by
      rw [hnd.mem_erase_iff, hUm j, hlist j]
      by_cases h : j = i
      · simp [h]
      · simp [h]
    have hlen' : (U.erase i).length = f := by rw [List.length_erase_of_mem hiU]; omega
    have hnd' := hnd.erase i
    have hseen : ∀ t ∈ o.looksAt l.toArray, ∀ j oj, j < n → l.toArray[j]? = some oj → oj.dst = some t → i ≠ j ∧ j < i ∧ listed.getD j false = true := by
      intro t ht j oj hj hoj hd
      have hne : i ≠ j := fun e => by
        subst e
        rw [ho] at hoj; cases hoj
        exact Region.flowPair_self (hpair i hilt i hilt) ho hd ht
      have h1 := Region.flowPair_looks (hpair i hilt j hj) ho hoj hne hd ht
      obtain ⟨o', ho', e, he, hbd, hon⟩ := Region.waitsFor_spec h1.2
      rw [ho] at ho'; cases ho'
      have := hdep e he hbd
      rw [hon] at this
      exact ⟨hne, h1.1, this⟩
    by_cases hib : i = b
    · subst hib
      rw [hobA] at ho; cases ho
      have hg : ob.guard = none := by rw [hobA] at hguard; simpa using hguard
      obtain ⟨v', w', hrun, hbox, hbel⟩ := hb w hF.later
      have hex : execOp a.eval ob = execOp A.eval ob := (seen_alike (ops := l.toArray) (fun cs bb => hselect i ob cs bb hobA) fun t htl => by
        by_cases h : ∃ j o, j < n ∧ l.toArray[j]? = some o ∧ o.dst = some t
        · obtain ⟨j, oj, h1, h2, h3⟩ := h
          obtain ⟨k1, k2, k3⟩ := hseen t htl j oj h1 h2 h3
          rw [hF.slot j oj t h1 h2 h3 (Ne.symm k1), if_pos k3]
        · have h' : ∀ j o, j < n → l.toArray[j]? = some o → o.dst ≠ some t := fun j o h1 h2 h3 => h ⟨j, o, h1, h2, h3⟩
          rw [hF.other t h', hAo t fun j o h1 h2 _ => h' j o h1 h2]).1
      unfold wpOp
      simp only [hobA]
      rw [if_pos (by simp [Region.wanted, hg])]
      refine .inl ?_
      unfold Oper.wp
      rw [hex, hrun]
      simp only [Oper.upon_value]
      refine ih (U.erase i) _ _ _ v' hlen' hnd' hUm' ⟨hinv, hF.later.trans (hbel.mono hF.later.size), by rw [put_size, hF.size], by rw [put_defers, hF.defers], ?_, ?_, ?_, fun _ => hbox⟩
      · intro j oj t hj hoj hd hjb
        have hne : ob.dst ≠ some t := fun h => Region.flowPair_dst (hpair i hilt j hj) hobA hoj (Ne.symm hjb) h hd
        rw [put_get, if_neg hne, hF.slot j oj t hj hoj hd hjb, hlist j, if_neg hjb]
      · intro t hd
        rw [put_get, if_pos hd, hlist i, if_pos rfl, if_pos rfl, hF.slotb t hd, if_neg (by rw [getD_both hiu]; simp)]
      · intro t h
        rw [put_get, if_neg (h i ob hilt hobA), hF.other t h]
    · have hpos := headsOf_get hbn hn' hilt hib
      have hol : l[i]? = some o := by rw [← hget]; exact ho
      rw [hol] at hpos
      have hsplit : headsOf l n b = (headsOf l n b).take (posOf b i) ++ o :: (headsOf l n b).drop (posOf b i + 1) := by
        have hlt := (List.getElem?_eq_some_iff.1 hpos).1
        have e := (List.getElem?_eq_some_iff.1 hpos).2
        rw [← e, ← List.drop_eq_getElem_cons hlt, List.take_append_drop]
      obtain ⟨_, _, _, htext⟩ := quiet_text _ _ (hq ⟨w, hF.later⟩) hpw
      obtain ⟨ai, v, hy, t1, t2, t3⟩ := htext _ o _ hsplit
      have hal := seen_alike (ops := l.toArray) (o := o) (a := a) (a' := ai) (fun cs bb => hselect i o cs bb ho) fun t htl => by
        by_cases h : ∃ j o, j < n ∧ l.toArray[j]? = some o ∧ o.dst = some t
        · obtain ⟨j, oj, h1, h2, h3⟩ := h
          obtain ⟨k1, k2, k3⟩ := hseen t htl j oj h1 h2 h3
          by_cases hjb : j = b
          · -- nobody else looks at b's yield
            subst hjb
            have h4 := hblind i hilt
            simp only [Bool.or_eq_true, beq_iff_eq, hib, false_or] at h4
            exact absurd htl (Region.blindTo_spec h4 ho h2 h3)
          · rw [hF.slot j oj t h1 h2 h3 hjb, if_pos k3]
            refine (t1 t ⟨oj, ?_, h3⟩).symm
            have hjp := headsOf_get hbn hn' h1 hjb
            rw [← hget, h2] at hjp
            refine List.mem_of_getElem? (i := posOf b j) ?_
            rw [List.getElem?_take, if_pos (by unfold posOf; split <;> split <;> omega)]
            exact hjp
        · have h' : ∀ j o, j < n → l.toArray[j]? = some o → o.dst ≠ some t := fun j o h1 h2 h3 => h ⟨j, o, h1, h2, h3⟩
          rw [hF.other t h']
          refine (t2 t fun p hp => ?_).symm
          obtain ⟨q, hq'⟩ := List.mem_iff_getElem?.1 (List.mem_of_mem_take hp)
          obtain ⟨j, h1, h2, h3, _⟩ := headsOf_from hbn hn' hq'
          exact h' j p h1 (by rw [hget]; exact h3)
      have hy' := hy.of_same hal.1 hal.2
      have hqo := hy'.qOp (K := fun a' => a' = a.put o.dst v) ho rfl
      refine wpOp_of_qOp ⟨⟨w, Below.refl _ _⟩, rfl⟩ ?_ hqo
      rintro a' w' ⟨X, rfl⟩ rfl
      have hX := X.h
      refine ih (U.erase i) _ _ _ vb hlen' hnd' hUm' ⟨hinv, hF.later.trans (hX.mono hF.later.size), by rw [put_size, hF.size], by rw [put_defers, hF.defers], ?_, ?_, ?_, ?_⟩
      · intro j oj t hj hoj hd hjb
        rw [put_get, hlist j]
        by_cases hji : j = i
        · subst hji
          rw [ho] at hoj; cases hoj
          rw [if_pos hd, if_pos rfl, if_pos rfl, hF.slot j o t hj ho hd hjb, if_neg (by rw [getD_both hiu]; simp), t3 t hd]
        · have hne : o.dst ≠ some t := fun h => Region.flowPair_dst (hpair i hilt j hj) ho hoj (Ne.symm hji) h hd
          rw [if_neg hne, if_neg hji, hF.slot j oj t hj hoj hd hjb]
      · intro t hd
        have hne : o.dst ≠ some t := fun h => Region.flowPair_dst (hpair i hilt b hbn) ho hobA hib h hd
        rw [put_get, if_neg hne, hF.slotb t hd, hlist b, if_neg (Ne.symm hib)]
      · intro t h
        rw [put_get, if_neg (h i o hilt ho), hF.other t h]
      · intro h
        rw [hlist b, if_neg (Ne.symm hib)] at h
        exact hBp vb w _ (hF.box h) hX
theorem wp_region_allocflow {id : Nat} (n b : Nat) (ob : Oper) (D : Value → World → Prop) (hm : P.follows .mixedOrders = true) (hB : Region.flowB l.toArray n b = true) (hob : l[b]? = some ob)
    (hBp : ∀ v w w', D v w → Below w.heap.size w w' → D v w')
    (hh : ∃ A, (∀ Y : Later W, wpQuiet P l.toArray (fun w' => ∃ X : Later2 Y, w' = X.w) (fun a' => a' = A) (headsOf l n b) a0) ∧
      (∀ w, Below W.heap.size W w → ∃ v w', (execOp A.eval ob).run P w = .ok (.value v) w' ∧ D v w' ∧ Below w.heap.size w w') ∧
        ∀ v w, Below W.heap.size W w → D v w → wpList P l.toArray Q (l.drop n) (A.put ob.dst v) w) :
    (Code.region id l.toArray true).wp P Q a0 W := by
  obtain ⟨A, hq, hb, ht⟩ := hh
  refine wp_region_any hm ?_
  have hB' := hB
  simp only [Region.flowB, Bool.and_eq_true, decide_eq_true_eq] at hB'
  have hn := hB'.1.1.1.1.1.1.1.1.2
  have inv0 : HeadInv .any l.toArray n (Array.replicate l.toArray.size false) :=
    ⟨by simp, fun j oj _ hl => (by rw [getD_replicate_false] at hl; cases hl), fun t _ ht => getD_in (by simpa using ht) (getD_replicate_false _ _)⟩
  have h := allocflow_run (W := W) (a0 := a0) (A := A) (D := D) (Q := Q) hB hob hq hb hBp ht n (List.range n) (Array.replicate l.toArray.size false) a0 { W with drawn := W.drawn + 1 } undef (by simp) List.nodup_range (fun i => by rw [List.mem_range]; exact ⟨fun h => ⟨h, getD_replicate_false _ _⟩, fun h => h.1⟩)
    ⟨inv0, ⟨rfl, rfl, rfl, Nat.le_refl _, fun _ _ => rfl⟩, rfl, rfl, fun j o t _ _ _ _ => by rw [getD_replicate_false]; rfl, fun t _ => by rw [getD_replicate_false]; rfl, fun _ _ => rfl, fun h => by rw [getD_replicate_false] at h; cases h⟩
  rwa [show n + (l.toArray.size - n) = l.toArray.size by omega] at h
end
end Go
