/- Lemmas on the way to the law PathBottlenecks (part 10): Vi Vj -/
import Derived.Test.YtahpdkkpnkhnhaaGreatDoorPathBottlenecksP09
import Derived.Test.YtahpdkkpnkhnhaaGreatDoorPathBottlenecksP05
import Derived.RegionTactic
import Derived.BigRegion
import Derived.Test.YtahpdkkpnkhnhaaGreatDoorBA03
set_option linter.unusedVariables false
set_option linter.unusedSimpArgs false

/- Walks: the network of the reference. -/
namespace Go.Proofs.YtahpdkkpnkhnhaaGreatDoor
open Go Go.Proofs Go.RowKit Go.Shelf
def Ed.enc (e : Ed) : List Value := [.int .i64 e.u, .int .i64 e.v, .int .i64 1]
theorem Ed.enc_len (e : Ed) : e.enc.length = 3 := rfl
theorem Ed.enc_one (e : Ed) : ∀ u ∈ e.enc, u.oneCell' = true := by
  intro u hu
  simp only [Ed.enc, List.mem_cons, List.not_mem_nil, or_false] at hu
  rcases hu with rfl | rfl | rfl <;> rfl
theorem Tryz.und154 : Tryz.prog.underlying 154 = some (.slice 181) := by kernel_rfl
theorem Tryz.inf181 : (Tryz.prog.info? 181).map (fun i => (i.zero, i.size, i.bytes)) = some (some (.agg #[.int .i64 0, .int .i64 0, .int .i64 0]), 3, 24) := by kernel_rfl
def EdP (w : World) (p : Pl) (src snk : List Int) (e : Ending) (w' : World) : Prop := ∃ v, e = .returned v ∧ Own Ed.enc 3 181 w' w.heap.size v (edgesL p src snk) ∧ Below w.heap.size w w'
theorem mE_bools (p : Pl) (src snk : List Int) (i : Nat) {A B C : Bool} (h1 : cvB (kdA p (i : Int)) = A) (h2 : src.contains (i : Int) = B) (h3 : snk.contains (i : Int) = C) :
    mE p src snk i = (if (A || B || C) = true then [⟨2 * i, 2 * i + 1⟩] else []) ++ (if B = true then [⟨2 * p.ms.length, 2 * i⟩] else []) ++ (if C = true then [⟨2 * i + 1, 2 * p.ms.length + 1⟩] else []) := by
  unfold mE; rw [h1, h2, h3]
set_option maxRecDepth 100000 in
set_option maxHeartbeats 4000000 in
theorem edges124 (w : World) (v1 v2 s t : Value) (p : Pl) (src snk : List Int) (hv : PlR w w.heap.size v1 v2 p) (hok : OkP p) (hs : Sl encI 1 w w.heap.size s src) (ht : Sl encI 1 w w.heap.size t snk) :
    Calls Tryz.prog 124 #[.agg #[v1, v2], s, t] w (EdP w p src snk) := by
  have C24 := Lib.hid (fun (w1 : World) (hb : Below w.heap.size w w1) (x : Int) => in24 s src x w1 (hs.later hb))
  have D24 := Lib.hid (fun (w1 : World) (hb : Below w.heap.size w w1) (x : Int) => in24 t snk x w1 (ht.later hb))
  have HOK := Lib.hid hok
  have hn64 := hok.le
  have hna := hok.ale
  obtain ⟨⟨a1, n1, rfl, ⟨hl1, _⟩, hA1⟩, ⟨a2, n2, rfl, ⟨hl2, _⟩, hA2⟩⟩ := hv
  obtain ⟨b1, off1, rfl, hbb1, hat⟩ := hA1 hok.pos
  obtain ⟨sa, cs, rfl, _, _⟩ := id hs
  obtain ⟨ta, ct, rfl, _, _⟩ := id ht
  have HA2 := Lib.hid hA2
  have HAT := Lib.hid hat
  clear hA1 hA2 hat hs ht hok
  obtain ⟨Q, hQ⟩ : ∃ Q, EdP w p src snk = Q := ⟨_, rfl⟩
  rw [hQ]
  have HQ : Hid (∀ v w', Own Ed.enc 3 181 w' w.heap.size v (edgesL p src snk) → Below w.heap.size w w' → Q (.returned v) w') := Lib.hid (fun v w' h1 h2 => by rw [← hQ]; exact ⟨v, rfl, h1, h2⟩)
  clear hQ
  obtain ⟨n, hn⟩ : ∃ n, p.ms.length = n := ⟨_, rfl⟩
  obtain ⟨m, hm⟩ : ∃ n, p.arcs.length = n := ⟨_, rfl⟩
  obtain ⟨ns, hns⟩ : ∃ n, src.length = n := ⟨_, rfl⟩
  obtain ⟨nt, hnt⟩ : ∃ n, snk.length = n := ⟨_, rfl⟩
  rw [hn] at hn64 hl1
  rw [hm] at hna hl2
  rw [hns] at C24
  rw [hnt] at D24
  rw [hn, hm, hns, hnt]
  have HN := Lib.hid hn
  have HM := Lib.hid hm
  clear hn hm hns hnt
  have HB := Lib.hid ((Below.refl w.heap.size w).alloc (Nat.le_refl _) (.cells #[.slice (some ⟨b1, off1, none⟩) n n1, .slice a2 m n2] 25))
  have HX := Lib.hid (Box.new w #[.slice (some ⟨b1, off1, none⟩) n n1, .slice a2 m n2] 25)
  have HT : Hid (Tryz.prog.underlying 154 = some (.slice 181)) := Lib.hid Tryz.und154
  have HI := Lib.hid Tryz.inf181
  have HML := Lib.hid (show ∀ k, (edgesM p src snk k).length ≤ 3 * k by
    intro k
    induction k with
    | zero => simp [edgesM]
    | succ k ih =>
      rw [edgesM_succ, List.length_append]
      have : (mE p src snk k).length ≤ 3 := by
        rw [mE_bools p src snk k rfl rfl rfl]
        generalize cvB (kdA p (k : Int)) = a
        generalize src.contains (k : Int) = b
        generalize snk.contains (k : Int) = c
        cases a <;> cases b <;> cases c <;> simp
      omega)
  go_enter Tryz.func124, Tryz.ntmps124
  go_wp2_with fail
  generalize w.alloc (.cells #[.slice (some ⟨b1, off1, none⟩) n n1, .slice a2 m n2] 25) = W1 at *
  go_loopw [8, 9] (fun v i wr => ∃ k : Nat, k ≤ n ∧ i = .int .i64 k ∧ Own Ed.enc 3 181 wr W1.heap.size v (edgesM p src snk k) ∧ Below W1.heap.size W1 wr) (fun _ i _ => n - (intOf i).toNat)
  case atStart => exact ⟨0, by omega, rfl, Own.nil _ _ _ _ _, Below.refl _ _⟩
  case round =>
    obtain ⟨k, hk, rfl, hown, hbe⟩ := hrel
    have HBE := Lib.hid hbe
    have HOV := Lib.hid hown
    have HX1 := Lib.hid (HX.out.later hbe)
    have HBW := Lib.hid (HB.out.trans (hbe.mono HB.out.size))
    obtain ⟨x0, x1, xf, xz⟩ := HX1.out.v2
    clear hown hbe
    by_cases hlt : k < n
    rotate_left
    · obtain rfl : n = k := by omega
      clear x0 x1 xf xz
      have HBN := Lib.hid HBE.out
      generalize wr = W2 at *
      go_wp2_with fail
      go_loopw [8, 10] (fun v i wr => ∃ k : Nat, k ≤ m ∧ i = .int .i64 k ∧ Own Ed.enc 3 181 wr W1.heap.size v (edgesM p src snk n ++ edgesA p src snk k) ∧ Below W1.heap.size W1 wr) (fun _ i _ => m - (intOf i).toNat)
      case atStart => exact ⟨0, by omega, rfl, by rw [show edgesA p src snk 0 = [] by simp [edgesA], List.append_nil]; exact HOV.out, HBE.out⟩
      case round =>
        clear HOV HBE HX1 HBW
        obtain ⟨k, hk2, rfl, hown, hbe⟩ := hrel
        have HBE := Lib.hid hbe
        have HOV := Lib.hid hown
        have HX1 := Lib.hid (HX.out.later hbe)
        have HBW := Lib.hid (HB.out.trans (hbe.mono HB.out.size))
        obtain ⟨x0, x1, xf, xz⟩ := HX1.out.v2
        clear hown hbe
        by_cases hlt : k < m
        rotate_left
        · obtain rfl : m = k := by omega
          have HF := Lib.hid (show Own Ed.enc 3 181 wr w.heap.size _ (edgesL p src snk) from by
            have h := HOV.out.lower HB.out.size
            rw [← HN.out, ← HM.out] at h
            exact h)
          go_wp2_with fail
          exact HQ.out _ _ HF.out HBW.out
        have hka : k < p.arcs.length := by rw [HM.out]; exact hlt
        obtain ⟨b2, off2, rfl, hbb2, hat2⟩ := HA2.out (by omega)
        obtain ⟨q0, q1⟩ := ((hat2 k hka).below HBW.out hbb2).c2
        have hb2z : b2 < wr.heap.size := Nat.lt_of_lt_of_le hbb2 HBW.out.size
        have hins := HOK.out.ins _ (List.getElem_mem hka)
        have HES := Lib.hid (edgesA_succ p src snk k hka)
        have HLK : Hid ((edgesM p src snk n ++ edgesA p src snk k).length ≤ 1000000) := Lib.hid (by
          have h1 := HML.out n
          have h2 : (edgesA p src snk k).length ≤ k := by
            unfold edgesA
            rw [List.length_map]
            exact Nat.le_trans (List.length_filter_le _ _) (List.length_take_le _ _)
          rw [List.length_append]; omega)
        obtain ⟨⟨fr, to⟩, har⟩ : ∃ a, p.arcs[k] = a := ⟨_, rfl⟩
        rw [har] at q0 q1 hins HES
        obtain ⟨i1, i2, _⟩ := hins
        obtain ⟨f0, f1⟩ := inN_lt i1
        obtain ⟨t0, t1⟩ := inN_lt i2
        rw [HN.out] at f0 t0
        dsimp only at f0 f1 t0 t1 q0 q1
        unfold keepA aE at HES
        dsimp only at HES
        obtain ⟨j1, hj1⟩ : ∃ j, 2 * fr.toNat + 1 = j := ⟨_, rfl⟩
        obtain ⟨j0, hj0⟩ : ∃ j, 2 * to.toNat = j := ⟨_, rfl⟩
        rw [hj0, hj1] at HES
        have k1 : IntKind.i64.wrap (2 * fr) = 2 * fr := IntWalk.i64_in _ (by omega)
        have k2 : IntKind.i64.wrap (2 * fr + 1) = (j1 : Int) := by rw [IntWalk.i64_in _ (by omega)]; omega
        have k3 : IntKind.i64.wrap (2 * to) = (j0 : Int) := by rw [IntWalk.i64_in _ (by omega)]; omega
        have K1 := Lib.hid (fun w1 hb => C24.out w1 hb to)
        have K2 := Lib.hid (fun w1 hb => D24.out w1 hb fr)
        obtain ⟨q, hq⟩ : ∃ q, src.contains to = q := ⟨_, rfl⟩
        obtain ⟨q', hq'⟩ : ∃ q, snk.contains fr = q := ⟨_, rfl⟩
        rw [hq] at K1 HES
        rw [hq'] at K2 HES
        clear hq hq' hat2 har i1 i2 hj0 hj1
        go_wp2_with fail
        go_quiet (fail)
        have HX3 := Lib.hid (HX1.out.later (below_drewN (Below.refl _ _) nq))
        have HBE3 := Lib.hid (HBE.out.trans ((below_drewN (Below.refl _ _) nq).mono HBE.out.size))
        have HBW3 := Lib.hid (HBW.out.trans ((below_drewN (Below.refl _ _) nq).mono HBW.out.size))
        have HOV3 := Lib.hid (HOV.out.later (below_drewN (Below.refl _ _) nq))
        clear q0 q1 hb2z x0 x1 xf xz HX1 HBE HBW HOV
        generalize wr.drewN nq = W3 at *
        cases q' with
        | true =>
          have HV := Lib.hid (show edgesA p src snk (k + 1) = edgesA p src snk k from HES.out)
          go_wp2_with fail
          refine (K2.out _ HBW3.out).mono ?_
          rintro e wx ⟨rfl, rfl⟩
          go_wp2_with fail
          go_roundw
          case rel => exact ⟨k + 1, by omega, by go_num, by rw [HV.out]; exact HOV3.out, HBE3.out⟩
          case measure => simp [intOf]; omega
        | false =>
        cases q with
        | true =>
          have HV := Lib.hid (show edgesA p src snk (k + 1) = edgesA p src snk k from HES.out)
          go_wp2_with fail
          refine (K2.out _ HBW3.out).mono ?_
          rintro e wx ⟨rfl, rfl⟩
          go_wp2_with fail
          refine (K1.out _ HBW3.out).mono ?_
          rintro e wx ⟨rfl, rfl⟩
          go_wp2_with fail
          go_roundw
          case rel => exact ⟨k + 1, by omega, by go_num, by rw [HV.out]; exact HOV3.out, HBE3.out⟩
          case measure => simp [intOf]; omega
        | false =>
          have HV := Lib.hid (show edgesA p src snk (k + 1) = edgesA p src snk k ++ [⟨j1, j0⟩] from HES.out)
          go_wp2_with fail
          refine (K2.out _ HBW3.out).mono ?_
          rintro e wx ⟨rfl, rfl⟩
          go_wp2_with fail
          refine (K1.out _ HBW3.out).mono ?_
          rintro e wx ⟨rfl, rfl⟩
          go_wp2_with (at_builtin; refine wpList_push Ed.enc 3 24 154 181 _ HT.out HI.out rfl (by decide) (by decide) Ed.enc_len Ed.enc_one _ (⟨j1, j0⟩ : Ed) W1.heap.size _ _ rfl _ HOV3.out HBE3.out.size HLK.out rfl _ _ rfl rfl rfl ?_; intro v' w' hown' hg'; have HOW := Lib.hid hown'; have HGR := Lib.hid (grown_below HBE3.out hg' HBE3.out.size (HOV3.out.lt') (Nat.le_refl _)); clear hown' hg')
          go_roundw
          case rel => exact ⟨k + 1, by omega, by go_num, by rw [HV.out, ← List.append_assoc]; exact HOW.out, HGR.out⟩
          case measure => simp [intOf]; omega
    have hkn : k < p.ms.length := by rw [HN.out]; exact hlt
    obtain ⟨q0, q1⟩ := ((HAT.out k hkn).below HBW.out hbb1).c2
    have hb1z : b1 < wr.heap.size := Nat.lt_of_lt_of_le hbb1 HBW.out.size
    obtain ⟨j0, hj0⟩ : ∃ j, 2 * k = j := ⟨_, rfl⟩
    obtain ⟨j1, hj1⟩ : ∃ j, 2 * k + 1 = j := ⟨_, rfl⟩
    obtain ⟨N0, hN0⟩ : ∃ j, 2 * n = j := ⟨_, rfl⟩
    obtain ⟨N1, hN1⟩ : ∃ j, 2 * n + 1 = j := ⟨_, rfl⟩
    have k1 : IntKind.i64.wrap (2 * (k : Int)) = (j0 : Int) := by rw [IntWalk.i64_in _ (by omega)]; omega
    have k2 : IntKind.i64.wrap ((j0 : Int) + 1) = (j1 : Int) := by rw [IntWalk.i64_in _ (by omega)]; omega
    have k3 : IntKind.i64.wrap (2 * (n : Int)) = (N0 : Int) := by rw [IntWalk.i64_in _ (by omega)]; omega
    have k4 : IntKind.i64.wrap ((N0 : Int) + 1) = (N1 : Int) := by rw [IntWalk.i64_in _ (by omega)]; omega
    obtain ⟨A, hA⟩ : ∃ q, cvB (kdA p (k : Int)) = q := ⟨_, rfl⟩
    obtain ⟨B, hB⟩ : ∃ q, src.contains (k : Int) = q := ⟨_, rfl⟩
    obtain ⟨C, hC⟩ : ∃ q, snk.contains (k : Int) = q := ⟨_, rfl⟩
    have HES := Lib.hid ((edgesM_succ p src snk k).trans (congrArg (edgesM p src snk k ++ ·) (mE_bools p src snk k hA hB hC)))
    rw [HN.out, hj1, hj0, hN1, hN0] at HES
    have K42 := Lib.hid (fun w1 => isConveyor42 p.ms[k].kind w1)
    have hka : kdA p (k : Int) = p.ms[k].kind := kdA_nat hkn
    rw [← hka, hA] at K42
    rw [← hka] at q0
    have K1 := Lib.hid (fun w1 hb => C24.out w1 hb (k : Int))
    have K2 := Lib.hid (fun w1 hb => D24.out w1 hb (k : Int))
    rw [hB] at K1
    rw [hC] at K2
    have HLK := Lib.hid (HML.out k)
    generalize kdA p (k : Int) = kd at *
    generalize edgesM p src snk k = LL at *
    clear hA hB hC hj0 hj1 hN0 hN1 hka
    have hk64 : (k : Int) < (n : Int) := by omega
    cases A with
    | false =>
      cases B with
      | false =>
        cases C with
        | false =>
          go_wp2_with fail
          refine (K42.out _).mono ?_
          rintro e wx ⟨rfl, rfl⟩
          go_wp2_with fail
          refine (K1.out _ HBW.out).mono ?_
          rintro e wx ⟨rfl, rfl⟩
          go_wp2_with fail
          refine (K2.out _ HBW.out).mono ?_
          rintro e wx ⟨rfl, rfl⟩
          go_wp2_with fail
          refine (K1.out _ HBW.out).mono ?_
          rintro e wx ⟨rfl, rfl⟩
          go_wp2_with fail
          refine (K2.out _ HBW.out).mono ?_
          rintro e wx ⟨rfl, rfl⟩
          go_wp2_with fail
          go_roundw
          case rel => exact ⟨k + 1, by omega, by go_num, by rw [HES.out]; simpa using HOV.out, HBE.out⟩
          case measure => simp [intOf]; omega
        | true =>
          go_wp2_with fail
          refine (K42.out _).mono ?_
          rintro e wx ⟨rfl, rfl⟩
          go_wp2_with fail
          refine (K1.out _ HBW.out).mono ?_
          rintro e wx ⟨rfl, rfl⟩
          go_wp2_with fail
          refine (K2.out _ HBW.out).mono ?_
          rintro e wx ⟨rfl, rfl⟩
          go_wp2_with (at_builtin; refine wpList_push Ed.enc 3 24 154 181 _ HT.out HI.out rfl (by decide) (by decide) Ed.enc_len Ed.enc_one _ (⟨j0, j1⟩ : Ed) W1.heap.size _ _ rfl _ HOV.out HBE.out.size (by have h1 := HLK.out; (try simp only [List.length_append, List.length_singleton]); omega) rfl _ _ rfl rfl rfl ?_; intro v' w' hown' hg'; have HBEn := Lib.hid (grown_below HBE.out hg' HBE.out.size (HOV.out.lt') (Nat.le_refl _)); have HBWn := Lib.hid (HB.out.trans (HBEn.out.mono HB.out.size)); clear HOV HBE HBW; have HOV := Lib.hid hown'; have HBE := HBEn; have HBW := HBWn; clear hown' hg' HBEn HBWn)
          refine (K1.out _ HBW.out).mono ?_
          rintro e wx ⟨rfl, rfl⟩
          go_wp2_with fail
          refine (K2.out _ HBW.out).mono ?_
          rintro e wx ⟨rfl, rfl⟩
          go_wp2_with (at_builtin; refine wpList_push Ed.enc 3 24 154 181 _ HT.out HI.out rfl (by decide) (by decide) Ed.enc_len Ed.enc_one _ (⟨j1, N1⟩ : Ed) W1.heap.size _ _ rfl _ HOV.out HBE.out.size (by have h1 := HLK.out; (try simp only [List.length_append, List.length_singleton]); omega) rfl _ _ rfl rfl rfl ?_; intro v' w' hown' hg'; have HBEn := Lib.hid (grown_below HBE.out hg' HBE.out.size (HOV.out.lt') (Nat.le_refl _)); have HBWn := Lib.hid (HB.out.trans (HBEn.out.mono HB.out.size)); clear HOV HBE HBW; have HOV := Lib.hid hown'; have HBE := HBEn; have HBW := HBWn; clear hown' hg' HBEn HBWn)
          go_roundw
          case rel => exact ⟨k + 1, by omega, by go_num, by rw [HES.out]; simpa using HOV.out, HBE.out⟩
          case measure => simp [intOf]; omega
      | true =>
        cases C with
        | false =>
          go_wp2_with fail
          refine (K42.out _).mono ?_
          rintro e wx ⟨rfl, rfl⟩
          go_wp2_with fail
          refine (K1.out _ HBW.out).mono ?_
          rintro e wx ⟨rfl, rfl⟩
          go_wp2_with (at_builtin; refine wpList_push Ed.enc 3 24 154 181 _ HT.out HI.out rfl (by decide) (by decide) Ed.enc_len Ed.enc_one _ (⟨j0, j1⟩ : Ed) W1.heap.size _ _ rfl _ HOV.out HBE.out.size (by have h1 := HLK.out; (try simp only [List.length_append, List.length_singleton]); omega) rfl _ _ rfl rfl rfl ?_; intro v' w' hown' hg'; have HBEn := Lib.hid (grown_below HBE.out hg' HBE.out.size (HOV.out.lt') (Nat.le_refl _)); have HBWn := Lib.hid (HB.out.trans (HBEn.out.mono HB.out.size)); clear HOV HBE HBW; have HOV := Lib.hid hown'; have HBE := HBEn; have HBW := HBWn; clear hown' hg' HBEn HBWn)
          refine (K1.out _ HBW.out).mono ?_
          rintro e wx ⟨rfl, rfl⟩
          go_wp2_with (at_builtin; refine wpList_push Ed.enc 3 24 154 181 _ HT.out HI.out rfl (by decide) (by decide) Ed.enc_len Ed.enc_one _ (⟨N0, j0⟩ : Ed) W1.heap.size _ _ rfl _ HOV.out HBE.out.size (by have h1 := HLK.out; (try simp only [List.length_append, List.length_singleton]); omega) rfl _ _ rfl rfl rfl ?_; intro v' w' hown' hg'; have HBEn := Lib.hid (grown_below HBE.out hg' HBE.out.size (HOV.out.lt') (Nat.le_refl _)); have HBWn := Lib.hid (HB.out.trans (HBEn.out.mono HB.out.size)); clear HOV HBE HBW; have HOV := Lib.hid hown'; have HBE := HBEn; have HBW := HBWn; clear hown' hg' HBEn HBWn)
          refine (K2.out _ HBW.out).mono ?_
          rintro e wx ⟨rfl, rfl⟩
          go_wp2_with fail
          go_roundw
          case rel => exact ⟨k + 1, by omega, by go_num, by rw [HES.out]; simpa using HOV.out, HBE.out⟩
          case measure => simp [intOf]; omega
        | true =>
          go_wp2_with fail
          refine (K42.out _).mono ?_
          rintro e wx ⟨rfl, rfl⟩
          go_wp2_with fail
          refine (K1.out _ HBW.out).mono ?_
          rintro e wx ⟨rfl, rfl⟩
          go_wp2_with (at_builtin; refine wpList_push Ed.enc 3 24 154 181 _ HT.out HI.out rfl (by decide) (by decide) Ed.enc_len Ed.enc_one _ (⟨j0, j1⟩ : Ed) W1.heap.size _ _ rfl _ HOV.out HBE.out.size (by have h1 := HLK.out; (try simp only [List.length_append, List.length_singleton]); omega) rfl _ _ rfl rfl rfl ?_; intro v' w' hown' hg'; have HBEn := Lib.hid (grown_below HBE.out hg' HBE.out.size (HOV.out.lt') (Nat.le_refl _)); have HBWn := Lib.hid (HB.out.trans (HBEn.out.mono HB.out.size)); clear HOV HBE HBW; have HOV := Lib.hid hown'; have HBE := HBEn; have HBW := HBWn; clear hown' hg' HBEn HBWn)
          refine (K1.out _ HBW.out).mono ?_
          rintro e wx ⟨rfl, rfl⟩
          go_wp2_with (at_builtin; refine wpList_push Ed.enc 3 24 154 181 _ HT.out HI.out rfl (by decide) (by decide) Ed.enc_len Ed.enc_one _ (⟨N0, j0⟩ : Ed) W1.heap.size _ _ rfl _ HOV.out HBE.out.size (by have h1 := HLK.out; (try simp only [List.length_append, List.length_singleton]); omega) rfl _ _ rfl rfl rfl ?_; intro v' w' hown' hg'; have HBEn := Lib.hid (grown_below HBE.out hg' HBE.out.size (HOV.out.lt') (Nat.le_refl _)); have HBWn := Lib.hid (HB.out.trans (HBEn.out.mono HB.out.size)); clear HOV HBE HBW; have HOV := Lib.hid hown'; have HBE := HBEn; have HBW := HBWn; clear hown' hg' HBEn HBWn)
          refine (K2.out _ HBW.out).mono ?_
          rintro e wx ⟨rfl, rfl⟩
          go_wp2_with (at_builtin; refine wpList_push Ed.enc 3 24 154 181 _ HT.out HI.out rfl (by decide) (by decide) Ed.enc_len Ed.enc_one _ (⟨j1, N1⟩ : Ed) W1.heap.size _ _ rfl _ HOV.out HBE.out.size (by have h1 := HLK.out; (try simp only [List.length_append, List.length_singleton]); omega) rfl _ _ rfl rfl rfl ?_; intro v' w' hown' hg'; have HBEn := Lib.hid (grown_below HBE.out hg' HBE.out.size (HOV.out.lt') (Nat.le_refl _)); have HBWn := Lib.hid (HB.out.trans (HBEn.out.mono HB.out.size)); clear HOV HBE HBW; have HOV := Lib.hid hown'; have HBE := HBEn; have HBW := HBWn; clear hown' hg' HBEn HBWn)
          go_roundw
          case rel => exact ⟨k + 1, by omega, by go_num, by rw [HES.out]; simpa using HOV.out, HBE.out⟩
          case measure => simp [intOf]; omega
    | true =>
      cases B with
      | false =>
        cases C with
        | false =>
          go_wp2_with fail
          refine (K42.out _).mono ?_
          rintro e wx ⟨rfl, rfl⟩
          go_wp2_with (at_builtin; refine wpList_push Ed.enc 3 24 154 181 _ HT.out HI.out rfl (by decide) (by decide) Ed.enc_len Ed.enc_one _ (⟨j0, j1⟩ : Ed) W1.heap.size _ _ rfl _ HOV.out HBE.out.size (by have h1 := HLK.out; (try simp only [List.length_append, List.length_singleton]); omega) rfl _ _ rfl rfl rfl ?_; intro v' w' hown' hg'; have HBEn := Lib.hid (grown_below HBE.out hg' HBE.out.size (HOV.out.lt') (Nat.le_refl _)); have HBWn := Lib.hid (HB.out.trans (HBEn.out.mono HB.out.size)); clear HOV HBE HBW; have HOV := Lib.hid hown'; have HBE := HBEn; have HBW := HBWn; clear hown' hg' HBEn HBWn)
          refine (K1.out _ HBW.out).mono ?_
          rintro e wx ⟨rfl, rfl⟩
          go_wp2_with fail
          refine (K2.out _ HBW.out).mono ?_
          rintro e wx ⟨rfl, rfl⟩
          go_wp2_with fail
          go_roundw
          case rel => exact ⟨k + 1, by omega, by go_num, by rw [HES.out]; simpa using HOV.out, HBE.out⟩
          case measure => simp [intOf]; omega
        | true =>
          go_wp2_with fail
          refine (K42.out _).mono ?_
          rintro e wx ⟨rfl, rfl⟩
          go_wp2_with (at_builtin; refine wpList_push Ed.enc 3 24 154 181 _ HT.out HI.out rfl (by decide) (by decide) Ed.enc_len Ed.enc_one _ (⟨j0, j1⟩ : Ed) W1.heap.size _ _ rfl _ HOV.out HBE.out.size (by have h1 := HLK.out; (try simp only [List.length_append, List.length_singleton]); omega) rfl _ _ rfl rfl rfl ?_; intro v' w' hown' hg'; have HBEn := Lib.hid (grown_below HBE.out hg' HBE.out.size (HOV.out.lt') (Nat.le_refl _)); have HBWn := Lib.hid (HB.out.trans (HBEn.out.mono HB.out.size)); clear HOV HBE HBW; have HOV := Lib.hid hown'; have HBE := HBEn; have HBW := HBWn; clear hown' hg' HBEn HBWn)
          refine (K1.out _ HBW.out).mono ?_
          rintro e wx ⟨rfl, rfl⟩
          go_wp2_with fail
          refine (K2.out _ HBW.out).mono ?_
          rintro e wx ⟨rfl, rfl⟩
          go_wp2_with (at_builtin; refine wpList_push Ed.enc 3 24 154 181 _ HT.out HI.out rfl (by decide) (by decide) Ed.enc_len Ed.enc_one _ (⟨j1, N1⟩ : Ed) W1.heap.size _ _ rfl _ HOV.out HBE.out.size (by have h1 := HLK.out; (try simp only [List.length_append, List.length_singleton]); omega) rfl _ _ rfl rfl rfl ?_; intro v' w' hown' hg'; have HBEn := Lib.hid (grown_below HBE.out hg' HBE.out.size (HOV.out.lt') (Nat.le_refl _)); have HBWn := Lib.hid (HB.out.trans (HBEn.out.mono HB.out.size)); clear HOV HBE HBW; have HOV := Lib.hid hown'; have HBE := HBEn; have HBW := HBWn; clear hown' hg' HBEn HBWn)
          go_roundw
          case rel => exact ⟨k + 1, by omega, by go_num, by rw [HES.out]; simpa using HOV.out, HBE.out⟩
          case measure => simp [intOf]; omega
      | true =>
        cases C with
        | false =>
          go_wp2_with fail
          refine (K42.out _).mono ?_
          rintro e wx ⟨rfl, rfl⟩
          go_wp2_with (at_builtin; refine wpList_push Ed.enc 3 24 154 181 _ HT.out HI.out rfl (by decide) (by decide) Ed.enc_len Ed.enc_one _ (⟨j0, j1⟩ : Ed) W1.heap.size _ _ rfl _ HOV.out HBE.out.size (by have h1 := HLK.out; (try simp only [List.length_append, List.length_singleton]); omega) rfl _ _ rfl rfl rfl ?_; intro v' w' hown' hg'; have HBEn := Lib.hid (grown_below HBE.out hg' HBE.out.size (HOV.out.lt') (Nat.le_refl _)); have HBWn := Lib.hid (HB.out.trans (HBEn.out.mono HB.out.size)); clear HOV HBE HBW; have HOV := Lib.hid hown'; have HBE := HBEn; have HBW := HBWn; clear hown' hg' HBEn HBWn)
          refine (K1.out _ HBW.out).mono ?_
          rintro e wx ⟨rfl, rfl⟩
          go_wp2_with (at_builtin; refine wpList_push Ed.enc 3 24 154 181 _ HT.out HI.out rfl (by decide) (by decide) Ed.enc_len Ed.enc_one _ (⟨N0, j0⟩ : Ed) W1.heap.size _ _ rfl _ HOV.out HBE.out.size (by have h1 := HLK.out; (try simp only [List.length_append, List.length_singleton]); omega) rfl _ _ rfl rfl rfl ?_; intro v' w' hown' hg'; have HBEn := Lib.hid (grown_below HBE.out hg' HBE.out.size (HOV.out.lt') (Nat.le_refl _)); have HBWn := Lib.hid (HB.out.trans (HBEn.out.mono HB.out.size)); clear HOV HBE HBW; have HOV := Lib.hid hown'; have HBE := HBEn; have HBW := HBWn; clear hown' hg' HBEn HBWn)
          refine (K2.out _ HBW.out).mono ?_
          rintro e wx ⟨rfl, rfl⟩
          go_wp2_with fail
          go_roundw
          case rel => exact ⟨k + 1, by omega, by go_num, by rw [HES.out]; simpa using HOV.out, HBE.out⟩
          case measure => simp [intOf]; omega
        | true =>
          go_wp2_with fail
          refine (K42.out _).mono ?_
          rintro e wx ⟨rfl, rfl⟩
          go_wp2_with (at_builtin; refine wpList_push Ed.enc 3 24 154 181 _ HT.out HI.out rfl (by decide) (by decide) Ed.enc_len Ed.enc_one _ (⟨j0, j1⟩ : Ed) W1.heap.size _ _ rfl _ HOV.out HBE.out.size (by have h1 := HLK.out; (try simp only [List.length_append, List.length_singleton]); omega) rfl _ _ rfl rfl rfl ?_; intro v' w' hown' hg'; have HBEn := Lib.hid (grown_below HBE.out hg' HBE.out.size (HOV.out.lt') (Nat.le_refl _)); have HBWn := Lib.hid (HB.out.trans (HBEn.out.mono HB.out.size)); clear HOV HBE HBW; have HOV := Lib.hid hown'; have HBE := HBEn; have HBW := HBWn; clear hown' hg' HBEn HBWn)
          refine (K1.out _ HBW.out).mono ?_
          rintro e wx ⟨rfl, rfl⟩
          go_wp2_with (at_builtin; refine wpList_push Ed.enc 3 24 154 181 _ HT.out HI.out rfl (by decide) (by decide) Ed.enc_len Ed.enc_one _ (⟨N0, j0⟩ : Ed) W1.heap.size _ _ rfl _ HOV.out HBE.out.size (by have h1 := HLK.out; (try simp only [List.length_append, List.length_singleton]); omega) rfl _ _ rfl rfl rfl ?_; intro v' w' hown' hg'; have HBEn := Lib.hid (grown_below HBE.out hg' HBE.out.size (HOV.out.lt') (Nat.le_refl _)); have HBWn := Lib.hid (HB.out.trans (HBEn.out.mono HB.out.size)); clear HOV HBE HBW; have HOV := Lib.hid hown'; have HBE := HBEn; have HBW := HBWn; clear hown' hg' HBEn HBWn)
          refine (K2.out _ HBW.out).mono ?_
          rintro e wx ⟨rfl, rfl⟩
          go_wp2_with (at_builtin; refine wpList_push Ed.enc 3 24 154 181 _ HT.out HI.out rfl (by decide) (by decide) Ed.enc_len Ed.enc_one _ (⟨j1, N1⟩ : Ed) W1.heap.size _ _ rfl _ HOV.out HBE.out.size (by have h1 := HLK.out; (try simp only [List.length_append, List.length_singleton]); omega) rfl _ _ rfl rfl rfl ?_; intro v' w' hown' hg'; have HBEn := Lib.hid (grown_below HBE.out hg' HBE.out.size (HOV.out.lt') (Nat.le_refl _)); have HBWn := Lib.hid (HB.out.trans (HBEn.out.mono HB.out.size)); clear HOV HBE HBW; have HOV := Lib.hid hown'; have HBE := HBEn; have HBW := HBWn; clear hown' hg' HBEn HBWn)
          go_roundw
          case rel => exact ⟨k + 1, by omega, by go_num, by rw [HES.out]; simpa using HOV.out, HBE.out⟩
          case measure => simp [intOf]; omega
end Go.Proofs.YtahpdkkpnkhnhaaGreatDoor
/- Plain: the reference's search for one more path; what it keeps in memory. -/
namespace Go.Proofs.YtahpdkkpnkhnhaaGreatDoor
open Go Go.Proofs Go.RowKit Go.Shelf
def codeE (i : Nat) (fwd : Bool) : Int := if fwd then (i : Int) + 1 else -(i : Int) - 1
structure EgE (E : List Ed) (F : List Int) (k x i : Nat) (fwd : Bool) : Prop where
  lt : i < E.length
  hd : (E.getD i ed0).v = (if fwd then x else k)
  tl : (E.getD i ed0).u = (if fwd then k else x)
  rm : if fwd then F.getD i 0 < 1 else 0 < F.getD i 0
theorem edGet {E : List Ed} {i : Nat} (h : i < E.length) : E.getD i ed0 = E[i] := by
  rw [List.getD_eq_getElem?_getD, List.getElem?_eq_getElem h]; rfl
structure BfE (E : List Ed) (F : List Int) (u n : Nat) (seen : List Bool) (bys : List Int) (ord : List Nat) : Prop where
  n1 : seen.length = n
  n2 : bys.length = n
  hd : u ∈ ord
  nd : ord.Nodup
  lt : ∀ x ∈ ord, x < n
  mem : ∀ x, x < n → (seen.getD x false = true ↔ x ∈ ord)
  tree : ∀ x ∈ ord, x ≠ u → ∃ i fwd k, bys[x]? = some (codeE i fwd) ∧ k ∈ ord ∧ ord.idxOf k < ord.idxOf x ∧ EgE E F k x i fwd
theorem BfE.start (E : List Ed) (F : List Int) (u n : Nat) (hu : u < n) : BfE E F u n ((List.replicate n false).set u true) (List.replicate n 0) [u] :=
  ⟨by simp, by simp, by simp, by simp, by simpa using hu, fun x hx => by
    simp only [List.getD_eq_getElem?_getD, List.getElem?_set, List.length_replicate, List.mem_singleton, List.getElem?_replicate]
    by_cases h : u = x
    · subst h; simp [hu]
    · rw [if_neg h, if_pos hx]; simp [Ne.symm h], fun x hx hne => absurd (by simpa using hx) hne⟩
theorem BfE.visit {E : List Ed} {F : List Int} {u n : Nat} {seen : List Bool} {bys : List Int} {ord : List Nat} (h : BfE E F u n seen bys ord) {k x i : Nat} {fwd : Bool} (hk : k ∈ ord) (hx : x < n) (hn : x ∉ ord) (hg : EgE E F k x i fwd) :
    BfE E F u n (seen.set x true) (bys.set x (codeE i fwd)) (ord ++ [x]) := by
  refine ⟨by simp [h.n1], by simp [h.n2], by simp [h.hd], ?_, ?_, ?_, ?_⟩
  · rw [List.nodup_append]
    exact ⟨h.nd, by simp, fun a ha b hb e => by simp at hb; subst hb; subst e; exact hn ha⟩
  · intro y hy
    rcases List.mem_append.1 hy with hy | hy
    · exact h.lt y hy
    · simp at hy; omega
  · intro y hy
    by_cases e : x = y
    · subst e; simp [List.getD_eq_getElem?_getD, h.n1, hx]
    · have := h.mem y hy
      simp only [List.getD_eq_getElem?_getD, List.getElem?_set, if_neg e] at this ⊢
      rw [this]; simp [Ne.symm e]
  · intro y hy hne
    rcases List.mem_append.1 hy with hy | hy
    · obtain ⟨i', f', k', h1, h3, h4, h5⟩ := h.tree y hy hne
      have e : x ≠ y := fun e => hn (e ▸ hy)
      exact ⟨i', f', k', by rw [List.getElem?_set, if_neg e]; exact h1, List.mem_append_left _ h3, by rw [idxOf_oldF h3, idxOf_oldF hy]; exact h4, h5⟩
    · simp at hy; subst hy
      exact ⟨i, fwd, k, by simp [h.n2, hx], List.mem_append_left _ hk, by rw [idxOf_oldF hk, idxOf_newF hn]; exact List.idxOf_lt_length_of_mem hk, hg⟩
theorem BfE.count {E : List Ed} {F : List Int} {u n : Nat} {seen : List Bool} {bys : List Int} {ord : List Nat} (h : BfE E F u n seen bys ord) : ord.length ≤ n := by
  have h1 : ord.length ≤ (List.range n).length := h.nd.length_le_of_subset fun x hx => List.mem_range.2 (h.lt x hx)
  simpa using h1
def DnE (E : List Ed) (F : List Int) (ord : List Nat) (v i : Nat) : Prop := ∀ j, j < E.length → j < i → ((E.getD j ed0).u = v → F.getD j 0 < 1 → (E.getD j ed0).v ∈ ord) ∧ ((E.getD j ed0).v = v → 0 < F.getD j 0 → (E.getD j ed0).u ∈ ord)
theorem DnE.zero (E : List Ed) (F : List Int) (ord : List Nat) (v : Nat) : DnE E F ord v 0 := fun _ _ h => absurd h (Nat.not_lt_zero _)
theorem DnE.more {E : List Ed} {F : List Int} {ord : List Nat} {v i : Nat} (h : DnE E F ord v i) (ord' : List Nat) : DnE E F (ord ++ ord') v i :=
  fun j hj hi => ⟨fun a b => List.mem_append_left _ ((h j hj hi).1 a b), fun a b => List.mem_append_left _ ((h j hj hi).2 a b)⟩
theorem DnE.succ {E : List Ed} {F : List Int} {ord : List Nat} {v i : Nat} (h : DnE E F ord v i) (h1 : (E.getD i ed0).u = v → F.getD i 0 < 1 → (E.getD i ed0).v ∈ ord) (h2 : (E.getD i ed0).v = v → 0 < F.getD i 0 → (E.getD i ed0).u ∈ ord) : DnE E F ord v (i + 1) := by
  intro j hj hji
  by_cases e : j = i
  · subst e; exact ⟨h1, h2⟩
  · exact h j hj (by omega)
theorem BfE.closed {E : List Ed} {F : List Int} {ord : List Nat} (hl : F.length = E.length) (hb : FlB F) (hc : ∀ v ∈ ord, DnE E F ord v E.length) {i j : Nat} (hi : i ∈ ord) (hj : j ∉ ord) : resE E F i j = 0 := by
  refine resE_zero hl hb fun k hk => ?_
  obtain ⟨h1, h2⟩ := hc i hi k hk hk
  rw [edGet hk] at h1 h2
  refine ⟨fun a b => ?_, fun a b => ?_⟩
  · apply Classical.byContradiction
    intro h
    exact hj (b ▸ h1 a (by omega))
  · apply Classical.byContradiction
    intro h
    exact hj (a ▸ h2 b (by omega))
structure BkE (N : Nat) (E : List Ed) (F F' : List Int) (ord : List Nat) (s t : Nat) (n : Int) (v : Nat) : Prop where
  mv : v ∈ ord
  len : F'.length = E.length
  bd : FlB F'
  fl : RFlow N (capE E) (resE E F') (fun i => valX s t n i + (if i = v then 1 else 0) - (if i = t then 1 else 0))
  sm : ∀ i, i < E.length → (E.getD i ed0).u ∈ ord → (E.getD i ed0).v ∈ ord → ord.idxOf (E.getD i ed0).u ≤ ord.idxOf v → ord.idxOf (E.getD i ed0).v ≤ ord.idxOf v → F'.getD i 0 = F.getD i 0
theorem BkE.start {N : Nat} {E : List Ed} {F : List Int} {ord : List Nat} {s t : Nat} {n : Int} (hl : F.length = E.length) (hb : FlB F) (h : RFlow N (capE E) (resE E F) (valX s t n)) (hm : t ∈ ord) : BkE N E F F ord s t n t :=
  ⟨hm, hl, hb, h.congr (fun _ _ _ _ => rfl) fun i _ => by generalize valX s t n i = a; omega, fun _ _ _ _ _ _ => rfl⟩
theorem BkE.done {N : Nat} {E : List Ed} {F F' : List Int} {ord : List Nat} {s t : Nat} {n : Int} (h : BkE N E F F' ord s t n s) : RFlow N (capE E) (resE E F') (valX s t (n + 1)) :=
  h.fl.congr (fun _ _ _ _ => rfl) fun i _ => (valX_done i).symm
theorem flB_set {F : List Int} (h : FlB F) (i : Nat) {x : Int} (hx : 0 ≤ x ∧ x ≤ 1) : FlB (F.set i x) := by
  intro y hy
  rcases List.mem_or_eq_of_mem_set hy with h1 | h1
  · exact h y h1
  · rw [h1]; exact hx
theorem flB_get {F : List Int} (h : FlB F) (i : Nat) : 0 ≤ F.getD i 0 ∧ F.getD i 0 ≤ 1 := by
  rw [List.getD_eq_getElem?_getD]
  by_cases hi : i < F.length
  · rw [List.getElem?_eq_getElem hi]; exact h _ (List.getElem_mem hi)
  · rw [List.getElem?_eq_none (by omega)]; simp
theorem getD_setE (F : List Int) (i j : Nat) (x : Int) (h : i < F.length) : (F.set i x).getD j 0 = if i = j then x else F.getD j 0 := getD_setF F i j x 0 h
theorem BkE.step {N : Nat} {E : List Ed} {F F' : List Int} {seen : List Bool} {bys : List Int} {ord : List Nat} {s t : Nat} {n : Int} {v : Nat} (hE : ∀ e ∈ E, e.u < N ∧ e.v < N ∧ e.u ≠ e.v) (h : BkE N E F F' ord s t n v) (hs : BfE E F s N seen bys ord) (hne : v ≠ s) :
    ∃ i fwd k, bys[v]? = some (codeE i fwd) ∧ i < E.length ∧ k < N ∧ ord.idxOf k < ord.idxOf v ∧ (E.getD i ed0).v = (if fwd then v else k) ∧ (E.getD i ed0).u = (if fwd then k else v) ∧ BkE N E F (F'.set i (F'.getD i 0 + (if fwd then 1 else -1))) ord s t n k := by
  obtain ⟨i, fwd, k, h1, h2, h3, h4⟩ := hs.tree v h.mv hne
  have hi := h4.lt
  have he := hE _ (List.getElem_mem hi)
  have hhd := h4.hd
  have htl := h4.tl
  have hrm := h4.rm
  have hsame : F'.getD i 0 = F.getD i 0 := h.sm i hi (by rw [htl]; cases fwd; exact h.mv; exact h2) (by rw [hhd]; cases fwd; exact h2; exact h.mv) (by rw [htl]; cases fwd; exact Nat.le_refl _; exact Nat.le_of_lt h3) (by rw [hhd]; cases fwd; exact Nat.le_of_lt h3; exact Nat.le_refl _)
  have hbd := flB_get h.bd i
  have hkv : k ≠ v := fun e => by subst e; omega
  have hkN := hs.lt k h2
  have hvN := hs.lt v h.mv
  rw [edGet hi] at hhd htl
  have hres := fun a b => resE_set (i := a) (j := b) (if fwd = true then (1 : Int) else -1) hi h.len
  have hget := fun a b => resE_get (i := a) (j := b) hi h.len h.bd
  have hpos : 0 < resE E F' k v := by
    have := hget k v
    rw [hhd, htl] at this
    cases fwd with
    | true =>
      have h5 : ¬ (k = v ∧ v = k) := fun e => hkv e.1
      simp only [if_true, and_self, h5, if_false] at this hrm
      omega
    | false =>
      have h5 : ¬ (v = k ∧ k = v) := fun e => hkv e.1.symm
      simp only [Bool.false_eq_true, if_false, and_self, h5, if_true] at this hrm
      omega
  refine ⟨i, fwd, k, h1, hi, hkN, h3, by rw [edGet hi]; exact hhd, by rw [edGet hi]; exact htl, h2, by rw [List.length_set]; exact h.len, flB_set h.bd i (by
    cases fwd with
    | true => simp only [if_true] at hrm ⊢; omega
    | false => simp only [Bool.false_eq_true, if_false] at hrm ⊢; omega), ?_, fun j hj hju hjv k1 k2 => ?_⟩
  · refine (h.fl.push hkN hvN hkv hpos).congr (fun a b _ _ => ?_) fun a _ => (valX_push a).symm
    rw [hres a b, hhd, htl]
    unfold pushR
    cases fwd with
    | true =>
      simp only [if_true]
      by_cases c1 : a = k ∧ b = v
      · obtain ⟨rfl, rfl⟩ := c1
        rw [if_pos ⟨rfl, rfl⟩, if_neg (fun e => hkv e.1), if_pos ⟨rfl, rfl⟩]; omega
      · rw [if_neg (fun e => c1 ⟨e.1.symm, e.2.symm⟩), if_neg c1]
        by_cases c2 : a = v ∧ b = k
        · rw [if_pos ⟨c2.2.symm, c2.1.symm⟩, if_pos c2]; omega
        · rw [if_neg (fun e => c2 ⟨e.2.symm, e.1.symm⟩), if_neg c2]; omega
    | false =>
      simp only [Bool.false_eq_true, if_false]
      by_cases c1 : a = k ∧ b = v
      · obtain ⟨rfl, rfl⟩ := c1
        rw [if_neg (fun e => hkv e.1.symm), if_pos ⟨rfl, rfl⟩, if_pos ⟨rfl, rfl⟩]; omega
      · rw [if_neg c1]
        by_cases c2 : a = v ∧ b = k
        · obtain ⟨rfl, rfl⟩ := c2
          rw [if_pos ⟨rfl, rfl⟩, if_neg (fun e => hkv e.1.symm), if_pos ⟨rfl, rfl⟩]; omega
        · rw [if_neg (fun e => c2 ⟨e.1.symm, e.2.symm⟩), if_neg (fun e => c1 ⟨e.2.symm, e.1.symm⟩), if_neg c2]; omega
  · have hij : i ≠ j := fun e => by
      subst e
      rw [edGet hi, htl] at k1
      rw [edGet hi, hhd] at k2
      cases fwd with
      | true => simp only [if_true] at k2; omega
      | false => simp only [Bool.false_eq_true, if_false] at k1; omega
    rw [getD_setE _ _ _ _ (by rw [h.len]; exact hi), if_neg hij]
    exact h.sm j hj hju hjv (by omega) (by omega)
def outI (l : List Nat) : List Int := l.map fun n : Nat => (n : Int)
structure WyW (w wr : World) (n gs Bw : Nat) (seen : List Bool) (bys : List Int) (ord : List Nat) (vw : Value) : Prop where
  below : Below w.heap.size w wr
  by' : Own encI 1 3 wr w.heap.size (.slice (some ⟨w.heap.size, 0, none⟩) n n) bys
  seenO : Own encB 1 4 wr w.heap.size (.slice (some ⟨gs, 0, none⟩) n n) seen
  work : Own encI 1 3 wr Bw vw (outI ord)
  bn : bys.length = n
  sn : seen.length = n
  gs1 : w.heap.size < gs
  gs2 : gs < Bw
  bsz : Bw ≤ wr.heap.size
section
variable {w wr w' : World} {n gs Bw : Nat} {seen : List Bool} {bys : List Int} {ord : List Nat} {vw : Value}
theorem WyW.later (h : WyW w wr n gs Bw seen bys ord vw) (hb : Below wr.heap.size wr w') : WyW w w' n gs Bw seen bys ord vw :=
  ⟨h.below.trans (hb.mono h.below.size), h.by'.later hb, h.seenO.later hb, h.work.later hb, h.bn, h.sn, h.gs1, h.gs2, Nat.le_trans h.bsz hb.size⟩
theorem WyW.alloc (h : WyW w wr n gs Bw seen bys ord vw) (o : Obj) : WyW w (wr.alloc o) n gs Bw seen bys ord vw := h.later ((Below.refl _ _).alloc (Nat.le_refl _) o)
theorem WyW.byc (h : WyW w wr n gs Bw seen bys ord vw) {i : Nat} {x : Int} (hx : bys[i]? = some x) : wr.cell? ⟨w.heap.size, i, none⟩ = some (.int .i64 x) := by
  obtain ⟨hi, e⟩ := List.getElem?_eq_some_iff.1 hx
  have := (h.by'.atN h.bn encI_len i hi).c1
  rwa [Nat.mul_one, e] at this
theorem WyW.byf (h : WyW w wr n gs Bw seen bys ord vw) (o : Nat) : wr.frozen? ⟨w.heap.size, o, none⟩ = false := h.by'.frozenN h.bn o
theorem WyW.seenc (h : WyW w wr n gs Bw seen bys ord vw) {i : Nat} (hi : i < n) : wr.cell? ⟨gs, i, none⟩ = some (.bool (seen.getD i false)) := by
  have hi' : i < seen.length := by rw [h.sn]; exact hi
  have := (h.seenO.atN h.sn encB_len i hi').c1
  rw [Nat.mul_one] at this
  rw [this, List.getD_eq_getElem?_getD, List.getElem?_eq_getElem hi']; rfl
theorem WyW.seenf (h : WyW w wr n gs Bw seen bys ord vw) (o : Nat) : wr.frozen? ⟨gs, o, none⟩ = false := h.seenO.frozenN h.sn o
theorem WyW.gsz (h : WyW w wr n gs Bw seen bys ord vw) : w.heap.size < wr.heap.size ∧ gs < wr.heap.size := by
  have := h.gs1; have := h.gs2; have := h.bsz; omega
theorem WyW.shape (h : WyW w wr n gs Bw seen bys ord vw) : ∃ a cap, vw = .slice a ord.length cap := by
  obtain ⟨a, cap, e⟩ := h.work.shape
  exact ⟨a, cap, by rw [e]; simp [outI]⟩
theorem WyW.form (h : WyW w wr n gs Bw seen bys ord vw) (h0 : 0 < ord.length) : ∃ g cap, vw = .slice (some ⟨g, 0, none⟩) ord.length cap ∧ Bw ≤ g ∧ g < wr.heap.size := by
  obtain ⟨g, cap, e, h1, h2⟩ := h.work.form (by simpa [outI] using h0)
  exact ⟨g, cap, by rw [e]; simp [outI], h1, h2⟩
theorem WyW.workc {g cap : Nat} (h : WyW w wr n gs Bw seen bys ord (.slice (some ⟨g, 0, none⟩) ord.length cap)) {i : Nat} (hi : i < ord.length) : wr.cell? ⟨g, i, none⟩ = some (.int .i64 ord[i]) := by
  have := (h.work.atN (by simp [outI]) encI_len i (by simpa [outI] using hi)).c1
  rw [Nat.mul_one] at this
  rw [this]; simp [outI]
theorem WyW.setSeen (h : WyW w wr n gs Bw seen bys ord vw) {i : Nat} (hi : i < n) : WyW w (wr.setCell ⟨gs, i, none⟩ (.bool true)) n gs Bw (seen.set i true) bys ord vw := by
  have h1 := h.seenO.setN h.sn encB_len i (by rw [h.sn]; exact hi) 0 (by omega) (.bool true) true rfl
  rw [Nat.mul_one, Nat.add_zero] at h1
  refine ⟨h.below.setCell (by have := h.gs1; dsimp only; omega) _, h.by'.other _ (fun e => by simp [Value.ownBlock] at e; have := h.gs1; omega), h1, h.work.below _ h.gs2, h.bn, by rw [List.length_set]; exact h.sn, h.gs1, h.gs2, by have := h.bsz; simpa using this⟩
theorem WyW.setBy (h : WyW w wr n gs Bw seen bys ord vw) {i : Nat} (hi : i < n) (x : Int) : WyW w (wr.setCell ⟨w.heap.size, i, none⟩ (.int .i64 x)) n gs Bw seen (bys.set i x) ord vw := by
  have h1 := h.by'.setN h.bn encI_len i (by rw [h.bn]; exact hi) 0 (by omega) (.int .i64 x) x rfl
  rw [Nat.mul_one, Nat.add_zero] at h1
  refine ⟨h.below.setCell (Nat.le_refl _) _, h1, h.seenO.other _ (fun e => by simp [Value.ownBlock] at e; have := h.gs1; omega), h.work.below _ (by have := h.gs1; have := h.gs2; dsimp only; omega), by rw [List.length_set]; exact h.bn, h.sn, h.gs1, h.gs2, by have := h.bsz; simpa using this⟩
theorem WyW.push (h : WyW w wr n gs Bw seen bys ord vw) {vw' : Value} {x : Nat} (ho : Own encI 1 3 w' Bw vw' (outI ord ++ [(x : Int)])) (hg : wr.grownBy w' vw.ownBlock) : WyW w w' n gs Bw seen bys (ord ++ [x]) vw' := by
  have hlt := h.work.lt'
  have hb : Below w.heap.size w w' := grown_below h.below hg (by have := h.below.size; exact this) hlt (by have := h.gs1; have := h.gs2; omega)
  refine ⟨hb, h.by'.kept hg ?_, h.seenO.kept hg ?_, by simpa [outI] using ho, h.bn, h.sn, h.gs1, h.gs2, ?_⟩
  · exact .inr (fun e => by have := hlt w.heap.size (by rw [← e]; rfl); have := h.gs1; have := h.gs2; omega)
  · exact .inr (fun e => by have := hlt gs (by rw [← e]; rfl); have := h.gs2; omega)
  · exact Nat.le_trans h.bsz hg.size
end
end Go.Proofs.YtahpdkkpnkhnhaaGreatDoor
