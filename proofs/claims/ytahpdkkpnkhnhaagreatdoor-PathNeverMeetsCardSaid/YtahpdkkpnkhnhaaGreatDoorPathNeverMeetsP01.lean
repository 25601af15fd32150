/- Lemmas on the way to the law PathNeverMeets (part 1): Ka -/
import Derived.Test.YtahpdkkpnkhnhaaGreatDoorLib28
set_option linter.unusedVariables false
set_option linter.unusedSimpArgs false

/- Walks: the status of a machine, in the reference. -/
namespace Go.Proofs.YtahpdkkpnkhnhaaGreatDoor
open Go Go.Proofs Go.RowKit Go.Shelf
set_option maxRecDepth 100000 in
set_option maxHeartbeats 1000000 in
theorem status97 (w : World) (v1 v2 : Value) (p : Pl) (m : Nat) (s : Sx) (hv : PlR w w.heap.size v1 v2 p) (hm : m < p.ms.length) (hs : s.grain.size ≤ 9223372036854775807) (hok : OkP p) : Calls Tryz.prog 97 #[.agg #[v1, v2], .int .i64 m, .agg #[.bool s.runs, .int .i64 s.feeds, .string s.grain]] w (Ret (.int .i64 (stE p m s)) w) := by
  have HAR := Lib.hid hv.arcs
  obtain ⟨⟨a1, n1, rfl, hl1, hA1⟩, ⟨a2, n2, rfl, hl2, hA2⟩⟩ := hv
  obtain ⟨b1, off1, rfl, hbb1, hcells1⟩ := hA1 (by omega)
  have HKM := Lib.hid (kdA_nat hm)
  have HCM := Lib.hid (hcells1 m hm)
  obtain ⟨runs, feeds, grain⟩ := s
  dsimp only at hs ⊢
  obtain ⟨R, hR⟩ : ∃ R, stE p m ⟨runs, feeds, grain⟩ = R := ⟨_, rfl⟩
  rw [hR]
  unfold stE at hR
  dsimp only at hR
  have HR := Lib.hid hR
  have HS := Lib.hid hs
  have HAI := Lib.hid (show (⟨m, feeds⟩ : Ar) ∈ p.arcs → 0 ≤ feeds ∧ feeds < p.ms.length from fun h => by
    have h2 := (hok.ins _ h).2.1
    unfold inN at h2
    simpa using h2)
  clear hR hA1 hA2 hcells1 hl2 hs hok
  obtain ⟨h11, h12⟩ := hl1
  have HB := Lib.hid ((((Below.refl w.heap.size w).alloc (Nat.le_refl _) (.cells #[.slice (some ⟨b1, off1, none⟩) p.ms.length n1, .slice a2 p.arcs.length n2] 25))).alloc (by simp) (.cells #[.bool runs, .int .i64 feeds, .string grain] 100))
  have HX := Lib.hid ((Box.new w #[.slice (some ⟨b1, off1, none⟩) p.ms.length n1, .slice a2 p.arcs.length n2] 25).alloc (.cells #[.bool runs, .int .i64 feeds, .string grain] 100))
  have HY := Lib.hid (Box.newAt (w.alloc (.cells #[.slice (some ⟨b1, off1, none⟩) p.ms.length n1, .slice a2 p.arcs.length n2] 25)) #[.bool runs, .int .i64 feeds, .string grain] 100 (by simp : _ = w.heap.size + 1))
  obtain ⟨n, hn⟩ : ∃ n, p.ms.length = n := ⟨_, rfl⟩
  obtain ⟨na, hna⟩ : ∃ m, p.arcs.length = m := ⟨_, rfl⟩
  rw [hn] at HB HX HY hm h11 h12 HAI ⊢
  rw [hna] at HB HX HY HAR ⊢
  generalize p.ms[m] = mc at *
  clear hn hna
  obtain ⟨sm, tm⟩ := mc
  dsimp only at HKM
  rw [HKM.out] at HR
  have HK102 := Lib.hid (fun (w1 : World) (hb : Below w.heap.size w w1) => hasArc140 (.slice (some ⟨b1, off1, none⟩) n n1) _ p.arcs ⟨m, feeds⟩ w1 ⟨_, _, _, rfl⟩ (HAR.out.later hb))
  have HK91 := Lib.hid (fun (w1 : World) => isName28 grain w1 HS.out)
  have HK42 := Lib.hid (fun (w1 : World) => isConveyor42 sm w1)
  obtain ⟨qc, hqc⟩ : ∃ q, cvB sm = q := ⟨_, rfl⟩
  obtain ⟨qa, hqa⟩ : ∃ q, decide ((⟨(m : Int), feeds⟩ : Ar) ∈ p.arcs) = q := ⟨_, rfl⟩
  obtain ⟨qn, hqn⟩ : ∃ q, isName grain = q := ⟨_, rfl⟩
  have HQA := Lib.hid hqa
  rw [hqc] at HK42 HR
  rw [hqa] at HK102 HR
  rw [hqn] at HK91 HR
  clear hqc hqa hqn HKM
  obtain ⟨k0, h0⟩ : ∃ q, isW sm 0 = q := ⟨_, rfl⟩
  obtain ⟨k2, h2⟩ : ∃ q, isW sm 2 = q := ⟨_, rfl⟩
  have HKP := Lib.hid (show kpB sm = (!k0 && !k2) by rw [kpB_eq, h0, h2])
  rw [HKP.out] at HR
  clear HKP
  replace h0 : (sm.toList == [112, 105, 116]) = k0 := h0
  replace h2 : (sm.toList == [115, 112, 111, 117, 116]) = k2 := h2
  go_enter Tryz.func97, Tryz.ntmps97
  have X0 := HX.out.cell 0
  have X1 := HX.out.cell 1
  have Xf := HX.out.frozen
  have Xz := HX.out.lt
  have Y0 := HY.out.cell 0
  have Y1 := HY.out.cell 1
  have Y2 := HY.out.cell 2
  have Yf := HY.out.frozen
  have Yz := HY.out.lt
  simp only [List.getElem?_cons_zero, List.getElem?_cons_succ] at X0 X1 Y0 Y1 Y2
  obtain ⟨m0, m1⟩ := (HCM.out.below HB.out hbb1).c2
  have b1z := Nat.lt_of_lt_of_le hbb1 HB.out.size
  cases runs with
  | true =>
    go_wp2_with fail
    refine (HK42.out _).mono ?_
    rintro e1 w1 ⟨rfl, rfl⟩
    cases qc with
    | false =>
      rw [if_pos (show (true && !false) = true from rfl)] at HR
      go_wp2_with fail
      go_ret
      exact ⟨by rw [← HR.out]; rfl, HB.out⟩
    | true =>
    rw [if_neg (by simp)] at HR
    by_cases hf : feeds = -1
    · have kf : (feeds != -1) = false := by simp [hf]
      rw [if_neg (fun h => h.1 hf)] at HR
      have HF := Lib.hid hf
      clear hf
      rcases isEmpty_cases grain with ⟨he, he2⟩ | ⟨he, he2⟩
      · rw [he2, if_neg (fun h => by cases h.1), if_neg (fun h => by cases h.1)] at HR
        go_wp2_with fail
        go_ret
        exact ⟨by rw [← HR.out]; rfl, HB.out⟩
      cases qn with
      | false =>
        rw [if_pos ⟨he2, rfl⟩] at HR
        go_wp2_with fail
        refine (HK91.out _).mono ?_
        rintro e2 w2 ⟨rfl, rfl⟩
        go_wp2_with fail
        go_ret
        exact ⟨by rw [← HR.out]; rfl, HB.out⟩
      | true =>
      rw [if_neg (fun h => by cases h.2)] at HR
      go_wp2_with fail
      refine (HK91.out _).mono ?_
      rintro e3 w3 ⟨rfl, rfl⟩
      cases k0 with
      | true =>
        rw [if_pos ⟨he2, rfl⟩] at HR
        go_wp2_with fail
        go_ret
        exact ⟨by rw [← HR.out]; rfl, HB.out⟩
      | false =>
      cases k2 with
      | true =>
        rw [if_pos ⟨he2, rfl⟩] at HR
        go_wp2_with fail
        go_ret
        exact ⟨by rw [← HR.out]; rfl, HB.out⟩
      | false =>
      rw [if_neg (fun h => by cases h.2)] at HR
      go_wp2_with fail
      go_ret
      exact ⟨by rw [← HR.out]; rfl, HB.out⟩
    have kf : (feeds != -1) = true := by simpa using hf
    by_cases hlt : feeds < 0
    · rw [if_pos ⟨hf, by rw [← HQA.out]; exact decide_eq_false (fun h => by have := HAI.out h; omega)⟩] at HR
      have d1 : decide (feeds < 0) = true := decide_eq_true hlt
      clear hf hlt
      go_wp2_with fail
      go_ret
      exact ⟨by rw [← HR.out]; rfl, HB.out⟩
    have d1 : decide (feeds < 0) = false := decide_eq_false hlt
    by_cases hge : (n : Int) ≤ feeds
    · rw [if_pos ⟨hf, by rw [← HQA.out]; exact decide_eq_false (fun h => by have := HAI.out h; omega)⟩] at HR
      have d2 : decide ((n : Int) ≤ feeds) = true := decide_eq_true hge
      clear hf hlt hge
      go_wp2_with fail
      go_ret
      exact ⟨by rw [← HR.out]; rfl, HB.out⟩
    have d2 : decide ((n : Int) ≤ feeds) = false := decide_eq_false hge
    have HF := Lib.hid hf
    clear hf hlt hge
    go_wp2_with fail
    refine (HK102.out _ HB.out).mono ?_
    rintro e4 w4 ⟨rfl, hb⟩
    have HB4 := Lib.hid (HB.out.trans (hb.mono HB.out.size))
    have HX4 := Lib.hid (HX.out.later hb)
    have HY4 := Lib.hid (HY.out.later hb)
    clear hb X0 X1 Xf Xz Y0 Y1 Y2 Yf Yz m0 m1 b1z
    have X0 := HX4.out.cell 0
    have X1 := HX4.out.cell 1
    have Xf := HX4.out.frozen
    have Xz := HX4.out.lt
    have Y0 := HY4.out.cell 0
    have Y1 := HY4.out.cell 1
    have Y2 := HY4.out.cell 2
    have Yf := HY4.out.frozen
    have Yz := HY4.out.lt
    simp only [List.getElem?_cons_zero, List.getElem?_cons_succ] at X0 X1 Y0 Y1 Y2
    obtain ⟨m0, m1⟩ := (HCM.out.below HB4.out hbb1).c2
    have b1z := Nat.lt_of_lt_of_le hbb1 HB4.out.size
    cases qa with
    | false =>
      rw [if_pos ⟨HF.out, rfl⟩] at HR
      go_wp2_with fail
      go_ret
      exact ⟨by rw [← HR.out]; rfl, HB4.out⟩
    | true =>
    rw [if_neg (fun h => by cases h.2)] at HR
    rcases isEmpty_cases grain with ⟨he, he2⟩ | ⟨he, he2⟩
    · rw [he2, if_neg (fun h => by cases h.1), if_neg (fun h => by cases h.1)] at HR
      go_wp2_with fail
      go_ret
      exact ⟨by rw [← HR.out]; rfl, HB4.out⟩
    cases qn with
    | false =>
      rw [if_pos ⟨he2, rfl⟩] at HR
      go_wp2_with fail
      refine (HK91.out _).mono ?_
      rintro e5 w5 ⟨rfl, rfl⟩
      go_wp2_with fail
      go_ret
      exact ⟨by rw [← HR.out]; rfl, HB4.out⟩
    | true =>
    rw [if_neg (fun h => by cases h.2)] at HR
    go_wp2_with fail
    refine (HK91.out _).mono ?_
    rintro e6 w6 ⟨rfl, rfl⟩
    cases k0 with
    | true =>
      rw [if_pos ⟨he2, rfl⟩] at HR
      go_wp2_with fail
      go_ret
      exact ⟨by rw [← HR.out]; rfl, HB4.out⟩
    | false =>
    cases k2 with
    | true =>
      rw [if_pos ⟨he2, rfl⟩] at HR
      go_wp2_with fail
      go_ret
      exact ⟨by rw [← HR.out]; rfl, HB4.out⟩
    | false =>
    rw [if_neg (fun h => by cases h.2)] at HR
    go_wp2_with fail
    go_ret
    exact ⟨by rw [← HR.out]; rfl, HB4.out⟩
  | false =>
  rw [if_neg (by simp)] at HR
  by_cases hf : feeds = -1
  · have kf : (feeds != -1) = false := by simp [hf]
    rw [if_neg (fun h => h.1 hf)] at HR
    have HF := Lib.hid hf
    clear hf
    rcases isEmpty_cases grain with ⟨he, he2⟩ | ⟨he, he2⟩
    · rw [he2, if_neg (fun h => by cases h.1), if_neg (fun h => by cases h.1)] at HR
      go_wp2_with fail
      go_ret
      exact ⟨by rw [← HR.out]; rfl, HB.out⟩
    cases qn with
    | false =>
      rw [if_pos ⟨he2, rfl⟩] at HR
      go_wp2_with fail
      refine (HK91.out _).mono ?_
      rintro e7 w7 ⟨rfl, rfl⟩
      go_wp2_with fail
      go_ret
      exact ⟨by rw [← HR.out]; rfl, HB.out⟩
    | true =>
    rw [if_neg (fun h => by cases h.2)] at HR
    go_wp2_with fail
    refine (HK91.out _).mono ?_
    rintro e8 w8 ⟨rfl, rfl⟩
    cases k0 with
    | true =>
      rw [if_pos ⟨he2, rfl⟩] at HR
      go_wp2_with fail
      go_ret
      exact ⟨by rw [← HR.out]; rfl, HB.out⟩
    | false =>
    cases k2 with
    | true =>
      rw [if_pos ⟨he2, rfl⟩] at HR
      go_wp2_with fail
      go_ret
      exact ⟨by rw [← HR.out]; rfl, HB.out⟩
    | false =>
    rw [if_neg (fun h => by cases h.2)] at HR
    go_wp2_with fail
    go_ret
    exact ⟨by rw [← HR.out]; rfl, HB.out⟩
  have kf : (feeds != -1) = true := by simpa using hf
  by_cases hlt : feeds < 0
  · rw [if_pos ⟨hf, by rw [← HQA.out]; exact decide_eq_false (fun h => by have := HAI.out h; omega)⟩] at HR
    have d1 : decide (feeds < 0) = true := decide_eq_true hlt
    clear hf hlt
    go_wp2_with fail
    go_ret
    exact ⟨by rw [← HR.out]; rfl, HB.out⟩
  have d1 : decide (feeds < 0) = false := decide_eq_false hlt
  by_cases hge : (n : Int) ≤ feeds
  · rw [if_pos ⟨hf, by rw [← HQA.out]; exact decide_eq_false (fun h => by have := HAI.out h; omega)⟩] at HR
    have d2 : decide ((n : Int) ≤ feeds) = true := decide_eq_true hge
    clear hf hlt hge
    go_wp2_with fail
    go_ret
    exact ⟨by rw [← HR.out]; rfl, HB.out⟩
  have d2 : decide ((n : Int) ≤ feeds) = false := decide_eq_false hge
  have HF := Lib.hid hf
  clear hf hlt hge
  go_wp2_with fail
  refine (HK102.out _ HB.out).mono ?_
  rintro e9 w9 ⟨rfl, hb⟩
  have HB9 := Lib.hid (HB.out.trans (hb.mono HB.out.size))
  have HX9 := Lib.hid (HX.out.later hb)
  have HY9 := Lib.hid (HY.out.later hb)
  clear hb X0 X1 Xf Xz Y0 Y1 Y2 Yf Yz m0 m1 b1z
  have X0 := HX9.out.cell 0
  have X1 := HX9.out.cell 1
  have Xf := HX9.out.frozen
  have Xz := HX9.out.lt
  have Y0 := HY9.out.cell 0
  have Y1 := HY9.out.cell 1
  have Y2 := HY9.out.cell 2
  have Yf := HY9.out.frozen
  have Yz := HY9.out.lt
  simp only [List.getElem?_cons_zero, List.getElem?_cons_succ] at X0 X1 Y0 Y1 Y2
  obtain ⟨m0, m1⟩ := (HCM.out.below HB9.out hbb1).c2
  have b1z := Nat.lt_of_lt_of_le hbb1 HB9.out.size
  cases qa with
  | false =>
    rw [if_pos ⟨HF.out, rfl⟩] at HR
    go_wp2_with fail
    go_ret
    exact ⟨by rw [← HR.out]; rfl, HB9.out⟩
  | true =>
  rw [if_neg (fun h => by cases h.2)] at HR
  rcases isEmpty_cases grain with ⟨he, he2⟩ | ⟨he, he2⟩
  · rw [he2, if_neg (fun h => by cases h.1), if_neg (fun h => by cases h.1)] at HR
    go_wp2_with fail
    go_ret
    exact ⟨by rw [← HR.out]; rfl, HB9.out⟩
  cases qn with
  | false =>
    rw [if_pos ⟨he2, rfl⟩] at HR
    go_wp2_with fail
    refine (HK91.out _).mono ?_
    rintro e10 w10 ⟨rfl, rfl⟩
    go_wp2_with fail
    go_ret
    exact ⟨by rw [← HR.out]; rfl, HB9.out⟩
  | true =>
  rw [if_neg (fun h => by cases h.2)] at HR
  go_wp2_with fail
  refine (HK91.out _).mono ?_
  rintro e11 w11 ⟨rfl, rfl⟩
  cases k0 with
  | true =>
    rw [if_pos ⟨he2, rfl⟩] at HR
    go_wp2_with fail
    go_ret
    exact ⟨by rw [← HR.out]; rfl, HB9.out⟩
  | false =>
  cases k2 with
  | true =>
    rw [if_pos ⟨he2, rfl⟩] at HR
    go_wp2_with fail
    go_ret
    exact ⟨by rw [← HR.out]; rfl, HB9.out⟩
  | false =>
  rw [if_neg (fun h => by cases h.2)] at HR
  go_wp2_with fail
  go_ret
  exact ⟨by rw [← HR.out]; rfl, HB9.out⟩
end Go.Proofs.YtahpdkkpnkhnhaaGreatDoor
