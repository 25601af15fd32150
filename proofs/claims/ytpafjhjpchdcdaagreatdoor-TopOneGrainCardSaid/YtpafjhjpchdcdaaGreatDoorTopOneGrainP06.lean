/- Lemmas on the way to the law TopOneGrain (part 6): YBb -/
import Derived.Test.YtpafjhjpchdcdaaGreatDoorTopOneGrainP05
set_option linter.unusedVariables false
set_option linter.unusedSimpArgs false

/- Walks: the status of a machine. -/
namespace Go.Proofs.YtpafjhjpchdcdaaGreatDoor
open Go Go.Proofs Go.RowKit Go.Shelf
structure Sx where
  runs : Bool
  feeds : Int
  grain : ByteArray
def Sx.enc (s : Sx) : List Value := [.bool s.runs, .int .i64 s.feeds, .string s.grain]
theorem Sx.enc_len (s : Sx) : s.enc.length = 3 := rfl
def stE (p : Pl) (m : Nat) (s : Sx) : Int :=
  if (s.runs && !cvB (kdA p m)) = true then 20
  else if s.feeds ≠ -1 ∧ decide ((⟨m, s.feeds⟩ : Ar) ∈ p.arcs) = false then 10
  else if s.grain.toList.isEmpty = false ∧ isName s.grain = false then 8
  else if s.grain.toList.isEmpty = false ∧ kpB (kdA p m) = false then 16 else 0
theorem isEmpty_cases (s : ByteArray) : (s.toList = [] ∧ s.toList.isEmpty = true) ∨ (s.toList ≠ [] ∧ s.toList.isEmpty = false) := by
  cases h : s.toList with
  | nil => exact .inl ⟨rfl, rfl⟩
  | cons x r => exact .inr ⟨by simp, rfl⟩
set_option maxRecDepth 100000 in
set_option maxHeartbeats 1000000 in
theorem checkStatus106 (w : World) (v1 v2 : Value) (p : Pl) (m : Nat) (s : Sx) (hw : WdR w) (hv : PlR w w.heap.size v1 v2 p) (hm : m < p.ms.length) (hs : s.grain.size ≤ 9223372036854775807) : Calls Tryz.prog 77 #[.agg #[v1, v2], .int .i64 m, .agg #[.bool s.runs, .int .i64 s.feeds, .string s.grain]] w (Ret (.int .i64 (stE p m s)) w) := by
  have HWD := Lib.hid (fun (w1 : World) (hb : Below w.heap.size w w1) => hw.later hb)
  have HAR := Lib.hid hv.arcs
  obtain ⟨⟨a1, n1, rfl, hl1, hA1⟩, ⟨a2, n2, rfl, hl2, hA2⟩⟩ := hv
  obtain ⟨b1, off1, rfl, hbb1, hcells1⟩ := hA1 (by omega)
  have HKM := Lib.hid (kdA_nat hm)
  have HCM := Lib.hid (hcells1 m hm)
  obtain ⟨runs, feeds, grain⟩ := s
  dsimp only at hs ⊢
  obtain ⟨R, hR⟩ : ∃ R, stE p m ⟨runs, feeds, grain⟩ = R := ⟨_, rfl⟩
  rw [hR]
  unfold stE at hR
  dsimp only at hR
  have HR := Lib.hid hR
  have HS := Lib.hid hs
  clear hR hA1 hA2 hcells1 hw hl2 hs
  obtain ⟨h11, h12⟩ := hl1
  have HB := Lib.hid ((((Below.refl w.heap.size w).alloc (Nat.le_refl _) (.cells #[.slice (some ⟨b1, off1, none⟩) p.ms.length n1, .slice a2 p.arcs.length n2] 25))).alloc (by simp) (.cells #[.bool runs, .int .i64 feeds, .string grain] 58))
  have HX := Lib.hid ((Box.new w #[.slice (some ⟨b1, off1, none⟩) p.ms.length n1, .slice a2 p.arcs.length n2] 25).alloc (.cells #[.bool runs, .int .i64 feeds, .string grain] 58))
  have HY := Lib.hid (Box.newAt (w.alloc (.cells #[.slice (some ⟨b1, off1, none⟩) p.ms.length n1, .slice a2 p.arcs.length n2] 25)) #[.bool runs, .int .i64 feeds, .string grain] 58 (by simp : _ = w.heap.size + 1))
  obtain ⟨n, hn⟩ : ∃ n, p.ms.length = n := ⟨_, rfl⟩
  obtain ⟨na, hna⟩ : ∃ m, p.arcs.length = m := ⟨_, rfl⟩
  rw [hn] at HB HX HY hm h11 h12 ⊢
  rw [hna] at HB HX HY HAR ⊢
  generalize p.ms[m] = mc at *
  clear hn hna
  obtain ⟨sm, tm⟩ := mc
  dsimp only at HKM
  rw [HKM.out] at HR
  have HK84 := Lib.hid (fun (w1 : World) (hb : Below w.heap.size w w1) => conveys84 sm tm w1 (HWD.out _ hb))
  have HK96 := Lib.hid (fun (w1 : World) (hb : Below w.heap.size w w1) => keeps96 sm tm w1 (HWD.out _ hb))
  have HK102 := Lib.hid (fun (w1 : World) (hb : Below w.heap.size w w1) => contains102 _ p.arcs ⟨m, feeds⟩ w1 (HAR.out.later hb))
  have HK91 := Lib.hid (fun (w1 : World) => isName91 grain w1 HS.out)
  obtain ⟨qc, hqc⟩ : ∃ q, cvB sm = q := ⟨_, rfl⟩
  obtain ⟨qk, hqk⟩ : ∃ q, kpB sm = q := ⟨_, rfl⟩
  obtain ⟨qa, hqa⟩ : ∃ q, decide ((⟨(m : Int), feeds⟩ : Ar) ∈ p.arcs) = q := ⟨_, rfl⟩
  obtain ⟨qn, hqn⟩ : ∃ q, isName grain = q := ⟨_, rfl⟩
  rw [hqc] at HK84 HR
  rw [hqk] at HK96 HR
  rw [hqa] at HK102 HR
  rw [hqn] at HK91 HR
  clear hqc hqk hqa hqn HKM
  go_enter Tryz.func77, Tryz.ntmps77
  have X0 := HX.out.cell 0
  have X1 := HX.out.cell 1
  have Xf := HX.out.frozen
  have Xz := HX.out.lt
  have Y0 := HY.out.cell 0
  have Y1 := HY.out.cell 1
  have Y2 := HY.out.cell 2
  have Yf := HY.out.frozen
  have Yz := HY.out.lt
  simp only [List.getElem?_cons_zero, List.getElem?_cons_succ] at X0 X1 Y0 Y1 Y2
  obtain ⟨m0, m1⟩ := (HCM.out.below HB.out hbb1).c2
  have b1z := Nat.lt_of_lt_of_le hbb1 HB.out.size
  cases runs with
  | true =>
    go_wp2_with fail
    refine (HK84.out _ HB.out).mono ?_
    rintro e1 w1 ⟨rfl, hb⟩
    have HB1 := Lib.hid (HB.out.trans (hb.mono HB.out.size))
    have HX1 := Lib.hid (HX.out.later hb)
    have HY1 := Lib.hid (HY.out.later hb)
    clear hb X0 X1 Xf Xz Y0 Y1 Y2 Yf Yz m0 m1 b1z
    have X0 := HX1.out.cell 0
    have X1 := HX1.out.cell 1
    have Xf := HX1.out.frozen
    have Xz := HX1.out.lt
    have Y0 := HY1.out.cell 0
    have Y1 := HY1.out.cell 1
    have Y2 := HY1.out.cell 2
    have Yf := HY1.out.frozen
    have Yz := HY1.out.lt
    simp only [List.getElem?_cons_zero, List.getElem?_cons_succ] at X0 X1 Y0 Y1 Y2
    obtain ⟨m0, m1⟩ := (HCM.out.below HB1.out hbb1).c2
    have b1z := Nat.lt_of_lt_of_le hbb1 HB1.out.size
    cases qc with
    | false =>
      rw [if_pos (show (true && !false) = true from rfl)] at HR
      go_wp2_with fail
      go_ret
      exact ⟨by rw [← HR.out]; rfl, HB1.out⟩
    | true =>
    rw [if_neg (by simp)] at HR
    by_cases hf : feeds = -1
    · have kf : (feeds != -1) = false := by simp [hf]
      rw [if_neg (fun h => h.1 hf)] at HR
      have HF := Lib.hid hf
      clear hf
      rcases isEmpty_cases grain with ⟨he, he2⟩ | ⟨he, he2⟩
      · rw [he2, if_neg (fun h => by cases h.1), if_neg (fun h => by cases h.1)] at HR
        go_wp2_with fail
        go_ret
        exact ⟨by rw [← HR.out]; rfl, HB1.out⟩
      cases qn with
      | false =>
        rw [if_pos ⟨he2, rfl⟩] at HR
        go_wp2_with fail
        refine (HK91.out _).mono ?_
        rintro e2 w2 ⟨rfl, hb⟩
        have HB2 := Lib.hid (HB1.out.trans (hb.mono HB1.out.size))
        have HX2 := Lib.hid (HX1.out.later hb)
        have HY2 := Lib.hid (HY1.out.later hb)
        clear hb X0 X1 Xf Xz Y0 Y1 Y2 Yf Yz m0 m1 b1z
        have X0 := HX2.out.cell 0
        have X1 := HX2.out.cell 1
        have Xf := HX2.out.frozen
        have Xz := HX2.out.lt
        have Y0 := HY2.out.cell 0
        have Y1 := HY2.out.cell 1
        have Y2 := HY2.out.cell 2
        have Yf := HY2.out.frozen
        have Yz := HY2.out.lt
        simp only [List.getElem?_cons_zero, List.getElem?_cons_succ] at X0 X1 Y0 Y1 Y2
        obtain ⟨m0, m1⟩ := (HCM.out.below HB2.out hbb1).c2
        have b1z := Nat.lt_of_lt_of_le hbb1 HB2.out.size
        go_wp2_with fail
        go_ret
        exact ⟨by rw [← HR.out]; rfl, HB2.out⟩
      | true =>
      rw [if_neg (fun h => by cases h.2)] at HR
      go_wp2_with fail
      refine (HK91.out _).mono ?_
      rintro e2 w2 ⟨rfl, hb⟩
      have HB2 := Lib.hid (HB1.out.trans (hb.mono HB1.out.size))
      have HX2 := Lib.hid (HX1.out.later hb)
      have HY2 := Lib.hid (HY1.out.later hb)
      clear hb X0 X1 Xf Xz Y0 Y1 Y2 Yf Yz m0 m1 b1z
      have X0 := HX2.out.cell 0
      have X1 := HX2.out.cell 1
      have Xf := HX2.out.frozen
      have Xz := HX2.out.lt
      have Y0 := HY2.out.cell 0
      have Y1 := HY2.out.cell 1
      have Y2 := HY2.out.cell 2
      have Yf := HY2.out.frozen
      have Yz := HY2.out.lt
      simp only [List.getElem?_cons_zero, List.getElem?_cons_succ] at X0 X1 Y0 Y1 Y2
      obtain ⟨m0, m1⟩ := (HCM.out.below HB2.out hbb1).c2
      have b1z := Nat.lt_of_lt_of_le hbb1 HB2.out.size
      cases qk with
      | false =>
        rw [if_pos ⟨he2, rfl⟩] at HR
        go_wp2_with fail
        refine (HK96.out _ HB2.out).mono ?_
        rintro e3 w3 ⟨rfl, hb⟩
        have HB3 := Lib.hid (HB2.out.trans (hb.mono HB2.out.size))
        have HX3 := Lib.hid (HX2.out.later hb)
        have HY3 := Lib.hid (HY2.out.later hb)
        clear hb X0 X1 Xf Xz Y0 Y1 Y2 Yf Yz m0 m1 b1z
        have X0 := HX3.out.cell 0
        have X1 := HX3.out.cell 1
        have Xf := HX3.out.frozen
        have Xz := HX3.out.lt
        have Y0 := HY3.out.cell 0
        have Y1 := HY3.out.cell 1
        have Y2 := HY3.out.cell 2
        have Yf := HY3.out.frozen
        have Yz := HY3.out.lt
        simp only [List.getElem?_cons_zero, List.getElem?_cons_succ] at X0 X1 Y0 Y1 Y2
        obtain ⟨m0, m1⟩ := (HCM.out.below HB3.out hbb1).c2
        have b1z := Nat.lt_of_lt_of_le hbb1 HB3.out.size
        go_wp2_with fail
        go_ret
        exact ⟨by rw [← HR.out]; rfl, HB3.out⟩
      | true =>
      rw [if_neg (fun h => by cases h.2)] at HR
      go_wp2_with fail
      refine (HK96.out _ HB2.out).mono ?_
      rintro e3 w3 ⟨rfl, hb⟩
      have HB3 := Lib.hid (HB2.out.trans (hb.mono HB2.out.size))
      have HX3 := Lib.hid (HX2.out.later hb)
      have HY3 := Lib.hid (HY2.out.later hb)
      clear hb X0 X1 Xf Xz Y0 Y1 Y2 Yf Yz m0 m1 b1z
      have X0 := HX3.out.cell 0
      have X1 := HX3.out.cell 1
      have Xf := HX3.out.frozen
      have Xz := HX3.out.lt
      have Y0 := HY3.out.cell 0
      have Y1 := HY3.out.cell 1
      have Y2 := HY3.out.cell 2
      have Yf := HY3.out.frozen
      have Yz := HY3.out.lt
      simp only [List.getElem?_cons_zero, List.getElem?_cons_succ] at X0 X1 Y0 Y1 Y2
      obtain ⟨m0, m1⟩ := (HCM.out.below HB3.out hbb1).c2
      have b1z := Nat.lt_of_lt_of_le hbb1 HB3.out.size
      go_wp2_with fail
      go_ret
      exact ⟨by rw [← HR.out]; rfl, HB3.out⟩
    have kf : (feeds != -1) = true := by simp [hf]
    cases qa with
    | false =>
      rw [if_pos ⟨hf, rfl⟩] at HR
      have HF := Lib.hid hf
      clear hf
      go_wp2_with fail
      refine (HK102.out _ HB1.out).mono ?_
      rintro e2 w2 ⟨rfl, hb⟩
      have HB2 := Lib.hid (HB1.out.trans (hb.mono HB1.out.size))
      have HX2 := Lib.hid (HX1.out.later hb)
      have HY2 := Lib.hid (HY1.out.later hb)
      clear hb X0 X1 Xf Xz Y0 Y1 Y2 Yf Yz m0 m1 b1z
      have X0 := HX2.out.cell 0
      have X1 := HX2.out.cell 1
      have Xf := HX2.out.frozen
      have Xz := HX2.out.lt
      have Y0 := HY2.out.cell 0
      have Y1 := HY2.out.cell 1
      have Y2 := HY2.out.cell 2
      have Yf := HY2.out.frozen
      have Yz := HY2.out.lt
      simp only [List.getElem?_cons_zero, List.getElem?_cons_succ] at X0 X1 Y0 Y1 Y2
      obtain ⟨m0, m1⟩ := (HCM.out.below HB2.out hbb1).c2
      have b1z := Nat.lt_of_lt_of_le hbb1 HB2.out.size
      go_wp2_with fail
      go_ret
      exact ⟨by rw [← HR.out]; rfl, HB2.out⟩
    | true =>
    rw [if_neg (fun h => by cases h.2)] at HR
    have HF := Lib.hid hf
    clear hf
    go_wp2_with fail
    refine (HK102.out _ HB1.out).mono ?_
    rintro e2 w2 ⟨rfl, hb⟩
    have HB2 := Lib.hid (HB1.out.trans (hb.mono HB1.out.size))
    have HX2 := Lib.hid (HX1.out.later hb)
    have HY2 := Lib.hid (HY1.out.later hb)
    clear hb X0 X1 Xf Xz Y0 Y1 Y2 Yf Yz m0 m1 b1z
    have X0 := HX2.out.cell 0
    have X1 := HX2.out.cell 1
    have Xf := HX2.out.frozen
    have Xz := HX2.out.lt
    have Y0 := HY2.out.cell 0
    have Y1 := HY2.out.cell 1
    have Y2 := HY2.out.cell 2
    have Yf := HY2.out.frozen
    have Yz := HY2.out.lt
    simp only [List.getElem?_cons_zero, List.getElem?_cons_succ] at X0 X1 Y0 Y1 Y2
    obtain ⟨m0, m1⟩ := (HCM.out.below HB2.out hbb1).c2
    have b1z := Nat.lt_of_lt_of_le hbb1 HB2.out.size
    rcases isEmpty_cases grain with ⟨he, he2⟩ | ⟨he, he2⟩
    · rw [he2, if_neg (fun h => by cases h.1), if_neg (fun h => by cases h.1)] at HR
      go_wp2_with fail
      go_ret
      exact ⟨by rw [← HR.out]; rfl, HB2.out⟩
    cases qn with
    | false =>
      rw [if_pos ⟨he2, rfl⟩] at HR
      go_wp2_with fail
      refine (HK91.out _).mono ?_
      rintro e3 w3 ⟨rfl, hb⟩
      have HB3 := Lib.hid (HB2.out.trans (hb.mono HB2.out.size))
      have HX3 := Lib.hid (HX2.out.later hb)
      have HY3 := Lib.hid (HY2.out.later hb)
      clear hb X0 X1 Xf Xz Y0 Y1 Y2 Yf Yz m0 m1 b1z
      have X0 := HX3.out.cell 0
      have X1 := HX3.out.cell 1
      have Xf := HX3.out.frozen
      have Xz := HX3.out.lt
      have Y0 := HY3.out.cell 0
      have Y1 := HY3.out.cell 1
      have Y2 := HY3.out.cell 2
      have Yf := HY3.out.frozen
      have Yz := HY3.out.lt
      simp only [List.getElem?_cons_zero, List.getElem?_cons_succ] at X0 X1 Y0 Y1 Y2
      obtain ⟨m0, m1⟩ := (HCM.out.below HB3.out hbb1).c2
      have b1z := Nat.lt_of_lt_of_le hbb1 HB3.out.size
      go_wp2_with fail
      go_ret
      exact ⟨by rw [← HR.out]; rfl, HB3.out⟩
    | true =>
    rw [if_neg (fun h => by cases h.2)] at HR
    go_wp2_with fail
    refine (HK91.out _).mono ?_
    rintro e3 w3 ⟨rfl, hb⟩
    have HB3 := Lib.hid (HB2.out.trans (hb.mono HB2.out.size))
    have HX3 := Lib.hid (HX2.out.later hb)
    have HY3 := Lib.hid (HY2.out.later hb)
    clear hb X0 X1 Xf Xz Y0 Y1 Y2 Yf Yz m0 m1 b1z
    have X0 := HX3.out.cell 0
    have X1 := HX3.out.cell 1
    have Xf := HX3.out.frozen
    have Xz := HX3.out.lt
    have Y0 := HY3.out.cell 0
    have Y1 := HY3.out.cell 1
    have Y2 := HY3.out.cell 2
    have Yf := HY3.out.frozen
    have Yz := HY3.out.lt
    simp only [List.getElem?_cons_zero, List.getElem?_cons_succ] at X0 X1 Y0 Y1 Y2
    obtain ⟨m0, m1⟩ := (HCM.out.below HB3.out hbb1).c2
    have b1z := Nat.lt_of_lt_of_le hbb1 HB3.out.size
    cases qk with
    | false =>
      rw [if_pos ⟨he2, rfl⟩] at HR
      go_wp2_with fail
      refine (HK96.out _ HB3.out).mono ?_
      rintro e4 w4 ⟨rfl, hb⟩
      have HB4 := Lib.hid (HB3.out.trans (hb.mono HB3.out.size))
      have HX4 := Lib.hid (HX3.out.later hb)
      have HY4 := Lib.hid (HY3.out.later hb)
      clear hb X0 X1 Xf Xz Y0 Y1 Y2 Yf Yz m0 m1 b1z
      have X0 := HX4.out.cell 0
      have X1 := HX4.out.cell 1
      have Xf := HX4.out.frozen
      have Xz := HX4.out.lt
      have Y0 := HY4.out.cell 0
      have Y1 := HY4.out.cell 1
      have Y2 := HY4.out.cell 2
      have Yf := HY4.out.frozen
      have Yz := HY4.out.lt
      simp only [List.getElem?_cons_zero, List.getElem?_cons_succ] at X0 X1 Y0 Y1 Y2
      obtain ⟨m0, m1⟩ := (HCM.out.below HB4.out hbb1).c2
      have b1z := Nat.lt_of_lt_of_le hbb1 HB4.out.size
      go_wp2_with fail
      go_ret
      exact ⟨by rw [← HR.out]; rfl, HB4.out⟩
    | true =>
    rw [if_neg (fun h => by cases h.2)] at HR
    go_wp2_with fail
    refine (HK96.out _ HB3.out).mono ?_
    rintro e4 w4 ⟨rfl, hb⟩
    have HB4 := Lib.hid (HB3.out.trans (hb.mono HB3.out.size))
    have HX4 := Lib.hid (HX3.out.later hb)
    have HY4 := Lib.hid (HY3.out.later hb)
    clear hb X0 X1 Xf Xz Y0 Y1 Y2 Yf Yz m0 m1 b1z
    have X0 := HX4.out.cell 0
    have X1 := HX4.out.cell 1
    have Xf := HX4.out.frozen
    have Xz := HX4.out.lt
    have Y0 := HY4.out.cell 0
    have Y1 := HY4.out.cell 1
    have Y2 := HY4.out.cell 2
    have Yf := HY4.out.frozen
    have Yz := HY4.out.lt
    simp only [List.getElem?_cons_zero, List.getElem?_cons_succ] at X0 X1 Y0 Y1 Y2
    obtain ⟨m0, m1⟩ := (HCM.out.below HB4.out hbb1).c2
    have b1z := Nat.lt_of_lt_of_le hbb1 HB4.out.size
    go_wp2_with fail
    go_ret
    exact ⟨by rw [← HR.out]; rfl, HB4.out⟩
  | false =>
  rw [Bool.false_and, if_neg (by simp)] at HR
  by_cases hf : feeds = -1
  · have kf : (feeds != -1) = false := by simp [hf]
    rw [if_neg (fun h => h.1 hf)] at HR
    have HF := Lib.hid hf
    clear hf
    rcases isEmpty_cases grain with ⟨he, he2⟩ | ⟨he, he2⟩
    · rw [he2, if_neg (fun h => by cases h.1), if_neg (fun h => by cases h.1)] at HR
      go_wp2_with fail
      go_ret
      exact ⟨by rw [← HR.out]; rfl, HB.out⟩
    cases qn with
    | false =>
      rw [if_pos ⟨he2, rfl⟩] at HR
      go_wp2_with fail
      refine (HK91.out _).mono ?_
      rintro e1 w1 ⟨rfl, hb⟩
      have HB1 := Lib.hid (HB.out.trans (hb.mono HB.out.size))
      have HX1 := Lib.hid (HX.out.later hb)
      have HY1 := Lib.hid (HY.out.later hb)
      clear hb X0 X1 Xf Xz Y0 Y1 Y2 Yf Yz m0 m1 b1z
      have X0 := HX1.out.cell 0
      have X1 := HX1.out.cell 1
      have Xf := HX1.out.frozen
      have Xz := HX1.out.lt
      have Y0 := HY1.out.cell 0
      have Y1 := HY1.out.cell 1
      have Y2 := HY1.out.cell 2
      have Yf := HY1.out.frozen
      have Yz := HY1.out.lt
      simp only [List.getElem?_cons_zero, List.getElem?_cons_succ] at X0 X1 Y0 Y1 Y2
      obtain ⟨m0, m1⟩ := (HCM.out.below HB1.out hbb1).c2
      have b1z := Nat.lt_of_lt_of_le hbb1 HB1.out.size
      go_wp2_with fail
      go_ret
      exact ⟨by rw [← HR.out]; rfl, HB1.out⟩
    | true =>
    rw [if_neg (fun h => by cases h.2)] at HR
    go_wp2_with fail
    refine (HK91.out _).mono ?_
    rintro e1 w1 ⟨rfl, hb⟩
    have HB1 := Lib.hid (HB.out.trans (hb.mono HB.out.size))
    have HX1 := Lib.hid (HX.out.later hb)
    have HY1 := Lib.hid (HY.out.later hb)
    clear hb X0 X1 Xf Xz Y0 Y1 Y2 Yf Yz m0 m1 b1z
    have X0 := HX1.out.cell 0
    have X1 := HX1.out.cell 1
    have Xf := HX1.out.frozen
    have Xz := HX1.out.lt
    have Y0 := HY1.out.cell 0
    have Y1 := HY1.out.cell 1
    have Y2 := HY1.out.cell 2
    have Yf := HY1.out.frozen
    have Yz := HY1.out.lt
    simp only [List.getElem?_cons_zero, List.getElem?_cons_succ] at X0 X1 Y0 Y1 Y2
    obtain ⟨m0, m1⟩ := (HCM.out.below HB1.out hbb1).c2
    have b1z := Nat.lt_of_lt_of_le hbb1 HB1.out.size
    cases qk with
    | false =>
      rw [if_pos ⟨he2, rfl⟩] at HR
      go_wp2_with fail
      refine (HK96.out _ HB1.out).mono ?_
      rintro e2 w2 ⟨rfl, hb⟩
      have HB2 := Lib.hid (HB1.out.trans (hb.mono HB1.out.size))
      have HX2 := Lib.hid (HX1.out.later hb)
      have HY2 := Lib.hid (HY1.out.later hb)
      clear hb X0 X1 Xf Xz Y0 Y1 Y2 Yf Yz m0 m1 b1z
      have X0 := HX2.out.cell 0
      have X1 := HX2.out.cell 1
      have Xf := HX2.out.frozen
      have Xz := HX2.out.lt
      have Y0 := HY2.out.cell 0
      have Y1 := HY2.out.cell 1
      have Y2 := HY2.out.cell 2
      have Yf := HY2.out.frozen
      have Yz := HY2.out.lt
      simp only [List.getElem?_cons_zero, List.getElem?_cons_succ] at X0 X1 Y0 Y1 Y2
      obtain ⟨m0, m1⟩ := (HCM.out.below HB2.out hbb1).c2
      have b1z := Nat.lt_of_lt_of_le hbb1 HB2.out.size
      go_wp2_with fail
      go_ret
      exact ⟨by rw [← HR.out]; rfl, HB2.out⟩
    | true =>
    rw [if_neg (fun h => by cases h.2)] at HR
    go_wp2_with fail
    refine (HK96.out _ HB1.out).mono ?_
    rintro e2 w2 ⟨rfl, hb⟩
    have HB2 := Lib.hid (HB1.out.trans (hb.mono HB1.out.size))
    have HX2 := Lib.hid (HX1.out.later hb)
    have HY2 := Lib.hid (HY1.out.later hb)
    clear hb X0 X1 Xf Xz Y0 Y1 Y2 Yf Yz m0 m1 b1z
    have X0 := HX2.out.cell 0
    have X1 := HX2.out.cell 1
    have Xf := HX2.out.frozen
    have Xz := HX2.out.lt
    have Y0 := HY2.out.cell 0
    have Y1 := HY2.out.cell 1
    have Y2 := HY2.out.cell 2
    have Yf := HY2.out.frozen
    have Yz := HY2.out.lt
    simp only [List.getElem?_cons_zero, List.getElem?_cons_succ] at X0 X1 Y0 Y1 Y2
    obtain ⟨m0, m1⟩ := (HCM.out.below HB2.out hbb1).c2
    have b1z := Nat.lt_of_lt_of_le hbb1 HB2.out.size
    go_wp2_with fail
    go_ret
    exact ⟨by rw [← HR.out]; rfl, HB2.out⟩
  have kf : (feeds != -1) = true := by simp [hf]
  cases qa with
  | false =>
    rw [if_pos ⟨hf, rfl⟩] at HR
    have HF := Lib.hid hf
    clear hf
    go_wp2_with fail
    refine (HK102.out _ HB.out).mono ?_
    rintro e1 w1 ⟨rfl, hb⟩
    have HB1 := Lib.hid (HB.out.trans (hb.mono HB.out.size))
    have HX1 := Lib.hid (HX.out.later hb)
    have HY1 := Lib.hid (HY.out.later hb)
    clear hb X0 X1 Xf Xz Y0 Y1 Y2 Yf Yz m0 m1 b1z
    have X0 := HX1.out.cell 0
    have X1 := HX1.out.cell 1
    have Xf := HX1.out.frozen
    have Xz := HX1.out.lt
    have Y0 := HY1.out.cell 0
    have Y1 := HY1.out.cell 1
    have Y2 := HY1.out.cell 2
    have Yf := HY1.out.frozen
    have Yz := HY1.out.lt
    simp only [List.getElem?_cons_zero, List.getElem?_cons_succ] at X0 X1 Y0 Y1 Y2
    obtain ⟨m0, m1⟩ := (HCM.out.below HB1.out hbb1).c2
    have b1z := Nat.lt_of_lt_of_le hbb1 HB1.out.size
    go_wp2_with fail
    go_ret
    exact ⟨by rw [← HR.out]; rfl, HB1.out⟩
  | true =>
  rw [if_neg (fun h => by cases h.2)] at HR
  have HF := Lib.hid hf
  clear hf
  go_wp2_with fail
  refine (HK102.out _ HB.out).mono ?_
  rintro e1 w1 ⟨rfl, hb⟩
  have HB1 := Lib.hid (HB.out.trans (hb.mono HB.out.size))
  have HX1 := Lib.hid (HX.out.later hb)
  have HY1 := Lib.hid (HY.out.later hb)
  clear hb X0 X1 Xf Xz Y0 Y1 Y2 Yf Yz m0 m1 b1z
  have X0 := HX1.out.cell 0
  have X1 := HX1.out.cell 1
  have Xf := HX1.out.frozen
  have Xz := HX1.out.lt
  have Y0 := HY1.out.cell 0
  have Y1 := HY1.out.cell 1
  have Y2 := HY1.out.cell 2
  have Yf := HY1.out.frozen
  have Yz := HY1.out.lt
  simp only [List.getElem?_cons_zero, List.getElem?_cons_succ] at X0 X1 Y0 Y1 Y2
  obtain ⟨m0, m1⟩ := (HCM.out.below HB1.out hbb1).c2
  have b1z := Nat.lt_of_lt_of_le hbb1 HB1.out.size
  rcases isEmpty_cases grain with ⟨he, he2⟩ | ⟨he, he2⟩
  · rw [he2, if_neg (fun h => by cases h.1), if_neg (fun h => by cases h.1)] at HR
    go_wp2_with fail
    go_ret
    exact ⟨by rw [← HR.out]; rfl, HB1.out⟩
  cases qn with
  | false =>
    rw [if_pos ⟨he2, rfl⟩] at HR
    go_wp2_with fail
    refine (HK91.out _).mono ?_
    rintro e2 w2 ⟨rfl, hb⟩
    have HB2 := Lib.hid (HB1.out.trans (hb.mono HB1.out.size))
    have HX2 := Lib.hid (HX1.out.later hb)
    have HY2 := Lib.hid (HY1.out.later hb)
    clear hb X0 X1 Xf Xz Y0 Y1 Y2 Yf Yz m0 m1 b1z
    have X0 := HX2.out.cell 0
    have X1 := HX2.out.cell 1
    have Xf := HX2.out.frozen
    have Xz := HX2.out.lt
    have Y0 := HY2.out.cell 0
    have Y1 := HY2.out.cell 1
    have Y2 := HY2.out.cell 2
    have Yf := HY2.out.frozen
    have Yz := HY2.out.lt
    simp only [List.getElem?_cons_zero, List.getElem?_cons_succ] at X0 X1 Y0 Y1 Y2
    obtain ⟨m0, m1⟩ := (HCM.out.below HB2.out hbb1).c2
    have b1z := Nat.lt_of_lt_of_le hbb1 HB2.out.size
    go_wp2_with fail
    go_ret
    exact ⟨by rw [← HR.out]; rfl, HB2.out⟩
  | true =>
  rw [if_neg (fun h => by cases h.2)] at HR
  go_wp2_with fail
  refine (HK91.out _).mono ?_
  rintro e2 w2 ⟨rfl, hb⟩
  have HB2 := Lib.hid (HB1.out.trans (hb.mono HB1.out.size))
  have HX2 := Lib.hid (HX1.out.later hb)
  have HY2 := Lib.hid (HY1.out.later hb)
  clear hb X0 X1 Xf Xz Y0 Y1 Y2 Yf Yz m0 m1 b1z
  have X0 := HX2.out.cell 0
  have X1 := HX2.out.cell 1
  have Xf := HX2.out.frozen
  have Xz := HX2.out.lt
  have Y0 := HY2.out.cell 0
  have Y1 := HY2.out.cell 1
  have Y2 := HY2.out.cell 2
  have Yf := HY2.out.frozen
  have Yz := HY2.out.lt
  simp only [List.getElem?_cons_zero, List.getElem?_cons_succ] at X0 X1 Y0 Y1 Y2
  obtain ⟨m0, m1⟩ := (HCM.out.below HB2.out hbb1).c2
  have b1z := Nat.lt_of_lt_of_le hbb1 HB2.out.size
  cases qk with
  | false =>
    rw [if_pos ⟨he2, rfl⟩] at HR
    go_wp2_with fail
    refine (HK96.out _ HB2.out).mono ?_
    rintro e3 w3 ⟨rfl, hb⟩
    have HB3 := Lib.hid (HB2.out.trans (hb.mono HB2.out.size))
    have HX3 := Lib.hid (HX2.out.later hb)
    have HY3 := Lib.hid (HY2.out.later hb)
    clear hb X0 X1 Xf Xz Y0 Y1 Y2 Yf Yz m0 m1 b1z
    have X0 := HX3.out.cell 0
    have X1 := HX3.out.cell 1
    have Xf := HX3.out.frozen
    have Xz := HX3.out.lt
    have Y0 := HY3.out.cell 0
    have Y1 := HY3.out.cell 1
    have Y2 := HY3.out.cell 2
    have Yf := HY3.out.frozen
    have Yz := HY3.out.lt
    simp only [List.getElem?_cons_zero, List.getElem?_cons_succ] at X0 X1 Y0 Y1 Y2
    obtain ⟨m0, m1⟩ := (HCM.out.below HB3.out hbb1).c2
    have b1z := Nat.lt_of_lt_of_le hbb1 HB3.out.size
    go_wp2_with fail
    go_ret
    exact ⟨by rw [← HR.out]; rfl, HB3.out⟩
  | true =>
  rw [if_neg (fun h => by cases h.2)] at HR
  go_wp2_with fail
  refine (HK96.out _ HB2.out).mono ?_
  rintro e3 w3 ⟨rfl, hb⟩
  have HB3 := Lib.hid (HB2.out.trans (hb.mono HB2.out.size))
  have HX3 := Lib.hid (HX2.out.later hb)
  have HY3 := Lib.hid (HY2.out.later hb)
  clear hb X0 X1 Xf Xz Y0 Y1 Y2 Yf Yz m0 m1 b1z
  have X0 := HX3.out.cell 0
  have X1 := HX3.out.cell 1
  have Xf := HX3.out.frozen
  have Xz := HX3.out.lt
  have Y0 := HY3.out.cell 0
  have Y1 := HY3.out.cell 1
  have Y2 := HY3.out.cell 2
  have Yf := HY3.out.frozen
  have Yz := HY3.out.lt
  simp only [List.getElem?_cons_zero, List.getElem?_cons_succ] at X0 X1 Y0 Y1 Y2
  obtain ⟨m0, m1⟩ := (HCM.out.below HB3.out hbb1).c2
  have b1z := Nat.lt_of_lt_of_le hbb1 HB3.out.size
  go_wp2_with fail
  go_ret
  exact ⟨by rw [← HR.out]; rfl, HB3.out⟩
end Go.Proofs.YtpafjhjpchdcdaaGreatDoor
