/- Lemmas on the way to the law TopScales (part 8): WU WW WX WY WZ Rb -/
import Derived.Test.YtflchbejjofppaaGreatDoorTopScalesP07
import Derived.WalkSmall
import Derived.Test.YtflchbejjofppaaGreatDoorTopScalesP01
set_option linter.unusedVariables false
set_option linter.unusedSimpArgs false

/- Walks: the error of a book, by the program. -/
namespace Go.Proofs.YtflchbejjofppaaGreatDoor
open Go Go.Proofs Go.RowKit Go.Maps
set_option maxHeartbeats 400000 in
theorem place68 (p : Int) (B : Nat) (a : Option Addr) (n c : Nat) (w : World) (hc : w.cell? ⟨B, 0, none⟩ = some (.slice a n c)) : Calls Tryz.prog 58 #[.int .i64 p, .pointer (some ⟨B, 0, none⟩)] w fun e w' => e = .returned (.bool (!badPl n p)) ∧ w = w' := by
  by_cases h1 : p < -1
  · go_enter Tryz.func58, Tryz.ntmps58
    go_wp2_with fail
    go_ret
    exact ⟨ret_bool (by simp [badPl, h1]), rfl⟩
  by_cases h2 : (n : Int) ≤ p
  · go_enter Tryz.func58, Tryz.ntmps58
    go_wp2_with fail
    go_ret
    exact ⟨ret_bool (by simp [badPl, h2]), rfl⟩
  · go_enter Tryz.func58, Tryz.ntmps58
    go_wp2_with fail
    go_ret
    exact ⟨ret_bool (by simp [badPl]; omega), rfl⟩
def idsOf (l : List Tk) : List (List UInt8) := (l.map fun t => t.id.data.toList).reverse
theorem idsOf_snoc (l : List Tk) (k : Nat) (h : k < l.length) : idsOf (l.take (k + 1)) = l[k].id.data.toList :: idsOf (l.take k) := by
  unfold idsOf; rw [take_snoc l k h, List.map_append, List.reverse_append]; rfl
theorem keyStr {s : ByteArray} (hs : s.size ≤ maxLen) : keyOf Tryz.prog 9 (.string s) = some (strLit s.data.toList) := by
  simp [keyOf, Tryz.underlying9, mapKey, hs, strLit]
theorem idsOf_any (l : List Tk) (t : Tk) : l.any (fun x => x.id.toList == t.id.toList) = decide (t.id.data.toList ∈ idsOf l) := by
  rw [Bool.eq_iff_iff]
  simp only [idsOf, List.any_eq_true, beq_iff_eq, ByteArray.toList_eq, decide_eq_true_eq, List.mem_reverse, List.mem_map]
set_option maxRecDepth 100000 in
set_option maxHeartbeats 1000000 in
theorem ckBook25 (v1 v2 : Value) (b : Bk) (w : World) (hv : BkR w w.heap.size v1 v2 b) :
    Calls Tryz.prog 34 #[.agg #[v1, v2]] w (Ret (.int .i64 (ckBook b)) w) := by
  obtain ⟨⟨a1, c1, rfl, hl1, hA1⟩, ⟨a2, c2, rfl, hl2, hA2⟩, hids⟩ := hv
  have HA1 := Lib.hid hA1
  clear hA1
  have HA2 := Lib.hid hA2
  clear hA2
  have HIDS := Lib.hid hids
  clear hids
  obtain ⟨R, hR⟩ : ∃ R, ckBook b = R := ⟨_, rfl⟩
  rw [hR]
  have HR := Lib.hid hR
  clear hR
  have W1 : Below w.heap.size w (w.alloc (.cells #[.slice a1 b.st.length c1, .slice a2 b.ts.length c2] 25)) := (Below.refl _ _).alloc (Nat.le_refl _) _
  have HW1 := Lib.hid W1
  clear W1
  go_enter Tryz.func34, Tryz.ntmps34
  by_cases h1 : 32 < b.st.length
  · go_wp2_with fail
    go_ret
    exact Ret.mk (by rw [← HR.out]; unfold ckBook; rw [if_pos h1]; rfl) HW1.out
  go_wp2_with fail
  obtain ⟨S, hS⟩ : ∃ S, ckRgs b.st = S := ⟨_, rfl⟩
  have HR1 : Hid ((if S ≠ 0 then S else if 128 < b.ts.length then 5 else ckTksL b 0 b.ts) = R) := by
    have h := HR.out
    unfold ckBook at h
    rw [if_neg h1, hS] at h
    exact h
  have HS := Lib.hid hS
  clear hS
  clear HR
  go_loopw [18] (fun j wr => ∃ k : Nat, k ≤ b.st.length ∧ j = .int .i64 k ∧ Below w.heap.size w wr ∧ Box wr w.heap.size 25 [.slice a1 b.st.length c1, .slice a2 b.ts.length c2] ∧ ckRgs (b.st.drop k) = S) (fun j _ => b.st.length - (intOf j).toNat)
  case atStart => exact ⟨0, by omega, rfl, HW1.out, Box.newAt _ _ _ rfl, HS.out⟩
  case round =>
    obtain ⟨k, hk, rfl, hbe, hx0, hrel⟩ := hrel
    have HL := Lib.hid hrel
    clear hrel
    clear HS
    have d0 := hx0.cell 0
    have d1 := hx0.cell 1
    have dz := hx0.lt
    simp only [List.getElem?_cons_zero, List.getElem?_cons_succ] at d0 d1
    by_cases hlt : k < b.st.length
    · obtain ⟨bb, off, rfl, hbb, hcells⟩ := HA1.out (by omega)
      obtain ⟨e0, e1⟩ := ((hcells k hlt).below hbe hbb).c2
      clear hcells HA1
      have hd := Lib.hid (ckRgs_drop b.st k hlt)
      generalize b.st[k] = x at *
      have hcall := ckRange54 x
      obtain ⟨n, hn⟩ : ∃ n, ckRange x = n := ⟨_, rfl⟩
      rw [hn] at hd hcall
      have HC := Lib.hid hcall
      clear hcall
      clear hn
      have hbx := hbe.alloc hbe.size (.cells #[.int .i64 x.lo, .int .i64 x.hi] 34)
      have hx0' := hx0.alloc (.cells #[.int .i64 x.lo, .int .i64 x.hi] 34)
      have HBX := Lib.hid hbx
      clear hbx
      have HX0 := Lib.hid hx0'
      clear hx0'
      by_cases hn0 : n = 0
      · go_wp2_with (go_at_call 38; refine (HC.out _).mono ?_; rintro e w3 ⟨rfl, hb3⟩)
        go_roundw
        case rel => exact ⟨k + 1, by omega, by go_num, HBX.out.trans (hb3.mono HBX.out.size), HX0.out.later hb3, by rw [← HL.out, hd.out, if_pos hn0]⟩
        case measure => simp [intOf]; omega
      · go_wp2_with (go_at_call 38; refine (HC.out _).mono ?_; rintro e w3 ⟨rfl, hb3⟩)
        go_ret
        refine Ret.mk ?_ (HBX.out.trans (hb3.mono HBX.out.size))
        have h2 := HL.out
        rw [hd.out, if_neg hn0] at h2
        have h3 := HR1.out
        rw [← h2, if_pos hn0] at h3
        rw [← h3]; rfl
    · obtain rfl : b.st.length = k := by omega
      have hS0 : S = 0 := by have h := HL.out; rw [List.drop_length] at h; exact h.symm
      have HR2 : Hid ((if 128 < b.ts.length then 5 else ckTksL b 0 b.ts) = R) := by have h := HR1.out; rw [if_neg (by simp [hS0])] at h; exact h
      clear HR1 HL hS0
      by_cases h2 : 128 < b.ts.length
      · go_wp2_with fail
        go_ret
        exact Ret.mk (by rw [← HR2.out, if_pos h2]; rfl) hbe
      have HR3 : Hid (ckTksL b 0 b.ts = R) := by have h := HR2.out; rw [if_neg h2] at h; exact h
      clear HR2
      have hmm := @run_makeMap Tryz.prog
      go_wp2_with fail
      clear d0 d1 hmm
      go_loopw [37] (fun j w2 => ∃ k : Nat, k ≤ b.ts.length ∧ j = .int .i64 k ∧ Below w.heap.size w w2 ∧ Box w2 w.heap.size 25 [.slice a1 b.st.length c1, .slice a2 b.ts.length c2] ∧ SetM strLit Tryz.prog 9 4 w2 wr.heap.size (idsOf (b.ts.take k)) ∧ ckTksL b k (b.ts.drop k) = R) (fun j _ => b.ts.length - (intOf j).toNat)
      case atStart => exact ⟨0, by omega, rfl, hbe.alloc hbe.size _, hx0.alloc _, SetM.made _ _ _ _ _, HR3.out⟩
      case round =>
        have hz0 := hbe.size
        clear HR3 hbe hx0
        obtain ⟨k, hk, rfl, hbe, hx0, hset, hrel⟩ := hrel
        have HL := Lib.hid hrel
        clear hrel
        have d0 := hx0.cell 0
        have d1 := hx0.cell 1
        have dz2 := hx0.lt
        have sz := hset.lt
        simp only [List.getElem?_cons_zero, List.getElem?_cons_succ] at d0 d1
        by_cases hlt : k < b.ts.length
        · obtain ⟨bb, off, rfl, hbb, hcells⟩ := HA2.out (by omega)
          obtain ⟨e0, e1, e2, e3, e4⟩ := ((hcells k hlt).below hbe hbb).c5
          clear hcells HA2
          have hd := Lib.hid (ckTksL_drop b k hlt)
          have hsn := Lib.hid (idsOf_snoc b.ts k hlt)
          have hsz := HIDS.out b.ts[k] (List.getElem_mem hlt)
          have hany := Lib.hid (idsOf_any (b.ts.take k) b.ts[k])
          have hlk : (idsOf (b.ts.take k)).length < maxLen := by have := List.length_take_le k b.ts; simp [maxLen, idsOf]; omega
          have HLK := Lib.hid hlk
          clear hlk
          generalize b.ts[k] = t at *
          obtain ⟨tid, tfr, tto, tlo, thi⟩ := t
          dsimp only at *
          have hkey : keyOf Tryz.prog 9 (.string tid) = some (strLit tid.data.toList) := keyStr (by simpa [maxLen] using hsz)
          have HK := Lib.hid hkey
          clear hkey
          generalize hLL : idsOf (b.ts.take k) = L at *
          have HLL := Lib.hid hLL
          clear hLL
          have HSET := Lib.hid hset
          clear hset
          obtain ⟨nm, hnm⟩ : ∃ x, isName tid = x := ⟨_, rfl⟩
          have HN := Lib.hid (isName69 tid)
          rw [hnm] at HN
          obtain ⟨R2, hR2⟩ : ∃ n, ckTk b k ⟨tid, tfr, tto, ⟨tlo, thi⟩⟩ = n := ⟨_, rfl⟩
          rw [hR2] at hd
          have HR2 := Lib.hid hR2
          clear hR2
          have HNM := Lib.hid hnm
          clear hnm
          have HSZ := Lib.hid hsz
          have HBX := Lib.hid (hbe.alloc hbe.size (.cells #[.string tid, .int .i64 tfr, .int .i64 tto, .int .i64 tlo, .int .i64 thi] 42))
          have HX0 := Lib.hid (hx0.alloc (.cells #[.string tid, .int .i64 tfr, .int .i64 tto, .int .i64 tlo, .int .i64 thi] 42))
          have HSA := Lib.hid (HSET.out.alloc (.cells #[.string tid, .int .i64 tfr, .int .i64 tto, .int .i64 tlo, .int .i64 thi] 42))
          have HEND : Hid (R2 ≠ 0 → R2 = R) := Lib.hid (fun h => by have h2 := HL.out; rw [hd.out, if_neg h] at h2; exact h2)
          cases nm
          · go_wp2_with (go_at_call 59; refine (HN.out _ HSZ.out).mono ?_; rintro e w3 ⟨rfl, hb3⟩)
            go_ret
            have h8 : 8 = R2 := by rw [← HR2.out]; unfold ckTk; rw [if_pos HNM.out]
            refine Ret.mk ?_ (HBX.out.trans (hb3.mono HBX.out.size))
            rw [← HEND.out (by omega), ← h8]; rfl
          have HY := Lib.hid (Box.new wr #[.string tid, .int .i64 tfr, .int .i64 tto, .int .i64 tlo, .int .i64 thi] 42)
          by_cases hm : tid.data.toList ∈ L
          · go_wp2_with (first | (go_at_call 59; refine (HN.out _ HSZ.out).mono ?_; rintro e w3 ⟨rfl, hb3⟩; have hset3 := Lib.hid (HSA.out.later hb3); have y0 := (HY.out.later hb3).cell 0; simp only [List.getElem?_cons_zero] at y0) | (at_lookup; refine wpList_look_set (f := strLit) hset3.out lawStr Tryz.underlying110 Tryz.underlying4 (Tryz.zeroValue4 _) HK.out rfl _ _ rfl rfl rfl ?_))
            go_ret
            have h9 : 9 = R2 := by rw [← HR2.out]; unfold ckTk; rw [if_neg (by rw [HNM.out]; decide), hany.out, if_pos (by simpa using hm)]
            refine Ret.mk ?_ (HBX.out.trans (hb3.mono HBX.out.size))
            rw [← HEND.out (by omega), ← h9]; rfl
          have HR3 : Hid ((if badPl b.st.length tfr || badPl b.st.length tto then 10 else if tfr = tto then 1 else ckMass ⟨tlo, thi⟩) = R2) := by
            have h := HR2.out
            unfold ckTk at h
            rw [if_neg (by rw [HNM.out]; decide), hany.out, if_neg (by simpa using hm)] at h
            exact h
          obtain ⟨p1, hp1⟩ : ∃ x, badPl b.st.length tfr = x := ⟨_, rfl⟩
          obtain ⟨p2, hp2⟩ : ∃ x, badPl b.st.length tto = x := ⟨_, rfl⟩
          rw [hp1, hp2] at HR3
          cases p1
          cases p2
          by_cases hft : tfr = tto
          · obtain rfl := hft
            go_wp2_with (first | (go_at_call 59; refine (HN.out _ HSZ.out).mono ?_; rintro e w3 ⟨rfl, hb3⟩; have hset3 := Lib.hid (HSA.out.later hb3); have x0 := (HX0.out.later hb3).cell 0; have y0 := (HY.out.later hb3).cell 0; have y1 := (HY.out.later hb3).cell 1; have y2 := (HY.out.later hb3).cell 2; have y3 := (HY.out.later hb3).cell 3; have y4 := (HY.out.later hb3).cell 4; simp only [List.getElem?_cons_zero, List.getElem?_cons_succ] at x0 y0 y1 y2 y3 y4) | (at_lookup; refine wpList_look_set (f := strLit) hset3.out lawStr Tryz.underlying110 Tryz.underlying4 (Tryz.zeroValue4 _) HK.out rfl _ _ rfl rfl rfl ?_) | (go_at_call 58; refine (place68 _ _ _ _ _ _ x0).mono ?_; rintro e w4 ⟨rfl, rfl⟩))
            go_ret
            have h1 : 1 = R2 := by rw [← HR3.out]; simp
            refine Ret.mk ?_ (HBX.out.trans (hb3.mono HBX.out.size))
            rw [← HEND.out (by omega), ← h1]; rfl
          · obtain ⟨n, hn⟩ : ∃ n, ckMass ⟨tlo, thi⟩ = n := ⟨_, rfl⟩
            have HM := Lib.hid (ckMass70 ⟨tlo, thi⟩)
            rw [hn] at HM HR3
            have HRn : Hid (n = R2) := by rw [← HR3.out, if_neg (by decide), if_neg hft]; exact Lib.hid rfl
            by_cases hn0 : n = 0
            · go_wp2_with (first | (go_at_call 59; refine (HN.out _ HSZ.out).mono ?_; rintro e w3 ⟨rfl, hb3⟩; have hset3 := Lib.hid (HSA.out.later hb3); have x0 := (HX0.out.later hb3).cell 0; have y0 := (HY.out.later hb3).cell 0; have y1 := (HY.out.later hb3).cell 1; have y2 := (HY.out.later hb3).cell 2; have y3 := (HY.out.later hb3).cell 3; have y4 := (HY.out.later hb3).cell 4; simp only [List.getElem?_cons_zero, List.getElem?_cons_succ] at x0 y0 y1 y2 y3 y4) | (at_lookup; refine wpList_look_set (f := strLit) hset3.out lawStr Tryz.underlying110 Tryz.underlying4 (Tryz.zeroValue4 _) HK.out rfl _ _ rfl rfl rfl ?_) | (go_at_call 58; refine (place68 _ _ _ _ _ _ x0).mono ?_; rintro e w4 ⟨rfl, rfl⟩) | (go_at_call 55; refine (HM.out _).mono ?_; rintro e w5 ⟨rfl, hb5⟩; have hset5 := Lib.hid (hset3.out.later hb5); have z0 := ((HY.out.later hb3).later hb5).cell 0; simp only [List.getElem?_cons_zero] at z0) | (at_mapUpdate; refine wpList_put_set strLit_inj strLit_key hset5.out lawStr Tryz.underlying110 Tryz.underlying4 HK.out HLK.out rfl _ _ _ rfl rfl rfl rfl ?_; intro w6 hset6 hg6))
              go_roundw
              case rel =>
                have b5 := (HBX.out.trans (hb3.mono HBX.out.size)).trans (hb5.mono (HBX.out.trans (hb3.mono HBX.out.size)).size)
                refine ⟨k + 1, by omega, by go_num, b5.grown hg6 b5.size (fun j hj => by cases hj; omega), ((HX0.out.later hb3).later hb5).kept hg6 (by simp; omega), ?_, ?_⟩
                · rw [hsn.out]; exact hset6
                · have h2 := HL.out
                  rw [hd.out, if_pos (by rw [← HRn.out]; exact hn0)] at h2
                  exact h2
              case measure => simp [intOf]; omega
            · go_wp2_with (first | (go_at_call 59; refine (HN.out _ HSZ.out).mono ?_; rintro e w3 ⟨rfl, hb3⟩; have hset3 := Lib.hid (HSA.out.later hb3); have x0 := (HX0.out.later hb3).cell 0; have y0 := (HY.out.later hb3).cell 0; have y1 := (HY.out.later hb3).cell 1; have y2 := (HY.out.later hb3).cell 2; have y3 := (HY.out.later hb3).cell 3; have y4 := (HY.out.later hb3).cell 4; simp only [List.getElem?_cons_zero, List.getElem?_cons_succ] at x0 y0 y1 y2 y3 y4) | (at_lookup; refine wpList_look_set (f := strLit) hset3.out lawStr Tryz.underlying110 Tryz.underlying4 (Tryz.zeroValue4 _) HK.out rfl _ _ rfl rfl rfl ?_) | (go_at_call 58; refine (place68 _ _ _ _ _ _ x0).mono ?_; rintro e w4 ⟨rfl, rfl⟩) | (go_at_call 55; refine (HM.out _).mono ?_; rintro e w5 ⟨rfl, hb5⟩; have hset5 := Lib.hid (hset3.out.later hb5); have z0 := ((HY.out.later hb3).later hb5).cell 0; simp only [List.getElem?_cons_zero] at z0))
              go_ret
              refine Ret.mk ?_ ((HBX.out.trans (hb3.mono HBX.out.size)).trans (hb5.mono (HBX.out.trans (hb3.mono HBX.out.size)).size))
              rw [← HEND.out (by rw [← HRn.out]; exact hn0), ← HRn.out]; rfl
          · go_wp2_with (first | (go_at_call 59; refine (HN.out _ HSZ.out).mono ?_; rintro e w3 ⟨rfl, hb3⟩; have hset3 := Lib.hid (HSA.out.later hb3); have x0 := (HX0.out.later hb3).cell 0; have y0 := (HY.out.later hb3).cell 0; have y1 := (HY.out.later hb3).cell 1; have y2 := (HY.out.later hb3).cell 2; have y3 := (HY.out.later hb3).cell 3; have y4 := (HY.out.later hb3).cell 4; simp only [List.getElem?_cons_zero, List.getElem?_cons_succ] at x0 y0 y1 y2 y3 y4) | (at_lookup; refine wpList_look_set (f := strLit) hset3.out lawStr Tryz.underlying110 Tryz.underlying4 (Tryz.zeroValue4 _) HK.out rfl _ _ rfl rfl rfl ?_) | (go_at_call 58; refine (place68 _ _ _ _ _ _ x0).mono ?_; rintro e w4 ⟨rfl, rfl⟩))
            go_ret
            have h10 : 10 = R2 := by rw [← HR3.out]; simp
            refine Ret.mk ?_ (HBX.out.trans (hb3.mono HBX.out.size))
            rw [← HEND.out (by omega), ← h10]; rfl
          · go_wp2_with (first | (go_at_call 59; refine (HN.out _ HSZ.out).mono ?_; rintro e w3 ⟨rfl, hb3⟩; have hset3 := Lib.hid (HSA.out.later hb3); have x0 := (HX0.out.later hb3).cell 0; have y0 := (HY.out.later hb3).cell 0; have y1 := (HY.out.later hb3).cell 1; have y2 := (HY.out.later hb3).cell 2; have y3 := (HY.out.later hb3).cell 3; have y4 := (HY.out.later hb3).cell 4; simp only [List.getElem?_cons_zero, List.getElem?_cons_succ] at x0 y0 y1 y2 y3 y4) | (at_lookup; refine wpList_look_set (f := strLit) hset3.out lawStr Tryz.underlying110 Tryz.underlying4 (Tryz.zeroValue4 _) HK.out rfl _ _ rfl rfl rfl ?_) | (go_at_call 58; refine (place68 _ _ _ _ _ _ x0).mono ?_; rintro e w4 ⟨rfl, rfl⟩))
            go_ret
            have h10 : 10 = R2 := by rw [← HR3.out]; simp
            refine Ret.mk ?_ (HBX.out.trans (hb3.mono HBX.out.size))
            rw [← HEND.out (by omega), ← h10]; rfl
        · obtain rfl : b.ts.length = k := by omega
          go_wp2_with fail
          go_ret
          have h2 := HL.out
          rw [List.drop_length] at h2
          exact Ret.mk (by rw [← h2]; rfl) hbe
end Go.Proofs.YtflchbejjofppaaGreatDoor
/- Walks: ranges compared, light and tiny books. -/
namespace Go.Proofs.YtflchbejjofppaaGreatDoor
open Go Go.Proofs Go.RowKit
deriving instance DecidableEq for Rg
def rangesP (l : List Rg) (e n : Int) (r : List Rg) : Prop := if n ≠ 0 then l = [] ∧ e = n else e = 0 ∧ l = r
instance (l : List Rg) (e n : Int) (r : List Rg) : Decidable (rangesP l e n r) := by unfold rangesP; exact inferInstance
end Go.Proofs.YtflchbejjofppaaGreatDoor
/- Walks: light and tiny books. -/
namespace Go.Proofs.YtflchbejjofppaaGreatDoor
open Go Go.Proofs Go.RowKit
theorem ckRgs_ok : ∀ l : List Rg, ckRgs l = 0 ↔ ∀ r ∈ l, ckRange r = 0
  | [] => by simp [ckRgs]
  | r :: l => by
    have ih := ckRgs_ok l
    unfold ckRgs
    by_cases h : ckRange r = 0
    · simp [h, ih]
    · simp [h]
theorem ckTksL_ok (b : Bk) : ∀ (l : List Tk) (i : Nat), ckTksL b i l = 0 ↔ ∀ j t, l[j]? = some t → ckTk b (i + j) t = 0
  | [], i => by simp [ckTksL]
  | t :: l, i => by
    have ih := ckTksL_ok b l (i + 1)
    unfold ckTksL
    by_cases h : ckTk b i t = 0
    · rw [if_pos h, ih]
      constructor
      · intro H j t' ht
        cases j with
        | zero => simp at ht; subst ht; exact h
        | succ j => have := H j t' (by simpa using ht); rwa [Nat.add_assoc, Nat.add_comm 1 j] at this
      · intro H j t' ht
        have := H (j + 1) t' (by simpa using ht)
        rwa [Nat.add_assoc, Nat.add_comm 1 j]
    · rw [if_neg h]
      exact ⟨fun H => absurd H h, fun H => absurd (by simpa using H 0 t rfl) h⟩
theorem ckBook_ok (b : Bk) : ckBook b = 0 ↔ b.st.length ≤ 32 ∧ (∀ r ∈ b.st, ckRange r = 0) ∧ b.ts.length ≤ 128 ∧ ∀ i t, b.ts[i]? = some t → ckTk b i t = 0 := by
  have h1 := ckRgs_ok b.st
  have h2 := ckTksL_ok b b.ts 0
  simp only [Nat.zero_add] at h2
  rw [← h1, ← h2]
  unfold ckBook
  by_cases a1 : 32 < b.st.length
  · rw [if_pos a1]; simp; omega
  rw [if_neg a1]
  by_cases a2 : ckRgs b.st = 0
  · rw [if_neg (by simp [a2])]
    by_cases a3 : 128 < b.ts.length
    · rw [if_pos a3]; simp; omega
    · rw [if_neg a3]; simp [a2]; omega
  · rw [if_pos a2]; simp [a2]
theorem ckRange_ok {r : Rg} : ckRange r = 0 ↔ -999999999 ≤ r.lo ∧ r.lo ≤ r.hi ∧ r.hi ≤ 999999999 := by
  unfold ckRange farB
  by_cases a1 : (decide (999999999 < r.lo) || decide (r.lo < -999999999) || (decide (999999999 < r.hi) || decide (r.hi < -999999999))) = true
  · rw [if_pos a1]
    simp only [Bool.or_eq_true, decide_eq_true_eq] at a1
    constructor
    · intro h; simp at h
    · omega
  · rw [if_neg a1]
    simp only [Bool.or_eq_true, decide_eq_true_eq] at a1
    by_cases a2 : r.hi < r.lo
    · rw [if_pos a2]; constructor
      · intro h; simp at h
      · omega
    · rw [if_neg a2]; constructor
      · intro _; omega
      · intro _; rfl
theorem ckMass_ok {r : Rg} : ckMass r = 0 ↔ 0 ≤ r.lo ∧ r.lo ≤ r.hi ∧ r.hi ≤ 999999999 := by
  have h := @ckRange_ok r
  unfold ckMass
  by_cases a : ckRange r = 0
  · rw [if_pos a]
    have := h.1 a
    by_cases c : r.lo < 0
    · rw [if_pos c]; constructor
      · intro h; simp at h
      · omega
    · rw [if_neg c]; constructor
      · intro _; omega
      · intro _; rfl
  · rw [if_neg a]; constructor
    · intro h; exact absurd h a
    · intro hh; exact h.2 (by omega)
theorem ckTk_ok {b : Bk} {i : Nat} {t : Tk} (h : ckTk b i t = 0) : isName t.id = true ∧ (b.ts.take i).any (fun x => x.id.toList == t.id.toList) = false ∧ badPl b.st.length t.fr = false ∧ badPl b.st.length t.to = false ∧ t.fr ≠ t.to ∧ ckMass t.m = 0 := by
  unfold ckTk at h
  by_cases a1 : isName t.id = true
  · rw [if_neg (by simp [a1])] at h
    by_cases a2 : (b.ts.take i).any (fun x => x.id.toList == t.id.toList) = true
    · rw [if_pos a2] at h; simp at h
    · rw [if_neg a2] at h
      by_cases a3 : (badPl b.st.length t.fr || badPl b.st.length t.to) = true
      · rw [if_pos a3] at h; simp at h
      · rw [if_neg a3] at h
        by_cases a4 : t.fr = t.to
        · rw [if_pos a4] at h; simp at h
        · rw [if_neg a4] at h
          simp only [Bool.or_eq_true, not_or, Bool.not_eq_true] at a3
          exact ⟨a1, (Bool.not_eq_true _).mp a2, a3.1, a3.2, a4, h⟩
  · rw [if_pos (by simpa using a1)] at h; simp at h
end Go.Proofs.YtflchbejjofppaaGreatDoor
/- Walks: the change of places by given masses; assignments. -/
namespace Go.Proofs.YtflchbejjofppaaGreatDoor
open Go Go.Proofs Go.RowKit
def gain (S : List Int) : List Tk → List Int → Int
  | t :: ts, m :: ms => (if t.to ∈ S then m else 0) - (if t.fr ∈ S then m else 0) + gain S ts ms
  | _, _ => 0
end Go.Proofs.YtflchbejjofppaaGreatDoor
/- Walks: assignments, by the reference. -/
namespace Go.Proofs.YtflchbejjofppaaGreatDoor
open Go Go.Proofs Go.RowKit
def Rg.has (r : Rg) (x : Int) : Prop := r.lo ≤ x ∧ x ≤ r.hi
instance (r : Rg) (x : Int) : Decidable (r.has x) := by unfold Rg.has; exact inferInstance
structure IsAsg (b : Bk) (ms : List Int) : Prop where
  len : ms.length = b.ts.length
  tk : ∀ i (h : i < b.ts.length), (b.ts[i]).m.has (ms[i]'(len ▸ h))
  pl : ∀ p (h : p < b.st.length), (b.st[p]).has (gain [(p : Int)] b.ts ms)
end Go.Proofs.YtflchbejjofppaaGreatDoor
/- A region that draws its order, as in text R, whose first operation is a move that may come at any time. -/
namespace Go
open Go.RowKit
section
variable {P : Program} {ops : Array Oper}
def Region.sinkB1 (ops : Array Oper) (n : Nat) : Bool :=
  (List.range n).all fun i => i == 0 || (List.range (n + 1)).any fun j => decide (i < j) && Region.waitsFor .any ops j i
theorem tail_waits1 {n : Nat} {listed : Array Bool} (hs : Region.sinkB1 ops n = true) (hc : Region.chainB .any ops n = true) (hn : n < ops.size) (inv : HeadInv .any ops n listed) :
    ∀ (d i : Nat), n - i = d → i < n → i ≠ 0 → listed.getD i true = false → ∀ t, n ≤ t → t ∉ Region.ready .any ops listed := by
  intro d
  induction d using Nat.strongRecOn with
  | _ d ih =>
    intro i hd hi hi0 hun t ht hr
    obtain ⟨_, ot, hot, hall⟩ := mem_ready.1 hr
    have htlt : t < ops.size := (Array.getElem?_eq_some_iff.1 hot).1
    by_cases htn : t = n
    · subst htn
      have h1 := List.all_eq_true.1 hs i (List.mem_range.2 hi)
      simp only [Bool.or_eq_true, beq_iff_eq, hi0, false_or] at h1
      obtain ⟨j, hj, hj2⟩ := List.any_eq_true.1 h1
      simp only [Bool.and_eq_true, decide_eq_true_eq] at hj2
      obtain ⟨oj, hoj, e, he, hb, hon⟩ := Region.waitsFor_spec hj2.2
      have hjle : j ≤ t := by have := List.mem_range.1 hj; omega
      by_cases hjt : j = t
      · subst hjt
        have : oj = ot := Option.some.inj (hoj.symm.trans hot)
        subst this
        have h2 := hall e he hb
        rw [hon, getD_both hun] at h2
        cases h2
      · cases hl : listed.getD j false with
        | true =>
          have h2 := inv.closed j oj hoj hl e he hb
          rw [hon, getD_both hun] at h2
          cases h2
        | false =>
          have hjs : j < listed.size := by rw [inv.size]; omega
          exact ih (t - j) (by omega) j rfl (by omega) (by omega) (getD_in hjs hl) t (Nat.le_refl _) hr
    · have h1 := List.all_eq_true.1 hc t (List.mem_range.2 htlt)
      simp only [Bool.or_eq_true, decide_eq_true_eq] at h1
      rcases h1 with h1 | h1
      · omega
      · obtain ⟨o', ho', e, he, hb, hon⟩ := Region.waitsFor_spec h1
        have : o' = ot := Option.some.inj (ho'.symm.trans hot)
        subst this
        have h2 := hall e he hb
        rw [hon, getD_both (inv.tail (t - 1) (by omega) (by omega))] at h2
        cases h2
def Region.flowB1 (ops : Array Oper) (n b : Nat) : Bool :=
  Region.noSelect ops && decide (n < ops.size) && decide (b < n) && Region.sinkB1 ops n && Region.chainB .any ops n && Region.seqB .any ops (ops.size - n) n (Region.marked ops.size n) &&
  ((List.range n).all fun i => match ops[i]? with | some o => o.after.all fun e => !Region.binds .any e || decide (e.on < i) | none => true) &&
  ((List.range n).all fun i => (List.range n).all fun j => Region.flowPair ops i j) &&
  (match ops[b]? with | some o => o.guard.isNone | none => false) &&
  ((List.range n).all fun i => i == b || Region.blindTo ops i b)
def Region.firstB (ops : Array Oper) : Bool := Region.noSelect ops && Region.free .any ops (Array.replicate ops.size false) 0 && (Region.ready .any ops (Array.replicate ops.size false)).contains 0
end
section
variable {P : Program} {l : List Oper} {n b : Nat} {ob : Oper} {W : World} {a0 A : Act} {bv : Nat → Value} {B : Nat → World → Prop} {Q : Exit → Act → World → Prop}
theorem flow_run1 (hB : Region.flowB1 l.toArray n b = true) (hob : l[b]? = some ob)
    (hq : ∀ Y : Later W, wpQuiet P l.toArray (fun w' => ∃ X : Later2 Y, w' = X.w) (fun a' => a' = A) (headsOf l n b) a0)
    (hb : ∀ w, Below W.heap.size W w → ∃ w', (execOp A.eval ob).run P w = .ok (.value (bv w.heap.size)) w' ∧ B w.heap.size w' ∧ Below w.heap.size w w')
    (hBp : ∀ g w w', B g w → Below w.heap.size w w' → B g w')
    (ht : ∀ g w, Below W.heap.size W w → B g w → wpList P l.toArray Q (l.drop n) (A.put ob.dst (bv g)) w) :
    ∀ (f : Nat) (U : List Nat) (listed : Array Bool) (a : Act) (w : World) (g : Nat), U.length = f → U.Nodup → (∀ i, i ∈ U ↔ i < n ∧ listed.getD i false = false) →
      Flow l.toArray n b ob W a0 A bv B listed a w g → listed.getD 0 false = true → wpAny P .any l.toArray Q (f + (l.toArray.size - n)) listed a w := by
  simp only [Region.flowB1, Bool.and_eq_true, decide_eq_true_eq, List.all_eq_true, List.mem_range] at hB
  obtain ⟨⟨⟨⟨⟨⟨⟨⟨⟨hsel, hn⟩, hbn⟩, hsink⟩, hchain⟩, hseq⟩, hedge⟩, hpair⟩, hguard⟩, hblind⟩ := hB
  have hn' : n ≤ l.length := by have h := hn; rw [List.size_toArray] at h; omega
  have hsz : l.toArray.size = l.length := by simp
  have hget : ∀ i : Nat, l.toArray[i]? = l[i]? := fun i => by simp
  have hselect := Region.noSelect_spec hsel
  have hpw : (headsOf l n b).Pairwise (fun o o' => ∀ t, o.dst = some t → o'.dst ≠ some t) := by
    rw [List.pairwise_iff_getElem]
    intro i j hi hj hij t ht
    obtain ⟨i', h1, h2, h3, h4⟩ := headsOf_from hbn hn' (List.getElem?_eq_getElem hi)
    obtain ⟨j', k1, k2, k3, k4⟩ := headsOf_from hbn hn' (List.getElem?_eq_getElem hj)
    exact Region.flowPair_dst (hpair i' h1 j' k1) (by rw [hget]; exact h3) (by rw [hget]; exact k3) (fun e => by subst e; omega) ht
  have hA := quiet_text _ _ (hq ⟨W, Below.refl _ _⟩) hpw
  have hAo : ∀ t, (∀ j o, j < n → l.toArray[j]? = some o → j ≠ b → o.dst ≠ some t) → A.tmps[t]? = a0.tmps[t]? := fun t h => hA.1 t fun o ho => by
    obtain ⟨q, hq'⟩ := List.mem_iff_getElem?.1 ho
    obtain ⟨j, h1, h2, h3, _⟩ := headsOf_from hbn hn' hq'
    exact h j o h1 (by rw [hget]; exact h3) h2
  have hAs := hA.2.1
  have hAd := hA.2.2.1
  have hobA : l.toArray[b]? = some ob := by rw [hget]; exact hob
  intro f
  induction f with
  | zero =>
    intro U listed a w g hU _ hUm hF hz
    obtain rfl : U = [] := List.eq_nil_of_length_eq_zero hU
    have hall : ∀ i, i < n → listed.getD i false = true := fun i hi => by
      cases h : listed.getD i false with
      | true => rfl
      | false => have := (hUm i).2 ⟨hi, h⟩; simp at this
    have hl : listed = Region.marked l.toArray.size n := by
      apply Array.ext_getElem?
      intro i
      by_cases hi : i < l.toArray.size
      · have hil : i < listed.size := by rw [hF.inv.size]; exact hi
        have e2 : (Region.marked l.toArray.size n)[i]? = some (decide (i < n)) := by
          rw [List.size_toArray] at hi
          unfold Region.marked
          simp [hi]
        rw [e2, Array.getElem?_eq_getElem hil]
        by_cases hin : i < n
        · have := hall i hin
          simp [hil] at this
          simp [this, hin]
        · have := hF.inv.tail i (by omega) hi
          simp [hil] at this
          simp [this, hin]
      · rw [Array.getElem?_eq_none (by rw [hF.inv.size]; omega), Array.getElem?_eq_none (by rw [List.size_toArray] at hi; unfold Region.marked; simp; omega)]
    have hbt := hall b hbn
    have ha : a = A.put ob.dst (bv g) := by
      have htm : a.tmps = (A.put ob.dst (bv g)).tmps := by
        apply Array.ext_getElem?
        intro t
        rw [put_get]
        by_cases hbd : ob.dst = some t
        · rw [if_pos hbd, hF.slotb t hbd, if_pos hbt]
          by_cases h : t < a0.tmps.size
          · rw [Array.getElem?_eq_getElem h, Array.getElem?_eq_getElem (by rw [hAs]; exact h)]; rfl
          · rw [Array.getElem?_eq_none (by omega), Array.getElem?_eq_none (by rw [hAs]; omega)] <;> rfl
        · rw [if_neg hbd]
          by_cases h : ∃ j o, j < n ∧ l.toArray[j]? = some o ∧ o.dst = some t
          · obtain ⟨j, o, h1, h2, h3⟩ := h
            have hjb : j ≠ b := fun e => by subst e; rw [hobA] at h2; cases h2; exact hbd h3
            rw [hF.slot j o t h1 h2 h3 hjb, if_pos (hall j h1)]
          · have h' : ∀ j o, j < n → l.toArray[j]? = some o → o.dst ≠ some t := fun j o h1 h2 h3 => h ⟨j, o, h1, h2, h3⟩
            rw [hF.other t h', hAo t fun j o h1 h2 _ => h' j o h1 h2]
      have hd : a.defers = (A.put ob.dst (bv g)).defers := by rw [put_defers, hAd, hF.defers]
      cases a; simp only at htm hd; cases hX : A.put ob.dst (bv g); rw [hX] at htm hd; simp only at htm hd; rw [htm, hd]
    rw [ha]
    have hdl : (l.drop n).length = l.toArray.size - n := by simp
    have := wpAny_of_seq (md := .any) (Q' := Q) (ops := l.toArray) (l.drop n) n listed (A.put ob.dst (bv g)) w (fun j => by simp [List.getElem?_drop]) (by rw [hdl, hl]; exact hseq) (ht g w hF.later (hF.box hbt))
    rw [hdl] at this
    rwa [Nat.zero_add]
  | succ f ih =>
    intro U listed a w g hU hnd hUm hF hz
    obtain ⟨i0, hi0, hleast⟩ := exists_leastM U (fun e => by rw [e] at hU; simp at hU)
    obtain ⟨hi0n, hi0u⟩ := (hUm i0).1 hi0
    have hin : ∀ i, i < n → i < listed.size := fun i hi => by rw [hF.inv.size]; omega
    have hready : i0 ∈ Region.ready .any l.toArray listed := by
      have hlt : i0 < l.toArray.size := by omega
      refine mem_ready.2 ⟨getD_in (hin _ hi0n) hi0u, l.toArray[i0], Array.getElem?_eq_getElem hlt, fun e he hbd => ?_⟩
      have h1 := hedge i0 hi0n
      rw [Array.getElem?_eq_getElem hlt] at h1
      simp only [Array.all_eq_true_iff_forall_mem] at h1
      have h2 := h1 e he
      simp only [hbd, Bool.not_true, Bool.false_or, decide_eq_true_eq] at h2
      cases h : listed.getD e.on false with
      | true => rfl
      | false =>
        have := hleast e.on ((hUm e.on).2 ⟨by omega, h⟩)
        omega
    rw [show f + 1 + (l.toArray.size - n) = (f + (l.toArray.size - n)) + 1 by omega]
    refine ⟨fun h => (by rw [h] at hready; cases hready), fun i hi => ?_⟩
    obtain ⟨hiu, o, ho, hdep⟩ := mem_ready.1 hi
    have hilt : i < n := Nat.lt_of_not_le fun h => tail_waits1 hsink hchain hn hF.inv _ i0 rfl hi0n (by intro e; rw [e, hz] at hi0u; cases hi0u) (getD_in (hin _ hi0n) hi0u) i h hi
    have hiU : i ∈ U := (hUm i).2 ⟨hilt, getD_both hiu⟩
    have hinv := hF.inv.set hi hilt
    have hlist : ∀ j, (listed.setIfInBounds i true).getD j false = if j = i then true else listed.getD j false := fun j => by
      by_cases h : j = i
      · subst h; rw [if_pos rfl]; simp [hin j hilt]
      · rw [if_neg h, getD_set_ne false (Ne.symm h)]
    have hUm' : ∀ j, j ∈ U.erase i ↔ j < n ∧ (listed.setIfInBounds i true).getD j false = false := fun j => by
      rw [hnd.mem_erase_iff, hUm j, hlist j]
      by_cases h : j = i
      · simp [h]
      · simp [h]
    have hlen' : (U.erase i).length = f := by rw [List.length_erase_of_mem hiU]; omega
    have hnd' := hnd.erase i
    have hseen : ∀ t ∈ o.looksAt l.toArray, ∀ j oj, j < n → l.toArray[j]? = some oj → oj.dst = some t → i ≠ j ∧ j < i ∧ listed.getD j false = true := by
      intro t ht j oj hj hoj hd
      have hne : i ≠ j := fun e => by
        subst e
        rw [ho] at hoj; cases hoj
        exact Region.flowPair_self (hpair i hilt i hilt) ho hd ht
      have h1 := Region.flowPair_looks (hpair i hilt j hj) ho hoj hne hd ht
      obtain ⟨o', ho', e, he, hbd, hon⟩ := Region.waitsFor_spec h1.2
      rw [ho] at ho'; cases ho'
      have := hdep e he hbd
      rw [hon] at this
      exact ⟨hne, h1.1, this⟩
    by_cases hib : i = b
    · subst hib
      rw [hobA] at ho; cases ho
      have hg : ob.guard = none := by rw [hobA] at hguard; simpa using hguard
      obtain ⟨w', hrun, hbox, hbel⟩ := hb w hF.later
      have hex : execOp a.eval ob = execOp A.eval ob := (seen_alike (ops := l.toArray) (fun cs bb => hselect i ob cs bb hobA) fun t htl => by
        by_cases h : ∃ j o, j < n ∧ l.toArray[j]? = some o ∧ o.dst = some t
        · obtain ⟨j, oj, h1, h2, h3⟩ := h
          obtain ⟨k1, k2, k3⟩ := hseen t htl j oj h1 h2 h3
          rw [hF.slot j oj t h1 h2 h3 (Ne.symm k1), if_pos k3]
        · have h' : ∀ j o, j < n → l.toArray[j]? = some o → o.dst ≠ some t := fun j o h1 h2 h3 => h ⟨j, o, h1, h2, h3⟩
          rw [hF.other t h', hAo t fun j o h1 h2 _ => h' j o h1 h2]).1
      unfold wpOp
      simp only [hobA]
      rw [if_pos (by simp [Region.wanted, hg])]
      refine .inl ?_
      unfold Oper.wp
      rw [hex, hrun]
      simp only [Oper.upon_value]
      refine ih (U.erase i) _ _ _ w.heap.size hlen' hnd' hUm' ⟨hinv, hF.later.trans (hbel.mono hF.later.size), by rw [put_size, hF.size], by rw [put_defers, hF.defers], ?_, ?_, ?_, fun _ => hbox⟩ (getD_set_true hz)
      · intro j oj t hj hoj hd hjb
        have hne : ob.dst ≠ some t := fun h => Region.flowPair_dst (hpair i hilt j hj) hobA hoj (Ne.symm hjb) h hd
        rw [put_get, if_neg hne, hF.slot j oj t hj hoj hd hjb, hlist j, if_neg hjb]
      · intro t hd
        rw [put_get, if_pos hd, hlist i, if_pos rfl, if_pos rfl, hF.slotb t hd, if_neg (by rw [getD_both hiu]; simp)]
      · intro t h
        rw [put_get, if_neg (h i ob hilt hobA), hF.other t h]
    · have hpos := headsOf_get hbn hn' hilt hib
      have hol : l[i]? = some o := by rw [← hget]; exact ho
      rw [hol] at hpos
      have hsplit : headsOf l n b = (headsOf l n b).take (posOf b i) ++ o :: (headsOf l n b).drop (posOf b i + 1) := by
        have hlt := (List.getElem?_eq_some_iff.1 hpos).1
        have e := (List.getElem?_eq_some_iff.1 hpos).2
        rw [← e, ← List.drop_eq_getElem_cons hlt, List.take_append_drop]
      obtain ⟨_, _, _, htext⟩ := quiet_text _ _ (hq ⟨w, hF.later⟩) hpw
      obtain ⟨ai, v, hy, t1, t2, t3⟩ := htext _ o _ hsplit
      have hal := seen_alike (ops := l.toArray) (o := o) (a := a) (a' := ai) (fun cs bb => hselect i o cs bb ho) fun t htl => by
        by_cases h : ∃ j o, j < n ∧ l.toArray[j]? = some o ∧ o.dst = some t
        · obtain ⟨j, oj, h1, h2, h3⟩ := h
          obtain ⟨k1, k2, k3⟩ := hseen t htl j oj h1 h2 h3
          by_cases hjb : j = b
          · -- nobody else looks at b's yield
            subst hjb
            have h4 := hblind i hilt
            simp only [Bool.or_eq_true, beq_iff_eq, hib, false_or] at h4
            exact absurd htl (Region.blindTo_spec h4 ho h2 h3)
          · rw [hF.slot j oj t h1 h2 h3 hjb, if_pos k3]
            refine (t1 t ⟨oj, ?_, h3⟩).symm
            have hjp := headsOf_get hbn hn' h1 hjb
            rw [← hget, h2] at hjp
            refine List.mem_of_getElem? (i := posOf b j) ?_
            rw [List.getElem?_take, if_pos (by unfold posOf; split <;> split <;> omega)]
            exact hjp
        · have h' : ∀ j o, j < n → l.toArray[j]? = some o → o.dst ≠ some t := fun j o h1 h2 h3 => h ⟨j, o, h1, h2, h3⟩
          rw [hF.other t h']
          refine (t2 t fun p hp => ?_).symm
          obtain ⟨q, hq'⟩ := List.mem_iff_getElem?.1 (List.mem_of_mem_take hp)
          obtain ⟨j, h1, h2, h3, _⟩ := headsOf_from hbn hn' hq'
          exact h' j p h1 (by rw [hget]; exact h3)
      have hy' := hy.of_same hal.1 hal.2
      have hqo := hy'.qOp (K := fun a' => a' = a.put o.dst v) ho rfl
      refine wpOp_of_qOp ⟨⟨w, Below.refl _ _⟩, rfl⟩ ?_ hqo
      rintro a' w' ⟨X, rfl⟩ rfl
      have hX := X.h
      refine ih (U.erase i) _ _ _ g hlen' hnd' hUm' ⟨hinv, hF.later.trans (hX.mono hF.later.size), by rw [put_size, hF.size], by rw [put_defers, hF.defers], ?_, ?_, ?_, ?_⟩ (getD_set_true hz)
      · intro j oj t hj hoj hd hjb
        rw [put_get, hlist j]
        by_cases hji : j = i
        · subst hji
          rw [ho] at hoj; cases hoj
          rw [if_pos hd, if_pos rfl, if_pos rfl, hF.slot j o t hj ho hd hjb, if_neg (by rw [getD_both hiu]; simp), t3 t hd]
        · have hne : o.dst ≠ some t := fun h => Region.flowPair_dst (hpair i hilt j hj) ho hoj (Ne.symm hji) h hd
          rw [if_neg hne, if_neg hji, hF.slot j oj t hj hoj hd hjb]
      · intro t hd
        have hne : o.dst ≠ some t := fun h => Region.flowPair_dst (hpair i hilt b hbn) ho hobA hib h hd
        rw [put_get, if_neg hne, hF.slotb t hd, hlist b, if_neg (Ne.symm hib)]
      · intro t h
        rw [put_get, if_neg (h i o hilt ho), hF.other t h]
      · intro h
        rw [hlist b, if_neg (Ne.symm hib)] at h
        exact hBp g w _ (hF.box h) hX
theorem run_move {a : Act} {o : Oper} {x : Operand} (h : o.op = .move x) (w : World) : (execOp a.eval o).run P w = .ok (.value (a.eval x)) w := by
  unfold execOp; rw [h]; simp
theorem wp_region_flow1 {id : Nat} (n b : Nat) (ob : Oper) (k : Nat) (e : TypeId) (o0 : Oper) (x0 : Operand) (d0 : Tmp) (hb0 : 0 < b) (hm : P.follows .mixedOrders = true) (hB : Region.flowB1 l.toArray n b = true) (hF : Region.firstB l.toArray = true) (hob : l[b]? = some ob)
    (h0 : l[0]? = some o0) (h0o : o0.op = .move x0) (h0g : o0.guard = none) (h0d : o0.dst = some d0) (hpanic : ∀ c a w, Q (.panic c) (a.put (some d0) (a0.eval x0)) w → Q (.panic c) a w)
    (hh : ∃ A, (∀ Y : Later W, wpQuiet P l.toArray (fun w' => ∃ X : Later2 Y, w' = X.w) (fun a' => a' = A) (headsOf l n b) a0) ∧
      ∃ cs, (∀ w, (execOp A.eval ob).run P w = .ok (.value (.slice (some ⟨w.heap.size, 0, none⟩) k k)) (w.alloc (.cells cs e))) ∧
        ∀ g w, Below W.heap.size W w → W.heap.size ≤ g → w.heap[g]? = some (.cells cs e (0, 0)) → wpList P l.toArray Q (l.drop n) (A.put ob.dst (.slice (some ⟨g, 0, none⟩) k k)) w) :
    (Code.region id l.toArray true).wp P Q a0 W := by
  obtain ⟨A, hq, cs, hb, ht⟩ := hh
  refine wp_region_any hm ?_
  have hB' := hB
  simp only [Region.flowB1, Bool.and_eq_true, decide_eq_true_eq, List.all_eq_true, List.mem_range] at hB'
  obtain ⟨⟨⟨⟨⟨⟨⟨⟨⟨hsel, hn⟩, hbn⟩, hsink⟩, hchain⟩, hseq⟩, hedge⟩, hpair⟩, hguard⟩, hblind⟩ := hB'
  simp only [Region.firstB, Bool.and_eq_true] at hF
  obtain ⟨⟨_, hfree⟩, hready⟩ := hF
  have hn' : n ≤ l.length := by have h := hn; rw [List.size_toArray] at h; omega
  have h0A : l.toArray[0]? = some o0 := by simpa using h0
  have hget : ∀ i : Nat, l.toArray[i]? = l[i]? := fun i => by simp
  have hy : Yields P l.toArray o0 (a0.eval x0) a0 := .inl ⟨by simp [Region.wanted, h0g], fun w => run_move h0o w⟩
  obtain ⟨m, hm2⟩ : ∃ m, l.toArray.size = m + 1 := ⟨l.toArray.size - 1, by omega⟩
  rw [hm2]
  refine wpAny_take (i := 0) h0A hsel (by rw [hm2] at hfree; exact hfree) (by rw [hm2] at hready; exact hready) (by rw [h0d]; exact hpanic) hy ?_
  have hpw : (headsOf l n b).Pairwise (fun o o' => ∀ t, o.dst = some t → o'.dst ≠ some t) := by
    rw [List.pairwise_iff_getElem]
    intro i j hi hj hij t ht
    obtain ⟨i', h1, h2, h3, h4⟩ := headsOf_from hbn hn' (List.getElem?_eq_getElem hi)
    obtain ⟨j', k1, k2, k3, k4⟩ := headsOf_from hbn hn' (List.getElem?_eq_getElem hj)
    exact Region.flowPair_dst (hpair i' h1 j' k1) (by rw [hget]; exact h3) (by rw [hget]; exact k3) (fun e => by subst e; omega) ht
  have hA0 : A.tmps[d0]? = a0.tmps[d0]?.map (fun _ => a0.eval x0) := by
    have hp0 := headsOf_get hbn hn' (show 0 < n by omega) (Ne.symm (by omega) : (0 : Nat) ≠ b)
    rw [show posOf b 0 = 0 by unfold posOf; rw [if_pos hb0], h0] at hp0
    have hsplit : headsOf l n b = [] ++ o0 :: (headsOf l n b).drop 1 := by
      have hlt := (List.getElem?_eq_some_iff.1 hp0).1
      have e := (List.getElem?_eq_some_iff.1 hp0).2
      rw [List.nil_append, ← e, ← List.drop_eq_getElem_cons hlt, List.drop_zero]
    obtain ⟨_, _, _, htext⟩ := quiet_text _ _ (hq ⟨W, Below.refl _ _⟩) hpw
    obtain ⟨ai, v, hyi, _, t2, t3⟩ := htext _ o0 _ hsplit
    have hev : ai.eval x0 = a0.eval x0 := by
      cases x0 with
      | tmp t => simp only [Act.eval, Array.getD_eq_getD_getElem?]; rw [t2 t (by simp)]
      | const v => rfl
      | global g => rfl
      | func f => rfl
    have hv : v = a0.eval x0 := by
      rcases hyi with ⟨_, hq2⟩ | ⟨hw, _⟩
      · have h1 := hq2 W ⟨⟨W, Below.refl _ _⟩, rfl⟩
        unfold Oper.quietAt at h1
        rw [run_move h0o, hev] at h1
        exact h1.2.symm
      · simp [Region.wanted, h0g] at hw
    rw [t3 d0 h0d, hv]
  have inv0 : HeadInv .any l.toArray n (Array.replicate l.toArray.size false) :=
    ⟨by simp, fun j oj _ hl => (by rw [getD_replicate_false] at hl; cases hl), fun t _ ht => getD_in (by simpa using ht) (getD_replicate_false _ _)⟩
  have hr0 : 0 ∈ Region.ready .any l.toArray (Array.replicate l.toArray.size false) := by simpa using hready
  have inv1 := inv0.set hr0 (show 0 < n by omega)
  have hl1 : ∀ j, ((Array.replicate l.toArray.size false).setIfInBounds 0 true).getD j false = decide (j = 0) := fun j => by
    by_cases h : j = 0
    · subst h
      rw [show ((Array.replicate l.toArray.size false).setIfInBounds 0 true).getD 0 false = true by simp; omega]; rfl
    · rw [getD_set_ne false (Ne.symm h), getD_replicate_false]; simp [h]
  have h := flow_run1 (W := W) (a0 := a0) (A := A) (bv := fun g => .slice (some ⟨g, 0, none⟩) k k) (B := fun g w => W.heap.size ≤ g ∧ w.heap[g]? = some (.cells cs e (0, 0))) (Q := Q) hB hob hq
    (fun w hw => ⟨_, hb w, ⟨hw.size, heap_alloc_new w _⟩, (Below.refl _ _).alloc (Nat.le_refl _) _⟩)
    (fun g w w' h hw => ⟨h.1, (hw.block g (Array.getElem?_eq_some_iff.1 h.2).1).trans h.2⟩)
    (fun g w hw h => ht g w hw h.1 h.2) (n - 1) ((List.range n).erase 0) ((Array.replicate l.toArray.size false).setIfInBounds 0 true) (a0.put o0.dst (a0.eval x0)) { W with drawn := W.drawn + 1 } 0 (by rw [List.length_erase_of_mem (List.mem_range.2 (by omega))]; simp) (List.nodup_range.erase _)
    (fun i => by
      rw [List.nodup_range.mem_erase_iff, List.mem_range, hl1 i]
      simp; omega)
    ⟨inv1, ⟨rfl, rfl, rfl, Nat.le_refl _, fun _ _ => rfl⟩, by rw [put_size], by rw [put_defers], ?_, ?_, ?_, ?_⟩ (by rw [hl1]; rfl)
  · rw [show n - 1 + (l.toArray.size - n) = m by omega] at h
    rw [hm2] at h
    exact h
  · intro j oj t hj hoj hd hjb
    rw [hl1 j, put_get]
    by_cases hj0 : j = 0
    · subst hj0
      rw [h0A] at hoj; cases hoj
      rw [if_pos hd, if_pos (by simp)]
      rw [h0d] at hd; cases hd
      exact hA0.symm
    · rw [if_neg (fun h => Region.flowPair_dst (hpair 0 (by omega) j hj) h0A hoj (Ne.symm hj0) h hd)]
      simp [hj0]
  · intro t hd
    rw [hl1 b, if_neg (by simp; omega), put_get, if_neg (fun h => Region.flowPair_dst (hpair 0 (by omega) b hbn) h0A (by rw [hget]; exact hob) (by omega) h hd)]
  · intro t h
    rw [put_get, if_neg (h 0 o0 (by omega) h0A)]
  · intro h
    rw [hl1 b] at h
    simp at h; omega
end
end Go
