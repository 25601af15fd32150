/- Lemmas on the way to the law TopChanges (part 8): WS WU WW WX WY WZ -/
import Derived.Test.YtflchbejjofppaaGreatDoorTopChangesP07
import Derived.WalkSmall
set_option linter.unusedVariables false
set_option linter.unusedSimpArgs false

/- Walks: errors of numbers and of books, by the program. -/
namespace Go.Proofs.YtflchbejjofppaaGreatDoor
open Go Go.Proofs Go.RowKit Go.Maps
theorem intLit_key (x : Int) : WideAt.IsKeyLit (intLit x) := trivial
theorem strLit_key (x : List UInt8) : WideAt.IsKeyLit (strLit x) := trivial
theorem lawStr : Keyed Tryz.prog 9 := string_keyed Tryz.underlying9
theorem lawInt : Keyed Tryz.prog 3 := int_keyed Tryz.underlying3
def dupE (l : List Int) : Int := if l.Nodup then 0 else 9
theorem dupE_snoc (l : List Int) (k : Nat) (h : k < l.length) : dupE (l.take (k + 1)) = if l[k] ∈ (l.take k).reverse then 9 else dupE (l.take k) := by
  unfold dupE
  by_cases h1 : l[k] ∈ l.take k
  · rw [if_neg (fun h2 => ((nodup_snoc l k h).1 h2).2 h1), if_pos (by simpa using h1)]
  · rw [if_neg (show ¬ l[k] ∈ (l.take k).reverse by simpa using h1)]
    by_cases h2 : (l.take k).Nodup
    · rw [if_pos ((nodup_snoc l k h).2 ⟨h2, h1⟩), if_pos h2]
    · rw [if_neg (fun h3 => h2 ((nodup_snoc l k h).1 h3).1), if_neg h2]
set_option maxRecDepth 100000 in
set_option maxHeartbeats 1000000 in
theorem numbers71 (v : Value) (l : List Int) (n : Int) (w : World) (hv : Sl encI 1 w w.heap.size v l) (hn : n ≤ 1000000000) : Calls Tryz.prog 35 #[v, .int .i64 n] w (Ret (.int .i64 (ckNums l n)) w) := by
  obtain ⟨a, c, rfl, hlen, hA⟩ := hv
  have HA := Lib.hid hA
  clear hA
  obtain ⟨R, hR⟩ : ∃ R, ckNums l n = R := ⟨_, rfl⟩
  rw [hR]
  have HR := Lib.hid hR
  clear hR
  have hmm := @run_makeMap Tryz.prog
  go_enter Tryz.func35, Tryz.ntmps35
  go_wp2_with fail
  clear hmm
  go_loopw [12, 6] (fun i e wr => ∃ k : Nat, k ≤ l.length ∧ i = .int .i64 k ∧ e = .int .i64 (dupE (l.take k)) ∧ Below w.heap.size w wr ∧ SetM intLit Tryz.prog 3 4 wr w.heap.size (l.take k).reverse ∧ (l.take k).any (outB n) = false) (fun i _ _ => l.length - (intOf i).toNat)
  case atStart => exact ⟨0, by omega, rfl, rfl, (Below.refl _ _).alloc (Nat.le_refl _) _, SetM.made _ _ _ _ _, by simp⟩
  case round =>
    obtain ⟨k, hk, rfl, rfl, hbe, hset, hany⟩ := hrel
    have HN := Lib.hid hany
    clear hany
    by_cases hlt : k < l.length
    · obtain ⟨b, off, rfl, hbb, hcells⟩ := HA.out (by omega)
      have c0 := ((hcells k hlt).below hbe hbb).c1
      rw [Nat.mul_one] at c0
      clear hcells HA
      have hd := Lib.hid (any_take_snoc l (outB n) k _ (List.getElem?_eq_getElem hlt))
      have hm := Lib.hid (List.getElem_mem hlt)
      have hde := Lib.hid (dupE_snoc l k hlt)
      have hts := Lib.hid (take_snoc l k hlt)
      have hlk : (l.take k).reverse.length < maxLen := by have := List.length_take_le k l; simp [maxLen]; omega
      generalize l[k] = y at *
      by_cases h2 : y < 0
      · go_wp2_with fail
        go_ret
        exact Ret.mk (by rw [← HR.out, ckNums_10 (List.any_eq_true.2 ⟨y, hm.out, by simp [outB, h2]⟩)]; rfl) hbe
      · by_cases h3 : n ≤ y
        · go_wp2_with fail
          go_ret
          exact Ret.mk (by rw [← HR.out, ckNums_10 (List.any_eq_true.2 ⟨y, hm.out, by simp [outB, h3]⟩)]; rfl) hbe
        · have e := Lib.hid (show outB n y = false by simp [outB]; omega)
          have hkey : keyOf Tryz.prog 3 (.int .i64 y) = some (intLit y) := keyOf_int_mk Tryz.underlying3 (WalkArith.wf_i64 (by omega))
          have HK := Lib.hid hkey
          clear hkey
          have HLK := Lib.hid hlk
          clear hlk
          generalize hD : dupE (l.take k) = d at *
          generalize hLL : (l.take k).reverse = L at *
          have HD := Lib.hid hD
          clear hD
          have HLL := Lib.hid hLL
          clear hLL
          have HS := Lib.hid hset
          clear hset
          by_cases h4 : y ∈ L
          all_goals
            go_wp2_with (first | (at_lookup; refine wpList_look_set (f := intLit) HS.out lawInt Tryz.underlying111 Tryz.underlying4 (Tryz.zeroValue4 _) HK.out rfl _ _ rfl rfl rfl ?_) | (at_mapUpdate; refine wpList_put_set intLit_inj intLit_key HS.out lawInt Tryz.underlying111 Tryz.underlying4 HK.out HLK.out rfl _ _ _ rfl rfl rfl rfl ?_; intro w3 hset3 hg3))
            go_roundw
          case rel =>
            refine ⟨k + 1, by omega, by go_num, ?_, hbe.grown hg3 hbe.size (fun j hj => by cases hj; exact Nat.le_refl _), ?_, by rw [hd.out, HN.out, e.out]; rfl⟩
            · rw [hde.out, if_pos h4]
            · rw [hts.out, List.reverse_append, HLL.out]; exact hset3
          case measure => simp [intOf]; omega
          case rel =>
            refine ⟨k + 1, by omega, by go_num, ?_, hbe.grown hg3 hbe.size (fun j hj => by cases hj; exact Nat.le_refl _), ?_, by rw [hd.out, HN.out, e.out]; rfl⟩
            · rw [hde.out, if_neg h4]
            · rw [hts.out, List.reverse_append, HLL.out]; exact hset3
          case measure => simp [intOf]; omega
    · obtain rfl : l.length = k := by omega
      have HO : Hid (l.any (outB n) = false) := by have := HN.out; rw [List.take_length] at this; exact this
      clear HN
      rw [List.take_length] at *
      have HR2 : Hid (dupE l = R) := by
        show dupE l = R
        rw [← HR.out]
        unfold ckNums
        rw [if_neg (by rw [HO.out]; decide)]
        rfl
      generalize dupE l = d at *
      clear hset
      go_wp2_with fail
      go_ret
      exact Ret.mk (by rw [← HR2.out]; rfl) hbe
end Go.Proofs.YtflchbejjofppaaGreatDoor
/- Walks: the error of a book, by the program. -/
namespace Go.Proofs.YtflchbejjofppaaGreatDoor
open Go Go.Proofs Go.RowKit Go.Maps
set_option maxHeartbeats 400000 in
theorem place68 (p : Int) (B : Nat) (a : Option Addr) (n c : Nat) (w : World) (hc : w.cell? ⟨B, 0, none⟩ = some (.slice a n c)) : Calls Tryz.prog 58 #[.int .i64 p, .pointer (some ⟨B, 0, none⟩)] w fun e w' => e = .returned (.bool (!badPl n p)) ∧ w = w' := by
  by_cases h1 : p < -1
  · go_enter Tryz.func58, Tryz.ntmps58
    go_wp2_with fail
    go_ret
    exact ⟨ret_bool (by simp [badPl, h1]), rfl⟩
  by_cases h2 : (n : Int) ≤ p
  · go_enter Tryz.func58, Tryz.ntmps58
    go_wp2_with fail
    go_ret
    exact ⟨ret_bool (by simp [badPl, h2]), rfl⟩
  · go_enter Tryz.func58, Tryz.ntmps58
    go_wp2_with fail
    go_ret
    exact ⟨ret_bool (by simp [badPl]; omega), rfl⟩
def idsOf (l : List Tk) : List (List UInt8) := (l.map fun t => t.id.data.toList).reverse
theorem idsOf_snoc (l : List Tk) (k : Nat) (h : k < l.length) : idsOf (l.take (k + 1)) = l[k].id.data.toList :: idsOf (l.take k) := by
  unfold idsOf; rw [take_snoc l k h, List.map_append, List.reverse_append]; rfl
theorem keyStr {s : ByteArray} (hs : s.size ≤ maxLen) : keyOf Tryz.prog 9 (.string s) = some (strLit s.data.toList) := by
  simp [keyOf, Tryz.underlying9, mapKey, hs, strLit]
theorem idsOf_any (l : List Tk) (t : Tk) : l.any (fun x => x.id.toList == t.id.toList) = decide (t.id.data.toList ∈ idsOf l) := by
  rw [Bool.eq_iff_iff]
  simp only [idsOf, List.any_eq_true, beq_iff_eq, ByteArray.toList_eq, decide_eq_true_eq, List.mem_reverse, List.mem_map]
set_option maxRecDepth 100000 in
set_option maxHeartbeats 1000000 in
theorem ckBook25 (v1 v2 : Value) (b : Bk) (w : World) (hv : BkR w w.heap.size v1 v2 b) :
    Calls Tryz.prog 34 #[.agg #[v1, v2]] w (Ret (.int .i64 (ckBook b)) w) := by
  obtain ⟨⟨a1, c1, rfl, hl1, hA1⟩, ⟨a2, c2, rfl, hl2, hA2⟩, hids⟩ := hv
  have HA1 := Lib.hid hA1
  clear hA1
  have HA2 := Lib.hid hA2
  clear hA2
  have HIDS := Lib.hid hids
  clear hids
  obtain ⟨R, hR⟩ : ∃ R, ckBook b = R := ⟨_, rfl⟩
  rw [hR]
  have HR := Lib.hid hR
  clear hR
  have W1 : Below w.heap.size w (w.alloc (.cells #[.slice a1 b.st.length c1, .slice a2 b.ts.length c2] 25)) := (Below.refl _ _).alloc (Nat.le_refl _) _
  have HW1 := Lib.hid W1
  clear W1
  go_enter Tryz.func34, Tryz.ntmps34
  by_cases h1 : 32 < b.st.length
  · go_wp2_with fail
    go_ret
    exact Ret.mk (by rw [← HR.out]; unfold ckBook; rw [if_pos h1]; rfl) HW1.out
  go_wp2_with fail
  obtain ⟨S, hS⟩ : ∃ S, ckRgs b.st = S := ⟨_, rfl⟩
  have HR1 : Hid ((if S ≠ 0 then S else if 128 < b.ts.length then 5 else ckTksL b 0 b.ts) = R) := by
    have h := HR.out
    unfold ckBook at h
    rw [if_neg h1, hS] at h
    exact h
  have HS := Lib.hid hS
  clear hS
  clear HR
  go_loopw [18] (fun j wr => ∃ k : Nat, k ≤ b.st.length ∧ j = .int .i64 k ∧ Below w.heap.size w wr ∧ Box wr w.heap.size 25 [.slice a1 b.st.length c1, .slice a2 b.ts.length c2] ∧ ckRgs (b.st.drop k) = S) (fun j _ => b.st.length - (intOf j).toNat)
  case atStart => exact ⟨0, by omega, rfl, HW1.out, Box.newAt _ _ _ rfl, HS.out⟩
  case round =>
    obtain ⟨k, hk, rfl, hbe, hx0, hrel⟩ := hrel
    have HL := Lib.hid hrel
    clear hrel
    clear HS
    have d0 := hx0.cell 0
    have d1 := hx0.cell 1
    have dz := hx0.lt
    simp only [List.getElem?_cons_zero, List.getElem?_cons_succ] at d0 d1
    by_cases hlt : k < b.st.length
    · obtain ⟨bb, off, rfl, hbb, hcells⟩ := HA1.out (by omega)
      obtain ⟨e0, e1⟩ := ((hcells k hlt).below hbe hbb).c2
      clear hcells HA1
      have hd := Lib.hid (ckRgs_drop b.st k hlt)
      generalize b.st[k] = x at *
      have hcall := ckRange54 x
      obtain ⟨n, hn⟩ : ∃ n, ckRange x = n := ⟨_, rfl⟩
      rw [hn] at hd hcall
      have HC := Lib.hid hcall
      clear hcall
      clear hn
      have hbx := hbe.alloc hbe.size (.cells #[.int .i64 x.lo, .int .i64 x.hi] 34)
      have hx0' := hx0.alloc (.cells #[.int .i64 x.lo, .int .i64 x.hi] 34)
      have HBX := Lib.hid hbx
      clear hbx
      have HX0 := Lib.hid hx0'
      clear hx0'
      by_cases hn0 : n = 0
      · go_wp2_with (go_at_call 38; refine (HC.out _).mono ?_; rintro e w3 ⟨rfl, hb3⟩)
        go_roundw
        case rel => exact ⟨k + 1, by omega, by go_num, HBX.out.trans (hb3.mono HBX.out.size), HX0.out.later hb3, by rw [← HL.out, hd.out, if_pos hn0]⟩
        case measure => simp [intOf]; omega
      · go_wp2_with (go_at_call 38; refine (HC.out _).mono ?_; rintro e w3 ⟨rfl, hb3⟩)
        go_ret
        refine Ret.mk ?_ (HBX.out.trans (hb3.mono HBX.out.size))
        have h2 := HL.out
        rw [hd.out, if_neg hn0] at h2
        have h3 := HR1.out
        rw [← h2, if_pos hn0] at h3
        rw [← h3]; rfl
    · obtain rfl : b.st.length = k := by omega
      have hS0 : S = 0 := by have h := HL.out; rw [List.drop_length] at h; exact h.symm
      have HR2 : Hid ((if 128 < b.ts.length then 5 else ckTksL b 0 b.ts) = R) := by have h := HR1.out; rw [if_neg (by simp [hS0])] at h; exact h
      clear HR1 HL hS0
      by_cases h2 : 128 < b.ts.length
      · go_wp2_with fail
        go_ret
        exact Ret.mk (by rw [← HR2.out, if_pos h2]; rfl) hbe
      have HR3 : Hid (ckTksL b 0 b.ts = R) := by have h := HR2.out; rw [if_neg h2] at h; exact h
      clear HR2
      have hmm := @run_makeMap Tryz.prog
      go_wp2_with fail
      clear d0 d1 hmm
      go_loopw [37] (fun j w2 => ∃ k : Nat, k ≤ b.ts.length ∧ j = .int .i64 k ∧ Below w.heap.size w w2 ∧ Box w2 w.heap.size 25 [.slice a1 b.st.length c1, .slice a2 b.ts.length c2] ∧ SetM strLit Tryz.prog 9 4 w2 wr.heap.size (idsOf (b.ts.take k)) ∧ ckTksL b k (b.ts.drop k) = R) (fun j _ => b.ts.length - (intOf j).toNat)
      case atStart => exact ⟨0, by omega, rfl, hbe.alloc hbe.size _, hx0.alloc _, SetM.made _ _ _ _ _, HR3.out⟩
      case round =>
        have hz0 := hbe.size
        clear HR3 hbe hx0
        obtain ⟨k, hk, rfl, hbe, hx0, hset, hrel⟩ := hrel
        have HL := Lib.hid hrel
        clear hrel
        have d0 := hx0.cell 0
        have d1 := hx0.cell 1
        have dz2 := hx0.lt
        have sz := hset.lt
        simp only [List.getElem?_cons_zero, List.getElem?_cons_succ] at d0 d1
        by_cases hlt : k < b.ts.length
        · obtain ⟨bb, off, rfl, hbb, hcells⟩ := HA2.out (by omega)
          obtain ⟨e0, e1, e2, e3, e4⟩ := ((hcells k hlt).below hbe hbb).c5
          clear hcells HA2
          have hd := Lib.hid (ckTksL_drop b k hlt)
          have hsn := Lib.hid (idsOf_snoc b.ts k hlt)
          have hsz := HIDS.out b.ts[k] (List.getElem_mem hlt)
          have hany := Lib.hid (idsOf_any (b.ts.take k) b.ts[k])
          have hlk : (idsOf (b.ts.take k)).length < maxLen := by have := List.length_take_le k b.ts; simp [maxLen, idsOf]; omega
          have HLK := Lib.hid hlk
          clear hlk
          generalize b.ts[k] = t at *
          obtain ⟨tid, tfr, tto, tlo, thi⟩ := t
          dsimp only at *
          have hkey : keyOf Tryz.prog 9 (.string tid) = some (strLit tid.data.toList) := keyStr (by simpa [maxLen] using hsz)
          have HK := Lib.hid hkey
          clear hkey
          generalize hLL : idsOf (b.ts.take k) = L at *
          have HLL := Lib.hid hLL
          clear hLL
          have HSET := Lib.hid hset
          clear hset
          obtain ⟨nm, hnm⟩ : ∃ x, isName tid = x := ⟨_, rfl⟩
          have HN := Lib.hid (isName69 tid)
          rw [hnm] at HN
          obtain ⟨R2, hR2⟩ : ∃ n, ckTk b k ⟨tid, tfr, tto, ⟨tlo, thi⟩⟩ = n := ⟨_, rfl⟩
          rw [hR2] at hd
          have HR2 := Lib.hid hR2
          clear hR2
          have HNM := Lib.hid hnm
          clear hnm
          have HSZ := Lib.hid hsz
          have HBX := Lib.hid (hbe.alloc hbe.size (.cells #[.string tid, .int .i64 tfr, .int .i64 tto, .int .i64 tlo, .int .i64 thi] 42))
          have HX0 := Lib.hid (hx0.alloc (.cells #[.string tid, .int .i64 tfr, .int .i64 tto, .int .i64 tlo, .int .i64 thi] 42))
          have HSA := Lib.hid (HSET.out.alloc (.cells #[.string tid, .int .i64 tfr, .int .i64 tto, .int .i64 tlo, .int .i64 thi] 42))
          have HEND : Hid (R2 ≠ 0 → R2 = R) := Lib.hid (fun h => by have h2 := HL.out; rw [hd.out, if_neg h] at h2; exact h2)
          cases nm
          · go_wp2_with (go_at_call 59; refine (HN.out _ HSZ.out).mono ?_; rintro e w3 ⟨rfl, hb3⟩)
            go_ret
            have h8 : 8 = R2 := by rw [← HR2.out]; unfold ckTk; rw [if_pos HNM.out]
            refine Ret.mk ?_ (HBX.out.trans (hb3.mono HBX.out.size))
            rw [← HEND.out (by omega), ← h8]; rfl
          have HY := Lib.hid (Box.new wr #[.string tid, .int .i64 tfr, .int .i64 tto, .int .i64 tlo, .int .i64 thi] 42)
          by_cases hm : tid.data.toList ∈ L
          · go_wp2_with (first | (go_at_call 59; refine (HN.out _ HSZ.out).mono ?_; rintro e w3 ⟨rfl, hb3⟩; have hset3 := Lib.hid (HSA.out.later hb3); have y0 := (HY.out.later hb3).cell 0; simp only [List.getElem?_cons_zero] at y0) | (at_lookup; refine wpList_look_set (f := strLit) hset3.out lawStr Tryz.underlying110 Tryz.underlying4 (Tryz.zeroValue4 _) HK.out rfl _ _ rfl rfl rfl ?_))
            go_ret
            have h9 : 9 = R2 := by rw [← HR2.out]; unfold ckTk; rw [if_neg (by rw [HNM.out]; decide), hany.out, if_pos (by simpa using hm)]
            refine Ret.mk ?_ (HBX.out.trans (hb3.mono HBX.out.size))
            rw [← HEND.out (by omega), ← h9]; rfl
          have HR3 : Hid ((if badPl b.st.length tfr || badPl b.st.length tto then 10 else if tfr = tto then 1 else ckMass ⟨tlo, thi⟩) = R2) := by
            have h := HR2.out
            unfold ckTk at h
            rw [if_neg (by rw [HNM.out]; decide), hany.out, if_neg (by simpa using hm)] at h
            exact h
          obtain ⟨p1, hp1⟩ : ∃ x, badPl b.st.length tfr = x := ⟨_, rfl⟩
          obtain ⟨p2, hp2⟩ : ∃ x, badPl b.st.length tto = x := ⟨_, rfl⟩
          rw [hp1, hp2] at HR3
          cases p1
          cases p2
          by_cases hft : tfr = tto
          · obtain rfl := hft
            go_wp2_with (first | (go_at_call 59; refine (HN.out _ HSZ.out).mono ?_; rintro e w3 ⟨rfl, hb3⟩; have hset3 := Lib.hid (HSA.out.later hb3); have x0 := (HX0.out.later hb3).cell 0; have y0 := (HY.out.later hb3).cell 0; have y1 := (HY.out.later hb3).cell 1; have y2 := (HY.out.later hb3).cell 2; have y3 := (HY.out.later hb3).cell 3; have y4 := (HY.out.later hb3).cell 4; simp only [List.getElem?_cons_zero, List.getElem?_cons_succ] at x0 y0 y1 y2 y3 y4) | (at_lookup; refine wpList_look_set (f := strLit) hset3.out lawStr Tryz.underlying110 Tryz.underlying4 (Tryz.zeroValue4 _) HK.out rfl _ _ rfl rfl rfl ?_) | (go_at_call 58; refine (place68 _ _ _ _ _ _ x0).mono ?_; rintro e w4 ⟨rfl, rfl⟩))
            go_ret
            have h1 : 1 = R2 := by rw [← HR3.out]; simp
            refine Ret.mk ?_ (HBX.out.trans (hb3.mono HBX.out.size))
            rw [← HEND.out (by omega), ← h1]; rfl
          · obtain ⟨n, hn⟩ : ∃ n, ckMass ⟨tlo, thi⟩ = n := ⟨_, rfl⟩
            have HM := Lib.hid (ckMass70 ⟨tlo, thi⟩)
            rw [hn] at HM HR3
            have HRn : Hid (n = R2) := by rw [← HR3.out, if_neg (by decide), if_neg hft]; exact Lib.hid rfl
            by_cases hn0 : n = 0
            · go_wp2_with (first | (go_at_call 59; refine (HN.out _ HSZ.out).mono ?_; rintro e w3 ⟨rfl, hb3⟩; have hset3 := Lib.hid (HSA.out.later hb3); have x0 := (HX0.out.later hb3).cell 0; have y0 := (HY.out.later hb3).cell 0; have y1 := (HY.out.later hb3).cell 1; have y2 := (HY.out.later hb3).cell 2; have y3 := (HY.out.later hb3).cell 3; have y4 := (HY.out.later hb3).cell 4; simp only [List.getElem?_cons_zero, List.getElem?_cons_succ] at x0 y0 y1 y2 y3 y4) | (at_lookup; refine wpList_look_set (f := strLit) hset3.out lawStr Tryz.underlying110 Tryz.underlying4 (Tryz.zeroValue4 _) HK.out rfl _ _ rfl rfl rfl ?_) | (go_at_call 58; refine (place68 _ _ _ _ _ _ x0).mono ?_; rintro e w4 ⟨rfl, rfl⟩) | (go_at_call 55; refine (HM.out _).mono ?_; rintro e w5 ⟨rfl, hb5⟩; have hset5 := Lib.hid (hset3.out.later hb5); have z0 := ((HY.out.later hb3).later hb5).cell 0; simp only [List.getElem?_cons_zero] at z0) | (at_mapUpdate; refine wpList_put_set strLit_inj strLit_key hset5.out lawStr Tryz.underlying110 Tryz.underlying4 HK.out HLK.out rfl _ _ _ rfl rfl rfl rfl ?_; intro w6 hset6 hg6))
              go_roundw
              case rel =>
                have b5 := (HBX.out.trans (hb3.mono HBX.out.size)).trans (hb5.mono (HBX.out.trans (hb3.mono HBX.out.size)).size)
                refine ⟨k + 1, by omega, by go_num, b5.grown hg6 b5.size (fun j hj => by cases hj; omega), ((HX0.out.later hb3).later hb5).kept hg6 (by simp; omega), ?_, ?_⟩
                · rw [hsn.out]; exact hset6
                · have h2 := HL.out
                  rw [hd.out, if_pos (by rw [← HRn.out]; exact hn0)] at h2
                  exact h2
              case measure => simp [intOf]; omega
            · go_wp2_with (first | (go_at_call 59; refine (HN.out _ HSZ.out).mono ?_; rintro e w3 ⟨rfl, hb3⟩; have hset3 := Lib.hid (HSA.out.later hb3); have x0 := (HX0.out.later hb3).cell 0; have y0 := (HY.out.later hb3).cell 0; have y1 := (HY.out.later hb3).cell 1; have y2 := (HY.out.later hb3).cell 2; have y3 := (HY.out.later hb3).cell 3; have y4 := (HY.out.later hb3).cell 4; simp only [List.getElem?_cons_zero, List.getElem?_cons_succ] at x0 y0 y1 y2 y3 y4) | (at_lookup; refine wpList_look_set (f := strLit) hset3.out lawStr Tryz.underlying110 Tryz.underlying4 (Tryz.zeroValue4 _) HK.out rfl _ _ rfl rfl rfl ?_) | (go_at_call 58; refine (place68 _ _ _ _ _ _ x0).mono ?_; rintro e w4 ⟨rfl, rfl⟩) | (go_at_call 55; refine (HM.out _).mono ?_; rintro e w5 ⟨rfl, hb5⟩; have hset5 := Lib.hid (hset3.out.later hb5); have z0 := ((HY.out.later hb3).later hb5).cell 0; simp only [List.getElem?_cons_zero] at z0))
              go_ret
              refine Ret.mk ?_ ((HBX.out.trans (hb3.mono HBX.out.size)).trans (hb5.mono (HBX.out.trans (hb3.mono HBX.out.size)).size))
              rw [← HEND.out (by rw [← HRn.out]; exact hn0), ← HRn.out]; rfl
          · go_wp2_with (first | (go_at_call 59; refine (HN.out _ HSZ.out).mono ?_; rintro e w3 ⟨rfl, hb3⟩; have hset3 := Lib.hid (HSA.out.later hb3); have x0 := (HX0.out.later hb3).cell 0; have y0 := (HY.out.later hb3).cell 0; have y1 := (HY.out.later hb3).cell 1; have y2 := (HY.out.later hb3).cell 2; have y3 := (HY.out.later hb3).cell 3; have y4 := (HY.out.later hb3).cell 4; simp only [List.getElem?_cons_zero, List.getElem?_cons_succ] at x0 y0 y1 y2 y3 y4) | (at_lookup; refine wpList_look_set (f := strLit) hset3.out lawStr Tryz.underlying110 Tryz.underlying4 (Tryz.zeroValue4 _) HK.out rfl _ _ rfl rfl rfl ?_) | (go_at_call 58; refine (place68 _ _ _ _ _ _ x0).mono ?_; rintro e w4 ⟨rfl, rfl⟩))
            go_ret
            have h10 : 10 = R2 := by rw [← HR3.out]; simp
            refine Ret.mk ?_ (HBX.out.trans (hb3.mono HBX.out.size))
            rw [← HEND.out (by omega), ← h10]; rfl
          · go_wp2_with (first | (go_at_call 59; refine (HN.out _ HSZ.out).mono ?_; rintro e w3 ⟨rfl, hb3⟩; have hset3 := Lib.hid (HSA.out.later hb3); have x0 := (HX0.out.later hb3).cell 0; have y0 := (HY.out.later hb3).cell 0; have y1 := (HY.out.later hb3).cell 1; have y2 := (HY.out.later hb3).cell 2; have y3 := (HY.out.later hb3).cell 3; have y4 := (HY.out.later hb3).cell 4; simp only [List.getElem?_cons_zero, List.getElem?_cons_succ] at x0 y0 y1 y2 y3 y4) | (at_lookup; refine wpList_look_set (f := strLit) hset3.out lawStr Tryz.underlying110 Tryz.underlying4 (Tryz.zeroValue4 _) HK.out rfl _ _ rfl rfl rfl ?_) | (go_at_call 58; refine (place68 _ _ _ _ _ _ x0).mono ?_; rintro e w4 ⟨rfl, rfl⟩))
            go_ret
            have h10 : 10 = R2 := by rw [← HR3.out]; simp
            refine Ret.mk ?_ (HBX.out.trans (hb3.mono HBX.out.size))
            rw [← HEND.out (by omega), ← h10]; rfl
        · obtain rfl : b.ts.length = k := by omega
          go_wp2_with fail
          go_ret
          have h2 := HL.out
          rw [List.drop_length] at h2
          exact Ret.mk (by rw [← h2]; rfl) hbe
end Go.Proofs.YtflchbejjofppaaGreatDoor
/- Walks: ranges compared, light and tiny books. -/
namespace Go.Proofs.YtflchbejjofppaaGreatDoor
open Go Go.Proofs Go.RowKit
deriving instance DecidableEq for Rg
def rangesP (l : List Rg) (e n : Int) (r : List Rg) : Prop := if n ≠ 0 then l = [] ∧ e = n else e = 0 ∧ l = r
instance (l : List Rg) (e n : Int) (r : List Rg) : Decidable (rangesP l e n r) := by unfold rangesP; exact inferInstance
end Go.Proofs.YtflchbejjofppaaGreatDoor
/- Walks: light and tiny books. -/
namespace Go.Proofs.YtflchbejjofppaaGreatDoor
open Go Go.Proofs Go.RowKit
theorem ckRgs_ok : ∀ l : List Rg, ckRgs l = 0 ↔ ∀ r ∈ l, ckRange r = 0
  | [] => by simp [ckRgs]
  | r :: l => by
    have ih := ckRgs_ok l
    unfold ckRgs
    by_cases h : ckRange r = 0
    · simp [h, ih]
    · simp [h]
theorem ckTksL_ok (b : Bk) : ∀ (l : List Tk) (i : Nat), ckTksL b i l = 0 ↔ ∀ j t, l[j]? = some t → ckTk b (i + j) t = 0
  | [], i => by simp [ckTksL]
  | t :: l, i => by
    have ih := ckTksL_ok b l (i + 1)
    unfold ckTksL
    by_cases h : ckTk b i t = 0
    · rw [if_pos h, ih]
      constructor
      · intro H j t' ht
        cases j with
        | zero => simp at ht; subst ht; exact h
        | succ j => have := H j t' (by simpa using ht); rwa [Nat.add_assoc, Nat.add_comm 1 j] at this
      · intro H j t' ht
        have := H (j + 1) t' (by simpa using ht)
        rwa [Nat.add_assoc, Nat.add_comm 1 j]
    · rw [if_neg h]
      exact ⟨fun H => absurd H h, fun H => absurd (by simpa using H 0 t rfl) h⟩
theorem ckBook_ok (b : Bk) : ckBook b = 0 ↔ b.st.length ≤ 32 ∧ (∀ r ∈ b.st, ckRange r = 0) ∧ b.ts.length ≤ 128 ∧ ∀ i t, b.ts[i]? = some t → ckTk b i t = 0 := by
  have h1 := ckRgs_ok b.st
  have h2 := ckTksL_ok b b.ts 0
  simp only [Nat.zero_add] at h2
  rw [← h1, ← h2]
  unfold ckBook
  by_cases a1 : 32 < b.st.length
  · rw [if_pos a1]; simp; omega
  rw [if_neg a1]
  by_cases a2 : ckRgs b.st = 0
  · rw [if_neg (by simp [a2])]
    by_cases a3 : 128 < b.ts.length
    · rw [if_pos a3]; simp; omega
    · rw [if_neg a3]; simp [a2]; omega
  · rw [if_pos a2]; simp [a2]
theorem ckRange_ok {r : Rg} : ckRange r = 0 ↔ -999999999 ≤ r.lo ∧ r.lo ≤ r.hi ∧ r.hi ≤ 999999999 := by
  unfold ckRange farB
  by_cases a1 : (decide (999999999 < r.lo) || decide (r.lo < -999999999) || (decide (999999999 < r.hi) || decide (r.hi < -999999999))) = true
  · rw [if_pos a1]
    simp only [Bool.or_eq_true, decide_eq_true_eq] at a1
    constructor
    · intro h; simp at h
    · omega
  · rw [if_neg a1]
    simp only [Bool.or_eq_true, decide_eq_true_eq] at a1
    by_cases a2 : r.hi < r.lo
    · rw [if_pos a2]; constructor
      · intro h; simp at h
      · omega
    · rw [if_neg a2]; constructor
      · intro _; omega
      · intro _; rfl
theorem ckMass_ok {r : Rg} : ckMass r = 0 ↔ 0 ≤ r.lo ∧ r.lo ≤ r.hi ∧ r.hi ≤ 999999999 := by
  have h := @ckRange_ok r
  unfold ckMass
  by_cases a : ckRange r = 0
  · rw [if_pos a]
    have := h.1 a
    by_cases c : r.lo < 0
    · rw [if_pos c]; constructor
      · intro h; simp at h
      · omega
    · rw [if_neg c]; constructor
      · intro _; omega
      · intro _; rfl
  · rw [if_neg a]; constructor
    · intro h; exact absurd h a
    · intro hh; exact h.2 (by omega)
theorem ckTk_ok {b : Bk} {i : Nat} {t : Tk} (h : ckTk b i t = 0) : isName t.id = true ∧ (b.ts.take i).any (fun x => x.id.toList == t.id.toList) = false ∧ badPl b.st.length t.fr = false ∧ badPl b.st.length t.to = false ∧ t.fr ≠ t.to ∧ ckMass t.m = 0 := by
  unfold ckTk at h
  by_cases a1 : isName t.id = true
  · rw [if_neg (by simp [a1])] at h
    by_cases a2 : (b.ts.take i).any (fun x => x.id.toList == t.id.toList) = true
    · rw [if_pos a2] at h; simp at h
    · rw [if_neg a2] at h
      by_cases a3 : (badPl b.st.length t.fr || badPl b.st.length t.to) = true
      · rw [if_pos a3] at h; simp at h
      · rw [if_neg a3] at h
        by_cases a4 : t.fr = t.to
        · rw [if_pos a4] at h; simp at h
        · rw [if_neg a4] at h
          simp only [Bool.or_eq_true, not_or, Bool.not_eq_true] at a3
          exact ⟨a1, (Bool.not_eq_true _).mp a2, a3.1, a3.2, a4, h⟩
  · rw [if_pos (by simpa using a1)] at h; simp at h
end Go.Proofs.YtflchbejjofppaaGreatDoor
/- Walks: the change of places by given masses; assignments. -/
namespace Go.Proofs.YtflchbejjofppaaGreatDoor
open Go Go.Proofs Go.RowKit
def gain (S : List Int) : List Tk → List Int → Int
  | t :: ts, m :: ms => (if t.to ∈ S then m else 0) - (if t.fr ∈ S then m else 0) + gain S ts ms
  | _, _ => 0
theorem gain_drop (S : List Int) (ts : List Tk) (ms : List Int) (k : Nat) (h1 : k < ts.length) (h2 : k < ms.length) : gain S (ts.drop k) (ms.drop k) = (if ts[k].to ∈ S then ms[k] else 0) - (if ts[k].fr ∈ S then ms[k] else 0) + gain S (ts.drop (k + 1)) (ms.drop (k + 1)) := by
  rw [List.drop_eq_getElem_cons h1, List.drop_eq_getElem_cons h2]; rfl
set_option maxRecDepth 100000 in
set_option maxHeartbeats 1000000 in
theorem gain41 (v1 v2 u s : Value) (b : Bk) (ms S : List Int) (w : World) (hv : BkR w w.heap.size v1 v2 b) (hu : Sl encI 1 w w.heap.size u ms) (hs : Sl encI 1 w w.heap.size s S)
    (hl : b.ts.length ≤ ms.length) (hn : b.ts.length ≤ 200) (hm : ∀ i (h : i < ms.length), i < b.ts.length → 0 ≤ ms[i] ∧ ms[i] ≤ 999999999) :
    Calls Tryz.prog 16 #[.agg #[v1, v2], u, s] w (Ret (.int .i64 (gain S b.ts ms)) w) := by
  have W1 : ∀ vs, Below w.heap.size w (w.alloc (.cells vs 25)) := fun _ => (Below.refl _ _).alloc (Nat.le_refl _) _
  have HI := Lib.hid (fun (w' : World) (hb : Below w.heap.size w w') (p : Int) => in76 s S p w' (hs.later hb))
  have HW1 := Lib.hid W1
  clear W1
  obtain ⟨⟨a1, c1, rfl, hl1, hA1⟩, ⟨a2, c2, rfl, hl2, hA2⟩, hids⟩ := hv
  obtain ⟨a3, c3, rfl, hl3, hA3⟩ := hu
  clear hA1 hids
  have HA2 := Lib.hid hA2
  clear hA2
  have HA3 := Lib.hid hA3
  clear hA3
  have HM := Lib.hid hm
  clear hm
  obtain ⟨R, hR⟩ : ∃ R, gain S b.ts ms = R := ⟨_, rfl⟩
  rw [hR]
  have HR := Lib.hid hR
  clear hR
  have HB := Lib.hid (Box.new w #[.slice a1 b.st.length c1, .slice a2 b.ts.length c2] 25)
  obtain ⟨a4, c4, rfl, hl4, hA4⟩ := hs
  clear hA4
  go_enter Tryz.func16, Tryz.ntmps16
  go_wp2_with fail
  go_loopw [7, 8] (fun c j wr => ∃ (k : Nat) (z : Int), k ≤ b.ts.length ∧ c = .int .i64 z ∧ j = .int .i64 k ∧ -(k * 999999999) ≤ z ∧ z ≤ k * 999999999 ∧ Below w.heap.size w wr ∧ Box wr w.heap.size 25 [.slice a1 b.st.length c1, .slice a2 b.ts.length c2] ∧ z + gain S (b.ts.drop k) (ms.drop k) = R) (fun _ j _ => b.ts.length - (intOf j).toNat)
  case atStart => exact ⟨0, 0, by omega, rfl, rfl, by omega, by omega, HW1.out _, HB.out, by rw [← HR.out]; exact Int.zero_add _⟩
  case round =>
    clear HR
    obtain ⟨k, z, hk, rfl, rfl, hz1, hz2, hbe, hx0, hrel⟩ := hrel
    have HL := Lib.hid hrel
    clear hrel
    have d0 := hx0.cell 0
    have d1 := hx0.cell 1
    have dz := hx0.lt
    simp only [List.getElem?_cons_zero, List.getElem?_cons_succ] at d0 d1
    by_cases hlt : k < b.ts.length
    · obtain ⟨bb, off, rfl, hbb, hcells⟩ := HA2.out (by omega)
      obtain ⟨e0, e1, e2, e3, e4⟩ := ((hcells k hlt).below hbe hbb).c5
      obtain ⟨b3, o3, rfl, hb3, hcells3⟩ := HA3.out (by omega)
      have f0 := ((hcells3 k (by omega)).below hbe hb3).c1
      rw [Nat.mul_one] at f0
      obtain ⟨m1, m2⟩ := HM.out k (by omega) hlt
      have hd := Lib.hid (gain_drop S b.ts ms k hlt (by omega))
      have HC := Lib.hid (fun p => HI.out _ hbe p)
      clear hcells hcells3 HA2 HA3 HM
      generalize b.ts[k] = t at *
      generalize ms[k]'_ = m at *
      obtain ⟨tid, tfr, tto, tlo, thi⟩ := t
      dsimp only at *
      by_cases p : tto ∈ S
      all_goals by_cases q : tfr ∈ S
      all_goals
        have HD := Lib.hid (show gain S (b.ts.drop k) (ms.drop k) = _ from hd.out)
        simp only [p, q, if_true, if_false] at HD
        clear hd
        first | (have p' : decide (tto ∈ S) = true := decide_eq_true p; clear p) | (have p' : decide (tto ∈ S) = false := decide_eq_false p; clear p)
        first | (have q' : decide (tfr ∈ S) = true := decide_eq_true q; clear q) | (have q' : decide (tfr ∈ S) = false := decide_eq_false q; clear q)
        go_wp2_with (go_at_call 10; refine (HC.out _).mono ?_; rintro e w3 ⟨rfl, rfl⟩)
        go_roundw
        case rel => exact ⟨k + 1, _, by omega, rfl, by go_num, by omega, by omega, hbe, hx0, by rw [← HL.out, HD.out]; omega⟩
        case measure => simp [intOf]; omega
    · obtain rfl : b.ts.length = k := by omega
      go_wp2_with fail
      go_ret
      have h := HL.out
      rw [List.drop_length] at h
      exact Ret.mk (by rw [← h, show gain S [] (ms.drop b.ts.length) = 0 by unfold gain; rfl, Int.add_zero]; rfl) hbe
end Go.Proofs.YtflchbejjofppaaGreatDoor
/- Walks: assignments, by the reference. -/
namespace Go.Proofs.YtflchbejjofppaaGreatDoor
open Go Go.Proofs Go.RowKit
def Rg.has (r : Rg) (x : Int) : Prop := r.lo ≤ x ∧ x ≤ r.hi
instance (r : Rg) (x : Int) : Decidable (r.has x) := by unfold Rg.has; exact inferInstance
structure IsAsg (b : Bk) (ms : List Int) : Prop where
  len : ms.length = b.ts.length
  tk : ∀ i (h : i < b.ts.length), (b.ts[i]).m.has (ms[i]'(len ▸ h))
  pl : ∀ p (h : p < b.st.length), (b.st[p]).has (gain [(p : Int)] b.ts ms)
end Go.Proofs.YtflchbejjofppaaGreatDoor
