/- Lemmas on the way to the laws (part 24): Ul Un -/
import Derived.Test.YtlakcghdehdeiaaLib23
set_option linter.unusedVariables false
set_option linter.unusedSimpArgs false

/- Walks: the reference's IsMinimal. -/
namespace Go.Proofs.Ytlakcghdehdeiaa
open Go Go.Proofs Go.RowKit

theorem ex_bool (p : Prop) : ∃ R : Bool, R = true ↔ p := by classical exact ⟨decide p, by simp⟩
/-- less, of any slice of integers whose capacity holds its length. -/
theorem less85s (w : World) (a : Option Addr) (c : Nat) (L : List Int) (k : Nat) (hk : k < L.length) (hc : L.length ≤ c) (hl : L.length ≤ 1000000) (hu : Sl encI 1 w w.heap.size (.slice a L.length c) L) :
    Calls Try.prog 85 #[.slice a L.length c, .int .i64 k] w (fun e w' => ∃ v, e = .returned v ∧ Below w.heap.size w w' ∧ Own encI 1 3 w' w.heap.size v (L.take k ++ L.drop (k + 1))) := by
  obtain ⟨a', c', hv, hlen, hA⟩ := hu
  cases hv
  obtain ⟨bb, off, rfl, hbb, hcells⟩ := hA (by omega)
  refine less85 w bb off c L k hk hc hl ?_ hbb
  intro i h j u hu
  have := hcells i h
  have h2 := this j u hu
  rw [← Nat.add_assoc]
  exact h2
def lessOf (L : List Int) (k : Nat) : List Int := L.take k ++ L.drop (k + 1)
theorem lessOf_len (L : List Int) (k : Nat) (h : k < L.length) : (lessOf L k).length = L.length - 1 := by simp [lessOf]; omega

def IsMinI (b : Bk) (L : List Int) : Prop := ¬ Con (b.wout (kI b.ts.length L)) ∧ ∀ k, k < L.length → Con (b.wout (kI b.ts.length (lessOf L k)))

set_option maxRecDepth 100000 in
set_option maxHeartbeats 1000000 in
theorem isMin51 (w : World) (v1 v2 : Value) (a : Option Addr) (c : Nat) (b : Bk) (L : List Int) (hok : OkBk b) (hv : BkR w w.heap.size v1 v2 b) (hc : L.length ≤ c) (hl : L.length ≤ 1000000) (hu : Sl encI 1 w w.heap.size (.slice a L.length c) L) (R : Bool) (hR : R = true ↔ IsMinI b L) :
    Calls Try.prog 51 #[.agg #[v1, v2], .slice a L.length c] w (Ret (.bool R) w) := by
  have HW := Lib.hid (fun (w1 : World) (hb : Below w.heap.size w w1) (u : Value) (L : List Int) (hu : Sl encI 1 w1 w1.heap.size u L) => without84 w1 v1 v2 u b L hok (hv.later hb) hu)
  have HU := Lib.hid (fun (w1 : World) (hb : Below w.heap.size w w1) => hu.later hb)
  have HL := Lib.hid (fun (w1 : World) (hb : Below w.heap.size w w1) (k : Nat) (hk : k < L.length) => less85s w1 a c L k hk hc hl (hu.later hb))
  have HOK := Lib.hid hok
  have HRR := Lib.hid hR
  obtain ⟨⟨a1, n1, hv1, hl1, hA1⟩, ⟨a2, n2, hv2, hl2, hA2⟩, hids⟩ := hv
  subst hv1 hv2
  clear hA1 hA2 hids hok hu hR
  go_enter Try.func51, Try.ntmps51
  go_wp2_with fail
  have hbx := Box.new w #[.slice a1 b.st.length n1, .slice a2 b.ts.length n2] 38
  have hbl : Below w.heap.size w (w.alloc (.cells #[.slice a1 b.st.length n1, .slice a2 b.ts.length n2] 38)) := (Below.refl _ _).alloc (Nat.le_refl _) _
  generalize w.alloc (.cells #[.slice a1 b.st.length n1, .slice a2 b.ts.length n2] 38) = w1 at *
  refine (HW.out w1 hbl _ L (HU.out w1 hbl)).mono ?_
  rintro e w2 ⟨v', rfl, hbk, hb2⟩
  have HB2 := Lib.hid (hbl.trans (hb2.mono hbl.size))
  have hbx2 := hbx.later hb2
  obtain ⟨R1, hR1⟩ : ∃ R1 : Bool, R1 = true ↔ Con (b.wout (kI b.ts.length L)) := ex_bool _
  have HI := Lib.hid (isCon31 w2 _ v' _ (HOK.out.wout (kI b.ts.length L)) hbk R1 hR1)
  have HR1 := Lib.hid hR1
  have HBX2 := Lib.hid hbx2
  clear hb2 hbl hbx hbx2 hbk hR1
  cases R1 with
  | true =>
    have hrf : R = false := by
      cases R with
      | false => rfl
      | true => exact absurd (HR1.out.1 rfl) (HRR.out.1 rfl).1
    subst hrf
    go_wp2_with (go_at_call 31; refine HI.out.mono ?_; rintro e w3 ⟨rfl, hb3⟩; have HB3 := Lib.hid (HB2.out.trans (hb3.mono HB2.out.size)); clear hb3)
    refine bodyPost_ret (v := .bool false) (by simp [results, Try.results51, go_sem, *]) rfl ?_
    exact ⟨rfl, HB3.out⟩
  | false =>
    have HNC := Lib.hid (show ¬ Con (b.wout (kI b.ts.length L)) from fun h => by have := HR1.out.2 h; cases this)
    go_wp2_with (go_at_call 31; refine HI.out.mono ?_; rintro e w3 ⟨rfl, hb3⟩; have HB3 := Lib.hid (HB2.out.trans (hb3.mono HB2.out.size)); have HBX3 := Lib.hid (HBX2.out.later hb3); clear hb3)
    go_loopw [5] (fun i wr => ∃ k : Nat, k ≤ L.length ∧ i = .int .i64 k ∧ Below w.heap.size w wr ∧ Box wr w.heap.size 38 [.slice a1 b.st.length n1, .slice a2 b.ts.length n2] ∧ ∀ j, j < k → Con (b.wout (kI b.ts.length (lessOf L j)))) (fun i _ => L.length - (intOf i).toNat)
    case atStart => exact ⟨0, by omega, rfl, HB3.out, HBX3.out, fun j hj => by omega⟩
    case round =>
      clear HB3 HBX3 HB2 HBX2 HI HR1
      obtain ⟨k, hk, rfl, hbe, hbx, hall⟩ := hrel
      have HALL := Lib.hid hall
      have HBE := Lib.hid hbe
      have HBX := Lib.hid hbx
      clear hall hbe
      by_cases hlt : k < L.length
      · have HLT := Lib.hid hlt
        have HK : Hid (∀ W', (W' = { wr with drawn := wr.drawn + 1 } ∨ ∃ v, Own encI 1 3 W' wr.heap.size v (lessOf L k) ∧ Below wr.heap.size wr W') → ∃ X : Keep wr (fun b _ => b = w.heap.size), W' = X.w) := Lib.hid (by
          rintro W' (rfl | ⟨v, _, hb⟩)
          · exact ⟨⟨{ wr with drawn := wr.drawn + 1 }, fun b o hb => rfl⟩, rfl⟩
          · exact ⟨⟨W', fun b o hbb => (bcell hb).1 b o (by rw [hbb]; exact hbx.lt)⟩, rfl⟩)
        obtain ⟨d0, d1, df, dz⟩ := hbx.v2
        clear hbx
        go_wp2_with fail
        refine wp_region_callflow 4 3 _ 85 (fun v W' => Own encI 1 3 W' wr.heap.size v (lessOf L k) ∧ Below wr.heap.size wr W') (by kernel_rfl) (by kernel_rfl) rfl ?_
        apply Exists.intro
        refine ⟨fun W' hW' => ?_, ?_⟩
        · obtain ⟨X, hX⟩ := HK.out W' hW'
          subst hX
          rw [← keep1_class X]
          simp only [headsOf, List.take_succ_cons, List.drop_succ_cons, List.take_zero, List.drop_zero, Nat.reduceSub, List.cons_append, List.nil_append]
          repeat go_big_quiet_step (fail)
          exact wpQuiet_nil rfl
        apply Exists.intro
        refine ⟨?_, ?_, ?_⟩
        · go_simp
          first | done | rfl
        · refine (HL.out { wr with drawn := wr.drawn + 1 } (HBE.out.trans (show Below w.heap.size wr { wr with drawn := wr.drawn + 1 } from ⟨rfl, rfl, rfl, Nat.le_refl _, fun _ _ => rfl⟩)) k HLT.out).mono ?_
          rintro e w4 ⟨v, rfl, hb, ho⟩
          exact ⟨_, rfl, ho, (show Below wr.heap.size wr { wr with drawn := wr.drawn + 1 } from ⟨rfl, rfl, rfl, Nat.le_refl _, fun _ _ => rfl⟩).trans hb⟩
        · rintro v w4 ⟨ho, hb⟩
          have HO := Lib.hid ho
          have HB4 := Lib.hid (HBE.out.trans (hb.mono HBE.out.size))
          have HX4 := Lib.hid (HBX.out.later hb)
          have HLL := Lib.hid (lessOf_len L k HLT.out)
          clear ho hb HK d0 d1 df dz
          simp only [Act.put, List.setIfInBounds_toArray, List.set_cons_succ, List.set_cons_zero, List.drop_succ_cons, List.drop_zero]
          go_wp2_with fail
          refine (HW.out w4 HB4.out v _ (HO.out.toSl encI_len (by rw [HLL.out]; omega))).mono ?_
          rintro e w5 ⟨v', rfl, hbk, hb5⟩
          have HB5 := Lib.hid (HB4.out.trans (hb5.mono HB4.out.size))
          have HX5 := Lib.hid (HX4.out.later hb5)
          obtain ⟨R2, hR2⟩ : ∃ R2 : Bool, R2 = true ↔ Con (b.wout (kI b.ts.length (lessOf L k))) := ex_bool _
          have HI := Lib.hid (isCon31 w5 _ v' _ (HOK.out.wout (kI b.ts.length (lessOf L k))) hbk R2 hR2)
          have HR2 := Lib.hid hR2
          clear hb5 hbk hR2 HB4 HX4 HO
          cases R2 with
          | true =>
            go_wp2_with (go_at_call 31; refine HI.out.mono ?_; rintro e w6 ⟨rfl, hb6⟩; have HB6 := Lib.hid (HB5.out.trans (hb6.mono HB5.out.size)); have HX6 := Lib.hid (HX5.out.later hb6); clear hb6)
            go_roundw
            case rel =>
              refine ⟨k + 1, HLT.out, by go_num, HB6.out, HX6.out, fun j hj => ?_⟩
              by_cases hjk : j = k
              · subst hjk; exact HR2.out.1 (by trivial)
              · exact HALL.out j (by omega)
            case measure => simp [intOf]; have := HLT.out; omega
          | false =>
            have hrf : R = false := by
              cases R with
              | false => rfl
              | true => exact absurd ((HRR.out.1 rfl).2 k HLT.out) (fun h => by have := HR2.out.2 h; cases this)
            subst hrf
            go_wp2_with (go_at_call 31; refine HI.out.mono ?_; rintro e w6 ⟨rfl, hb6⟩; have HB6 := Lib.hid (HB5.out.trans (hb6.mono HB5.out.size)); clear hb6)
            refine bodyPost_ret (v := .bool false) (by simp [results, Try.results51, go_sem, *]) rfl ?_
            exact ⟨rfl, HB6.out⟩
      · obtain rfl : L.length = k := by omega
        have hrt : R = true := HRR.out.2 ⟨HNC.out, HALL.out⟩
        subst hrt
        clear hbx
        go_wp2_with fail
        refine bodyPost_ret (v := .bool true) (by simp [results, Try.results51, go_sem, *]) rfl ?_
        exact ⟨rfl, HBE.out⟩
end Go.Proofs.Ytlakcghdehdeiaa

/- Walks: the reference's Minimal. -/
namespace Go.Proofs.Ytlakcghdehdeiaa
open Go Go.Proofs Go.RowKit

theorem kI_out (n : Nat) (l : List Nat) : kI n (outI l) = ksOf n l := by
  unfold kI ksOf outI
  apply List.map_congr_left
  intro i _
  rw [decide_eq_decide, List.mem_map]
  constructor
  · rintro ⟨j, hj, e⟩
    have : j = i := by omega
    subst this; exact hj
  · intro h; exact ⟨i, h, rfl⟩
theorem lessOf_out (l : List Nat) (k : Nat) : lessOf (outI l) k = outI (l.eraseIdx k) := by
  unfold lessOf outI
  rw [List.eraseIdx_eq_take_drop_succ, List.map_append, List.map_take, List.map_drop]
theorem grL_erase {b : Bk} {k : Nat} {done : List Nat} (hk : k < b.ts.length) : (grL b k done).eraseIdx done.length = grL b (k + 1) done := by
  unfold grL
  rw [List.eraseIdx_append_of_length_le (Nat.le_refl _), Nat.sub_self, range_from _ _ hk]
  rfl
theorem grL_len {b : Bk} {k : Nat} {done : List Nat} : (grL b k done).length = done.length + (b.ts.length - k) := by simp [grL]
theorem grL_keep {b : Bk} {k : Nat} {done : List Nat} (hk : k < b.ts.length) : grL b (k + 1) (done ++ [k]) = grL b k done := by
  unfold grL
  rw [range_from _ _ hk, List.append_assoc]; rfl
theorem own_cap {w : World} {base : Nat} {l : List Int} {v : Value} (h : Own encI 1 3 w base v l) (hn : 0 < l.length) : ∃ g cap, v = .slice (some ⟨g, 0, none⟩) l.length cap ∧ base ≤ g ∧ g < w.heap.size ∧ l.length ≤ cap := by
  rcases h.2 with ⟨_, h0⟩ | ⟨g, cap, cur, hv, hb, hh, hc, _⟩
  · omega
  · exact ⟨g, cap, hv, hb, (Array.getElem?_eq_some_iff.1 hh).1, hc⟩
def lenOf (v : Value) : Nat := match v with | .slice _ n _ => n | _ => 0

set_option maxRecDepth 100000 in
set_option maxHeartbeats 1000000 in
theorem minimal50 (w : World) (v1 v2 : Value) (b : Bk) (hok : OkBk b) (hv : BkR w w.heap.size v1 v2 b) :
    Calls Try.prog 50 #[.agg #[v1, v2]] w (fun e w' => ∃ v, e = .returned v ∧ Sl encI 1 w' w'.heap.size v (minOf b) ∧ Below w.heap.size w w') := by
  have HW := Lib.hid (fun (w1 : World) (hb : Below w.heap.size w w1) (u : Value) (L : List Int) (hu : Sl encI 1 w1 w1.heap.size u L) => without84 w1 v1 v2 u b L hok (hv.later hb) hu)
  have HOK := Lib.hid hok
  have h128 := hok.ts128
  obtain ⟨⟨a1, n1, hv1, hl1, hA1⟩, ⟨a2, n2, hv2, hl2, hA2⟩, hids⟩ := hv
  subst hv1 hv2
  clear hA1 hA2 hids hok
  obtain ⟨m, hm⟩ : ∃ m, b.ts.length = m := ⟨_, rfl⟩
  rw [hm] at h128
  have HM := Lib.hid hm
  rw [hm] at HW ⊢
  clear hl2 hm
  go_enter Try.func50, Try.ntmps50
  go_wp2_with fail
  have hbx := Box.new w #[.slice a1 b.st.length n1, .slice a2 m n2] 38
  have hbl : Below w.heap.size w (w.alloc (.cells #[.slice a1 b.st.length n1, .slice a2 m n2] 38)) := (Below.refl _ _).alloc (Nat.le_refl _) _
  generalize w.alloc (.cells #[.slice a1 b.st.length n1, .slice a2 m n2] 38) = w1 at *
  go_loopw [4, 3] (fun i o wr => ∃ (k : Nat) (vo : Value), k ≤ m ∧ i = .int .i64 k ∧ o = vo ∧ Own encI 1 3 wr (w.heap.size + 1) vo (outI (List.range k)) ∧ Box wr w.heap.size 38 [.slice a1 b.st.length n1, .slice a2 m n2] ∧ Below w.heap.size w wr) (fun i _ _ => m - (intOf i).toNat)
  case atStart => exact ⟨0, _, by omega, rfl, rfl, Own.nil _ _ _ _ _, hbx, hbl⟩
  case round =>
    clear hbx hbl
    obtain ⟨k, vo, hk, rfl, rfl, hown, hbx, hbe⟩ := hrel
    obtain ⟨x0, x1, xf, xz⟩ := hbx.v2
    by_cases hlt : k < m
    · have hbz : w.heap.size + 1 ≤ wr.heap.size := by omega
      have HLK := Lib.hid (show (outI (List.range k)).length ≤ 1000000 by simp; omega)
      have HOA := Lib.hid (hown.alloc (.cells #[.int .i64 k] 3))
      have HSZ := Lib.hid (show w.heap.size + 1 ≤ (wr.alloc (.cells #[.int .i64 k] 3)).heap.size by simp; omega)
      have HNW := Lib.hid (show (wr.alloc (.cells #[.int .i64 k] 3)).heap[wr.heap.size]? = some (.cells #[.int .i64 k] 3 (0, 0)) by simpa using heap_alloc_new wr (.cells #[.int .i64 k] 3))
      have HXA := Lib.hid (hbx.alloc (.cells #[.int .i64 k] 3))
      have HBA := Lib.hid (hbe.alloc (by omega) (.cells #[.int .i64 k] 3))
      clear hown hbx hbe
      go_wp2_with (at_builtin; (refine wpList_pushB encI 1 8 22 3 _ Try.underlying22 Try.infoI rfl (by decide) (by decide) encI_len encI_one (outI (List.range k)) (k : Int) (w.heap.size + 1) _ _ _ _ HNW.out rfl _ HOA.out HSZ.out HLK.out rfl _ _ rfl rfl rfl ?_); intro v' w' hown' hg'; have HOW := Lib.hid hown'; have HGW := Lib.hid hg'; clear hown' hg')
      go_roundw
      case rel =>
        refine ⟨k + 1, _, by omega, by go_num, rfl, ?_, HXA.out.kept HGW.out (HOA.out.ne (by omega)), grown_below HBA.out HGW.out HBA.out.size HOA.out.lt' (by omega)⟩
        have : outI (List.range (k + 1)) = outI (List.range k) ++ [(k : Int)] := by simp [outI, List.range_succ]
        rw [this]; exact HOW.out
      case measure => simp [intOf]; omega
    · obtain rfl : m = k := by omega
      have HOW := Lib.hid (show Own encI 1 3 wr (w.heap.size + 1) _ (outI (grL b 0 [])) by
        have : grL b 0 [] = List.range m := by unfold grL; rw [HM.out, List.nil_append, Nat.sub_zero, List.range_eq_range']
        rw [this]; exact hown)
      have HBX := Lib.hid hbx
      have HBE := Lib.hid hbe
      clear hown hbx hbe
      go_wp2_with fail
      go_loopw [5, 3] (fun i o wr => ∃ (k : Nat) (vo : Value) (done : List Nat), k ≤ m ∧ i = .int .i64 done.length ∧ o = vo ∧ Gr b k done ∧ Own encI 1 3 wr (w.heap.size + 1) vo (outI (grL b k done)) ∧ Box wr w.heap.size 38 [.slice a1 b.st.length n1, .slice a2 m n2] ∧ Below w.heap.size w wr) (fun i o _ => lenOf o - (intOf i).toNat)
      case atStart => exact ⟨0, _, [], by omega, rfl, rfl, Gr.zero b, HOW.out, HBX.out, HBE.out⟩
      case round =>
        clear HOW HBX HBE x0 x1 xf xz
        obtain ⟨k, vo, done, hk, rfl, rfl, hgr, hown, hbx, hbe⟩ := hrel
        have hdl := hgr.len
        obtain ⟨d, hd⟩ : ∃ d, done.length = d := ⟨_, rfl⟩
        rw [hd] at hdl ⊢
        have HD := Lib.hid hd
        have HGR := Lib.hid hgr
        have hLen : (outI (grL b k done)).length = d + (m - k) := by simp [grL_len, HM.out, HD.out]
        obtain ⟨L, hL⟩ : ∃ L, outI (grL b k done) = L := ⟨_, rfl⟩
        rw [hL] at hLen hown
        have HLQ := Lib.hid hL
        obtain ⟨q, hq⟩ : ∃ q, L.length = q := ⟨_, rfl⟩
        have HQ := Lib.hid hq
        have HQD := Lib.hid (show q = d + (m - k) by omega)
        have HBX := Lib.hid hbx
        have HBE := Lib.hid hbe
        have HOW := Lib.hid hown
        clear hd hL hgr hLen hq
        by_cases hlt : k < m
        · have hkl : d < q := by have := HQD.out; omega
          obtain ⟨g, cap, rfl, hg, hgz, hcap⟩ := own_cap hown (by rw [HQ.out]; omega)
          have HEL := Lib.hid (show lessOf L d = outI (grL b (k + 1) done) by rw [← HLQ.out, lessOf_out, ← HD.out, grL_erase (by rw [HM.out]; exact hlt)])
          have HL := Lib.hid (fun (W : World) (hb : Below wr.heap.size wr W) => less85s W (some ⟨g, 0, none⟩) cap L d (by rw [HQ.out]; exact hkl) hcap (by rw [HQ.out]; have := HQD.out; omega) ((HOW.out.toSl encI_len (by rw [HQ.out]; have := HQD.out; omega)).later hb))
          rw [HQ.out] at HL HOW ⊢
          have HK : Hid (∀ W', (W' = { wr with drawn := wr.drawn + 1 } ∨ ∃ v, Own encI 1 3 W' wr.heap.size v (lessOf L d) ∧ Below wr.heap.size wr W') → ∃ X : Keep wr (fun b _ => b = w.heap.size), W' = X.w) := Lib.hid (by
            rintro W' (rfl | ⟨v, _, hb⟩)
            · exact ⟨⟨{ wr with drawn := wr.drawn + 1 }, fun b o hb => rfl⟩, rfl⟩
            · exact ⟨⟨W', fun b o hbb => (bcell hb).1 b o (by rw [hbb]; exact hbx.lt)⟩, rfl⟩)
          obtain ⟨d0, d1, df, dz⟩ := hbx.v2
          clear hbx hbe hown hcap
          go_wp2_with fail
          refine wp_region_callflow 4 3 _ 85 (fun v W' => Own encI 1 3 W' wr.heap.size v (lessOf L d) ∧ Below wr.heap.size wr W') (by kernel_rfl) (by kernel_rfl) rfl ?_
          apply Exists.intro
          refine ⟨fun W' hW' => ?_, ?_⟩
          · obtain ⟨X, hX⟩ := HK.out W' hW'
            subst hX
            rw [← keep1_class X]
            simp only [headsOf, List.take_succ_cons, List.drop_succ_cons, List.take_zero, List.drop_zero, Nat.reduceSub, List.cons_append, List.nil_append]
            repeat go_big_quiet_step (fail)
            exact wpQuiet_nil rfl
          apply Exists.intro
          refine ⟨?_, ?_, ?_⟩
          · go_simp
            first | done | rfl
          · refine (HL.out { wr with drawn := wr.drawn + 1 } (show Below wr.heap.size wr { wr with drawn := wr.drawn + 1 } from ⟨rfl, rfl, rfl, Nat.le_refl _, fun _ _ => rfl⟩)).mono ?_
            rintro e w4 ⟨v, rfl, hb, ho⟩
            exact ⟨_, rfl, ho, (show Below wr.heap.size wr { wr with drawn := wr.drawn + 1 } from ⟨rfl, rfl, rfl, Nat.le_refl _, fun _ _ => rfl⟩).trans hb⟩
          · rintro v w4 ⟨ho, hb⟩
            have HO := Lib.hid ho
            have HB4 := Lib.hid (HBE.out.trans (hb.mono HBE.out.size))
            have HR4 := Lib.hid hb
            have HLL := Lib.hid (show (lessOf L d).length = q - 1 by rw [lessOf_len L d (by rw [HQ.out]; exact hkl), HQ.out])
            clear ho hb HK d0 d1 df dz
            simp only [Act.put, List.setIfInBounds_toArray, List.set_cons_succ, List.set_cons_zero, List.drop_succ_cons, List.drop_zero]
            go_wp2_with fail
            refine (HW.out w4 HB4.out v _ (HO.out.toSl encI_len (by rw [HLL.out]; have := HQD.out; omega))).mono ?_
            rintro e w5 ⟨v', rfl, hbk, hb5⟩
            have HR5 := Lib.hid (HR4.out.trans (hb5.mono HR4.out.size))
            obtain ⟨R2, hR2⟩ : ∃ R2 : Bool, R2 = true ↔ Con (b.wout (kI m (lessOf L d))) := ex_bool _
            have HI := Lib.hid (isCon31 w5 _ v' _ (HOK.out.wout (kI m (lessOf L d))) hbk R2 hR2)
            have HR2 := Lib.hid (show R2 = true ↔ ConL b (grL b (k + 1) done) by rw [hR2, ← HM.out, HEL.out, kI_out]; exact Iff.rfl)
            have hkb : k < b.ts.length := by rw [HM.out]; exact hlt
            clear hb5 hbk hR2 HB4 HO HR4
            cases R2 with
            | true =>
              have HG2 := Lib.hid (HGR.out.keep hkb (HR2.out.1 (by trivial)))
              have HKP := Lib.hid (grL_keep (done := done) hkb)
              clear hkb
              go_wp2_with (go_at_call 31; refine HI.out.mono ?_; rintro e w6 ⟨rfl, hb6⟩; have HR6 := Lib.hid (HR5.out.trans (hb6.mono HR5.out.size)); clear hb6)
              go_roundw
              case rel =>
                refine ⟨k + 1, _, done ++ [k], hlt, by simp [HD.out], rfl, HG2.out, ?_, HBX.out.later HR6.out, HBE.out.trans (HR6.out.mono HBE.out.size)⟩
                rw [HKP.out, HLQ.out]
                exact HOW.out.later HR6.out
              case measure => simp [intOf, lenOf]; have := HQD.out; omega
            | false =>
              have HG2 := Lib.hid (HGR.out.drop hkb (fun h => by have := HR2.out.2 h; cases this))
              clear hkb
              go_wp2_with (first | (go_at_call 31; refine HI.out.mono ?_; rintro e w6 ⟨rfl, hb6⟩; have HR6 := Lib.hid (HR5.out.trans (hb6.mono HR5.out.size)); clear hb6) | (go_at_call 85; refine (HL.out _ HR6.out).mono ?_; rintro e w7 ⟨v7, rfl, hb7, ho7⟩; have HO7 := Lib.hid ho7; have HR7 := Lib.hid (HR6.out.trans (hb7.mono HR6.out.size)); have HZ7 := Lib.hid HR6.out.size; clear ho7 hb7))
              go_roundw
              case rel =>
                refine ⟨k + 1, _, done, hlt, by rw [HD.out], rfl, HG2.out, ?_, HBX.out.later HR7.out, HBE.out.trans (HR7.out.mono HBE.out.size)⟩
                rw [← HEL.out]
                exact HO7.out.lower (by have := HZ7.out; have := HBX.out.lt; omega)
              case measure =>
                obtain ⟨a7, c7, e7⟩ := HO7.out.shape
                subst e7
                rw [show (List.take d L ++ List.drop (d + 1) L).length = q - 1 from HLL.out]
                simp [intOf, lenOf]; have := HQD.out; omega
        · obtain rfl : m = k := by omega
          have hlast := (show Gr b b.ts.length done by rw [HM.out]; exact HGR.out).last
          have HFI := Lib.hid (show Sl encI 1 wr wr.heap.size _ (minOf b) by
            have h9 := hown.toSl encI_len (by rw [HQ.out]; have := HQD.out; omega)
            rw [← HLQ.out] at h9
            have : grL b m done = minN b := by unfold grL; rw [HM.out, Nat.sub_self]; simpa using hlast
            rw [this] at h9; exact h9)
          obtain ⟨av, cv, rfl⟩ := hown.shape
          rw [HQ.out] at HFI ⊢
          clear hlast hown hbx hbe
          have hqd2 : q = d := by have := HQD.out; omega
          subst hqd2
          go_wp2_with fail
          refine bodyPost_ret (v := .slice av q cv) (by simp [results, Try.results50, go_sem, *]) rfl ?_
          exact ⟨_, rfl, HFI.out, HBE.out⟩
end Go.Proofs.Ytlakcghdehdeiaa
