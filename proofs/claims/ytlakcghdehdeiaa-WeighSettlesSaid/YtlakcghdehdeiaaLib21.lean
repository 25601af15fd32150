/- Lemmas on the way to the laws (part 21): Uc -/
import Derived.Test.YtlakcghdehdeiaaLib20
import Derived.Test.YtlakcghdehdeiaaLib12
set_option linter.unusedVariables false
set_option linter.unusedSimpArgs false

/- Walks: Witness. -/
namespace Go.Proofs.Ytlakcghdehdeiaa
open Go Go.Proofs Go.RowKit

theorem ends_more {n m : Nat} {l : List Ac} (h : Ends n l) (hnm : n ≤ m) : Ends m l := fun a ha => by have := h a ha; omega
/-- An assignment in which ticket i has its greatest, or its least, mass. -/
def WitOk (b : Bk) (i : Nat) (high : Bool) (ms : List Int) : Prop := IsAsg b ms ∧ ∀ ms', IsAsg b ms' → if high then ms'.getD i 0 ≤ ms.getD i 0 else ms.getD i 0 ≤ ms'.getD i 0
theorem flows_at {b : Bk} {l : List Ac} {i : Nat} (hi : i < b.ts.length) {a : Ac} (h : l[i]? = some a) : (flows b l).getD i 0 = a.fl := by
  rw [List.getD_eq_getElem?_getD, flows_get i hi, h]; rfl
theorem witOk_of {b : Bk} {l l' : List Ac} {i : Nat} {high : Bool} (hok : OkBk b) (hi : i < b.ts.length) (hs : shp l = shp (arcsOf b)) (hc : Circ (b.st.length + 1) l) (hp : PushR l l' i high) : WitOk b i high (flows b l') := by
  have hs' := hp.shape.trans hs
  have hc' := hp.circ hc
  refine ⟨circ_asg hok hs' hc', fun ms' hms => ?_⟩
  obtain ⟨k1, k2⟩ := asg_circ hok hms
  have k3 := shp_asgL (b := b) hms.len
  have hll : l'.length = b.ts.length + b.st.length := by rw [shp_length hs', arcs_len]
  have hla : (asgL b ms').length = b.ts.length + b.st.length := by rw [shp_length k3, arcs_len]
  have e1 : l'[i]? = some (l'[i]'(by omega)) := List.getElem?_eq_getElem _
  have e2 : (asgL b ms')[i]? = some ((asgL b ms')[i]'(by omega)) := List.getElem?_eq_getElem _
  have h := hp.ext _ (shp_ends hs.symm (arcs_ends hok)) hc (asgL b ms') (k3.trans hs.symm) k1 _ _ e1 e2
  have f2 := flows_at hi e2
  rw [k2] at f2
  rw [flows_at hi e1, f2]
  exact h

def WitPost (w : World) (b : Bk) (t : Int) (high : Bool) (e : Ending) (w' : World) : Prop :=
  Below w.heap.size w w' ∧ ((ckBook b ≠ 0 ∧ e = .returned (.tuple #[.slice none 0 0, .int .i64 (ckBook b)])) ∨ (ckBook b = 0 ∧ (t < 0 ∨ b.ts.length ≤ t) ∧ e = .returned (.tuple #[.slice none 0 0, .int .i64 10])) ∨
    (ckBook b = 0 ∧ 0 ≤ t ∧ t < b.ts.length ∧ ¬ Con b ∧ e = .returned (.tuple #[.slice none 0 0, .int .i64 15])) ∨
    (ckBook b = 0 ∧ Con b ∧ ∃ i : Nat, t = i ∧ i < b.ts.length ∧ ∃ v ms, e = .returned (.tuple #[v, .int .i64 0]) ∧ Sl encI 1 w' w'.heap.size v ms ∧ WitOk b i high ms))

set_option maxRecDepth 100000 in
set_option maxHeartbeats 1000000 in
theorem witness43 (w : World) (v1 v2 : Value) (b : Bk) (t : Int) (high : Bool) (hv : BkR w w.heap.size v1 v2 b) : Calls Try.prog 43 #[.agg #[v1, v2], .int .i64 t, .bool high] w (WitPost w b t high) := by
  have HCK := Lib.hid (fun (w1 : World) (hb : Below w.heap.size w w1) => ckBook25 v1 v2 b w1 (hv.later hb))
  have HST := Lib.hid (fun (w1 : World) (hb : Below w.heap.size w w1) (hok : OkBk b) => settle72 w1 v1 v2 b hok (hv.later hb))
  obtain ⟨⟨a1, n1, hv1, hl1, hA1⟩, ⟨a2, n2, hv2, hl2, hA2⟩, hids⟩ := hv
  subst hv1 hv2
  clear hA1 hA2 hids
  obtain ⟨CK, hCK⟩ : ∃ CK, ckBook b = CK := ⟨_, rfl⟩
  rw [hCK] at HCK
  have ECK := Lib.hid hCK
  clear hCK
  go_enter Try.func43, Try.ntmps43
  go_wp2_with fail
  refine (HCK.out _ ((Below.refl _ _).alloc (Nat.le_refl _) _)).mono ?_
  rintro e w1 ⟨rfl, hb1⟩
  have HX1 := Lib.hid ((Box.new w #[.slice a1 b.st.length n1, .slice a2 b.ts.length n2] 38).later hb1)
  have HB1 := Lib.hid (((Below.refl w.heap.size w).alloc (Nat.le_refl _) (.cells #[.slice a1 b.st.length n1, .slice a2 b.ts.length n2] 38)).trans (hb1.mono (by simp)))
  clear hb1
  obtain ⟨x0, x1, xf, xz⟩ := HX1.out.v2
  by_cases h0 : CK = 0
  · subst h0
    have HOK := Lib.hid (okBk_of ECK.out)
    have h128 := HOK.out.ts128
    have h32 := HOK.out.st32
    by_cases ht0 : t < 0
    · have b1 : decide (t < 0) = true := decide_eq_true ht0
      go_wp2_with fail
      refine bodyPost_ret (results_tmp2 rfl _ _ _) rfl ?_
      exact ⟨HB1.out, .inr (.inl ⟨ECK.out, .inl ht0, rfl⟩)⟩
    · have b1 : decide (t < 0) = false := decide_eq_false ht0
      by_cases ht1 : (b.ts.length : Int) ≤ t
      · have b2 : decide ((b.ts.length : Int) ≤ t) = true := decide_eq_true ht1
        go_wp2_with fail
        refine bodyPost_ret (results_tmp2 rfl _ _ _) rfl ?_
        exact ⟨HB1.out, .inr (.inl ⟨ECK.out, .inr ht1, rfl⟩)⟩
      · have b2 : decide ((b.ts.length : Int) ≤ t) = false := decide_eq_false ht1
        obtain ⟨i, hi⟩ : ∃ i : Nat, t = i := ⟨t.toNat, by omega⟩
        subst hi
        have hil : i < b.ts.length := by omega
        go_wp2_with fail
        refine (HST.out _ HB1.out HOK.out).mono ?_
        intro e w2 hpost
        obtain ⟨ok, nb, v, l, rc, rfl, hnet, hb2, hnb, hsh, hft, hcon, hyes, _⟩ := settle_con HOK.out hpost
        have HX2 := Lib.hid (HX1.out.later hb2)
        have HB2 := Lib.hid (HB1.out.trans (hb2.mono HB1.out.size))
        have hzz : w.heap.size < nb ∧ w1.heap.size ≤ nb ∧ w.heap.size < w1.heap.size := by omega
        clear hpost hb2 x0 x1 xf xz HX1
        cases ok with
        | false =>
          have hnc : ¬ Con b := fun h => by have := hcon.2 h; cases this
          clear hnet hnb hsh hft hcon hyes
          go_wp2_with fail
          refine bodyPost_ret (results_tmp2 rfl _ _ _) rfl ?_
          exact ⟨HB2.out, .inr (.inr (.inl ⟨ECK.out, by omega, by omega, hnc, rfl⟩))⟩
        | true =>
          have hc := hyes rfl
          have hcc := hcon.1 rfl
          have hll : l.length = b.ts.length + b.st.length := by rw [shp_length hsh, arcs_len]
          have hne : ∀ (j : Nat) (h : j < l.length), l[j].fr ≠ l[j].to := fun j h => (arcs_noLoop HOK.out).shp hsh l[j] (List.getElem_mem h)
          have HNET := Lib.hid hnet
          have HSH := Lib.hid hsh
          have HC := Lib.hid hc
          have HCC := Lib.hid hcc
          have HNE := Lib.hid hne
          have HLL := Lib.hid hll
          have hzb : nb < w2.heap.size := hnet.box.lt
          clear hnet hsh hft hcon hyes hc hcc hne hll
          go_wp2_with fail
          refine (push80 _ nb v l b.ts.length b.st.length rc i high w2 HNET.out (by have := HLL.out; omega) (smallS_of_arcs HOK.out HSH.out) HC.out.fits (ends_more (shp_ends HSH.out.symm (arcs_ends HOK.out)) (by omega)) (by have := HLL.out; omega) (HNE.out i (by have := HLL.out; omega))).mono ?_
          rintro e w3 ⟨l', rc', rfl, hnet3, hk3, hp⟩
          have hc3 := hp.circ HC.out
          have hs3 := hp.shape.trans HSH.out
          have hll3 : l'.length = b.ts.length + b.st.length := by rw [shp_length hs3, arcs_len]
          have hmine : ¬ Mine nb v w.heap.size := by
            rintro (h | h)
            · omega
            · have := HNET.out.own.lt' _ h; omega
          have hx3 := HX2.out.keeps hk3 hmine
          have HB3 := Lib.hid (HB2.out.trans (hk3.toBelow (B := w.heap.size) HB2.out.size (fun k hk => by
            rcases hk with h | h
            · omega
            · have := HNET.out.own.lt' _ h; omega)))
          have HW := Lib.hid (witOk_of (high := high) HOK.out hil HSH.out HC.out hp)
          have HN3 := Lib.hid hnet3
          have HL3 := Lib.hid hll3
          obtain ⟨x0, x1, xf, xz⟩ := hx3.v2
          have HX3 := Lib.hid hx3
          have hfl : (flows b l').length = b.ts.length := flows_len hs3
          have HFL := Lib.hid hfl
          clear hnet3 hk3 hp hc3 hs3 hmine hx3 hfl hll3
          go_wp2_with fail
          go_loopw [41, 11] (fun j o wr => ∃ (k : Nat) (vo : Value), k ≤ b.ts.length ∧ j = .int .i64 k ∧ o = vo ∧ Below w3.heap.size w3 wr ∧ Own encI 1 3 wr w3.heap.size vo ((flows b l').take k)) (fun j _ _ => b.ts.length - (intOf j).toNat)
          case atStart => exact ⟨0, _, by omega, rfl, rfl, Below.refl _ _, Own.nil _ _ _ _ _⟩
          case round =>
            clear x0 x1 xf xz
            obtain ⟨k, vo, hk, rfl, rfl, hbe, hown⟩ := hrel
            have hnr := HN3.out.later hbe
            by_cases hlt : k < b.ts.length
            · have hkl : k < l'.length := by rw [HL3.out]; omega
              obtain ⟨g, cap, e1, hg, hgs⟩ := hnr.own.form (by omega)
              subst e1
              have c0 := hnr.toA.c0
              have zn := hnr.box.lt
              obtain ⟨_, _, _, _, f4⟩ := (hnr.own.at Ac.encW_len k hkl).c5
              have hfk : (flows b l')[k]'(by rw [HFL.out]; exact hlt) = l'[k].fl := by
                have h1 := flows_at hlt (List.getElem?_eq_getElem hkl)
                rw [List.getD_eq_getElem?_getD, List.getElem?_eq_getElem (by rw [HFL.out]; exact hlt)] at h1
                exact h1
              have HTK := Lib.hid (take_snoc (flows b l') k (by rw [HFL.out]; exact hlt))
              rw [hfk] at HTK
              obtain ⟨x, hx⟩ : ∃ x, l'[k].fl = x := ⟨_, rfl⟩
              rw [hx] at f4 HTK
              have HBE := Lib.hid (hbe.alloc hbe.size (.cells #[.int .i64 x] 3))
              have HOW := Lib.hid (hown.alloc (.cells #[.int .i64 x] 3))
              have HSZ := Lib.hid (show w3.heap.size ≤ (wr.alloc (.cells #[.int .i64 x] 3)).heap.size by have := hbe.size; simp; omega)
              have HLE := Lib.hid (show ((flows b l').take k).length ≤ 1000000 by have := List.length_take_le k (flows b l'); omega)
              clear hnr hfk hx hbe hown
              go_wp2_with (at_builtin; (refine wpList_pushB encI 1 8 22 3 _ Try.underlying22 Try.infoI rfl (by decide) (by decide) encI_len encI_one ((flows b l').take k) x w3.heap.size _ _ _ _ (row_here (by simp)) rfl _ HOW.out HSZ.out HLE.out rfl _ _ rfl rfl rfl ?_); intro v' w' hown' hg')
              go_roundw
              case rel =>
                refine ⟨k + 1, _, by omega, by go_num, rfl, grown_below HBE.out hg' HBE.out.size HOW.out.lt' (Nat.le_refl _), ?_⟩
                rw [HTK.out]; exact hown'
              case measure => simp [intOf]; omega
            · obtain rfl : b.ts.length = k := by omega
              rw [List.take_of_length_le (by rw [HFL.out]; exact Nat.le_refl _)] at hown
              have HOW := Lib.hid hown
              have HBE := Lib.hid (HB3.out.trans (hbe.mono HB3.out.size))
              clear hnr hbe hown
              go_wp2_with fail
              refine bodyPost_ret (results_tmp2 rfl _ _ _) rfl ?_
              exact ⟨HBE.out, .inr (.inr (.inr ⟨ECK.out, HCC.out, i, rfl, hil, _, flows b l', rfl, HOW.out.toSl encI_len (by rw [HFL.out]; omega), HW.out⟩))⟩
  · have b0 : (CK == 0) = false := beq_eq_false_iff_ne.2 h0
    go_wp2_with fail
    refine bodyPost_ret (results_tmp2 rfl _ _ _) rfl ?_
    exact ⟨HB1.out, .inl ⟨by rw [ECK.out]; exact h0, by rw [ECK.out]; rfl⟩⟩
end Go.Proofs.Ytlakcghdehdeiaa
