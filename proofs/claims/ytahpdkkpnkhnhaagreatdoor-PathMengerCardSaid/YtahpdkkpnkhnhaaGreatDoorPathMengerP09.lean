/- Lemmas on the way to the law PathMenger (part 9): Wb -/
import Derived.Test.YtahpdkkpnkhnhaaGreatDoorPathMengerP08
import Derived.RegionTactic
import Derived.BigRegion
set_option linter.unusedVariables false
set_option linter.unusedSimpArgs false

/- Walks: all paths that begin with some machines, as the law lists them. -/
namespace Go.Proofs.YtahpdkkpnkhnhaaGreatDoor
open Go Go.Proofs Go.RowKit Go.Shelf
theorem LLP.cat {w w' : World} {base bi : Nat} {v v' : Value} {LL LL2 : List (List Int)} {HH HH2 : List Hdp} (h2 : HH.length = LL.length) (h3 : ∀ i (h : i < HH.length) (h2 : i < LL.length), Own encI 1 3 w bi HH[i].v LL[i])
    (k2 : HH2.length = LL2.length) (k3 : ∀ i (h : i < HH2.length) (h2 : i < LL2.length), Own encI 1 3 w bi HH2[i].v LL2[i])
    (hv : Own Hdp.enc 1 26 w base v HH) (ho : Own Hdp.enc 1 26 w' base v' (HH ++ HH2)) (hg : w.grownBy w' v.ownBlock) : LLP w' base bi v' (LL ++ LL2) := by
  have kept : ∀ (q : Value) (l : List Int), Own encI 1 3 w bi q l → Own encI 1 3 w' bi q l := by
    intro q l hq
    refine hq.kept hg ?_
    rcases hqo : q.ownBlock with _ | k
    · exact .inl rfl
    · exact .inr fun e => hq.two_types hv (by decide) k hqo e.symm
  refine ⟨HH ++ HH2, ho, by simp [h2, k2], fun i q1 q2 => ?_⟩
  by_cases hi : i < HH.length
  · have e1 : (HH ++ HH2)[i] = HH[i] := List.getElem_append_left hi
    have e2 : (LL ++ LL2)[i] = LL[i]'(by omega) := List.getElem_append_left (by omega)
    rw [e1, e2]
    exact kept _ _ (h3 i hi (by omega))
  · have e1 : (HH ++ HH2)[i] = HH2[i - HH.length]'(by simp at q1; omega) := List.getElem_append_right (by omega)
    have e2 : (LL ++ LL2)[i] = LL2[i - LL.length]'(by simp at q2; omega) := List.getElem_append_right (by omega)
    rw [e1, e2]
    have e3 : i - HH.length = i - LL.length := by omega
    have := kept _ _ (k3 (i - HH.length) (by simp at q1; omega) (by simp at q2; omega))
    simp only [e3] at this ⊢
    exact this
theorem wayStep_eq (rec : List Int → List (List Int)) (p : Pl) (l : List Int) (out : List (List Int)) (a : Ar) : wayStep rec p l out a = if a.fr ≠ lastI l ∨ l.contains a.to = true then out else
  if cvB (kdA p a.to) = true then (if pathB p (l ++ [a.to]) = true then out ++ [l ++ [a.to]] else out) ++ rec (l ++ [a.to]) else (if pathB p (l ++ [a.to]) = true then out ++ [l ++ [a.to]] else out) := rfl
theorem nodup_in_len {p : Pl} {l : List Int} (hnd : l.Nodup) (hin : ∀ x ∈ l, inN p.ms.length x = true) : l.length ≤ p.ms.length := by
  have h1 : (l.map Int.toNat).Nodup := by
    rw [List.nodup_iff_pairwise_ne, List.pairwise_map]
    refine List.Pairwise.imp_of_mem ?_ (List.nodup_iff_pairwise_ne.1 hnd)
    intro a b ha hb hab e
    obtain ⟨k, e1, h1⟩ := inN_nat (hin a ha)
    obtain ⟨m, e2, h2⟩ := inN_nat (hin b hb)
    exact hab (by omega)
  have h2 : (l.map Int.toNat).length ≤ (List.range p.ms.length).length := h1.length_le_of_subset fun y hy => by
    obtain ⟨z, hz, rfl⟩ := List.mem_map.1 hy
    obtain ⟨k, e1, h1⟩ := inN_nat (hin z hz)
    exact List.mem_range.2 (by omega)
  simpa using h2
def WaysP (w : World) (LL : List (List Int)) (e : Ending) (w' : World) : Prop := ∃ v, e = .returned v ∧ LLP w' w.heap.size w.heap.size v LL ∧ Below w.heap.size w w'
theorem waysL_end {rec : List Int → List (List Int)} {p : Pl} {l : List Int} {r : List Ar} {out : List (List Int)} (h : 500 < out.length) : waysL rec p l r out = out := by
  cases r with
  | nil => rfl
  | cons a r => unfold waysL; rw [if_pos h]
theorem waysL_step {rec : List Int → List (List Int)} {p : Pl} {l : List Int} {k : Nat} {out : List (List Int)} (hk : k < p.arcs.length) (h : ¬ 500 < out.length) : waysL rec p l (p.arcs.drop k) out = waysL rec p l (p.arcs.drop (k + 1)) (wayStep rec p l out p.arcs[k]) := by
  rw [List.drop_eq_getElem_cons hk]
  show (if 500 < out.length then out else _) = _
  rw [if_neg h]
set_option maxRecDepth 100000 in
set_option maxHeartbeats 4000000 in
theorem ways77 (p : Pl) (hok : OkP p) : ∀ (f : Nat) (w : World) (v1 v2 vl : Value) (l : List Int), PlR w w.heap.size v1 v2 p → Sl encI 1 w w.heap.size vl l → l.Nodup → (∀ x ∈ l, inN p.ms.length x = true) → 0 < l.length → p.ms.length < l.length + f → f ≤ 70 →
    Calls Tryz.prog 77 #[.agg #[v1, v2], vl] w (WaysP w (waysF p f l))
  | 0, w, v1, v2, vl, l, hv, hs, hnd, hin, h0, hf, _ => by
    exfalso
    have := nodup_in_len hnd hin
    omega
  | f + 1, w, v1, v2, vl, l, hv, hs, hnd, hin, h0, hf, hf70 => by
    have HREC := Lib.hid (fun (w1 : World) (hb : Below w.heap.size w w1) (q : Value) (y : Int) (hq : Sl encI 1 w1 w1.heap.size q (l ++ [y])) (hy : inN p.ms.length y = true) (hc : l.contains y = false) => ways77 p hok f w1 v1 v2 q (l ++ [y]) (hv.later hb) hq (by
      rw [List.nodup_append]
      refine ⟨hnd, by simp, fun a ha b hb e => ?_⟩
      rw [List.mem_singleton] at hb
      subst hb; subst e
      rw [contains_iff.2 ha] at hc; cases hc) (fun x hx => by
      rcases List.mem_append.1 hx with hx | hx
      · exact hin x hx
      · rw [List.mem_singleton] at hx; subst hx; exact hy) (by simp) (by simp; omega) (by omega))
    have C24 := Lib.hid (fun (w1 : World) (hb : Below w.heap.size w w1) (x : Int) => in24 vl l x w1 (hs.later hb))
    have C89 := Lib.hid (fun (w1 : World) (hb : Below w.heap.size w w1) (q : Value) (y : Int) (hq : Sl encI 1 w1 w1.heap.size q (l ++ [y])) (hy : inN p.ms.length y = true) => isPath89 w1 v1 v2 q p (l ++ [y]) (hv.later hb) hq (fun x hx => by
      rcases List.mem_append.1 hx with hx | hx
      · exact hin x hx
      · rw [List.mem_singleton] at hx; subst hx; exact hy))
    have HLE := Lib.hid (fun (out : List (List Int)) (a : Ar) (h : out.length ≤ 500) => wayStep_len (rec := waysF p f) (p := p) (l := l) (out := out) (a := a) (B := 501 * f) (fun y _ => waysF_len p f _) h)
    have HLN0 := Lib.hid (nodup_in_len hnd hin)
    have HOK := Lib.hid hok
    have HRL := Lib.hid (fun l' => waysF_len p f l')
    have hn64 := hok.le
    have hna := hok.ale
    obtain ⟨⟨a1, n1, rfl, ⟨hl1, _⟩, hA1⟩, ⟨a2, n2, rfl, ⟨hl2, _⟩, hA2⟩⟩ := hv
    obtain ⟨b1, off1, rfl, hbb1, hat⟩ := hA1 hok.pos
    have HA2 := Lib.hid hA2
    have HAT := Lib.hid hat
    obtain ⟨la, lc, rfl, ⟨hll, _⟩, hLA⟩ := hs
    obtain ⟨lb, lo, rfl, hlb, hlat⟩ := hLA h0
    have HLAT := Lib.hid hlat
    have HLAST := Lib.hid (show l.getD (l.length - 1) 0 = lastI l from rfl)
    have HPL : Hid (PlR w w.heap.size (.slice (some ⟨b1, off1, none⟩) p.ms.length n1) (.slice a2 p.arcs.length n2) p → True) := Lib.hid (fun _ => trivial)
    clear hA1 hA2 hat hLA hlat hnd hin HPL
    obtain ⟨Q, hQ⟩ : ∃ Q, WaysP w (waysF p (f + 1) l) = Q := ⟨_, rfl⟩
    rw [hQ]
    have HQ : Hid (∀ v w', LLP w' w.heap.size w.heap.size v (waysL (waysF p f) p l p.arcs []) → Below w.heap.size w w' → Q (.returned v) w') := Lib.hid (fun v w' h1 h2 => by rw [← hQ]; exact ⟨v, rfl, h1, h2⟩)
    clear hQ
    obtain ⟨n, hn⟩ : ∃ n, p.ms.length = n := ⟨_, rfl⟩
    obtain ⟨m, hm⟩ : ∃ n, p.arcs.length = n := ⟨_, rfl⟩
    obtain ⟨nl, hnl⟩ : ∃ n, l.length = n := ⟨_, rfl⟩
    rw [hn] at hn64 hl1
    rw [hm] at hna hl2
    rw [hnl] at h0 hll
    rw [hn] at HREC C89
    rw [hm] at HREC C89
    rw [hnl] at C24
    rw [hn, hm, hnl]
    have HN := Lib.hid hn
    have HM := Lib.hid hm
    have HNL := Lib.hid hnl
    have l0 := ((HLAT.out (nl - 1) (by omega))).c1
    rw [Nat.mul_one] at l0
    have hge : l[nl - 1]'(by omega) = lastI l := by
      have e := HNL.out
      subst e
      unfold lastI
      rw [List.getD_eq_getElem?_getD, List.getElem?_eq_getElem (by omega), Option.getD_some]
    rw [hge] at l0
    have k1 : IntKind.i64.wrap ((nl : Int) - 1) = ((nl - 1 : Nat) : Int) := by rw [IntWalk.i64_in _ (by omega)]; omega
    have k2 : ((nl - 1 : Nat) : Int) < (nl : Int) := by omega
    have k3 : nl - 1 < nl := by omega
    obtain ⟨la, hla⟩ : ∃ x, lastI l = x := ⟨_, rfl⟩
    rw [hla] at l0
    have HLA := Lib.hid hla
    obtain ⟨nl1, hnl1⟩ : ∃ x, nl - 1 = x := ⟨_, rfl⟩
    rw [hnl1] at l0 k1 k2 k3
    clear hn hm hnl hge hla hnl1 HLAST
    have HB := Lib.hid ((Below.refl w.heap.size w).alloc (Nat.le_refl _) (.cells #[.slice (some ⟨b1, off1, none⟩) n n1, .slice a2 m n2] 25))
    have HX := Lib.hid (Box.new w #[.slice (some ⟨b1, off1, none⟩) n n1, .slice a2 m n2] 25)
    have l1 := l0
    have hlz : lb < w.heap.size := hlb
    go_enter Tryz.func77, Tryz.ntmps77
    go_wp2_with fail
    clear l0 l1
    obtain ⟨W1, hW1⟩ : ∃ W, w.alloc (.cells #[.slice (some ⟨b1, off1, none⟩) n n1, .slice a2 m n2] 25) = W := ⟨_, rfl⟩
    rw [hW1] at HB HX
    (try rw [hW1])
    clear hW1
    go_loopw [5, 7] (fun v i wr => ∃ (k : Nat) (out : List (List Int)), k ≤ m ∧ i = .int .i64 k ∧ Below W1.heap.size W1 wr ∧ LLP wr W1.heap.size W1.heap.size v out ∧ waysL (waysF p f) p l (p.arcs.drop k) out = waysL (waysF p f) p l p.arcs [] ∧ out.length ≤ 501 + 501 * f) (fun _ i _ => m - (intOf i).toNat)
    case atStart => exact ⟨0, [], by omega, rfl, Below.refl _ _, LLP.nil _ _ _, rfl, by simp⟩
    case round =>
      obtain ⟨k, out, hk, rfl, hbe, hll2, hrel, hlen⟩ := hrel
      have HBK := Lib.hid hbe
      have HBE := Lib.hid (HB.out.trans (hbe.mono HB.out.size))
      have HX1 := Lib.hid (HX.out.later hbe)
      have HLL := Lib.hid hll2
      obtain ⟨HH, q1, q2, q3⟩ := hll2
      have Q1 := Lib.hid q1
      have Q2 := Lib.hid q2
      have Q3 := Lib.hid q3
      have HR := Lib.hid hrel
      obtain ⟨ao, co, hsh⟩ := q1.shape
      subst hsh
      obtain ⟨no, hno⟩ : ∃ n, out.length = n := ⟨_, rfl⟩
      rw [q2, hno] at Q1 HLL ⊢
      have HNO := Lib.hid hno
      have QN := Lib.hid (show HH.length ≤ 1000000 by omega)
      have hno2 : no ≤ 40000 := by omega
      obtain ⟨x0, x1, xf, xz⟩ := HX1.out.v2
      clear hbe q1 q2 q3 hrel hno
      rw [HNO.out] at hlen
      by_cases hlt : k < m
      rotate_left
      · obtain rfl : m = k := by omega
        have HF := Lib.hid (show LLP wr w.heap.size w.heap.size (.slice ao no co) (waysL (waysF p f) p l p.arcs []) from by
          rw [← HR.out, List.drop_of_length_le (by rw [HM.out]; exact Nat.le_refl _)]
          exact HLL.out.lower HB.out.size HB.out.size)
        go_wp2_with fail
        exact HQ.out _ _ HF.out HBE.out
      by_cases h5 : 500 < no
      · have d1 : decide ((no : Int) ≤ 500) = false := decide_eq_false (by omega)
        have HF := Lib.hid (show LLP wr w.heap.size w.heap.size (.slice ao no co) (waysL (waysF p f) p l p.arcs []) from by
          rw [← HR.out, waysL_end (by rw [HNO.out]; exact h5)]
          exact HLL.out.lower HB.out.size HB.out.size)
        clear h5
        go_wp2_with fail
        exact HQ.out _ _ HF.out HBE.out
      have d1 : decide ((no : Int) ≤ 500) = true := decide_eq_true (by omega)
      have HN5 := Lib.hid (show no ≤ 500 by omega)
      have hkm : k < p.arcs.length := by rw [HM.out]; exact hlt
      have HRS := Lib.hid (show waysL (waysF p f) p l (p.arcs.drop (k + 1)) (wayStep (waysF p f) p l out p.arcs[k]) = waysL (waysF p f) p l p.arcs [] from by
        rw [← HR.out, waysL_step hkm (by rw [HNO.out]; exact h5)])
      have HLEN := Lib.hid (HLE.out out p.arcs[k] (by rw [HNO.out]; omega))
      obtain ⟨b2, off2, rfl, hbb2, hat2⟩ := HA2.out (by omega)
      obtain ⟨a0, a1'⟩ := ((hat2 k hkm).below HBE.out hbb2).c2
      have hb2z : b2 < wr.heap.size := Nat.lt_of_lt_of_le hbb2 HBE.out.size
      have hins := HOK.out.ins _ (List.getElem_mem hkm)
      have HSTK := Lib.hid (wayStep_eq (waysF p f) p l out p.arcs[k])
      obtain ⟨⟨fr, to⟩, har⟩ : ∃ a, p.arcs[k] = a := ⟨_, rfl⟩
      rw [har] at a0 a1' hins HRS HLEN HSTK
      dsimp only at a0 a1' HSTK
      obtain ⟨_, i2, _⟩ := hins
      dsimp only at i2
      have HI2 := Lib.hid (show inN n to = true by rw [← HN.out]; exact i2)
      rw [HLA.out] at HSTK
      clear h5 hat2 har i2
      have skip : ∀ {F : Prop}, wayStep (waysF p f) p l out ⟨fr, to⟩ = out → F → F := fun _ h => h
      clear skip
      by_cases hfl : fr = la
      rotate_left
      · have e1 : (fr != la) = true := bne_iff_ne.2 hfl
        have HS2 := Lib.hid (show wayStep (waysF p f) p l out ⟨fr, to⟩ = out by rw [HSTK.out, if_pos (.inl hfl)])
        clear hfl
        go_wp2_with fail
        go_roundw
        case rel => exact ⟨k + 1, out, by omega, by go_num, HBK.out, HLL.out, by rw [← HRS.out, HS2.out], by rw [HNO.out]; omega⟩
        case measure => simp [intOf]; omega
      subst hfl
      have e1 : (fr != fr) = false := by simp
      have K24 := Lib.hid (C24.out wr HBE.out to)
      obtain ⟨ct, hct⟩ : ∃ b, l.contains to = b := ⟨_, rfl⟩
      rw [hct] at K24 HSTK
      have HCT := Lib.hid hct
      clear hct
      cases ct with
      | true =>
        have HS2 := Lib.hid (show wayStep (waysF p f) p l out ⟨fr, to⟩ = out by rw [HSTK.out, if_pos (.inr rfl)])
        clear HSTK
        go_wp2_with fail
        refine K24.out.mono ?_
        rintro e wx ⟨rfl, rfl⟩
        go_wp2_with fail
        go_roundw
        case rel => exact ⟨k + 1, out, by omega, by go_num, HBK.out, HLL.out, by rw [← HRS.out, HS2.out], by rw [HNO.out]; omega⟩
        case measure => simp [intOf]; omega
      | false =>
      have hto := HI2.out
      obtain ⟨tn, ht1, ht2⟩ := inN_nat hto
      have ht1 : to = (tn : Int) := ht1
      subst ht1
      have hkn : tn < p.ms.length := by rw [HN.out]; exact ht2
      have HMC := Lib.hid (fun (W : World) (hb : Below w.heap.size w W) => ((HAT.out tn hkn).below hb hbb1).c2)
      have HMZ := Lib.hid (fun (W : World) (hb : Below w.heap.size w W) => show b1 < W.heap.size from Nat.lt_of_lt_of_le hbb1 hb.size)
      have hka : kdA p (tn : Int) = p.ms[tn].kind := kdA_nat hkn
      have K42 := Lib.hid (fun w1 => isConveyor42 p.ms[tn].kind w1)
      obtain ⟨cv, hcv⟩ : ∃ b, cvB (kdA p (tn : Int)) = b := ⟨_, rfl⟩
      obtain ⟨pb, hpb⟩ : ∃ b, pathB p (l ++ [(tn : Int)]) = b := ⟨_, rfl⟩
      have hcv2 : cvB p.ms[tn].kind = cv := by rw [← hka]; exact hcv
      rw [hcv2] at K42
      have HS3 := Lib.hid (show wayStep (waysF p f) p l out ⟨fr, (tn : Int)⟩ = if cv = true then (if pb = true then out ++ [l ++ [(tn : Int)]] else out) ++ waysF p f (l ++ [(tn : Int)]) else (if pb = true then out ++ [l ++ [(tn : Int)]] else out) by
        rw [HSTK.out, if_neg (by simp), hcv, hpb])
      have K89 := Lib.hid (fun w1 hb q hq => C89.out w1 hb q (tn : Int) hq HI2.out)
      rw [hpb] at K89
      have KREC := Lib.hid (fun w1 hb q hq => HREC.out w1 hb q (tn : Int) hq HI2.out HCT.out)
      have HRLL := Lib.hid (HRL.out (l ++ [(tn : Int)]))
      have HATL := Lib.hid (show ∀ i (h : i < l.length), ∀ j u, (encI l[i])[j]? = some u → (wr.alloc (.cells #[] 3)).cell? ((⟨lb, lo, none⟩ : Addr).add (i * 1 + j)) = some u from by
        intro i h j u hu
        have h1 := ((HLAT.out i h).below (HBE.out.alloc HBE.out.size (.cells #[] 3)) hlb) j u hu
        rw [Addr.add_lit, ← Nat.add_assoc]
        exact h1)
      have HLIT := Lib.hid (Own.lit (f := encI) (sz := 1) (l := []) encI_len 3 wr #[] 0 wr.heap.size rfl rfl (by simp) (Nat.le_refl _))
      have HSA := Lib.hid (show wr.heap.size ≤ (wr.alloc (.cells #[] 3)).heap.size by simp)
      have HL5 := Lib.hid (show l.length ≤ 1000 from by
        have h1 := HLN0.out
        have h2 := HOK.out.le
        omega)
      clear hcv hpb hcv2 hka hto HSTK
      generalize p.ms[tn].kind = kd at *
      go_wp2_with fail
      refine K24.out.mono ?_
      rintro e wx ⟨rfl, rfl⟩
      go_wp2_with (first
        | (at_builtin; refine wpList_cat encI 1 8 26 3 _ Tryz.underlying26 infoI rfl (by decide) (by decide) encI_len encI_one [] l wr.heap.size (wr.alloc (.cells #[] 3)) (.slice (some ⟨wr.heap.size, 0, none⟩) 0 0) HLIT.out HSA.out (by have := HL5.out; simp; omega) ⟨lb, lo, none⟩ lc HATL.out rfl _ _ rfl rfl (by rw [HNL.out]; rfl) ?_; intro vA wA hoA hgA; have OA := Lib.hid (show Own encI 1 3 wA wr.heap.size vA l from hoA); have GA := Lib.hid (show (wr.alloc (.cells #[] 3)).grownBy wA (some wr.heap.size) from hgA); have HSB := Lib.hid (show wr.heap.size ≤ (wA.alloc (.cells #[.int .i64 (tn : Int)] 3)).heap.size by have := hgA.size; simp at this ⊢; omega); have HNA := Lib.hid (show (wA.alloc (.cells #[.int .i64 (tn : Int)] 3)).heap[wA.heap.size]? = some (.cells #[.int .i64 (tn : Int)] 3 (0, 0)) by simpa using heap_alloc_new wA (.cells #[.int .i64 (tn : Int)] 3)); clear hoA hgA)
        | (at_builtin; refine wpList_pushB encI 1 8 26 3 _ Tryz.underlying26 infoI rfl (by decide) (by decide) encI_len encI_one l (tn : Int) wr.heap.size (wA.alloc (.cells #[.int .i64 (tn : Int)] 3)) wA.heap.size #[.int .i64 (tn : Int)] 3 HNA.out rfl vA (OA.out.alloc _) HSB.out (by have := HL5.out; omega) rfl _ _ rfl rfl rfl ?_; intro vB wB hoB hgB; obtain ⟨aB, cB, hvB⟩ := hoB.shape; subst hvB; have OB := Lib.hid hoB; have MB := Lib.hid (nx_mid OA.out GA.out hgB).2; generalize (l ++ [(tn : Int)]).length = nB at *; have HBE2 := Lib.hid (HBE.out.trans (MB.out.mono HBE.out.size)); have HX2 := Lib.hid (HX1.out.later MB.out); clear x0 x1 xf xz a0 a1' hb2z; obtain ⟨x0, x1, xf, xz⟩ := HX2.out.v2; clear hoB hgB))
      have HSL2 := Lib.hid (show Sl encI 1 wB wB.heap.size (.slice aB nB cB) (l ++ [(tn : Int)]) from OB.out.toSl encI_len (by have := HL5.out; simp; omega))
      refine (K89.out _ HBE2.out _ HSL2.out).mono ?_
      rintro e w5 ⟨rfl, hb5⟩
      have HBE5 := Lib.hid (HBE2.out.trans (hb5.mono HBE2.out.size))
      have HBW5 := Lib.hid (MB.out.trans (hb5.mono MB.out.size))
      have HBK5 := Lib.hid (HBK.out.trans (HBW5.out.mono HBK.out.size))
      have HO5 := Lib.hid ((OB.out.later hb5).lower HBK.out.size)
      have HSL5 := Lib.hid (HSL2.out.later hb5)
      have HX5 := Lib.hid (HX2.out.later hb5)
      have HQ5 := Lib.hid (Q1.out.later HBW5.out)
      have HE5 := Lib.hid (fun i h h2 => (Q3.out i h h2).later HBW5.out)
      clear hb5 x0 x1 xf xz
      obtain ⟨x0, x1, xf, xz⟩ := HX5.out.v2
      cases pb with
      | false =>
        obtain ⟨m0, m1⟩ := HMC.out _ HBE5.out
        have hb1z := HMZ.out _ HBE5.out
        have HLL5 := Lib.hid (show LLP w5 W1.heap.size W1.heap.size (.slice ao no co) out from ⟨HH, HQ5.out, Q2.out, HE5.out⟩)
        have HLN := Lib.hid (show out.length ≤ 600 from by rw [HNO.out]; have := HN5.out; omega)
        go_wp2_with fail
        refine (K42.out _).mono ?_
        rintro e wy ⟨rfl, rfl⟩
        cases cv with
        | false =>
          have HS4 := Lib.hid (show wayStep (waysF p f) p l out ⟨fr, (tn : Int)⟩ = out from HS3.out)
          clear HS3
          go_wp2_with fail
          go_roundw
          case rel => exact ⟨k + 1, _, by omega, by go_num, HBK5.out, HLL5.out, by rw [← HRS.out, HS4.out], by have h1 := HLEN.out; rw [HS4.out] at h1; exact h1⟩
          case measure => simp [intOf]; omega
        | true =>
          have HS4 := Lib.hid (show wayStep (waysF p f) p l out ⟨fr, (tn : Int)⟩ = (out) ++ waysF p f (l ++ [(tn : Int)]) from HS3.out)
          clear HS3
          have HSLt := Lib.hid (HO5.out.toSl encI_len (by have := HL5.out; simp; omega))
          go_wp2_with fail
          refine (KREC.out _ HBE5.out _ HSLt.out).mono ?_
          rintro e w7 ⟨v7, rfl, hll7, hb7⟩
          have HBK7 := Lib.hid (HBK5.out.trans (hb7.mono HBK5.out.size))
          have HLT := Lib.hid (HLL5.out.later hb7)
          have HL7 := Lib.hid (hll7.lower (base' := W1.heap.size) (bi' := W1.heap.size) HBK5.out.size HBK5.out.size)
          clear hll7 hb7
          obtain ⟨HT, t1, t2, t3⟩ := HLT.out
          obtain ⟨H7, s1, s2, s3⟩ := HL7.out
          have HT1 := Lib.hid t1
          have HT2 := Lib.hid t2
          have HT3 := Lib.hid t3
          have HS1 := Lib.hid s1
          have HS2 := Lib.hid s2
          have HSS := Lib.hid s3
          have HLB := Lib.hid (show HT.length + H7.length ≤ 2000000000 from by have := HLN.out; have := HRLL.out; omega)
          clear t1 t2 t3 s1 s2 s3
          go_wp2_with (at_builtin; refine wpList_catP Hdp.enc 1 24 86 26 _ Tryz.under86 Tryz.infoS rfl (by decide) (by decide) Hdp.enc_len Hdp.enc_one HT H7 W1.heap.size _ _ _ _ HT1.out HBK7.out.size HLB.out HS1.out rfl _ _ rfl rfl rfl ?_; intro v8 w8 ho8 hg8; have HBK8 := Lib.hid (grown_below HBK7.out hg8 HBK7.out.size (HT1.out.lt') (Nat.le_refl _)); have HLL8 := Lib.hid (LLP.cat HT2.out HT3.out HS2.out HSS.out HT1.out ho8 hg8); clear ho8 hg8)
          go_roundw
          case rel => exact ⟨k + 1, _, by omega, by go_num, HBK8.out, HLL8.out, by rw [← HRS.out, HS4.out], by have h1 := HLEN.out; rw [HS4.out] at h1; exact h1⟩
          case measure => simp [intOf]; omega
      | true =>
        go_wp2_with (at_builtin; refine wpList_push Hdp.enc 1 24 86 26 _ Tryz.under86 Tryz.infoS rfl (by decide) (by decide) Hdp.enc_len Hdp.enc_one HH (⟨aB, nB, cB⟩ : Hdp) W1.heap.size _ _ rfl _ HQ5.out HBK5.out.size QN.out rfl _ _ rfl rfl rfl ?_; intro v6 w6 ho6 hg6; have HBK6 := Lib.hid (grown_below HBK5.out hg6 HBK5.out.size (HQ5.out.lt') (Nat.le_refl _)); have HLL6 := Lib.hid (LLP.push (h := ⟨aB, nB, cB⟩) Q2.out HE5.out HO5.out HQ5.out ho6 hg6); have HO6 := Lib.hid (show Own encI 1 3 w6 W1.heap.size (.slice aB nB cB) (l ++ [(tn : Int)]) from HO5.out.kept hg6 (by rcases hqo : (Value.slice aB nB cB).ownBlock with _ | q; exact .inl rfl; exact .inr fun e => HO5.out.two_types HQ5.out (by decide) q hqo e.symm)); obtain ⟨ao6, co6, hsh6⟩ := ho6.shape; subst hsh6; clear ho6 hg6; have HBE6 := Lib.hid (HB.out.trans (HBK6.out.mono HB.out.size)); have HX6 := Lib.hid (HX.out.later HBK6.out); clear x0 x1 xf xz; obtain ⟨x0, x1, xf, xz⟩ := HX6.out.v2; obtain ⟨m0, m1⟩ := HMC.out _ HBE6.out; have hb1z := HMZ.out _ HBE6.out; generalize (HH ++ [(⟨aB, nB, cB⟩ : Hdp)]).length = no6 at *)
        have HLN := Lib.hid (show (out ++ [l ++ [(tn : Int)]]).length ≤ 600 from by rw [List.length_append, List.length_singleton, HNO.out]; have := HN5.out; omega)
        refine (K42.out _).mono ?_
        rintro e wy ⟨rfl, rfl⟩
        cases cv with
        | false =>
          have HS4 := Lib.hid (show wayStep (waysF p f) p l out ⟨fr, (tn : Int)⟩ = out ++ [l ++ [(tn : Int)]] from HS3.out)
          clear HS3
          go_wp2_with fail
          go_roundw
          case rel => exact ⟨k + 1, _, by omega, by go_num, HBK6.out, HLL6.out, by rw [← HRS.out, HS4.out], by have h1 := HLEN.out; rw [HS4.out] at h1; exact h1⟩
          case measure => simp [intOf]; omega
        | true =>
          have HS4 := Lib.hid (show wayStep (waysF p f) p l out ⟨fr, (tn : Int)⟩ = (out ++ [l ++ [(tn : Int)]]) ++ waysF p f (l ++ [(tn : Int)]) from HS3.out)
          clear HS3
          have HSLt := Lib.hid (HO6.out.toSl encI_len (by have := HL5.out; simp; omega))
          go_wp2_with fail
          refine (KREC.out _ HBE6.out _ HSLt.out).mono ?_
          rintro e w7 ⟨v7, rfl, hll7, hb7⟩
          have HBK7 := Lib.hid (HBK6.out.trans (hb7.mono HBK6.out.size))
          have HLT := Lib.hid (HLL6.out.later hb7)
          have HL7 := Lib.hid (hll7.lower (base' := W1.heap.size) (bi' := W1.heap.size) HBK6.out.size HBK6.out.size)
          clear hll7 hb7
          obtain ⟨HT, t1, t2, t3⟩ := HLT.out
          obtain ⟨H7, s1, s2, s3⟩ := HL7.out
          have HT1 := Lib.hid t1
          have HT2 := Lib.hid t2
          have HT3 := Lib.hid t3
          have HS1 := Lib.hid s1
          have HS2 := Lib.hid s2
          have HSS := Lib.hid s3
          have HLB := Lib.hid (show HT.length + H7.length ≤ 2000000000 from by have := HLN.out; have := HRLL.out; omega)
          clear t1 t2 t3 s1 s2 s3
          go_wp2_with (at_builtin; refine wpList_catP Hdp.enc 1 24 86 26 _ Tryz.under86 Tryz.infoS rfl (by decide) (by decide) Hdp.enc_len Hdp.enc_one HT H7 W1.heap.size _ _ _ _ HT1.out HBK7.out.size HLB.out HS1.out rfl _ _ rfl rfl rfl ?_; intro v8 w8 ho8 hg8; have HBK8 := Lib.hid (grown_below HBK7.out hg8 HBK7.out.size (HT1.out.lt') (Nat.le_refl _)); have HLL8 := Lib.hid (LLP.cat HT2.out HT3.out HS2.out HSS.out HT1.out ho8 hg8); clear ho8 hg8)
          go_roundw
          case rel => exact ⟨k + 1, _, by omega, by go_num, HBK8.out, HLL8.out, by rw [← HRS.out, HS4.out], by have h1 := HLEN.out; rw [HS4.out] at h1; exact h1⟩
          case measure => simp [intOf]; omega
end Go.Proofs.YtahpdkkpnkhnhaaGreatDoor
