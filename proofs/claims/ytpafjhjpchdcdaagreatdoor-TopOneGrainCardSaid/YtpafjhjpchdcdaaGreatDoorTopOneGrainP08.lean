/- Lemmas on the way to the law TopOneGrain (part 8): YBd YBe Xa NR -/
import Derived.Test.YtpafjhjpchdcdaaGreatDoorTopOneGrainP07
import Derived.BigQuiet
import Derived.StillTail
import Derived.WalkKit
import Derived.WalkSpells
import Derived.WalkLawsBesides
import Derived.Lib.Hide
set_option linter.unusedVariables false
set_option linter.unusedSimpArgs false

/- Walks: the error of a state; the empty state. -/
namespace Go.Proofs.YtpafjhjpchdcdaaGreatDoor
open Go Go.Proofs Go.RowKit Go.Shelf
theorem wpList_mkN {α : Type} (f : α → List Value) (sz : Nat) (hf : ∀ x, (f x).length = sz) (hsz : 0 < sz) (x0 : α) (z : Value) (hzc : z.cells = (f x0).toArray) (t e : TypeId) (bytes : Nat) {P : Program} (hT : P.underlying t = some (.slice e)) (hI : (P.info? e).map (fun i => (i.zero, i.size, i.bytes)) = some (some z, sz, bytes))
    (hby : bytes ≤ 1000) (base : Nat) (w : World) (n : Nat) (hn : n ≤ 1000000) (hb : base ≤ w.heap.size)
    {ops : Array Oper} {rest : List Oper} {o : Oper} {a : Act} {Q : Exit → Act → World → Prop} (hg : o.guard = none) (l c : Operand) (hop : o.op = Op.makeSlice t l c) (kl kc : IntKind) (hl : a.eval l = .int kl n) (hc : a.eval c = .int kc n)
    (h : ∀ w', Own f sz e w' base (.slice (some ⟨w.heap.size, 0, none⟩) n n) (List.replicate n x0) → w.grownBy w' none → wpList P ops Q rest (a.put o.dst (.slice (some ⟨w.heap.size, 0, none⟩) n n)) w') : wpList P ops Q (o :: rest) a w := by
  obtain ⟨i, hi, h0, h1, h2⟩ := info_parts hI
  have hmul : bytes * n ≤ 1000 * 1000000 := Nat.mul_le_mul hby hn
  refine wpList_make_full w hg l c t hop base e i z sz hT hi h0 h1 kl kc _ _ n hl hc rfl rfl (by rw [h2]; omega) (by unfold maxLen; omega) hb ?_
  intro w' how hgr
  refine h w' ?_ hgr
  unfold Own
  have : (List.replicate n x0).flatMap f = (madeCells z.cells (n * sz)).toList := by
    apply List.ext_getElem?
    intro j
    by_cases hj : j < n * sz
    · have hd : j = j / sz * sz + j % sz := by have := Nat.div_add_mod j sz; rw [Nat.mul_comm] at this; omega
      have hq : j / sz < n := (Nat.div_lt_iff_lt_mul hsz).2 hj
      have hr : j % sz < sz := Nat.mod_lt _ hsz
      have h5 := flat_get f sz hf (List.replicate n x0) (j / sz) (by simpa using hq) (j % sz) hr
      rw [← hd] at h5
      rw [h5, hzc]
      simp only [List.getElem_replicate, madeCells, Array.toList_map, List.getElem?_map, Array.toList_range, List.getElem?_range hj, Option.map_some]
      have h6 : j % (f x0).length < (f x0).length := by rw [hf]; exact hr
      rw [show (f x0).toArray.size = (f x0).length by simp, getElem!_pos _ _ (by simpa using h6), List.getElem_toArray, List.getElem?_eq_getElem (by rw [hf]; exact hr)]
      simp only [hf]
    · rw [List.getElem?_eq_none (by rw [flat_length f sz hf]; simp; omega), List.getElem?_eq_none (by simp [madeCells]; omega)]
  rw [this, List.length_replicate]
  exact how
theorem emp_get (k m : Nat) (a b : Sx) : (List.replicate k a ++ List.replicate (m + 1) b)[k]'(by simp) = b := by
  rw [List.getElem_append_right (by simp)]; simp
theorem emp_set (k m : Nat) (a b : Sx) : (List.replicate k a ++ List.replicate (m + 1) b).set k a = List.replicate (k + 1) a ++ List.replicate m b := by
  rw [List.set_append_right _ _ (by simp), List.length_replicate, Nat.sub_self, List.replicate_succ, List.set_cons_zero, List.replicate_succ', List.append_assoc]; rfl
def SzR (st : List Sx) : Prop := ∀ s ∈ st, s.grain.size ≤ 9223372036854775807
def ckStL (p : Pl) : Nat → List Sx → Int
  | _, [] => 0
  | k, s :: r => if stE p k s ≠ 0 then stE p k s else ckStL p (k + 1) r
theorem ckStL_drop (p : Pl) (st : List Sx) (k : Nat) (h : k < st.length) : ckStL p k (st.drop k) = if stE p k st[k] ≠ 0 then stE p k st[k] else ckStL p (k + 1) (st.drop (k + 1)) := by
  rw [List.drop_eq_getElem_cons h]; rfl
def ckState (p : Pl) (st : List Sx) : Int := if ckPlant p ≠ 0 then ckPlant p else if st.length ≠ p.ms.length then 2 else if ckStL p 0 st ≠ 0 then ckStL p 0 st else if validB p st then 0 else 26
theorem ckStL_ok {p : Pl} : ∀ {r : List Sx} {k : Nat}, ckStL p k r = 0 → ∀ i (h : i < r.length), stE p (k + i) r[i] = 0
  | [], _, _ => fun i hi => absurd hi (by simp)
  | a :: r, k, h => by
    unfold ckStL at h
    split at h
    · rename_i h1; exact absurd h h1
    · rename_i h1
      intro i hi
      cases i with
      | zero => simpa using h1
      | succ i =>
        have := ckStL_ok h i (by simpa using hi)
        simpa [Nat.add_assoc, Nat.add_comm 1 i] using this
theorem stE_ok {p : Pl} {m : Nat} {s : Sx} (h : stE p m s = 0) : (s.runs = true → cvB (kdA p m) = true) ∧ (s.feeds = -1 ∨ (⟨m, s.feeds⟩ : Ar) ∈ p.arcs) ∧ (s.grain.toList.isEmpty = false → isName s.grain = true ∧ kpB (kdA p m) = true) := by
  unfold stE at h
  split at h
  · cases h
  · rename_i h1
    split at h
    · cases h
    · rename_i h2
      split at h
      · cases h
      · rename_i h3
        split at h
        · cases h
        · rename_i h4
          refine ⟨fun hr => ?_, ?_, fun he => ⟨?_, ?_⟩⟩
          · cases hc : cvB (kdA p m) with
            | true => rfl
            | false => rw [hr, hc] at h1; exact absurd rfl h1
          · by_cases hf : s.feeds = -1
            · exact .inl hf
            · refine .inr ?_
              cases hc : decide ((⟨m, s.feeds⟩ : Ar) ∈ p.arcs) with
              | true => exact of_decide_eq_true hc
              | false => exact absurd ⟨hf, hc⟩ h2
          · cases hc : isName s.grain with
            | true => rfl
            | false => exact absurd ⟨he, hc⟩ h3
          · cases hc : kpB (kdA p m) with
            | true => rfl
            | false => exact absurd ⟨he, hc⟩ h4
theorem feeds_in {p : Pl} {st : List Sx} (hp : OkP p) (h : ckStL p 0 st = 0) : ∀ s ∈ st, s.feeds < 0 ∨ inN p.ms.length s.feeds = true := fun s hs => by
  obtain ⟨i, hi, rfl⟩ := List.mem_iff_getElem.1 hs
  rcases (stE_ok (ckStL_ok h i hi)).2.1 with h1 | h1
  · left; omega
  · right; exact (hp.ins _ h1).2.1
set_option maxRecDepth 100000 in
set_option maxHeartbeats 1000000 in
theorem checkState35 (w : World) (v1 v2 u : Value) (p : Pl) (st : List Sx) (hw : WdR w) (hv : PlR w w.heap.size v1 v2 p) (hu : Sl Sx.enc 3 w w.heap.size u st) (hs : SzR st) : Calls Tryz.prog 60 #[.agg #[v1, v2], u] w (Ret (.int .i64 (ckState p st)) w) := by
  have HP := Lib.hid (fun (w1 : World) (hb : Below w.heap.size w w1) => ckPlant32 w1 _ _ p (hw.later hb) (hv.later hb))
  have HST := Lib.hid (fun (w1 : World) (hb : Below w.heap.size w w1) => fun m s hm hs => checkStatus106 w1 _ _ p m s (hw.later hb) (hv.later hb) hm hs)
  have HVL := Lib.hid (fun (w1 : World) (hb : Below w.heap.size w w1) => fun hln h64 hfd => isValid107 w1 _ _ u p st (hw.later hb) (hv.later hb) (hu.later hb) hln h64 hfd)
  obtain ⟨a1, n1, a2, n2, rfl, rfl⟩ := hv.agg
  obtain ⟨a, c, rfl, hlen, hA⟩ := hu
  have HA := Lib.hid hA
  have HSZ := Lib.hid hs
  clear hA hs hw hv
  obtain ⟨hl, hlc⟩ := hlen
  obtain ⟨R, hR⟩ : ∃ R, ckState p st = R := ⟨_, rfl⟩
  rw [hR]
  unfold ckState at hR
  have HR := Lib.hid hR
  clear hR
  have HB := Lib.hid ((Below.refl w.heap.size w).alloc (Nat.le_refl _) (.cells #[.slice a1 p.ms.length n1, .slice a2 p.arcs.length n2] 25))
  have HX := Lib.hid (Box.new w #[.slice a1 p.ms.length n1, .slice a2 p.arcs.length n2] 25)
  have HOKP := Lib.hid (fun h : ckPlant p = 0 => ckPlant_ok h)
  obtain ⟨n, hn⟩ : ∃ n, p.ms.length = n := ⟨_, rfl⟩
  obtain ⟨m, hm⟩ : ∃ m, p.arcs.length = m := ⟨_, rfl⟩
  obtain ⟨ln, hln⟩ : ∃ m, st.length = m := ⟨_, rfl⟩
  rw [hln] at hl hlc HVL ⊢
  rw [hn] at HB HX HP HST HVL ⊢
  rw [hm] at HB HX HP HST HVL ⊢
  have HN := Lib.hid hn
  have HLN := Lib.hid hln
  clear hn hm hln
  obtain ⟨cp, hcp⟩ : ∃ c, ckPlant p = c := ⟨_, rfl⟩
  rw [hcp] at HP HR HOKP
  clear hcp
  go_enter Tryz.func60, Tryz.ntmps60
  go_wp2_with fail
  refine (HP.out _ HB.out).mono ?_
  rintro e w2 ⟨rfl, hb2⟩
  have HB2 := Lib.hid (HB.out.trans (hb2.mono HB.out.size))
  have HX2 := Lib.hid (HX.out.later hb2)
  obtain ⟨x0, x1, xf, xz⟩ := HX2.out.v2
  clear hb2
  by_cases hc0 : cp = 0
  rotate_left
  · have k0 : (cp != 0) = true := by simpa using hc0
    rw [if_pos hc0] at HR
    clear hc0
    go_wp2_with fail
    go_ret
    exact ⟨by rw [← HR.out]; rfl, HB2.out⟩
  subst hc0
  rw [if_neg (by simp)] at HR
  have HOP := Lib.hid (HOKP.out rfl)
  clear HOKP
  by_cases hnl : ln = n
  rotate_left
  · have k1 : ((ln : Int) != (n : Int)) = true := by simp; omega
    rw [if_pos (by rw [HLN.out, HN.out]; exact hnl)] at HR
    clear hnl
    go_wp2_with fail
    go_ret
    exact ⟨by rw [← HR.out]; rfl, HB2.out⟩
  subst hnl
  rw [if_neg (by rw [HLN.out, HN.out]; simp)] at HR
  obtain ⟨S, hS⟩ : ∃ S, ckStL p 0 st = S := ⟨_, rfl⟩
  have HS0 := Lib.hid (show ckStL p 0 (st.drop 0) = S from hS)
  have HFD := Lib.hid (fun (h : S = 0) => feeds_in HOP.out (hS.trans h))
  rw [HN.out] at HFD
  rw [hS] at HR
  clear hS
  go_wp2_with fail
  go_loopw [22] (fun j wr => ∃ k : Nat, k ≤ ln ∧ j = .int .i64 k ∧ Below w.heap.size w wr ∧ Box wr w.heap.size 25 [.slice a1 ln n1, .slice a2 m n2] ∧ ckStL p k (st.drop k) = S) (fun j _ => ln - (intOf j).toNat)
  case atStart => exact ⟨0, by omega, rfl, HB2.out, HX2.out, HS0.out⟩
  case round =>
    clear HB HX HB2 HX2 x0 x1 xf xz HS0
    obtain ⟨k, hk, rfl, hbe, hx, hrel⟩ := hrel
    have HL := Lib.hid hrel
    have HBE := Lib.hid hbe
    have HXE := Lib.hid hx
    clear hrel hbe hx
    by_cases hlt : k < ln
    rotate_left
    · obtain rfl : ln = k := by omega
      have HS1 := Lib.hid (show S = 0 by rw [← HL.out, ← HLN.out, List.drop_length]; rfl)
      rw [HS1.out, if_neg (by simp)] at HR
      have HV2 := Lib.hid (fun (w1 : World) (hb : Below w.heap.size w w1) => HVL.out w1 hb (by first | rfl | trivial) (by have := HOP.out.le; rw [HN.out] at this; exact this) (HFD.out HS1.out))
      obtain ⟨q, hq⟩ : ∃ q, validB p st = q := ⟨_, rfl⟩
      rw [hq] at HR HV2
      clear hq HVL
      obtain ⟨x0, x1, xf, xz⟩ := HXE.out.v2
      go_wp2_with fail
      refine (HV2.out _ HBE.out).mono ?_
      rintro e w3 ⟨rfl, hb3⟩
      cases q
      all_goals
        go_wp2_with fail
        go_ret
        exact ⟨by rw [← HR.out]; rfl, HBE.out.trans (hb3.mono HBE.out.size)⟩
    have hkl : k < st.length := by rw [HLN.out]; exact hlt
    obtain ⟨b, off, rfl, hbb, hcells⟩ := HA.out (by omega)
    have HCK := Lib.hid (hcells k hkl)
    have hd := Lib.hid (ckStL_drop p st k hkl)
    have hsz := HSZ.out st[k] (List.getElem_mem hkl)
    have HSZK := Lib.hid hsz
    clear hsz hcells
    generalize st[k] = sk at *
    clear hkl
    have HCALL := Lib.hid (fun (w1 : World) (hb : Below w.heap.size w w1) => HST.out w1 hb k sk hlt HSZK.out)
    obtain ⟨runs, feeds, grain⟩ := sk
    obtain ⟨E, hE⟩ : ∃ E, stE p k ⟨runs, feeds, grain⟩ = E := ⟨_, rfl⟩
    rw [hE] at HCALL hd
    clear hE HSZK
    obtain ⟨c0, c1, c2⟩ := (HCK.out.below HBE.out hbb).c3
    dsimp only at c0 c1 c2 HCALL
    have hbz : b < wr.heap.size := Nat.lt_of_lt_of_le hbb HBE.out.size
    obtain ⟨x0, x1, xf, xz⟩ := HXE.out.v2
    have HB3 := Lib.hid (HBE.out.alloc (by have := HBE.out.size; omega) (.cells #[.bool runs, .int .i64 feeds, .string grain] 58))
    have HX3 := Lib.hid (HXE.out.alloc (.cells #[.bool runs, .int .i64 feeds, .string grain] 58))
    have HS3 := Lib.hid (Box.new wr #[.bool runs, .int .i64 feeds, .string grain] 58)
    have y0 := HS3.out.cell 0
    have y1 := HS3.out.cell 1
    have y2 := HS3.out.cell 2
    have yz := HS3.out.lt
    simp only [List.getElem?_cons_zero, List.getElem?_cons_succ] at y0 y1 y2
    go_wp2_with fail
    refine (HCALL.out _ HB3.out).mono ?_
    rintro e w3 ⟨rfl, hb3⟩
    have HB4 := Lib.hid (HB3.out.trans (hb3.mono HB3.out.size))
    by_cases hE0 : E = 0
    · subst hE0
      have HV := Lib.hid (show ckStL p (k + 1) (st.drop (k + 1)) = S by rw [← HL.out, hd.out, if_neg (by simp)])
      go_wp2_with fail
      go_roundw
      case rel => exact ⟨k + 1, by omega, by go_num, HB4.out, HX3.out.later hb3, HV.out⟩
      case measure => simp [intOf]; omega
    · have k0 : (E != 0) = true := by simpa using hE0
      have HV := Lib.hid (show R = E by
        have h : S = E := by rw [← HL.out, hd.out, if_pos hE0]
        rw [← HR.out, h, if_pos hE0])
      clear hE0
      go_wp2_with fail
      go_ret
      exact ⟨by rw [HV.out]; rfl, HB4.out⟩
set_option maxRecDepth 100000 in
set_option maxHeartbeats 1000000 in
theorem checkSet90 (w : World) (v1 v2 u x : Value) (p : Pl) (st : List Sx) (l : List Int) (hw : WdR w) (hv : PlR w w.heap.size v1 v2 p) (hu : Sl Sx.enc 3 w w.heap.size u st) (hs : SzR st) (hx : Sl encI 1 w w.heap.size x l) : Calls Tryz.prog 30 #[.agg #[v1, v2], u, x] w (Ret (.int .i64 (if ckState p st ≠ 0 then ckState p st else pathE p l)) w) := by
  have HP := Lib.hid (fun (w1 : World) (hb : Below w.heap.size w w1) => checkState35 w1 _ _ u p st (hw.later hb) (hv.later hb) (hu.later hb) hs)
  have HI := Lib.hid (fun (w1 : World) (hb : Below w.heap.size w w1) => checkPath104 w1 _ _ x p l (hw.later hb) (hv.later hb) (hx.later hb))
  obtain ⟨a1, n1, a2, n2, rfl, rfl⟩ := hv.agg
  clear hw hv hu hx hs
  have HB := Lib.hid ((Below.refl w.heap.size w).alloc (Nat.le_refl _) (.cells #[.slice a1 p.ms.length n1, .slice a2 p.arcs.length n2] 25))
  have HX := Lib.hid (Box.new w #[.slice a1 p.ms.length n1, .slice a2 p.arcs.length n2] 25)
  obtain ⟨cp, hcp⟩ : ∃ c, ckState p st = c := ⟨_, rfl⟩
  obtain ⟨cl, hcl⟩ : ∃ c, pathE p l = c := ⟨_, rfl⟩
  rw [hcp] at HP ⊢
  rw [hcl] at HI ⊢
  clear hcp hcl
  obtain ⟨R, hR⟩ : ∃ R, (if cp ≠ 0 then cp else cl) = R := ⟨_, rfl⟩
  rw [hR]
  have HR := Lib.hid hR
  clear hR
  go_enter Tryz.func30, Tryz.ntmps30
  go_wp2_with fail
  refine (HP.out _ HB.out).mono ?_
  rintro e w2 ⟨rfl, hb2⟩
  have HB2 := Lib.hid (HB.out.trans (hb2.mono HB.out.size))
  obtain ⟨x0, x1, xf, xz⟩ := (HX.out.later hb2).v2
  clear hb2
  by_cases hc0 : cp = 0
  rotate_left
  · have k0 : (cp != 0) = true := by simpa using hc0
    rw [if_pos hc0] at HR
    clear hc0
    go_wp2_with fail
    go_ret
    exact ⟨by rw [← HR.out]; rfl, HB2.out⟩
  subst hc0
  rw [if_neg (by simp)] at HR
  go_wp2_with fail
  refine (HI.out _ HB2.out).mono ?_
  rintro e w3 ⟨rfl, hb3⟩
  go_wp2_with fail
  go_ret
  exact ⟨by rw [← HR.out]; rfl, HB2.out.trans (hb3.mono HB2.out.size)⟩
def emptyS (n : Nat) : List Sx := List.replicate n ⟨false, -1, ⟨#[]⟩⟩
def EmptyPost (w : World) (p : Pl) (e : Ending) (w' : World) : Prop :=
  ∃ v, e = .returned (.tuple #[v, .int .i64 (ckPlant p)]) ∧ Own Sx.enc 3 58 w' w.heap.size v (if ckPlant p ≠ 0 then [] else emptyS p.ms.length) ∧ Below w.heap.size w w'
set_option maxRecDepth 100000 in
set_option maxHeartbeats 1000000 in
theorem empty36 (w : World) (v1 v2 : Value) (p : Pl) (hw : WdR w) (hv : PlR w w.heap.size v1 v2 p) : Calls Tryz.prog 6 #[.agg #[v1, v2]] w (EmptyPost w p) := by
  have HP := Lib.hid (fun (w1 : World) (hb : Below w.heap.size w w1) => ckPlant32 w1 _ _ p (hw.later hb) (hv.later hb))
  have HOKP := Lib.hid (fun h : ckPlant p = 0 => ckPlant_ok h)
  obtain ⟨a1, n1, a2, n2, rfl, rfl⟩ := hv.agg
  clear hw hv
  have HB := Lib.hid ((Below.refl w.heap.size w).alloc (Nat.le_refl _) (.cells #[.slice a1 p.ms.length n1, .slice a2 p.arcs.length n2] 25))
  have HX := Lib.hid (Box.new w #[.slice a1 p.ms.length n1, .slice a2 p.arcs.length n2] 25)
  obtain ⟨Q, hQ⟩ : ∃ Q, EmptyPost w p = Q := ⟨_, rfl⟩
  rw [hQ]
  have HQ : Hid (∀ (v : Value) (w' : World), Own Sx.enc 3 58 w' w.heap.size v (if ckPlant p ≠ 0 then [] else emptyS p.ms.length) → Below w.heap.size w w' → Q (.returned (.tuple #[v, .int .i64 (ckPlant p)])) w') := Lib.hid (fun v w' h1 h2 => by rw [← hQ]; exact ⟨v, rfl, h1, h2⟩)
  clear hQ
  obtain ⟨n, hn⟩ : ∃ n, p.ms.length = n := ⟨_, rfl⟩
  obtain ⟨m, hm⟩ : ∃ m, p.arcs.length = m := ⟨_, rfl⟩
  rw [hn] at HB HX HQ HP ⊢
  rw [hm] at HB HX HP ⊢
  have HN := Lib.hid hn
  clear hn hm
  obtain ⟨cp, hcp⟩ : ∃ c, ckPlant p = c := ⟨_, rfl⟩
  rw [hcp] at HP HOKP HQ
  clear hcp
  go_enter Tryz.func6, Tryz.ntmps6
  go_wp2_with fail
  refine (HP.out _ HB.out).mono ?_
  rintro e w2 ⟨rfl, hb2⟩
  have HB2 := Lib.hid (HB.out.trans (hb2.mono HB.out.size))
  have HX2 := Lib.hid (HX.out.later hb2)
  obtain ⟨x0, x1, xf, xz⟩ := HX2.out.v2
  clear hb2
  by_cases hc0 : cp = 0
  rotate_left
  · have k0 : (cp != 0) = true := by simpa using hc0
    rw [if_pos hc0] at HQ
    clear hc0
    go_wp2_with fail
    exact HQ.out _ _ (Own.nil _ _ _ _ _) HB2.out
  subst hc0
  rw [if_neg (by simp)] at HQ
  have hn64 : n ≤ 64 := by rw [← HN.out]; exact (HOKP.out rfl).le
  have HT : Hid (Tryz.prog.underlying 29 = some (.slice 58)) := Lib.hid Tryz.underlying29
  have HI : Hid ((Tryz.prog.info? 58).map (fun i => (i.zero, i.size, i.bytes)) = some (some (.agg #[.bool false, .int .i64 0, .string ⟨#[]⟩]), 3, 32)) := Lib.hid (by kernel_rfl)
  go_wp2_with (at_make; refine wpList_mkN Sx.enc 3 Sx.enc_len (by omega) ⟨false, 0, ⟨#[]⟩⟩ _ (by rfl) 29 58 32 HT.out HI.out (by omega) w.heap.size _ n (by omega) (by have := HB2.out.size; omega) rfl _ _ rfl .i64 .i64 rfl rfl ?_; intro w3 hown hgr)
  have HO3 := Lib.hid hown
  have HG3 := Lib.hid (grown_none_below hgr)
  have HB3 := Lib.hid (HB2.out.trans (HG3.out.mono HB2.out.size))
  have HZ2 := Lib.hid (HB2.out.size)
  clear hown hgr x0 x1 xf xz
  go_loopw [18] (fun j wr => ∃ k : Nat, k ≤ n ∧ j = .int .i64 k ∧ Below w.heap.size w wr ∧ Own Sx.enc 3 58 wr w.heap.size (.slice (some ⟨w2.heap.size, 0, none⟩) n n) (List.replicate k (⟨false, -1, ⟨#[]⟩⟩ : Sx) ++ List.replicate (n - k) (⟨false, 0, ⟨#[]⟩⟩ : Sx))) (fun j _ => n - (intOf j).toNat)
  case atStart => exact ⟨0, by omega, rfl, HB3.out, by simpa using HO3.out⟩
  case round =>
    clear HO3 HG3 HB3 HB HX HB2 HX2
    obtain ⟨k, hk, rfl, hbe, hown⟩ := hrel
    have HBE := Lib.hid hbe
    have HOE := Lib.hid hown
    clear hbe hown
    by_cases hlt : k < n
    · obtain ⟨m', hm'⟩ : ∃ m', n - k = m' + 1 := ⟨n - k - 1, by omega⟩
      rw [hm'] at HOE
      have hll : (List.replicate k (⟨false, -1, ⟨#[]⟩⟩ : Sx) ++ List.replicate (m' + 1) (⟨false, 0, ⟨#[]⟩⟩ : Sx)).length = n := by simp; omega
      have hki : k < (List.replicate k (⟨false, -1, ⟨#[]⟩⟩ : Sx) ++ List.replicate (m' + 1) (⟨false, 0, ⟨#[]⟩⟩ : Sx)).length := by rw [hll]; exact hlt
      have hat := HOE.out.atN hll Sx.enc_len k hki
      rw [emp_get k m' _ _] at hat
      have hcell := hat 1 _ rfl
      have hfz := HOE.out.frozenN hll
      have HSET := Lib.hid (HOE.out.setN hll Sx.enc_len k hki 1 (by omega) (.int .i64 (-1)) ⟨false, -1, ⟨#[]⟩⟩ (by rw [emp_get k m' _ _]; rfl))
      rw [emp_set] at HSET
      have HM := Lib.hid (show n - (k + 1) = m' by omega)
      have HBS := Lib.hid (HBE.out.setCell (p := ⟨w2.heap.size, k * 3 + 1, none⟩) HZ2.out (.int .i64 (-1)))
      clear hat hll hki hm'
      go_wp2_with fail
      go_roundw
      case rel => exact ⟨k + 1, by omega, by go_num, HBS.out, by rw [HM.out]; exact HSET.out⟩
      case measure => simp [intOf]; omega
    · obtain rfl : n = k := by omega
      go_wp2_with fail
      exact HQ.out _ _ (by have := HOE.out; rw [Nat.sub_self, List.replicate_zero, List.append_nil] at this; exact this) HBE.out
end Go.Proofs.YtpafjhjpchdcdaaGreatDoor
/- Walks: a state copied; whether a machine is fed; whether a path is set. -/
namespace Go.Proofs.YtpafjhjpchdcdaaGreatDoor
open Go Go.Proofs Go.RowKit Go.Shelf
theorem Sx.enc_one (s : Sx) : ∀ u ∈ s.enc, u.oneCell' = true := by intro u hu; simp [Sx.enc] at hu; rcases hu with rfl | rfl | rfl <;> rfl
theorem infoSx : (Tryz.prog.info? 58).map (fun i => (i.zero, i.size, i.bytes)) = some (some (.agg #[.bool false, .int .i64 0, .string ⟨#[]⟩]), 3, 32) := by kernel_rfl
def CloneX (w : World) (l : List Sx) (e : Ending) (w' : World) : Prop := ∃ v, e = .returned v ∧ Own Sx.enc 3 58 w' w.heap.size v l ∧ Below w.heap.size w w'
set_option maxRecDepth 100000 in
set_option maxHeartbeats 1000000 in
theorem clone95 (w : World) (v : Value) (l : List Sx) (hv : Sl Sx.enc 3 w w.heap.size v l) : Calls Tryz.prog 35 #[v] w (CloneX w l) := by
  obtain ⟨a, n, rfl, ⟨hl, _⟩, hA⟩ := hv
  have hq := fun (w : World) (a : Option Addr) (m n : Nat) => Lib.run_eql_slice_nil w 29 58 a m n 0 0 Tryz.underlying29
  go_enter Tryz.func35, Tryz.ntmps35
  cases a with
  | none =>
    have h0 : l = [] := by
      cases l with
      | nil => rfl
      | cons x l => obtain ⟨b, off, h, _⟩ := hA (by simp); cases h
    subst h0
    go_wp2_with fail
    go_ret
    exact ⟨_, rfl, Own.nil _ _ _ _ _, Below.refl _ _⟩
  | some p =>
    have HAT := Lib.hid (show ∀ i (h : i < l.length), ∀ j u, (Sx.enc l[i])[j]? = some u → (w.alloc (.cells #[] 58)).cell? (p.add (i * 3 + j)) = some u from by
      intro i h j u hu
      obtain ⟨b, off, e, hb, hc⟩ := hA (by omega)
      cases e
      have h1 := ((hc i h).below ((Below.refl w.heap.size w).alloc (Nat.le_refl _) (.cells #[] 58)) hb) j u hu
      rw [Addr.add_lit, ← Nat.add_assoc]
      exact h1)
    clear hA
    go_wp2_with (at_builtin; refine wpList_cat Sx.enc 3 32 29 58 _ Tryz.underlying29 infoSx rfl (by decide) (by decide) Sx.enc_len Sx.enc_one [] l w.heap.size (w.alloc (.cells #[] 58)) (.slice (some ⟨w.heap.size, 0, none⟩) 0 0) (Own.lit (l := []) Sx.enc_len 58 w #[] 0 _ rfl rfl (by simp) (Nat.le_refl _)) (by simp) (by simp; omega) p n HAT.out rfl _ _ rfl rfl rfl ?_; intro v' w' hown' hg')
    go_ret
    refine ⟨_, rfl, by simpa using hown', ?_⟩
    exact ((Below.refl w.heap.size w).alloc (Nat.le_refl _) (.cells #[] 58)).grown hg' (by simp) fun j hj => by
      have : w.heap.size = j := Option.some.inj hj
      omega
set_option maxRecDepth 100000 in
set_option maxHeartbeats 1000000 in
theorem feeds93 (s : Sx) (m : Int) (pb : Nat) (w : World) (hx : Box w pb 3 [.int .i64 m]) : Calls Tryz.prog 33 (#[.agg #[.bool s.runs, .int .i64 s.feeds, .string s.grain]] ++ #[.pointer (some ⟨pb, 0, none⟩)]) w (Ret (.bool (s.feeds == m)) w) := by
  obtain ⟨runs, feeds, grain⟩ := s
  dsimp only
  have HB := Lib.hid ((Below.refl w.heap.size w).alloc (Nat.le_refl _) (.cells #[.bool runs, .int .i64 feeds, .string grain] 58))
  have x0 := hx.cell 0
  have xf := hx.frozen
  have xz := hx.lt
  simp only [List.getElem?_cons_zero] at x0
  clear hx
  obtain ⟨R, hR⟩ : ∃ R, (feeds == m) = R := ⟨_, rfl⟩
  go_enter Tryz.func33, Tryz.ntmps33
  go_wp2_with fail
  go_ret
  exact ⟨by rw [hR]; rfl, HB.out⟩
def PredX (g : Nat) (lb : Array Value) (w : World) (l : List Sx) (p : Sx → Bool) : Prop := ∀ w' x, Below w.heap.size w w' → x ∈ l → Calls Tryz.prog g (#[.agg #[.bool x.runs, .int .i64 x.feeds, .string x.grain]] ++ lb) w' (Ret (.bool (p x)) w')
set_option maxRecDepth 100000 in
set_option maxHeartbeats 1000000 in
theorem indexX142 (v : Value) (l : List Sx) (g : Nat) (lb : Array Value) (p : Sx → Bool) (w : World) (eg : ∀ args w, (callFunc g args).run Tryz.prog w = .ok (.enter g args) w) (hv : Sl Sx.enc 3 w w.heap.size v l) (hp : PredX g lb w l p) : Calls Tryz.prog 63 #[v, .func (.func g) #[] lb] w fun e w' => (∃ n : Int, e = .returned (.int .i64 n) ∧ (decide (0 ≤ n) = l.any p)) ∧ Below w.heap.size w w' := by
  obtain ⟨a, c, rfl, hlen, hA⟩ := hv
  generalize hR : l.any p = R
  have HA := Lib.hid hA
  clear hA
  have HP := Lib.hid hp
  clear hp
  go_enter Tryz.func63, Tryz.ntmps63
  go_wp2_with fail
  go_loopw [8] (fun i wr => ∃ k : Nat, k ≤ l.length ∧ i = .int .i64 k ∧ (l.drop k).any p = R ∧ Below w.heap.size w wr) (fun i _ => l.length - (intOf i).toNat)
  case atStart => exact ⟨0, by omega, rfl, by simpa using hR, Below.refl _ _⟩
  case round =>
    obtain ⟨k, hk, rfl, hrel, hbe⟩ := hrel
    have HR := Lib.hid hrel
    clear hrel
    clear hR
    by_cases hlt : k < l.length
    · obtain ⟨b, off, rfl, hbb, hcells⟩ := HA.out (by omega)
      have hd := Lib.hid (show (l.drop k).any p = (p l[k] || (l.drop (k + 1)).any p) by rw [List.drop_eq_getElem_cons hlt]; rfl)
      obtain ⟨c0, c1, c2⟩ := ((hcells k hlt).below hbe hbb).c3
      have hb := HP.out wr l[k] hbe (List.getElem_mem hlt)
      have hbz : b < wr.heap.size := by have := hbe.size; omega
      clear hcells HA
      generalize l[k] = x at *
      obtain ⟨runs, feeds, grain⟩ := x
      dsimp only at c0 c1 c2 hb
      obtain ⟨y, hy⟩ : ∃ y, p ⟨runs, feeds, grain⟩ = y := ⟨_, rfl⟩
      rw [hy] at hd hb
      clear hy
      have HB := Lib.hid hb
      clear hb
      have HBE := Lib.hid hbe
      clear hbe
      cases y
      · go_wp2_with (go_at_fn g; refine HB.out.mono ?_; rintro e w' ⟨rfl, hb'⟩)
        go_roundw
        case rel => exact ⟨k + 1, by omega, by go_num, by rw [← HR.out, hd.out]; rfl, HBE.out.trans (hb'.mono HBE.out.size)⟩
        case measure => simp [intOf]; omega
      · go_wp2_with (go_at_fn g; refine HB.out.mono ?_; rintro e w' ⟨rfl, hb'⟩)
        go_ret
        refine ⟨⟨k, rfl, ?_⟩, HBE.out.trans (hb'.mono HBE.out.size)⟩
        rw [← HR.out, hd.out]; simp
    · obtain rfl : l.length = k := by omega
      go_wp2_with fail
      go_ret
      refine ⟨⟨-1, rfl, ?_⟩, hbe⟩
      rw [← HR.out]; simp
set_option maxRecDepth 100000 in
set_option maxHeartbeats 1000000 in
theorem containsX92 (v : Value) (l : List Sx) (g : Nat) (lb : Array Value) (p : Sx → Bool) (w : World) (eg : ∀ args w, (callFunc g args).run Tryz.prog w = .ok (.enter g args) w) (hv : Sl Sx.enc 3 w w.heap.size v l) (hp : PredX g lb w l p) : Calls Tryz.prog 32 #[v, .func (.func g) #[] lb] w (Ret (.bool (l.any p)) w) := by
  have H := Lib.hid (indexX142 v l g lb p w eg hv hp)
  generalize l.any p = R at *
  clear hv hp eg
  go_enter Tryz.func32, Tryz.ntmps32
  go_wp2_with (go_at_call 63; refine H.out.mono ?_; rintro e w' ⟨⟨n, rfl, hn⟩, hb⟩)
  go_ret
  exact ⟨by rw [← hn]; rfl, hb⟩
def setK (st : List Sx) (l : List Int) (k : Nat) : Bool := decide (k = 0) || (st.getD (l.getD (k - 1) 0).toNat s0).feeds == l.getD k 0
def setB (st : List Sx) (l : List Int) : Bool := (List.range l.length).all (setK st l)
theorem setB_iff (st : List Sx) (l : List Int) : setB st l = true ↔ ∀ k, k < l.length → setK st l k = true := by
  unfold setB; simp only [List.all_eq_true, List.mem_range]
theorem setB_no {st : List Sx} {l : List Int} {R : Bool} (h : setB st l = R) {k : Nat} (hk : k < l.length) (hn : setK st l k = false) : R = false := by
  cases R with
  | false => rfl
  | true => have := (setB_iff st l).1 h k hk; rw [hn] at this; cases this
set_option maxRecDepth 100000 in
set_option maxHeartbeats 1000000 in
theorem isSet109 (w : World) (u x : Value) (st : List Sx) (l : List Int) (hu : Sl Sx.enc 3 w w.heap.size u st) (hx : Sl encI 1 w w.heap.size x l) (hin : ∀ y ∈ l, inN st.length y = true) : Calls Tryz.prog 38 #[u, x] w (Ret (.bool (setB st l)) w) := by
  obtain ⟨a1, n1, rfl, hl1, hA1⟩ := hu
  obtain ⟨a, c, rfl, hlen, hA⟩ := hx
  have HA1 := Lib.hid hA1
  have HA := Lib.hid hA
  have HIN := Lib.hid hin
  clear hA1 hA hin
  obtain ⟨h11, h12⟩ := hl1
  obtain ⟨hl, hlc⟩ := hlen
  obtain ⟨R, hR⟩ : ∃ R, setB st l = R := ⟨_, rfl⟩
  rw [hR]
  have HR := Lib.hid hR
  have HRT := Lib.hid (fun (h : ∀ k, k < l.length → setK st l k = true) => show R = true by rw [← hR]; exact (setB_iff st l).2 h)
  clear hR
  obtain ⟨n, hn⟩ : ∃ n, st.length = n := ⟨_, rfl⟩
  obtain ⟨ln, hln⟩ : ∃ m, l.length = m := ⟨_, rfl⟩
  rw [hn] at h11 h12 HIN ⊢
  rw [hln] at hl hlc ⊢
  have HN := Lib.hid hn
  have HLN := Lib.hid hln
  clear hn hln
  go_enter Tryz.func38, Tryz.ntmps38
  go_wp2_with fail
  go_loopw [5] (fun i wr => ∃ j : Nat, (j ≤ ln ∨ j = 1) ∧ 1 ≤ j ∧ i = .int .i64 j ∧ Below w.heap.size w wr ∧ ∀ i, i < j → i < ln → setK st l i = true) (fun i _ => ln - (intOf i).toNat)
  case atStart => exact ⟨1, .inr rfl, by omega, rfl, Below.refl _ _, fun i hi _ => by rw [show i = 0 by omega]; rfl⟩
  case round =>
    obtain ⟨k, hk, hk1, rfl, hbe, hok⟩ := hrel
    have HOK := Lib.hid hok
    have HBE := Lib.hid hbe
    clear hok hbe
    obtain ⟨j, rfl⟩ : ∃ j, k = j + 1 := ⟨k - 1, by omega⟩
    clear hk1
    by_cases hlt : j + 1 < ln
    rotate_left
    · have d0 : decide ((j : Int) + 1 < (ln : Int)) = false := decide_eq_false (by omega)
      have d1 : decide (j + 1 < ln) = false := decide_eq_false (by omega)
      have HV := Lib.hid (HRT.out (fun k hk => HOK.out k (by rw [HLN.out] at hk; omega) (by rw [HLN.out] at hk; exact hk)))
      clear hk
      go_wp2_with fail
      go_ret
      exact ⟨by rw [HV.out]; rfl, HBE.out⟩
    have d0 : decide ((j : Int) + 1 < (ln : Int)) = true := decide_eq_true (by omega)
    have d1 : decide (j + 1 < ln) = true := decide_eq_true (by omega)
    have hkl : j + 1 < l.length := by rw [HLN.out]; exact hlt
    have hjl : j < l.length := by omega
    obtain ⟨b, off, rfl, hbb, hcells⟩ := HA.out (by omega)
    have c0 := ((hcells (j + 1) hkl).below HBE.out hbb).c1
    have c1 := ((hcells j hjl).below HBE.out hbb).c1
    rw [Nat.mul_one] at c0 c1
    obtain ⟨y, hy, hyn⟩ := inN_nat (HIN.out l[j] (List.getElem_mem hjl))
    have hyl : y < st.length := by rw [HN.out]; exact hyn
    obtain ⟨b1, off1, rfl, hbb1, hcells1⟩ := HA1.out (by omega)
    obtain ⟨e0, e1, e2⟩ := ((hcells1 y hyl).below HBE.out hbb1).c3
    rw [hy] at c1
    have HLJ := Lib.hid (show l.getD j 0 = (y : Int) by rw [getD_at l j hjl, hy])
    have HLK := Lib.hid (getD_at l (j + 1) hkl)
    have HST := Lib.hid (stGet hyl)
    have HNO := Lib.hid (fun (h : setK st l (j + 1) = false) => setB_no HR.out hkl h)
    have hbz : b < wr.heap.size := Nat.lt_of_lt_of_le hbb HBE.out.size
    have hb1z : b1 < wr.heap.size := Nat.lt_of_lt_of_le hbb1 HBE.out.size
    have HK := Lib.hid (show setK st l (j + 1) = (st[y].feeds == l[j + 1]) by unfold setK; rw [HLK.out, show j + 1 - 1 = j by omega, HLJ.out, Int.toNat_natCast, HST.out, decide_eq_false (show ¬ j + 1 = 0 by omega), Bool.false_or])
    clear hcells hcells1 hy HLJ HLK HST
    generalize st[y] = sy at *
    generalize l[j + 1] = z at *
    clear hyl hkl hjl
    obtain ⟨runs, feeds, grain⟩ := sy
    dsimp only at e0 e1 e2 HK
    obtain ⟨q, hq⟩ : ∃ q, (feeds == z) = q := ⟨_, rfl⟩
    have hq2 : (feeds != z) = !q := by rw [bne, hq]
    rw [hq] at HK
    clear hk
    cases q with
    | true =>
      go_wp2_with fail
      go_quiet (fail)
      go_wp2_with fail
      go_roundw
      case rel => exact ⟨j + 1 + 1, .inl (by omega), by omega, by go_num, below_drewN HBE.out _, fun i hi hi2 => (Nat.lt_succ_iff_lt_or_eq.1 hi).elim (fun h => HOK.out i h hi2) (fun h => by rw [h]; exact HK.out)⟩
      case measure => simp [intOf]; omega
    | false =>
      have HV := Lib.hid (HNO.out HK.out)
      go_wp2_with fail
      go_quiet (fail)
      go_wp2_with fail
      go_ret
      exact ⟨by rw [HV.out]; rfl, below_drewN HBE.out _⟩
end Go.Proofs.YtpafjhjpchdcdaaGreatDoor
/- Walks: the reference's IsName; small functions of bins. -/
namespace Go.Proofs.YtpafjhjpchdcdaaGreatDoor
open Go Go.Proofs Go.RowKit
theorem run_idxB {P : Program} {t : TypeId} (h : P.underlying t = some .string) (s : ByteArray) (k : Nat) (hk : k < s.size) (w : World) : (Instr.index t (.string s) (.int .i64 (k : Int))).run P w = .ok (.int .u8 (s[k].toNat : Int)) w := by
  rw [run_index_string w t s .i64 (k : Int) h, dif_pos ⟨by omega, by omega⟩]
  simp only [Int.toNat_natCast]
set_option maxRecDepth 100000 in
set_option maxHeartbeats 1000000 in
theorem refName8 (w : World) (s : ByteArray) (hs : s.size ≤ 9223372036854775807) : Calls Tryz.prog 8 #[.string s] w fun e w' => e = .returned (.bool (isName s)) ∧ w = w' := by
  obtain ⟨R, hR⟩ : ∃ R, isName s = R := ⟨_, rfl⟩
  rw [hR]
  have HR := Lib.hid hR
  clear hR
  have HI := Lib.hid (fun (k : Nat) (hk : k < s.size) (w : World) => run_idxB (P := Tryz.prog) (t := 9) Tryz.underlying9 s k hk w)
  by_cases h1 : 1 ≤ s.size ∧ s.size ≤ 24
  rotate_left
  · have HF := Lib.hid (show R = false by
      rw [← HR.out]; unfold isName
      by_cases h : 1 ≤ s.size
      · rw [decide_eq_false (show ¬ s.size ≤ 24 from fun h2 => h1 ⟨h, h2⟩)]; simp
      · rw [decide_eq_false h]; simp)
    go_enter Tryz.func8, Tryz.ntmps8
    by_cases h : s.size < 1
    · have d1 : decide ((s.size : Int) < 1) = true := decide_eq_true (by omega)
      clear h1
      go_wp2_with fail
      go_ret
      exact ⟨by rw [HF.out]; rfl, rfl⟩
    · have d1 : decide ((s.size : Int) < 1) = false := decide_eq_false (by omega)
      have d2 : decide ((24 : Int) < (s.size : Int)) = true := decide_eq_true (by omega)
      clear h1
      go_wp2_with fail
      go_ret
      exact ⟨by rw [HF.out]; rfl, rfl⟩
  have d1 : decide ((s.size : Int) < 1) = false := decide_eq_false (by omega)
  have d2 : decide ((24 : Int) < (s.size : Int)) = false := decide_eq_false (by omega)
  have HA := Lib.hid (show R = s.data.toList.all okB by rw [← HR.out]; unfold isName; rw [decide_eq_true h1.1, decide_eq_true h1.2]; rfl)
  have h24 := h1.2
  clear h1 hs
  go_enter Tryz.func8, Tryz.ntmps8
  go_wp2_with fail
  go_loopw [3] (fun i wr => ∃ k : Nat, k ≤ s.size ∧ i = .int .i64 k ∧ wr = w ∧ s.data.toList.all okB = (s.data.toList.drop k).all okB) (fun i _ => s.size - (intOf i).toNat)
  case atStart => exact ⟨0, by omega, rfl, rfl, rfl⟩
  case round =>
    obtain ⟨k, hk, rfl, rfl, hrel⟩ := hrel
    have HL := Lib.hid hrel
    clear hrel
    by_cases hlt : k < s.size
    · have hd := Lib.hid (name_all_drop s k hlt)
      have hi := HI.out k hlt
      by_cases hok : okB s[k] = true
      · have HN2 : Hid (s.data.toList.all okB = (s.data.toList.drop (k + 1)).all okB) := by have h := HL.out; rw [hd.out, hok, Bool.true_and] at h; exact h
        have hok' : (97 ≤ (s[k].toNat : Int) ∧ (s[k].toNat : Int) ≤ 122) ∨ (65 ≤ (s[k].toNat : Int) ∧ (s[k].toNat : Int) ≤ 90) ∨ (48 ≤ (s[k].toNat : Int) ∧ (s[k].toNat : Int) ≤ 57) ∨ (s[k].toNat : Int) = 45 ∨ (s[k].toNat : Int) = 95 ∨ (s[k].toNat : Int) = 46 := by
          simp only [okB, okC, Bool.or_eq_true, Bool.and_eq_true, decide_eq_true_eq, beq_iff_eq] at hok; omega
        clear hok hd
        generalize (s[k].toNat : Int) = c at *
        rcases hok' with ⟨h2, h3⟩ | ⟨h2, h3⟩ | ⟨h2, h3⟩ | h2 | h2 | h2
        all_goals
          go_wp2_with fail
          go_roundw
          case rel => exact ⟨k + 1, by omega, by go_num, by first | rfl | trivial, HN2.out⟩
          case measure => simp [intOf]; omega
      · have HF : Hid (R = false) := by have h := HL.out; rw [hd.out, (Bool.not_eq_true _).mp hok, Bool.false_and] at h; exact HA.out.trans h
        have hbad : ¬ ((97 ≤ (s[k].toNat : Int) ∧ (s[k].toNat : Int) ≤ 122) ∨ (65 ≤ (s[k].toNat : Int) ∧ (s[k].toNat : Int) ≤ 90) ∨ (48 ≤ (s[k].toNat : Int) ∧ (s[k].toNat : Int) ≤ 57) ∨ (s[k].toNat : Int) = 45 ∨ (s[k].toNat : Int) = 95 ∨ (s[k].toNat : Int) = 46) := by
          simp only [okB, okC, Bool.or_eq_true, Bool.and_eq_true, decide_eq_true_eq, beq_iff_eq] at hok; omega
        have hbad2 : 123 ≤ (s[k].toNat : Int) ∨ (91 ≤ (s[k].toNat : Int) ∧ (s[k].toNat : Int) ≤ 96 ∧ (s[k].toNat : Int) ≠ 95) ∨ (58 ≤ (s[k].toNat : Int) ∧ (s[k].toNat : Int) ≤ 64) ∨ ((s[k].toNat : Int) ≤ 47 ∧ (s[k].toNat : Int) ≠ 45 ∧ (s[k].toNat : Int) ≠ 46) := by omega
        clear hok hbad hd
        generalize (s[k].toNat : Int) = c at *
        rcases hbad2 with h2 | ⟨h2, h3, h4⟩ | ⟨h2, h3⟩ | ⟨h2, h3, h4⟩
        all_goals go_wp2_with fail
        all_goals first | (go_ret; exact ⟨by rw [HF.out]; rfl, rfl⟩) | (exfalso; simp only [Bool.not_eq_false', decide_eq_true_eq, bne_eq_false_iff_eq, beq_iff_eq] at *; omega)
    · have hks : k = s.size := by omega
      have HF : Hid (R = true) := by
        have h := HL.out
        rw [List.drop_of_length_le (by simp; exact Nat.le_of_eq hks.symm)] at h
        exact HA.out.trans h
      clear hks
      go_wp2_with fail
      go_ret
      exact ⟨by rw [HF.out]; rfl, rfl⟩
theorem when24 (w : World) (c : Bool) (e : Int) : Calls Tryz.prog 24 #[.bool c, .int .i64 e] w fun x w' => x = .returned (.int .i64 (if c = true then e else 0)) ∧ w = w' := by
  cases c
  all_goals
    go_enter Tryz.func24, Tryz.ntmps24
    go_wp2_with fail
    go_ret
    exact ⟨rfl, rfl⟩
theorem within53 (w : World) (a b c : Int) : Calls Tryz.prog 53 #[.int .i64 a, .int .i64 b, .int .i64 c] w fun x w' => x = .returned (.bool (decide (b ≤ a) && decide (a ≤ c))) ∧ w = w' := by
  by_cases h : b ≤ a
  · have d : decide (b ≤ a) = true := decide_eq_true h
    rw [d]
    go_enter Tryz.func53, Tryz.ntmps53
    go_wp2_with fail
    go_ret
    exact ⟨rfl, rfl⟩
  · have d : decide (b ≤ a) = false := decide_eq_false h
    rw [d]
    go_enter Tryz.func53, Tryz.ntmps53
    go_wp2_with fail
    go_ret
    exact ⟨rfl, rfl⟩
def firstE : List Int → Int
  | [] => 0
  | e :: r => if e ≠ 0 then e else firstE r
theorem firstE_drop (l : List Int) (k : Nat) (h : k < l.length) : firstE (l.drop k) = if l[k] ≠ 0 then l[k] else firstE (l.drop (k + 1)) := by rw [List.drop_eq_getElem_cons h]; rfl
set_option maxRecDepth 100000 in
set_option maxHeartbeats 1000000 in
theorem first19 (w : World) (v : Value) (l : List Int) (hv : Sl encI 1 w w.heap.size v l) : Calls Tryz.prog 19 #[v] w fun x w' => x = .returned (.int .i64 (firstE l)) ∧ w = w' := by
  obtain ⟨a, c, rfl, hlen, hA⟩ := hv
  have HA := Lib.hid hA
  clear hA
  obtain ⟨R, hR⟩ : ∃ R, firstE l = R := ⟨_, rfl⟩
  rw [hR]
  have HR := Lib.hid hR
  clear hR
  have hlen := hlen.1
  go_enter Tryz.func19, Tryz.ntmps19
  go_wp2_with fail
  go_loopw [7] (fun i wr => ∃ k : Nat, k ≤ l.length ∧ i = .int .i64 k ∧ wr = w ∧ firstE (l.drop k) = R) (fun i _ => l.length - (intOf i).toNat)
  case atStart => exact ⟨0, by omega, rfl, rfl, HR.out⟩
  case round =>
    obtain ⟨k, hk, rfl, rfl, hrel⟩ := hrel
    have HL := Lib.hid hrel
    clear hrel
    by_cases hlt : k < l.length
    · obtain ⟨b, off, rfl, hbb, hcells⟩ := HA.out (by omega)
      have c0 := (hcells k hlt).c1
      rw [Nat.mul_one] at c0
      have hd := Lib.hid (firstE_drop l k hlt)
      clear hcells HA
      generalize l[k] = e at *
      by_cases he : e = 0
      · have k0 : (e != 0) = false := by rw [he]; rfl
        have HN := Lib.hid (show firstE (l.drop (k + 1)) = R by have h := HL.out; rw [hd.out, if_neg (fun h => h he)] at h; exact h)
        clear he
        go_wp2_with fail
        go_roundw
        case rel => exact ⟨k + 1, by omega, by go_num, by first | rfl | trivial, HN.out⟩
        case measure => simp [intOf]; omega
      · have k0 : (e != 0) = true := bne_iff_ne.2 he
        have HN := Lib.hid (show e = R by have h := HL.out; rw [hd.out, if_pos he] at h; exact h)
        clear he
        go_wp2_with fail
        go_ret
        exact ⟨by rw [HN.out]; rfl, rfl⟩
    · have HN := Lib.hid (show (0 : Int) = R by have h := HL.out; rw [List.drop_of_length_le (by omega)] at h; exact h)
      go_wp2_with fail
      go_ret
      exact ⟨by rw [← HN.out]; rfl, rfl⟩
end Go.Proofs.YtpafjhjpchdcdaaGreatDoor
/- A region that draws its order, with one operation among its first ones that makes a new row of cells: what the others yield does not hang on when it comes. -/
namespace Go
open Go.RowKit
attribute [go_sem] Later2.cell Later2.frozen
section
variable {P : Program} {ops : Array Oper} {C : World → Prop}
theorem put_get (a : Act) (d : Option Tmp) (v : Value) (t : Nat) : (a.put d v).tmps[t]? = if d = some t then a.tmps[t]?.map (fun _ => v) else a.tmps[t]? := by
  cases d with
  | none => simp [Act.put]
  | some d =>
    simp only [Act.put, Array.getElem?_setIfInBounds, Option.some.injEq]
    by_cases h : d = t
    · subst h
      by_cases h2 : d < a.tmps.size
      · simp [h2]
      · simp [h2]
    · simp [h]
theorem put_size (a : Act) (d : Option Tmp) (v : Value) : (a.put d v).tmps.size = a.tmps.size := by cases d <;> simp [Act.put]
theorem put_defers (a : Act) (d : Option Tmp) (v : Value) : (a.put d v).defers = a.defers := by cases d <;> rfl
theorem seen_alike {o : Oper} {a a' : Act} (hs : ∀ cs b, o.op ≠ .select cs b) (h : ∀ t ∈ o.looksAt ops, a.tmps[t]? = a'.tmps[t]?) :
    execOp a.eval o = execOp a'.eval o ∧ Region.wanted o (yielded ops a.tmps) = Region.wanted o (yielded ops a'.tmps) := by
  constructor
  · refine execOp_congr o hs fun x hx => ?_
    cases x with
    | tmp t =>
      have := h t (List.mem_append_left _ (List.mem_filterMap.2 ⟨.tmp t, by simpa using hx, rfl⟩))
      simp [Act.eval, Array.getD_eq_getD_getElem?, this]
    | const v => rfl
    | global g => rfl
    | func f => rfl
  · unfold Region.wanted
    cases hg : o.guard with
    | none => rfl
    | some gw =>
      obtain ⟨g, want⟩ := gw
      have : yielded ops a.tmps g = yielded ops a'.tmps g := by
        unfold yielded
        cases ht : (ops[g]?).bind (·.dst) with
        | none => rfl
        | some t =>
          have : a.tmps[t]? = a'.tmps[t]? := h t (by
            unfold Oper.looksAt
            simp [hg, ht])
          simp [this]
      simp [this]
def Region.flowPair (ops : Array Oper) (i j : Nat) : Bool :=
  match ops[i]?, ops[j]? with
  | some oi, some oj =>
    (match oi.dst with | some d => (i == j || oj.dst != some d) && (i != j || !(oi.looksAt ops).contains d) | none => true) &&
    (match oj.dst with | some d => i == j || !(oi.looksAt ops).contains d || (decide (j < i) && Region.waitsFor .any ops i j) | none => true)
  | _, _ => true
theorem Region.flowPair_dst {i j : Nat} {oi oj : Oper} (h : Region.flowPair ops i j = true) (hi : ops[i]? = some oi) (hj : ops[j]? = some oj) (hne : i ≠ j) {d : Tmp} (hd : oi.dst = some d) : oj.dst ≠ some d := by
  intro hd'
  unfold Region.flowPair at h
  simp [hi, hj, hd, hd', hne] at h
theorem Region.flowPair_self {i : Nat} {oi : Oper} (h : Region.flowPair ops i i = true) (hi : ops[i]? = some oi) {d : Tmp} (hd : oi.dst = some d) : d ∉ oi.looksAt ops := by
  intro hm
  unfold Region.flowPair at h
  simp [hi, hd] at h
  exact h hm
theorem Region.flowPair_looks {i j : Nat} {oi oj : Oper} (h : Region.flowPair ops i j = true) (hi : ops[i]? = some oi) (hj : ops[j]? = some oj) (hne : i ≠ j) {d : Tmp} (hd : oj.dst = some d) (hl : d ∈ oi.looksAt ops) :
    j < i ∧ Region.waitsFor .any ops i j = true := by
  unfold Region.flowPair at h
  simp only [hi, hj, hd, Bool.and_eq_true] at h
  have h2 := h.2
  simp [hne, hl] at h2
  exact h2
def Region.blindTo (ops : Array Oper) (i b : Nat) : Bool :=
  match ops[i]?, ops[b]? with
  | some o, some ob => (match ob.dst with | some d => !(o.looksAt ops).contains d | none => true)
  | _, _ => true
def Region.marked (size n : Nat) : Array Bool := ((List.range size).map fun i => decide (i < n)).toArray
theorem exists_leastM : ∀ (U : List Nat), U ≠ [] → ∃ i ∈ U, ∀ j ∈ U, i ≤ j
  | [], h => absurd rfl h
  | [x], _ => ⟨x, by simp, by simp⟩
  | x :: y :: U, _ => by
    obtain ⟨i, hi, hm⟩ := exists_leastM (y :: U) (by simp)
    by_cases h : x ≤ i
    · exact ⟨x, by simp, fun j hj => by rcases List.mem_cons.1 hj with rfl | hj; exact Nat.le_refl _; exact Nat.le_trans h (hm j hj)⟩
    · exact ⟨i, List.mem_cons_of_mem _ hi, fun j hj => by rcases List.mem_cons.1 hj with rfl | hj; omega; exact hm j hj⟩
end
section
variable {P : Program} {l : List Oper} {n b : Nat} {ob : Oper} {W : World} {a0 A : Act} {bv : Nat → Value} {B : Nat → World → Prop} {Q : Exit → Act → World → Prop}
end
end Go
