/- Lemmas on the way to the laws (part 20): So Sp -/
import Derived.Test.YtlakcghdehdeiaaLib19
import Derived.Test.YtlakcghdehdeiaaLib12
import Derived.RegionTactic
import Derived.BigRegion
set_option linter.unusedVariables false
set_option linter.unusedSimpArgs false

/- Walks: the reference's Change. -/
namespace Go.Proofs.Ytlakcghdehdeiaa
open Go Go.Proofs Go.RowKit

/-- The network with an arc of great range for some stocks together. -/
def joinM (n : Nat) (is : List Nat) (l : List Ac) (c : Int) : List Ac := retgt (n + 1) is l ++ [⟨n + 1, 0, -32999999967, 32999999967, c⟩]
theorem joinM_circ {n : Nat} {is : List Nat} {l : List Ac} (hE : Ends (n + 1) l) (hc : Circ (n + 1) l) (ho : OutI is l) (hb : -32999999967 ≤ flSum is l ∧ flSum is l ≤ 32999999967) : Circ (n + 2) (joinM n is l (flSum is l)) := by
  refine ⟨?_, fun v hv => ?_⟩
  · intro a ha
    rcases List.mem_append.1 ha with ha | ha
    · exact fits_retgt hc.fits a ha
    · rw [List.mem_singleton] at ha
      subst ha
      exact hb
  · unfold joinM
    rw [exc_append, exc_retgt v 0 (n + 1) is l ho.1 ho.2]
    have h0 : exc v l = 0 := by
      by_cases h : v < n + 1
      · exact hc.bal v h
      · exact exc_far hE (by omega)
    rw [h0]
    show _ + exc v [_] = 0
    unfold exc
    simp only [tot, Ac.at]
    split <;> split <;> omega
theorem joinM_ends {n : Nat} {is : List Nat} {l : List Ac} {c : Int} (hE : Ends (n + 1) l) : Ends (n + 2) (joinM n is l c) := by
  intro a ha
  rcases List.mem_append.1 ha with ha | ha
  · exact joinA_ends (is := is) hE a (List.mem_append_left _ ha)
  · rw [List.mem_singleton] at ha
    subst ha
    exact ⟨by dsimp only; omega, by dsimp only; omega⟩
theorem shp_joinM {n : Nat} {is : List Nat} {l l' : List Ac} {c c' : Int} (hs : shp l' = shp l) : shp (joinM n is l' c') = shp (joinM n is l c) := by
  have h := shp_retgt (n + 1) is l
  have h' := shp_retgt (n + 1) is l'
  rw [hs, ← h] at h'
  unfold joinM
  unfold shp at *
  rw [List.map_append, List.map_append, h']
  simp [Ac.bare]
theorem joinM_back {n : Nat} {is : List Nat} {l l3 : List Ac} {c : Int} {a : Ac} (hE : Ends (n + 1) l) (ho : OutI is l) (hs : shp l3 = shp (joinM n is l c)) (hc : Circ (n + 2) l3) (ha : l3[l.length]? = some a) :
    ∃ l2, shp l2 = shp l ∧ Circ (n + 1) l2 ∧ flSum is l2 = a.fl := by
  obtain ⟨A, X, rfl, hlen, hsA, hsX⟩ := split_shp hs
  rw [retgt_length] at hlen
  rw [List.getElem?_append_right (by omega), hlen, Nat.sub_self] at ha
  have hX1 : X.length = 1 := by have := shp_length hsX; simpa using this
  obtain ⟨y, rfl⟩ : ∃ y, X = [y] := List.length_eq_one_iff.1 hX1
  simp at ha
  subst ha
  have hy := bare_eq (a := y) (b := ⟨n + 1, 0, -32999999967, 32999999967, c⟩) (by simpa [shp] using hsX)
  obtain ⟨y1, y2, y3, y4⟩ := hy
  dsimp only at y1 y2
  have hAto : ∀ i ∈ is, ∃ b, A[i]? = some b ∧ b.to = n + 1 := fun i hi => by
    obtain ⟨b, hb, _⟩ := ho.2 i hi
    have : (retgt (n + 1) is l)[i]? = some (b.goto (n + 1)) := by rw [retgt_get, hb]; simp [hi]
    obtain ⟨b', h1, _, h2, _⟩ := shp_at hsA this
    exact ⟨b', h1, h2⟩
  have hsh : shp (retgt 0 is A) = shp l := by
    rw [shp_retgt, hsA, ← shp_retgt]
    rw [retgt_back]
    intro i hi b hb
    obtain ⟨b', hb', h0⟩ := ho.2 i hi
    rw [hb'] at hb
    cases hb
    exact h0
  have hfs : flSum is A = y.fl := by
    have h1 := hc.bal (n + 1) (by omega)
    rw [exc_append] at h1
    have h2 := exc_retgt (n + 1) (n + 1) 0 is A ho.1 hAto
    have h3 : exc (n + 1) (retgt 0 is A) = 0 := exc_far (shp_ends hsh.symm hE) (Nat.le_refl _)
    have h4 : exc (n + 1) [y] = -y.fl := by unfold exc; simp only [tot, Ac.at, y1, y2]; simp
    rw [h3] at h2
    rw [h4] at h1
    simp at h2
    omega
  refine ⟨retgt 0 is A, hsh, ⟨fits_retgt fun b hb => hc.fits b (List.mem_append_left _ hb), fun v hv => ?_⟩, (flSum_retgt _ _ _ _).trans hfs⟩
  have h1 := hc.bal v (by omega)
  rw [exc_append] at h1
  rw [exc_retgt v (n + 1) 0 is A ho.1 hAto, hfs, if_neg (by omega : ¬ n + 1 = v)]
  have h4 : exc v [y] = (if 0 = v then y.fl else 0) - (if n + 1 = v then y.fl else 0) := by unfold exc; simp only [tot, Ac.at, y1, y2]; omega
  rw [h4, if_neg (by omega : ¬ n + 1 = v)] at h1
  omega
theorem togetherM_of {n : Nat} {is : List Nat} {l : List Ac} {c lo hi : Int} (hE : Ends (n + 1) l) (ho : OutI is l) (hb : ∀ l2, shp l2 = shp l → Circ (n + 1) l2 → -32999999967 ≤ flSum is l2 ∧ flSum is l2 ≤ 32999999967)
    (h : Extent (n + 2) (joinM n is l c) l.length lo hi) : Together n l is lo hi := by
  obtain ⟨⟨l1, a1, s1, c1, e1, f1⟩, ⟨l3, a3, s3, c3, e3, f3⟩, h5⟩ := h
  refine ⟨?_, ?_, fun l2 hs2 hc2 => ?_⟩
  · obtain ⟨l2, k1, k2, k3⟩ := joinM_back hE ho s1 c1 e1
    exact ⟨l2, k1, k2, k3.trans f1⟩
  · obtain ⟨l2, k1, k2, k3⟩ := joinM_back hE ho s3 c3 e3
    exact ⟨l2, k1, k2, k3.trans f3⟩
  · have := h5 (joinM n is l2 (flSum is l2)) _ (shp_joinM hs2) (joinM_circ (shp_ends hs2.symm hE) hc2 (ho.shp hs2) (hb l2 hs2 hc2)) (by
      unfold joinM
      rw [List.getElem?_append_right (by rw [retgt_length, shp_length hs2]; omega), retgt_length, shp_length hs2, Nat.sub_self]
      rfl)
    exact this

/-- The arcs with the stocks of the places among the first k that are in a list led to a further node. -/
def stIn (b : Bk) (ps : List Int) (k : Nat) : List Ac := (arcsOf b).mapIdx fun j a => if b.ts.length ≤ j ∧ j < b.ts.length + k ∧ ((j - b.ts.length : Nat) : Int) ∈ ps then a.goto (b.st.length + 1) else a
theorem stIn_len (b : Bk) (ps : List Int) (k : Nat) : (stIn b ps k).length = (arcsOf b).length := by simp [stIn]
theorem stIn_get (b : Bk) (ps : List Int) (k j : Nat) : (stIn b ps k)[j]? = (arcsOf b)[j]?.map fun a => if b.ts.length ≤ j ∧ j < b.ts.length + k ∧ ((j - b.ts.length : Nat) : Int) ∈ ps then a.goto (b.st.length + 1) else a := by
  simp [stIn, List.getElem?_mapIdx]
theorem stIn_zero (b : Bk) (ps : List Int) : stIn b ps 0 = arcsOf b := by
  apply List.ext_getElem?
  intro j
  rw [stIn_get]
  cases (arcsOf b)[j]? with
  | none => rfl
  | some a => simp; omega
theorem stIn_not (b : Bk) (ps : List Int) (k : Nat) (h : (k : Int) ∉ ps) : stIn b ps (k + 1) = stIn b ps k := by
  apply List.ext_getElem?
  intro j
  rw [stIn_get, stIn_get]
  cases (arcsOf b)[j]? with
  | none => rfl
  | some a =>
    simp only [Option.map_some, Option.some.injEq]
    by_cases e : j = b.ts.length + k
    · subst e
      have : (((b.ts.length + k - b.ts.length : Nat)) : Int) = k := by omega
      rw [this]; simp [h]
    · have : (b.ts.length ≤ j ∧ j < b.ts.length + (k + 1) ∧ ((j - b.ts.length : Nat) : Int) ∈ ps) ↔ (b.ts.length ≤ j ∧ j < b.ts.length + k ∧ ((j - b.ts.length : Nat) : Int) ∈ ps) := by
        constructor <;> (rintro ⟨h1, h2, h3⟩; exact ⟨h1, by omega, h3⟩)
      simp only [this]
theorem stIn_in (b : Bk) (ps : List Int) (k : Nat) (h : (k : Int) ∈ ps) (a : Ac) (ha : (stIn b ps k)[b.ts.length + k]? = some a) : stIn b ps (k + 1) = (stIn b ps k).set (b.ts.length + k) (a.goto (b.st.length + 1)) := by
  apply List.ext_getElem?
  intro j
  rw [List.getElem?_set, stIn_get b ps (k + 1) j]
  by_cases e : b.ts.length + k = j
  · subst e
    rw [if_pos rfl, if_pos (List.getElem?_eq_some_iff.1 ha).1]
    rw [stIn_get] at ha
    have h2 : (((b.ts.length + k - b.ts.length : Nat)) : Int) = k := by omega
    rw [h2] at ha ⊢
    cases hc : (arcsOf b)[b.ts.length + k]? with
    | none => rw [hc] at ha; cases ha
    | some a' =>
      rw [hc] at ha
      simp at ha
      subst ha
      simp [h]
  · rw [if_neg e, stIn_get b ps k j]
    cases (arcsOf b)[j]? with
    | none => rfl
    | some a' =>
      have : (b.ts.length ≤ j ∧ j < b.ts.length + (k + 1) ∧ ((j - b.ts.length : Nat) : Int) ∈ ps) ↔ (b.ts.length ≤ j ∧ j < b.ts.length + k ∧ ((j - b.ts.length : Nat) : Int) ∈ ps) := by
        constructor <;> (rintro ⟨h1, h2, h3⟩; exact ⟨h1, by omega, h3⟩)
      simp only [Option.map_some, this]
theorem stIn_all (b : Bk) (ps : List Int) (h : ∀ p ∈ ps, 0 ≤ p ∧ p < b.st.length) : stIn b ps b.st.length = retgt (b.st.length + 1) (idx b.ts.length ps) (arcsOf b) := by
  apply List.ext_getElem?
  intro j
  rw [stIn_get, retgt_get]
  cases (arcsOf b)[j]? with
  | none => rfl
  | some a =>
    have : (b.ts.length ≤ j ∧ j < b.ts.length + b.st.length ∧ ((j - b.ts.length : Nat) : Int) ∈ ps) ↔ j ∈ idx b.ts.length ps := by
      unfold idx
      rw [List.mem_map]
      constructor
      · rintro ⟨h1, h2, h3⟩
        exact ⟨_, h3, by omega⟩
      · rintro ⟨p, hp, rfl⟩
        have := h p hp
        refine ⟨by omega, by omega, ?_⟩
        have e : ((b.ts.length + p.toNat - b.ts.length : Nat) : Int) = p := by omega
        rw [e]; exact hp
    simp only [Option.map_some, this]
/-- What settle and extreme want of the wider network. -/
theorem joinM_facts {b : Bk} {ps : List Int} (hok : OkBk b) (hps : ckNums ps b.st.length = 0) (hcon : Con b) :
    ∃ J, stIn b ps b.st.length ++ [⟨b.st.length + 1, 0, -32999999967, 32999999967, 0⟩] = J ∧ J.length = (arcsOf b).length + 1 ∧ Fits J ∧ SmallS J 1000000000000 ∧ Ends (b.st.length + 2) J ∧ NoLoop J ∧ (∃ l, shp l = shp J ∧ Circ (b.st.length + 2) l) ∧
      ∀ l2 lo hi, shp l2 = shp J → Extent (b.st.length + 2) l2 (arcsOf b).length lo hi → Together b.st.length (arcsOf b) (idx b.ts.length ps) lo hi := by
  have hin := (ckNums_ok hps).1
  refine ⟨_, rfl, ?_⟩
  rw [stIn_all b ps hin]
  have hE := arcs_ends hok
  obtain ⟨l, hs, hc⟩ := hcon
  have hT := togH_of hok hps hs hc
  have hO : OutI (idx b.ts.length ps) (arcsOf b) := hT.outI.shp hs.symm
  have hb : ∀ l2, shp l2 = shp (arcsOf b) → Circ (b.st.length + 1) l2 → -32999999967 ≤ flSum (idx b.ts.length ps) l2 ∧ flSum (idx b.ts.length ps) l2 ≤ 32999999967 := fun l2 h1 h2 => by
    have hT2 := togH_of hok hps h1 h2
    have hsh := hT2.short
    have h32 := hok.st32
    have hl : ((idx b.ts.length ps).length : Int) ≤ 32 := by unfold idx; simp; omega
    have h3 := tot_bound (atI Ac.fl l2) 999999999 (idx b.ts.length ps) (fun i _ => by
      unfold atI
      cases hj : l2[i]? with
      | none => exact ⟨by simp, by simp⟩
      | some a =>
        have h4 := hT2.small a (List.mem_of_getElem? hj)
        have h5 := h2.fits a (List.mem_of_getElem? hj)
        dsimp only
        omega)
    unfold flSum
    omega
  have hJ : ∀ a ∈ retgt (b.st.length + 1) (idx b.ts.length ps) (arcsOf b), ∃ a0 ∈ arcsOf b, a.fr = a0.fr ∧ a.lo = a0.lo ∧ a.hi = a0.hi ∧ (a.to = a0.to ∨ a.to = b.st.length + 1) := fun a ha => by
    obtain ⟨i, hi⟩ := List.mem_iff_getElem?.1 ha
    rw [retgt_get] at hi
    cases hj : (arcsOf b)[i]? with
    | none => rw [hj] at hi; cases hi
    | some a0 =>
      rw [hj] at hi
      refine ⟨a0, List.mem_of_getElem? hj, ?_⟩
      by_cases h2 : i ∈ idx b.ts.length ps
      · simp only [Option.map_some, h2, if_true, Option.some.injEq] at hi; subst hi; exact ⟨rfl, rfl, rfl, .inr rfl⟩
      · simp only [Option.map_some, h2, if_false, Option.some.injEq] at hi; subst hi; exact ⟨rfl, rfl, rfl, .inl rfl⟩
  refine ⟨by simp [retgt_length], ?_, ?_, joinM_ends (c := 0) hE, ?_, ?_, ?_⟩
  · intro a ha
    rcases List.mem_append.1 ha with ha | ha
    · exact fits_retgt (arcs_fits hok) a ha
    · rw [List.mem_singleton] at ha; subst ha; exact ⟨by dsimp only; omega, by dsimp only; omega⟩
  · intro a ha
    rcases List.mem_append.1 ha with ha | ha
    · obtain ⟨a0, h0, e1, e2, e3, _⟩ := hJ a ha
      have := smallS_arcs hok a0 h0
      omega
    · rw [List.mem_singleton] at ha; subst ha; exact ⟨by dsimp only; omega, by dsimp only; omega⟩
  · intro a ha
    rcases List.mem_append.1 ha with ha | ha
    · obtain ⟨a0, h0, e1, e2, e3, e4⟩ := hJ a ha
      have := arcs_props hok h0
      omega
    · rw [List.mem_singleton] at ha; subst ha; simp
  · exact ⟨joinM b.st.length (idx b.ts.length ps) l (flSum (idx b.ts.length ps) l), shp_joinM hs, joinM_circ (shp_ends hs.symm hE) hc (hO.shp hs) (hb l hs hc)⟩
  · intro l2 lo hi h1 h2
    exact togetherM_of (c := 0) hE hO hb (h2.shp h1)
end Go.Proofs.Ytlakcghdehdeiaa

/- Walks: the reference's Change. -/
namespace Go.Proofs.Ytlakcghdehdeiaa
open Go Go.Proofs Go.RowKit

set_option maxRecDepth 100000 in
set_option maxHeartbeats 1000000 in
theorem change32 (w : World) (v1 v2 u : Value) (b : Bk) (ps : List Int) (hok : OkBk b) (hv : BkR w w.heap.size v1 v2 b) (hu : Sl encI 1 w w.heap.size u ps) (hps : ckNums ps b.st.length = 0) (hcon : Con b) :
    Calls Try.prog 32 #[.agg #[v1, v2], u] w (fun e w' => ∃ lo hi, e = .returned (.agg #[.int .i64 lo, .int .i64 hi]) ∧ Together b.st.length (arcsOf b) (idx b.ts.length ps) lo hi ∧ Below w.heap.size w w') := by
  have HC := Lib.hid (fun (w1 : World) (hb : Below w.heap.size w w1) => arcs75 w1 v1 v2 b hok (hv.later hb))
  have HIN := Lib.hid (fun (w1 : World) (hb : Below w.heap.size w w1) (x : Int) => in76 u ps x w1 (hu.later hb))
  obtain ⟨J, hJ, hJl, hJf, hJs, hJE, hJn, hJc, hJt⟩ := joinM_facts hok hps hcon
  have HJ := Lib.hid hJ
  have HJF := Lib.hid hJf
  have HJS := Lib.hid hJs
  have HJE := Lib.hid hJE
  have HJN := Lib.hid hJn
  have HJC := Lib.hid hJc
  have HJT := Lib.hid hJt
  clear hJ hJf hJs hJE hJn hJc hJt hcon hps
  have HOK := Lib.hid hok
  have h32 := hok.st32
  have h128 := hok.ts128
  obtain ⟨⟨a1, n1, hv1, hl1, hA1⟩, ⟨a2, n2, hv2, hl2, hA2⟩, hids⟩ := hv
  subst hv1 hv2
  obtain ⟨a3, n3, hv3, hl3, hA3⟩ := hu
  subst hv3
  clear hA1 hA2 hA3 hids hok
  obtain ⟨n, hn⟩ : ∃ n, b.st.length + 2 = n := ⟨_, rfl⟩
  have hnc : (b.st.length : Int) + 2 = n := by omega
  have hnd : (n : Int) - 1 = ((b.st.length + 1 : Nat) : Int) := by omega
  obtain ⟨m, hm⟩ : ∃ m, b.st.length + 1 = m := ⟨_, rfl⟩
  rw [hm] at hnd
  rw [hn] at HJE HJC HJT
  have hal : (arcsOf b).length = b.ts.length + b.st.length := arcs_len b
  have HAL := Lib.hid hal
  clear hal
  obtain ⟨L, hL⟩ : ∃ L, (arcsOf b).length = L := ⟨_, rfl⟩
  rw [hL] at HAL hJl HJT
  have HLL := Lib.hid hL
  have HN := Lib.hid hn
  have HM := Lib.hid hm
  clear hn hm hL
  have hLL : b.ts.length + b.st.length = L := HAL.out.symm
  go_enter Try.func32, Try.ntmps32
  go_wp2_with fail
  have hbx := (Box.new w #[.slice a1 b.st.length n1, .slice a2 b.ts.length n2] 38).alloc (.cells #[.int .i64 0, .int .i64 0] 24)
  have hbr := Box.newAt (w.alloc (.cells #[.slice a1 b.st.length n1, .slice a2 b.ts.length n2] 38)) #[.int .i64 0, .int .i64 0] 24 (n := w.heap.size + 1) (by simp)
  have hbl : Below w.heap.size w ((w.alloc (.cells #[.slice a1 b.st.length n1, .slice a2 b.ts.length n2] 38)).alloc (.cells #[.int .i64 0, .int .i64 0] 24)) := ((Below.refl _ _).alloc (Nat.le_refl _) _).alloc (by simp) _
  generalize (w.alloc (.cells #[.slice a1 b.st.length n1, .slice a2 b.ts.length n2] 38)).alloc (.cells #[.int .i64 0, .int .i64 0] 24) = w1 at *
  have HBL := Lib.hid hbl
  have HBX := Lib.hid hbx
  have HBR := Lib.hid hbr
  have hz1 := hbr.lt
  clear hbl hbx hbr
  refine (HC.out w1 HBL.out).mono ?_
  rintro e w2 ⟨v, rfl, ho, hb⟩
  obtain ⟨av, cv, hvs⟩ := ho.shape
  rw [HLL.out] at hvs
  subst hvs
  have HO2 := Lib.hid (show Own Ac.encR 5 99 w2 (w.heap.size + 1 + 1) (.slice av L cv) (stIn b ps 0) by rw [stIn_zero]; exact ho.lower (by omega))
  have HB2 := Lib.hid (HBL.out.trans (hb.mono HBL.out.size))
  have HX2 := Lib.hid (HBX.out.later hb)
  have HR2 := Lib.hid (HBR.out.later hb)
  clear ho hb HBL HBX HBR
  obtain ⟨d0, d1, df, dz⟩ := HX2.out.v2
  go_wp2_with fail
  go_loopw [7] (fun i wr => ∃ k : Nat, k ≤ b.st.length ∧ i = .int .i64 k ∧ Below w.heap.size w wr ∧ Box wr w.heap.size 38 [.slice a1 b.st.length n1, .slice a2 b.ts.length n2] ∧ Box wr (w.heap.size + 1) 24 [.int .i64 0, .int .i64 0] ∧ Own Ac.encR 5 99 wr (w.heap.size + 1 + 1) (.slice av L cv) (stIn b ps k)) (fun i _ => b.st.length - (intOf i).toNat)
  case atStart => exact ⟨0, by omega, rfl, HB2.out, HX2.out, HR2.out, HO2.out⟩
  case round =>
    clear HB2 HX2 HR2 HO2 d0 d1 df dz hz1
    obtain ⟨k, hk, rfl, hbe, hbx, hbr, hown⟩ := hrel
    obtain ⟨d0, d1, df, dz⟩ := hbx.v2
    have hz2 := hbr.lt
    have HBE := Lib.hid hbe
    have HBX := Lib.hid hbx
    have HBR := Lib.hid hbr
    have HOW := Lib.hid hown
    clear hbe hbx hbr
    by_cases hlt : k < b.st.length
    · have hlen : (stIn b ps k).length = L := by rw [stIn_len]; exact HLL.out
      have hkL : b.ts.length + k < L := by omega
      obtain ⟨g, cap, e1, hg, hgs⟩ := hown.form (by rw [hlen]; omega)
      injection e1 with e1 e2 e3
      subst e1
      clear e2 e3
      obtain ⟨ar, har⟩ : ∃ a, (stIn b ps k)[b.ts.length + k]? = some a := ⟨_, List.getElem?_eq_getElem (by rw [hlen]; exact hkL)⟩
      have hat := hown.atN hlen Ac.encR_len (b.ts.length + k) (by rw [hlen]; exact hkL)
      rw [(List.getElem?_eq_some_iff.1 har).2] at hat
      obtain ⟨_, c1, _, _, _⟩ := hat.c5
      have ff := hown.frozenN hlen
      have HAR := Lib.hid har
      have HLEN := Lib.hid hlen
      clear hown hat har hlen
      by_cases hin : (k : Int) ∈ ps
      · go_wp2_with fail
        refine (HIN.out wr HBE.out k).mono ?_
        rintro e w3 ⟨rfl, rfl⟩
        rw [decide_eq_true hin]
        go_wp2_with fail
        go_roundw
        case rel =>
          refine ⟨k + 1, by omega, by go_num, HBE.out.setCell (by dsimp only; omega) _, HBX.out.other _ (by dsimp only; omega), HBR.out.other _ (by dsimp only; omega), ?_⟩
          rw [stIn_in b ps k hin ar HAR.out, HM.out]
          have h := HOW.out.setN HLEN.out Ac.encR_len (b.ts.length + k) (by rw [HLEN.out]; exact hkL) 1 (by omega) (.int .i64 m) (ar.goto m) (by rw [(List.getElem?_eq_some_iff.1 HAR.out).2]; rfl)
          exact h
        case measure => simp [intOf]; omega
      · go_wp2_with fail
        refine (HIN.out wr HBE.out k).mono ?_
        rintro e w3 ⟨rfl, rfl⟩
        rw [decide_eq_false hin]
        go_wp2_with fail
        go_roundw
        case rel => exact ⟨k + 1, by omega, by go_num, HBE.out, HBX.out, HBR.out, by rw [stIn_not b ps k hin]; exact HOW.out⟩
        case measure => simp [intOf]; omega
    · obtain rfl : b.st.length = k := by omega
      clear hown
      have HOA := Lib.hid (HOW.out.alloc (.cells #[.int .i64 m, .int .i64 0, .int .i64 (-32999999967), .int .i64 32999999967, .int .i64 0] 99))
      have HSZ := Lib.hid (show w.heap.size + 1 + 1 ≤ (wr.alloc (.cells #[.int .i64 m, .int .i64 0, .int .i64 (-32999999967), .int .i64 32999999967, .int .i64 0] 99)).heap.size by simp; omega)
      have HLE := Lib.hid (show (stIn b ps b.st.length).length ≤ 1000000 by rw [stIn_len, HLL.out]; omega)
      have HBA := Lib.hid (HBE.out.alloc (by omega) (.cells #[.int .i64 m, .int .i64 0, .int .i64 (-32999999967), .int .i64 32999999967, .int .i64 0] 99))
      have HRA := Lib.hid (HBR.out.alloc (.cells #[.int .i64 m, .int .i64 0, .int .i64 (-32999999967), .int .i64 32999999967, .int .i64 0] 99))
      go_wp2_with (at_builtin; (refine wpList_pushB Ac.encR 5 40 95 99 _ Try.underlying95 Try.info99 rfl (by decide) (by decide) Ac.encR_len Ac.encR_one (stIn b ps b.st.length) ⟨m, 0, -32999999967, 32999999967, 0⟩ (w.heap.size + 1 + 1) _ _ _ _ (row_here (by simp)) rfl _ HOA.out HSZ.out HLE.out rfl _ _ rfl rfl rfl ?_); intro v' w' hown' hg'; rw [← HM.out, HJ.out] at hown'; have HOJ := Lib.hid hown'; have HBJ := Lib.hid (grown_below HBA.out hg' HBA.out.size HOA.out.lt' (by omega)); have HRJ := Lib.hid (HRA.out.kept hg' (HOA.out.ne (by omega))); clear hown' hg')
      refine (settle74 w' _ v' J n HOJ.out HJF.out HJS.out HJE.out HJN.out (by omega) (by omega)).mono ?_
      rintro e w4 ⟨ok, l1, rfl, ha, hs⟩
      have hok : ok = true := by
        cases ok with
        | true => rfl
        | false =>
          obtain ⟨lx, h1, h2⟩ := HJC.out
          exact absurd h2 (hs.no rfl lx h1)
      subst hok
      have hl1 : l1.length = L + 1 := by rw [shp_length hs.shape]; exact hJl
      obtain ⟨g, cap, e1, hg, hgs⟩ := ha.own.form (by omega)
      rw [hl1] at e1
      subst e1
      have HB4 := Lib.hid (arcW_below ha HOJ.out HBJ.out (Nat.le_refl _) (by omega))
      have HR4 := Lib.hid (HRJ.out.keeps ha.kept (fun hk => by have := HOJ.out.lt' _ hk; omega))
      have HO4 := Lib.hid ha.own
      have HC1 := Lib.hid (hs.yes rfl)
      have HS1 := Lib.hid hs.shape
      have hE1 : Hid (Ends n l1) := Lib.hid (shp_ends hs.shape.symm HJE.out)
      have hN1 := Lib.hid (HJN.out.shp hs.shape)
      have hSS1 := Lib.hid (SmallS.shp hs.shape HJS.out)
      clear ha hs d0 d1 df dz
      have kk : (L : Int) + 1 - 1 = L := by omega
      go_wp2_with fail
      refine (extreme77 w4 _ _ l1 n L false HO4.out HC1.out.fits hSS1.out hE1.out hN1.out (by omega) (by omega) (by omega)).mono ?_
      rintro e w5 ⟨rfl, l2, ha5, hp5⟩
      have hl2 : l2.length = L + 1 := (shp_length hp5.shape).trans hl1
      obtain ⟨_, _, _, _, f1⟩ := (ha5.own.atN hl2 Ac.encR_len L (by omega)).c5
      have zg5 := (World.ownsRow.lt ha5.own _ rfl).2
      obtain ⟨lo, hlo⟩ : ∃ x, l2[L].fl = x := ⟨_, rfl⟩
      rw [hlo] at f1
      have HLO := Lib.hid hlo
      have HA5 := Lib.hid ha5
      have HP5 := Lib.hid hp5
      have HB5 := Lib.hid (arcW_below ha5 HO4.out HB4.out (Nat.le_refl _) (by omega))
      have HR5 := Lib.hid (HR4.out.keeps ha5.kept (fun hk => by have := HO4.out.lt' _ hk; omega))
      clear hlo ha5 hp5
      go_wp2_with fail
      refine (extreme77 w5 _ _ l2 n L true HA5.out.own HP5.out.fits (SmallS.shp HP5.out.shape hSS1.out) (shp_ends HP5.out.shape.symm hE1.out) (hN1.out.shp HP5.out.shape) (by omega) (by omega) (by omega)).mono ?_
      rintro e w6 ⟨rfl, l3, ha6, hp6⟩
      have hl3 : l3.length = L + 1 := (shp_length hp6.shape).trans hl2
      obtain ⟨_, _, _, _, f2⟩ := (ha6.own.atN hl3 Ac.encR_len L (by omega)).c5
      have zg6 := (World.ownsRow.lt ha6.own _ rfl).2
      obtain ⟨hi, hhi⟩ : ∃ x, l3[L].fl = x := ⟨_, rfl⟩
      rw [hhi] at f2
      have hext : Extent n l1 L lo hi := by
        have h1 := extent_of HP5.out hp6 hE1.out HC1.out (List.getElem?_eq_getElem (by omega)) (List.getElem?_eq_getElem (by omega))
        rw [HLO.out, hhi] at h1
        exact h1
      have HTG := Lib.hid (HJT.out l1 lo hi HS1.out hext)
      have HB6 := Lib.hid (arcW_below ha6 HA5.out.own HB5.out (Nat.le_refl _) (by omega))
      have hr6 := HR5.out.keeps ha6.kept (fun hk => by have := HO4.out.lt' _ hk; omega)
      obtain ⟨r0, r1, rf, rz⟩ := hr6.v2
      clear ha6 hp6 hhi hext f1 zg5
      go_wp2_with fail
      have hr7 := (hr6.set 0 (.int .i64 lo)).set 1 (.int .i64 hi)
      have r0' := hr7.cell 0
      have r1' := hr7.cell 1
      simp only [List.set_cons_zero, List.set_cons_succ, List.getElem?_cons_zero, List.getElem?_cons_succ] at r0' r1'
      refine bodyPost_ret (v := .agg #[.int .i64 lo, .int .i64 hi]) (by simp [results, Try.results32, go_sem, *]) rfl ?_
      exact ⟨lo, hi, rfl, HTG.out, (HB6.out.setCell (by dsimp only; omega) _).setCell (by dsimp only; omega) _⟩
end Go.Proofs.Ytlakcghdehdeiaa
