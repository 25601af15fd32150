/- Lemmas on the way to the law TopOneGrain (part 23): Xq Xr Xl Xm -/
import Derived.Test.YtpafjhjpchdcdaaGreatDoorTopOneGrainP16
import Derived.Test.YtpafjhjpchdcdaaGreatDoorTopOneGrainP22
import Derived.Test.YtpafjhjpchdcdaaGreatDoorTopOneGrainP21
import Derived.Test.YtpafjhjpchdcdaaGreatDoorTopOneGrainP13
set_option linter.unusedVariables false
set_option linter.unusedSimpArgs false

/- Plain: the law of one grain: the state of the plant beside what lies in the bins, and what a load makes of both. -/
namespace Go.Proofs.YtpafjhjpchdcdaaGreatDoor.Nu
open Go Go.Proofs Go.RowKit Go.Proofs.YtpafjhjpchdcdaaGreatDoor
structure GrI (p : Pl) (st : List Sx) (k : Int) (C : List (List Ly)) (M : List Int) : Prop where
  sv : StV p st
  run : ∀ x, x < p.ms.length → (sAt st x).runs = false
  fd : ∀ x, x < p.ms.length → (sAt st x).feeds = -1
  bin : ∀ x, x < p.ms.length → (sAt st x).grain.toList.isEmpty = false → kn (kdA p x) = 1
  cl : C.length = p.ms.length
  ml : M.length = p.ms.length
  one : ∀ x, x < p.ms.length → (C.getD x []).length ≤ 1
  emp : ∀ x, x < p.ms.length → (C.getD x []).isEmpty = (sAt st x).grain.toList.isEmpty
  same : ∀ x, x < p.ms.length → ∀ y ∈ C.getD x [], y.g.toList = (sAt st x).grain.toList
  pos : ∀ x, x < p.ms.length → ∀ y ∈ C.getD x [], 1 ≤ y.m
  le : ∀ x, x < p.ms.length → sumM (C.getD x []) ≤ 256 * k
  mass : ∀ x, x < p.ms.length → M.getD x 0 = sumM (C.getD x [])
theorem getD_rep {α : Type} (n x : Nat) (a b : α) (h : x < n) : (List.replicate n a).getD x b = a := by
  rw [List.getD_eq_getElem?_getD, List.getElem?_replicate, if_pos h]; rfl
theorem getD_setN {α : Type} (L : List α) (i x : Nat) (v d : α) (h : i < L.length) : (L.set i v).getD x d = if i = x then v else L.getD x d := by
  rw [List.getD_eq_getElem?_getD, List.getElem?_set]
  by_cases e : i = x
  · subst e; rw [if_pos rfl, if_pos h, if_pos rfl]; rfl
  · rw [if_neg e, if_neg e, List.getD_eq_getElem?_getD]
theorem GrI.start (p : Pl) : GrI p (emptyS p.ms.length) 0 (List.replicate p.ms.length []) (List.replicate p.ms.length 0) := by
  have e := emp_at p.ms.length
  have c := fun x (hx : x < p.ms.length) => getD_rep p.ms.length x ([] : List Ly) [] hx
  refine ⟨(emp_valid p).1, fun x hx => by rw [e x hx], fun x hx => by rw [e x hx], fun x hx h => ?_, List.length_replicate, List.length_replicate, fun x hx => by rw [c x hx]; simp, fun x hx => ?_, fun x hx y hy => ?_, fun x hx y hy => ?_, fun x hx => ?_, fun x hx => ?_⟩
  · rw [e x hx] at h
    have h' : (⟨#[]⟩ : ByteArray).toList.isEmpty = false := h
    rw [noB_list] at h'; cases h'
  · rw [c x hx, e x hx]
    show true = (⟨#[]⟩ : ByteArray).toList.isEmpty
    rw [noB_list]; rfl
  · rw [c x hx] at hy; cases hy
  · rw [c x hx] at hy; cases hy
  · rw [c x hx]; simp [sumM]
  · rw [c x hx, getD_rep _ _ _ _ hx]; rfl
theorem StV.sz {p : Pl} {st : List Sx} (h : StV p st) : SzR st := by
  intro s hs
  obtain ⟨k, hk, rfl⟩ := List.mem_iff_getElem.1 hs
  have e : st[k] = sAt st k := (stGet hk).symm
  rw [e]
  have hx : k < p.ms.length := by have := h.len; omega
  cases hq : (sAt st k).grain.toList.isEmpty with
  | false =>
    have := (h.gr k hx hq).1
    unfold isName at this
    simp only [Bool.and_eq_true, decide_eq_true_eq] at this
    omega
  | true =>
    have h1 := List.isEmpty_iff.1 hq
    have h2 : (sAt st k).grain.toList.length = (sAt st k).grain.size := by rw [ByteArray.toList_eq]; exact Array.length_toList
    rw [h1] at h2
    rw [← h2]; decide
theorem startL_snoc (p : Pl) (st : List Sx) (g : ByteArray) (m : Int) : ∀ (r : List Int) (k : Nat), (∀ i (h : i < r.length), startK p st g (k + i) r[i] = 0) → startL p st g k (r ++ [m]) = startK p st g (k + r.length) m
  | [], k, _ => by
    show (if startK p st g k m ≠ 0 then startK p st g k m else 0) = startK p st g k m
    by_cases h : startK p st g k m = 0
    · rw [h]; rfl
    · rw [if_pos h]
  | a :: r, k, h => by
    show (if startK p st g k a ≠ 0 then startK p st g k a else startL p st g (k + 1) (r ++ [m])) = _
    have h0 := h 0 (by simp)
    simp only [Nat.add_zero, List.getElem_cons_zero] at h0
    rw [if_neg (by rw [h0]; simp), startL_snoc p st g m r (k + 1) fun i hi => by
      have := h (i + 1) (by simpa using hi)
      simpa [Nat.add_assoc, Nat.add_comm 1 i] using this]
    rw [List.length_cons, Nat.add_assoc, Nat.add_comm 1]
theorem split_last (l : List Int) (h : 0 < l.length) : l = l.take (l.length - 1) ++ [l.getD (l.length - 1) 0] := by
  have h1 : l.getD (l.length - 1) 0 = l[l.length - 1] := by rw [List.getD_eq_getElem?_getD, List.getElem?_eq_getElem (by omega)]; rfl
  rw [h1]
  have := List.take_append_drop (l.length - 1) l
  rw [List.drop_eq_getElem_cons (by omega), List.drop_eq_nil_of_le (by omega)] at this
  exact this.symm
section
variable {p : Pl} {st : List Sx} {k : Int} {C : List (List Ly)} {M : List Int} {l : List Int} {g : ByteArray}
theorem GrI.fed (h : GrI p st k C M) (m : Nat) : ∀ x : Nat, x < st.length → (sAt st x).feeds ≠ (m : Int) := fun x hx => by
  rw [h.fd x (by have := h.sv.len; omega)]; omega
theorem GrI.front (h : GrI p st k C M) (hl : PaV p l) (h0 : kn (kdA p (l.getD 0 0)) = 0) {i : Nat} (hi : i + 1 < l.length) : StK p st g i (nAt l i) := by
  have hn := hl.nat (show i < l.length by omega)
  have hk : kn (kdA p (nAt l i : Nat)) ≠ 1 := by
    show kn (kdA p ((l.getD i 0).toNat : Nat)) ≠ 1
    rw [← hn.1]
    by_cases e : i = 0
    · subst e; rw [h0]; omega
    · have := hl.inner i (by omega) hi
      unfold cvB at this
      have := of_decide_eq_true this
      omega
  refine ⟨h.run _ hn.2, by rw [h.fd _ hn.2]; omega, h.fed _, fun _ e => absurd e hk, .inl ?_⟩
  cases hq : (sAt st (nAt l i)).grain.toList.isEmpty with
  | true => rfl
  | false => exact absurd (h.bin _ hn.2 hq) hk
theorem GrI.lastK (h : GrI p st k C M) {last : Nat} (hx : last < p.ms.length) (j : Nat) (hj : j ≠ 0) : startK p st g j (last : Int) = if (!(sAt st last).grain.toList.isEmpty && !((sAt st last).grain.toList == g.toList)) = true then 16 else 0 := by
  show (if ((sAt st last).runs || decide (0 ≤ (sAt st last).feeds) || st.any (fun s => s.feeds == (last : Int))) = true then 26
    else if (decide (j = 0) && decide (kn (kdA p last) = 1) && (sAt st last).grain.toList.isEmpty) = true then 13
    else if (!(sAt st last).grain.toList.isEmpty && !((sAt st last).grain.toList == g.toList)) = true then 16 else 0) = _
  rw [if_neg, if_neg]
  · rw [decide_eq_false hj]; simp
  · rw [h.run _ hx, h.fd _ hx]
    have : st.any (fun s => s.feeds == (last : Int)) = false := by
      cases hq : st.any (fun s => s.feeds == (last : Int)) with
      | false => rfl
      | true =>
        obtain ⟨x, hx, e⟩ := (fed_iff _).1 hq
        exact absurd e (h.fed last x hx)
    rw [this]; simp
theorem GrI.startL (h : GrI p st k C M) (hl : PaV p l) (h0 : kn (kdA p (l.getD 0 0)) = 0) {last : Nat} (hla : l.getD (l.length - 1) 0 = (last : Int)) (hx : last < p.ms.length) :
    YtpafjhjpchdcdaaGreatDoor.startL p st g 0 l = if (!(sAt st last).grain.toList.isEmpty && !((sAt st last).grain.toList == g.toList)) = true then 16 else 0 := by
  have h2 := hl.two
  rw [split_last l (by omega), startL_snoc, hla, h.lastK hx _ (by rw [List.length_take]; omega)]
  intro i hi
  rw [List.length_take] at hi
  rw [List.getElem_take, Nat.zero_add]
  have hn := hl.nat (show i < l.length by omega)
  have e : l[i] = ((nAt l i : Nat) : Int) := by
    unfold nAt
    rw [← hn.1, List.getD_eq_getElem?_getD, List.getElem?_eq_getElem (by omega)]; rfl
  rw [e]
  exact startK_iff.2 (h.front hl h0 (by omega))
theorem mix_snoc {A : List Ly} (h : A.length ≤ 1) (y : Ly) : mixB (A ++ [y]) = A.any (fun a => !(y.g.toList == a.g.toList)) := by
  match A, h with
  | [], _ => simp [mixB, neG]
  | [a], _ => simp [mixB, neG]
theorem GrI.step (h : GrI p st k C M) (hck : ckPlant p = 0) (hpe : pathE p l = 0) (hg : isName g = true) (h0 : kn (kdA p (l.getD 0 0)) = 0) {last : Nat} (hla : l.getD (l.length - 1) 0 = (last : Int)) (h1 : kn (kdA p last) = 1) (b : Ly) (hb : b.g = g) (hm1 : 1 ≤ b.m) (hm2 : b.m ≤ 256) :
    (mixB (C.getD last [] ++ [b]) = true ∧ startE p st l g = 16) ∨
    (mixB (C.getD last [] ++ [b]) = false ∧ startE p st l g = 0 ∧ cleanE p (startTo p l g st l.length) l = 0 ∧ SzR (startTo p l g st l.length) ∧
      ∀ x y, (C.getD last [] ++ [b]).head? = some y → x.g = y.g → x.m = sumM (C.getD last [] ++ [b]) →
        GrI p (stopTo p l true (startTo p l g st l.length) l.length) (k + 1) (C.set last [x]) (M.set last (M.getD last 0 + b.m))) := by
  have hl := PaV.of hpe
  have h2 := hl.two
  have hok := ckPlant_ok hck
  obtain ⟨hn1, hx⟩ := hl.nat (show l.length - 1 < l.length by omega)
  rw [hla, Int.toNat_natCast] at hx
  have hS : startE p st l g = if (!(sAt st last).grain.toList.isEmpty && !((sAt st last).grain.toList == g.toList)) = true then 16 else 0 := by
    unfold startE setE
    rw [h.sv.ck hck, if_neg (by rw [if_neg (by simp), hpe]; simp), hg, if_neg (by simp)]
    exact h.startL hl h0 hla hx
  have hone := h.one last hx
  have hmx := mix_snoc hone b
  have hME : mixB (C.getD last [] ++ [b]) = (!(sAt st last).grain.toList.isEmpty && !((sAt st last).grain.toList == g.toList)) := by
    rw [hmx, ← h.emp last hx, hb]
    have hsame := h.same last hx
    generalize C.getD last [] = A at *
    match A, hone with
    | [], _ => rfl
    | [a], _ =>
      have e := hsame a (by simp)
      rw [← e]
      simp [Bool.beq_comm (a := g.toList)]
  cases hq : (!(sAt st last).grain.toList.isEmpty && !((sAt st last).grain.toList == g.toList)) with
  | true =>
    rw [hq] at hME hS
    exact .inl ⟨hME, hS⟩
  | false =>
    rw [hq] at hME hS
    have hS0 : startE p st l g = 0 := hS
    have hL0 : YtpafjhjpchdcdaaGreatDoor.startL p st g 0 l = 0 := by rw [h.startL hl h0 hla hx, hq]; rfl
    have hK := (startL_iff hl).1 hL0
    have A := StartV.of hok h.sv hl hK
    have hV := A.valid hok h.sv hl hK hg
    have B := StopV.of hV hl true
    have hset := A.set hl
    have hV2 := B.valid hV hl A.feeds
    refine .inr ⟨hME, hS0, ?_, StV.sz hV, fun x y hy1 hy2 hy3 => ?_⟩
    · unfold cleanE setE
      rw [hV.ck hck, if_neg (by rw [if_neg (by simp), hpe]; simp), hset, A.runsB hl]; rfl
    · have hcln := A.cleaned B hok h.sv hl hK
      have hcl : last < C.length := by rw [h.cl]; exact hx
      have hml : last < M.length := by rw [h.ml]; exact hx
      have hsum : sumM (C.getD last [] ++ [b]) = sumM (C.getD last []) + b.m := sumM_snoc _ _
      have hgl : (sAt (stopTo p l true (startTo p l g st l.length) l.length) last).grain.toList = g.toList := by
        rw [(hcln last hx).2.2, if_neg, if_pos ⟨hla.symm, h1⟩]
        rintro ⟨_, hc⟩
        unfold cvB at hc
        have := of_decide_eq_true hc
        omega
      have hgo : ∀ z, z < p.ms.length → last ≠ z → (sAt (stopTo p l true (startTo p l g st l.length) l.length) z).grain.toList = (sAt st z).grain.toList := fun z hz hne => by
        rw [(hcln z hz).2.2]
        by_cases hc : (z : Int) ∈ l ∧ cvB (kdA p z) = true
        · rw [if_pos hc]
          cases he : (sAt st z).grain.toList.isEmpty with
          | true => exact (List.isEmpty_iff.1 he).symm
          | false =>
            have := h.bin z hz he
            have h3 := hc.2
            unfold cvB at h3
            have := of_decide_eq_true h3
            omega
        · rw [if_neg hc, if_neg]
          rintro ⟨e, _⟩
          rw [hla] at e; omega
      have hge := name_ne hg
      have hxg : x.g.toList = g.toList := by
        rw [hy2]
        have hsame := h.same last hx
        rw [hmx] at hME
        generalize C.getD last [] = A at *
        match A, hone with
        | [], _ => simp at hy1; subst hy1; rw [hb]
        | [a], _ =>
          simp at hy1; subst hy1
          simp [hb] at hME
          exact hME.symm
      have hp0 : 0 ≤ sumM (C.getD last []) := by
        have := h.pos last hx
        generalize C.getD last [] = A at *
        match A, hone with
        | [], _ => simp [sumM]
        | [a], _ => have := this a (by simp); simp [sumM]; omega
      refine ⟨hV2, fun z hz => by rw [(hcln z hz).1]; exact h.run z hz, fun z hz => by rw [(hcln z hz).2.1]; exact h.fd z hz, fun z hz he => ?_, by rw [List.length_set]; exact h.cl, by rw [List.length_set]; exact h.ml, fun z hz => ?_, fun z hz => ?_, fun z hz => ?_, fun z hz => ?_, fun z hz => ?_, fun z hz => ?_⟩
      · by_cases e : last = z
        · subst e; exact h1
        · rw [hgo z hz e] at he; exact h.bin z hz he
      · rw [getD_setN _ _ _ _ _ hcl]
        by_cases e : last = z
        · rw [if_pos e]; simp
        · rw [if_neg e]; exact h.one z hz
      · rw [getD_setN _ _ _ _ _ hcl]
        by_cases e : last = z
        · subst e
          rw [if_pos rfl, hgl, hge]; rfl
        · rw [if_neg e, hgo z hz e]; exact h.emp z hz
      · rw [getD_setN _ _ _ _ _ hcl]
        by_cases e : last = z
        · subst e
          rw [if_pos rfl, hgl]
          intro q hq
          rw [List.mem_singleton] at hq
          subst hq; exact hxg
        · rw [if_neg e, hgo z hz e]; exact h.same z hz
      · rw [getD_setN _ _ _ _ _ hcl]
        by_cases e : last = z
        · rw [if_pos e]
          intro q hq
          rw [List.mem_singleton] at hq
          subst hq
          rw [hy3, hsum]; omega
        · rw [if_neg e]; exact h.pos z hz
      · rw [getD_setN _ _ _ _ _ hcl]
        by_cases e : last = z
        · subst e
          rw [if_pos rfl]
          show x.m + 0 ≤ _
          have := h.le last hx
          rw [hy3, hsum]; omega
        · rw [if_neg e]; have := h.le z hz; omega
      · rw [getD_setN _ _ _ _ _ hcl, getD_setN _ _ _ _ _ hml]
        by_cases e : last = z
        · subst e
          rw [if_pos rfl, if_pos rfl]
          show _ = x.m + 0
          rw [hy3, hsum, h.mass last hx]; omega
        · rw [if_neg e, if_neg e]; exact h.mass z hz
end
end Go.Proofs.YtpafjhjpchdcdaaGreatDoor.Nu
/- Memory of the law of one grain: the bins lie in one block, each cell of theirs lies apart from it. -/
namespace Go.Proofs.YtpafjhjpchdcdaaGreatDoor.Nu
open Go Go.Proofs Go.RowKit Go.Proofs.YtpafjhjpchdcdaaGreatDoor
theorem Own.box {α : Type} {f : α → List Value} {sz : Nat} {e : TypeId} {w : World} {base g n : Nat} {l : List α} (h : Own f sz e w base (.slice (some ⟨g, 0, none⟩) n n) l) : Box w g e (l.flatMap f) := by
  obtain ⟨h1, h2 | ⟨g', cap, cur, h2, _, h3, _, _, h4, h5⟩⟩ := h
  · cases h2.1
  · injection h2 with e1 e2 e3
    injection e1 with e1
    injection e1 with e1
    subst e1 e3
    have h6 : cur.toList.take (l.length * sz) = cur.toList := List.take_of_length_le (by rw [Array.length_toList, h4, e2]; exact Nat.le_refl _)
    rw [h6] at h5
    unfold Box
    rw [h3, ← h5]
theorem Own.ne_box {α : Type} {f : α → List Value} {sz : Nat} {e e' : TypeId} {w : World} {base g' : Nat} {v : Value} {l : List α} {vs : List Value} (h : Own f sz e w base v l) (hB : Box w g' e' vs) (hne : e ≠ e') : ∀ k, v.ownBlock = some k → k ≠ g' := by
  intro k hk hkg
  obtain ⟨h1, h2 | ⟨g, cap, cur, h2, _, h3, _⟩⟩ := h
  · rw [h2.1] at hk; cases hk
  · rw [h2] at hk
    injection hk with hk
    have hk : g = k := hk
    subst hk hkg
    have := h3.symm.trans hB
    injection this with this
    injection this with _ e2 _
    exact hne e2
structure Bn where
  f : Value
  c : Value
  r : Value
  s : Value
  v : Value
def Bn.enc (b : Bn) : List Value := [b.f, b.c, b.r, b.s, b.v]
theorem Bn.enc_len (b : Bn) : b.enc.length = 5 := rfl
abbrev bnV (cv : Value) : Bn := ⟨.string ⟨#[109, 97, 115, 115]⟩, .int .i64 0, .int .i64 10000, .int .i64 0, cv⟩
structure BnI (w : World) (B : List Bn) (C : List (List Ly)) : Prop where
  len : B.length = C.length
  at_ : ∀ k (h : k < B.length), ∃ cv, B[k] = bnV cv ∧ CeR w cv (C.getD k [])
theorem CeR.keeps {w w' : World} {v : Value} {l : List Ly} {S : Nat → Prop} (h : CeR w v l) (hk : Kept S w w')
    (h1 : ∀ b o a n k, w.cell? ⟨b, o, none⟩ = some (.slice a n k) → n = l.length → LyR w (.slice a n k) l → ¬ S b)
    (h2 : ∀ b o x, x ∈ l → At w b o x.enc → ¬ S b) (h3 : ∀ b o, w.cell? ⟨b, o, none⟩ = some (.string ⟨#[97]⟩) → ¬ S b) : CeR w' v l := by
  obtain ⟨b, o, c, a, n, k, rfl, hc0, hbz, hcell, hly⟩ := h.ex
  have hsz := hk.size
  obtain ⟨a', c', e', hlen, hA⟩ := hly.sl
  injection e' with e1 e2 e3
  subst e1 e2 e3
  refine ⟨b, o, c, _, _, _, rfl, hc0, by omega, (Kept.cell hk hbz (h1 _ _ _ _ _ hcell rfl hly)).trans hcell, ⟨⟨_, _, rfl, hlen, fun h0 => ?_⟩, hly.ok, fun y hy => ?_⟩⟩
  · obtain ⟨b2, o2, ha, hb2, hcs⟩ := hA h0
    exact ⟨b2, o2, ha, by omega, fun i hi => at_keeps (hcs i hi) hk hb2 (h2 _ _ _ (List.getElem_mem hi) (hcs i hi))⟩
  · obtain ⟨a4, c4, e4, hl4, hA4⟩ := hly.sh y hy
    obtain ⟨b5, o5, ha5, hb5, hc5⟩ := hA4 (by decide)
    exact ⟨a4, c4, e4, hl4, fun _ => ⟨b5, o5, ha5, by omega, fun i hi => at_keeps (hc5 i hi) hk hb5 (h3 _ _ (hc5 0 (by decide) 0 (.string ⟨#[97]⟩) rfl))⟩⟩
theorem bn_mem {B : List Bn} {C : List (List Ly)} {w : World} (h : BnI w B C) {x : Value} (hx : x ∈ B.flatMap Bn.enc) :
    x = .string ⟨#[109, 97, 115, 115]⟩ ∨ x = .int .i64 0 ∨ x = .int .i64 10000 ∨ ∃ k, CeR w x (C.getD k []) := by
  obtain ⟨b, hb, hxb⟩ := List.mem_flatMap.1 hx
  obtain ⟨k, hk, rfl⟩ := List.mem_iff_getElem.1 hb
  obtain ⟨cv, e, hc⟩ := h.at_ k hk
  rw [e] at hxb
  simp [Bn.enc, bnV] at hxb
  rcases hxb with h1 | h1 | h1 | h1 | h1
  · exact .inl h1
  · exact .inr (.inl h1)
  · exact .inr (.inr (.inl h1))
  · exact .inr (.inl h1)
  · subst h1; exact .inr (.inr (.inr ⟨k, hc⟩))
abbrev InS (g m : Nat) (k : Nat) : Prop := k = g ∨ k = m
theorem CeR.apartB {w w' : World} {v : Value} {l : List Ly} (h : CeR w v l) (hl : l.length ≤ 1) (hm : ∀ x ∈ l, x.m < 10000) {B : List Bn} {C : List (List Ly)} (hI : BnI w B C) {g gm : Nat} (hB : Box w g 37 (B.flatMap Bn.enc)) {M : List Int} (hM : Box w gm 3 (M.flatMap encI)) (hk : Kept (InS g gm) w w') : CeR w' v l := by
  have hi : ∀ x, x ∈ M.flatMap encI → ∃ z, x = .int .i64 z := fun x hx => by
    obtain ⟨z, _, hz⟩ := List.mem_flatMap.1 hx
    simp [encI] at hz
    exact ⟨z, hz⟩
  refine h.keeps hk (fun b o a n k hc hn hly => ?_) (fun b o x hx hat => ?_) (fun b o hc => ?_)
  · have n1 : ¬ b = gm := box_apart hM hc fun hx => by obtain ⟨z, e⟩ := hi _ hx; cases e
    have n2 : ¬ b = g := box_apart hB hc fun hx => by
      rcases bn_mem hI hx with e | e | e | ⟨j, hj⟩
      · cases e
      · cases e
      · cases e
      · obtain ⟨b2, o2, c2, a2, m2, k2, e2, _, _, hc2, _⟩ := hj.ex
        injection e2 with e3 e4 e5
        subst e3 e4 e5
        match l, hl, hn, hly with
        | [x], _, _, hly =>
          obtain ⟨a', c', e', _, hA⟩ := hly.sl
          injection e' with e1
          subst e1
          obtain ⟨b6, o6, ha6, hb6, hc6⟩ := hA (by simp)
          injection ha6 with ha6
          injection ha6 with h61 h62
          subst h61 h62
          have h7 := hc6 0 (by simp) 0 _ rfl
          have h8 : w.cell? ⟨b2, o2, none⟩ = some (.string x.g) := by simpa using h7
          rw [hc2] at h8; cases h8
        | [], _, hn, _ => cases hn
    exact fun h => h.elim n2 n1
  · have hs := hat 0 _ rfl
    have hint := hat 1 _ rfl
    have hlo := (h.ex.elim fun _ h => h.elim fun _ h => h.elim fun _ h => h.elim fun _ h => h.elim fun _ h => h.elim fun _ h => h.2.2.2.2.ok x hx).lo
    have hlm := hm x hx
    have n1 : ¬ b = gm := box_apart hM hs fun hx => by obtain ⟨z, e⟩ := hi _ hx; cases e
    have n2 : ¬ b = g := box_apart hB hint fun hx => by
      rcases bn_mem hI hx with e | e | e | ⟨j, hj⟩
      · cases e
      · injection e with _ e; omega
      · injection e with _ e; omega
      · obtain ⟨_, _, _, _, _, _, e2, _⟩ := hj.ex; cases e2
    exact fun h => h.elim n2 n1
  · have n1 : ¬ b = gm := box_apart hM hc fun hx => by obtain ⟨z, e⟩ := hi _ hx; cases e
    have n2 : ¬ b = g := box_apart hB hc fun hx => by
      rcases bn_mem hI hx with e | e | e | ⟨j, hj⟩
      · injection e with e; exact absurd e (by decide)
      · cases e
      · cases e
      · obtain ⟨_, _, _, _, _, _, e2, _⟩ := hj.ex; cases e2
    exact fun h => h.elim n2 n1
end Go.Proofs.YtpafjhjpchdcdaaGreatDoor.Nu
/- Walks: the plant of routeRuns; the most paths in it. -/
namespace Go.Proofs.YtpafjhjpchdcdaaGreatDoor.Nu
open Go Go.Proofs Go.RowKit Go.Proofs.YtpafjhjpchdcdaaGreatDoor
def rpP : Pl := ⟨[⟨⟨#[112, 105, 116]⟩, 0⟩, ⟨⟨#[98, 101, 108, 116]⟩, 3⟩, ⟨⟨#[98, 105, 110]⟩, 0⟩, ⟨⟨#[98, 105, 110]⟩, 0⟩, ⟨⟨#[103, 97, 116, 101]⟩, 1⟩, ⟨⟨#[115, 112, 111, 117, 116]⟩, 0⟩], [⟨0, 1⟩, ⟨1, 2⟩, ⟨1, 3⟩, ⟨3, 4⟩, ⟨4, 5⟩]⟩
theorem rp_ck : ckPlant rpP = 0 := by decide +kernel
theorem rp_both : bothE rpP [0, 3] [2, 5] = 0 := by decide +kernel
theorem sl_litAt {α : Type} {f : α → List Value} {sz : Nat} (hf : ∀ x, (f x).length = sz) (l : List α) (w : World) (cs : Array Value) (e : TypeId) (n g : Nat) (hg : w.heap.size = g) (hn : n = l.length) (hcs : cs.toList = l.flatMap f) (hl : l.length ≤ 1000000000) : Sl f sz (w.alloc (.cells cs e)) (w.alloc (.cells cs e)).heap.size (.slice (some ⟨g, 0, none⟩) n n) l := by
  subst hg
  exact Sl.lit hf l w cs e n hn hcs hl
def RpPost (w : World) (e : Ending) (w' : World) : Prop := ∃ g1 g2, e = .returned (.agg #[.slice (some ⟨g1, 0, none⟩) 6 6, .slice (some ⟨g2, 0, none⟩) 5 5]) ∧ PlR w' w'.heap.size (.slice (some ⟨g1, 0, none⟩) 6 6) (.slice (some ⟨g2, 0, none⟩) 5 5) rpP ∧ Below w.heap.size w w'
theorem rp_post (w : World) (x : Array Value) (e1 : TypeId) : RpPost w (.returned (.agg #[.slice (some ⟨w.heap.size + 1, 0, none⟩) 6 6, .slice (some ⟨w.heap.size + 1 + 1, 0, none⟩) 5 5]))
    (((w.alloc (.cells x e1)).alloc (.cells #[.string ⟨#[112, 105, 116]⟩, .int .i64 0, .string ⟨#[98, 101, 108, 116]⟩, .int .i64 3, .string ⟨#[98, 105, 110]⟩, .int .i64 0, .string ⟨#[98, 105, 110]⟩, .int .i64 0, .string ⟨#[103, 97, 116, 101]⟩, .int .i64 1, .string ⟨#[115, 112, 111, 117, 116]⟩, .int .i64 0] 43)).alloc (.cells #[.int .i64 0, .int .i64 1, .int .i64 1, .int .i64 2, .int .i64 1, .int .i64 3, .int .i64 3, .int .i64 4, .int .i64 4, .int .i64 5] 85)) := by
  refine ⟨_, _, rfl, ⟨?_, ?_⟩, ?_⟩
  · have h := sl_litAt Mc.enc_len rpP.ms (w.alloc (.cells x e1)) #[.string ⟨#[112, 105, 116]⟩, .int .i64 0, .string ⟨#[98, 101, 108, 116]⟩, .int .i64 3, .string ⟨#[98, 105, 110]⟩, .int .i64 0, .string ⟨#[98, 105, 110]⟩, .int .i64 0, .string ⟨#[103, 97, 116, 101]⟩, .int .i64 1, .string ⟨#[115, 112, 111, 117, 116]⟩, .int .i64 0] 43 6 (w.heap.size + 1) (by simp) rfl rfl (by simp [rpP])
    exact h.later ((Below.refl _ _).alloc (Nat.le_refl _) _)
  · exact sl_litAt Ar.enc_len rpP.arcs ((w.alloc (.cells x e1)).alloc _) #[.int .i64 0, .int .i64 1, .int .i64 1, .int .i64 2, .int .i64 1, .int .i64 3, .int .i64 3, .int .i64 4, .int .i64 4, .int .i64 5] 85 5 (w.heap.size + 1 + 1) (by simp) rfl rfl (by simp [rpP])
  · exact (((Below.refl _ _).alloc (Nat.le_refl _) _).alloc (by simp) _).alloc (by simp; omega) _
set_option maxRecDepth 100000 in
set_option maxHeartbeats 1000000 in
theorem routePlant14 (w : World) : Calls Tryz.prog 14 #[] w (RpPost w) := by
  go_enter Tryz.func14, Tryz.ntmps14
  go_wp2_with fail
  refine bodyPost_ret (v := .agg #[.slice (some ⟨w.heap.size + 1, 0, none⟩) 6 6, .slice (some ⟨w.heap.size + 1 + 1, 0, none⟩) 5 5]) (by simp [results, Tryz.results14, go_sem]) rfl ?_
  exact rp_post w _ _
def rpS (i : Nat) : Bool := [12, 0, 6].contains i
def rpFl : List (Nat × Nat) := [(12, 0), (0, 1), (1, 2), (2, 3), (3, 4), (4, 5), (5, 13), (12, 6), (6, 7), (7, 8), (8, 9), (9, 10), (10, 11), (11, 13)]
def rpR (i j : Nat) : Int := capC rpP [0, 3] [2, 5] i j - (if rpFl.contains (i, j) then 1 else 0) + (if rpFl.contains (j, i) then 1 else 0)
theorem rp_cap : capS 14 (capC rpP [0, 3] [2, 5]) rpS = 2 := by decide +kernel
theorem rp_nn : ∀ i, i < 14 → ∀ j, j < 14 → 0 ≤ rpR i j := by decide +kernel
theorem rp_nt : ∀ i, i < 14 → sumF 14 (fun k => capC rpP [0, 3] [2, 5] i k - rpR i k) = valX 12 13 2 i := by decide +kernel
theorem rp_flow : RFlow 14 (capC rpP [0, 3] [2, 5]) rpR (valX 12 13 2) :=
  ⟨fun i j hi hj => rp_nn i hi j hj, fun i j _ _ => by unfold rpR; omega, rp_nt⟩
theorem _root_.Go.Proofs.YtpafjhjpchdcdaaGreatDoor.RFlow.eq_cap {N : Nat} {C R : Nat → Nat → Int} {s t : Nat} {n : Int} (h : RFlow N C R (valX s t n)) (hs : s < N) (S : Nat → Bool) (h1 : S s = true) (h2 : S t = false) (hc : ∀ i k, i < N → k < N → S i = true → S k = false → R i k = 0) : n = capS N C S := by
  rw [← sumF_val (n := n) hs S h1 h2, h.cross S]
  exact sumF_congr fun i hi => sumF_congr fun k hk => by
    cases a : S i with
    | false => simp
    | true =>
      cases b : S k with
      | true => simp
      | false => rw [hc i k hi hk a b]; simp
theorem mostR_cap {p : Pl} {src snk : List Int} {rm : List Int} {n : Int} (h : MostR p src snk rm n) : ∃ S : Nat → Bool, S (2 * p.ms.length) = true ∧ S (2 * p.ms.length + 1) = false ∧ n = capS (2 * p.ms.length + 2) (capC p src snk) S := by
  obtain ⟨bf, ord, h1, h2, h3⟩ := h.cl
  refine ⟨fun i => decide (i ∈ ord), decide_eq_true h1.hd, decide_eq_false h3, h.fl.eq_cap (by omega) _ (decide_eq_true h1.hd) (decide_eq_false h3) fun i k hi hk hS hS' => ?_⟩
  have hm : i ∈ ord := of_decide_eq_true hS
  have hno : k ∉ ord := of_decide_eq_false hS'
  have h0 := h.fl.nn i k hi hk
  obtain ⟨j, hj, e⟩ := List.getElem_of_mem hm
  by_cases hp : 0 < matR rm i k
  · exact absurd (h2 j hj hj k hk (by rw [e]; exact hp)) hno
  · omega
theorem rp_most {rm : List Int} {n : Int} (h : MostR rpP [0, 3] [2, 5] rm n) : n = 2 := by
  obtain ⟨S, h1, h2, h3⟩ := mostR_cap h
  have h4 := rp_flow.le_cap (by omega) S h1 h2
  have h5 := h.fl.le_cap (by omega) rpS rfl rfl
  rw [show 2 * rpP.ms.length + 2 = 14 from rfl] at h3 h5
  rw [rp_cap] at h5
  omega
end Go.Proofs.YtpafjhjpchdcdaaGreatDoor.Nu
/- Walks: routeRuns. -/
namespace Go.Proofs.YtpafjhjpchdcdaaGreatDoor.Nu
open Go Go.Proofs Go.RowKit Go.Proofs.YtpafjhjpchdcdaaGreatDoor
def oatsB : ByteArray := ⟨#[111, 97, 116, 115]⟩
theorem rp_start : startE rpP (emptyS 6) [0, 1, 2] oatsB = 0 := by decide +kernel
def rpB : List Sx := startTo rpP [0, 1, 2] oatsB (emptyS 6) 3
theorem rpB_len : rpB.length = 6 := by unfold rpB; rw [startTo_len]; rfl
theorem rpB_2 : (rpB.getD 2 s0).grain = oatsB := by decide +kernel
theorem rpE_sz : SzR (emptyS 6) := by intro s hs; simp [emptyS] at hs; subst hs; decide
section
variable {w : World} {g1 g2 : Nat} (hwd : WdR w) (hpl : PlR w w.heap.size (.slice (some ⟨g1, 0, none⟩) 6 6) (.slice (some ⟨g2, 0, none⟩) 5 5) rpP)
include hwd hpl
theorem rr_most {s t : Value} (hs : Sl encI 1 w w.heap.size s [0, 3]) (ht : Sl encI 1 w w.heap.size t [2, 5]) : Calls Tryz.prog 15 #[.agg #[.slice (some ⟨g1, 0, none⟩) 6 6, .slice (some ⟨g2, 0, none⟩) 5 5], s, t] w (Ret (.tuple #[.int .i64 2, .int .i64 0]) w) := by
  refine (most60 w _ _ s t rpP _ _ hwd hpl hs ht).mono ?_
  rintro e w' ⟨n, rfl, _, h, hb⟩
  obtain ⟨rm, hr⟩ := h rp_both
  rw [rp_most hr, rp_both]
  exact ⟨rfl, hb⟩
def SxP (w : World) (l : List Sx) (e : Ending) (w' : World) : Prop := ∃ a cp, e = .returned (.tuple #[.slice a l.length cp, .int .i64 0]) ∧ Sl Sx.enc 3 w' w'.heap.size (.slice a l.length cp) l ∧ Below w.heap.size w w'
omit hwd hpl in
theorem own_sxP {w w' : World} {v : Value} {l : List Sx} (hl : l.length ≤ 1000000000) (ho : Own Sx.enc 3 58 w' w.heap.size v l) (hb : Below w.heap.size w w') : SxP w l (.returned (.tuple #[v, .int .i64 0])) w' := by
  have h := Sl.of_owns Sx.enc_len hl ho
  obtain ⟨a, cp, rfl, _, _⟩ := id h
  exact ⟨a, cp, rfl, h, hb⟩
theorem rr_empty : Calls Tryz.prog 6 #[.agg #[.slice (some ⟨g1, 0, none⟩) 6 6, .slice (some ⟨g2, 0, none⟩) 5 5]] w (SxP w (emptyS 6)) := by
  refine (empty36 w _ _ rpP hwd hpl).mono ?_
  rintro e w' ⟨v, rfl, ho, hb⟩
  rw [rp_ck, if_neg (by simp)] at ho
  rw [rp_ck]
  exact own_sxP (by simp [emptyS]) ho hb
theorem rr_start {a y : Value} (ha : Sl Sx.enc 3 w w.heap.size a (emptyS 6)) (hy : Sl encI 1 w w.heap.size y [0, 1, 2]) : Calls Tryz.prog 10 #[.agg #[.slice (some ⟨g1, 0, none⟩) 6 6, .slice (some ⟨g2, 0, none⟩) 5 5], a, y, .string ⟨#[111, 97, 116, 115]⟩] w (SxP w rpB) := by
  refine (start26 w _ _ a y oatsB rpP (emptyS 6) [0, 1, 2] hwd hpl ha rpE_sz hy (by decide)).mono ?_
  rintro e w' ⟨v, rfl, ho, hb⟩
  rw [rp_start, if_neg (by simp)] at ho
  rw [rp_start]
  exact own_sxP (by rw [rpB_len]; omega) ho hb
end
set_option maxRecDepth 100000 in
theorem rr_fill (w : World) (hw : TbR w) (q1 q3 q4 c1 c3 c4 qa : Nat) (h1 : w.cell? ⟨q1, 0, none⟩ = some (.slice (some ⟨qa, 0, none⟩) 0 0)) (hz1 : q1 < w.heap.size) (hc1 : 1 ≤ c1) (hx : Sl Ly.enc 3 w w.heap.size (.slice (some ⟨q4, 0, none⟩) 1 c4) [⟨oatsB, 4, some ⟨q3, 0, none⟩, c3⟩]) (hs : ShR w w.heap.size (.slice (some ⟨q3, 0, none⟩) 1 c3)) :
    Calls Tryz.prog 9 #[binV 9 (.slice (some ⟨q1, 0, none⟩) 1 c1), .int .i64 0, .slice (some ⟨q4, 0, none⟩) 1 c4] w fun e w' => Below w.heap.size w w' ∧ ∃ b o c a k, e = .returned (.tuple #[binV 9 (.slice (some ⟨b, o, none⟩) 1 c), .int .i64 0]) ∧ b < w'.heap.size ∧ w'.cell? ⟨b, o, none⟩ = some (.slice a 1 k) := by
  have hce : CeR w (.slice (some ⟨q1, 0, none⟩) 1 c1) [] := ⟨⟨q1, 0, c1, _, _, _, rfl, hc1, hz1, h1, ⟨Sl.nil _ _ _ _ _ _, by simp, by simp⟩⟩⟩
  have hly : LyR w (.slice (some ⟨q4, 0, none⟩) 1 c4) [⟨oatsB, 4, some ⟨q3, 0, none⟩, c3⟩] := ⟨hx, fun y hy => by
    obtain rfl := List.mem_singleton.1 hy
    exact ⟨(by decide : isName oatsB = true), (by decide : (1 : Int) ≤ 4), (by decide : (4 : Int) ≤ 10000)⟩, fun y hy => by
    obtain rfl := List.mem_singleton.1 hy
    exact hs⟩
  refine (fill9 w hw 9 _ [] _ (by decide) (by decide) hce (by simp) _ c4 hly rfl (by simp [sumM])).mono ?_
  rintro e w' ⟨hb, ⟨hm, _⟩ | ⟨hm, cv, x, y, rfl, hcx, _⟩⟩
  · rw [List.nil_append, mix_one (by simp)] at hm
    cases hm
  · obtain ⟨b, o, c, a, n, k, rfl, _, h3, h4, h5⟩ := hcx.ex
    obtain rfl : n = 1 := by obtain ⟨a', c', e, _⟩ := h5.sl; injection e
    exact ⟨hb, b, o, c, a, k, rfl, h3, h4⟩
set_option maxRecDepth 100000 in
set_option maxHeartbeats 8000000 in
theorem routeRuns5 (w : World) (hw : TbR w) (hwd : WdR w) : Calls Tryz.prog 5 #[] w (Ret (.bool true) w) := by
  have HTB := Lib.hid (fun (w1 : World) (hb : Below w.heap.size w w1) => hw.later hb)
  have HWD := Lib.hid (fun (w1 : World) (hb : Below w.heap.size w w1) => hwd.later hb)
  clear hw hwd
  go_enter Tryz.func5, Tryz.ntmps5
  go_wp2_with fail
  refine (routePlant14 _).mono ?_
  rintro e1 w1 ⟨g1, g2, rfl, hpl, hb⟩
  have hba := alloc_below w1 (.cells #[.slice (some ⟨g1, 0, none⟩) 6 6, .slice (some ⟨g2, 0, none⟩) 5 5] 25)
  have HX := Lib.hid (Box.new w1 #[.slice (some ⟨g1, 0, none⟩) 6 6, .slice (some ⟨g2, 0, none⟩) 5 5] 25)
  have HP := Lib.hid (hpl.later hba)
  have HB := Lib.hid (hb.trans (hba.mono hb.size))
  clear hba hb hpl
  obtain ⟨p, hp⟩ : ∃ p, w1.heap.size = p := ⟨_, rfl⟩
  obtain ⟨W2, hW2⟩ : ∃ W, w1.alloc (.cells #[.slice (some ⟨g1, 0, none⟩) 6 6, .slice (some ⟨g2, 0, none⟩) 5 5] 25) = W := ⟨_, rfl⟩
  rw [hW2] at HX HP HB
  rw [hp] at HX
  obtain ⟨x0, x1, xf, xz⟩ := HX.out.v2
  go_wp2_with fail
  have hb3 : Below W2.heap.size W2 ((W2.alloc (.cells #[.int .i64 0, .int .i64 3] 3)).alloc (.cells #[.int .i64 2, .int .i64 5] 3)) := ((Below.refl _ _).alloc (Nat.le_refl _) _).alloc (by simp) _
  have HS1 := Lib.hid ((sl_litAt (f := encI) (sz := 1) encI_len [0, 3] W2 #[.int .i64 0, .int .i64 3] 3 2 _ rfl rfl rfl (by simp)).later (alloc_below (W2.alloc (.cells #[.int .i64 0, .int .i64 3] 3)) (.cells #[.int .i64 2, .int .i64 5] 3)))
  have HS2 := Lib.hid (sl_litAt (f := encI) (sz := 1) encI_len [2, 5] (W2.alloc (.cells #[.int .i64 0, .int .i64 3] 3)) #[.int .i64 2, .int .i64 5] 3 2 (W2.heap.size + 1) (by simp) rfl rfl (by simp))
  replace HX := Lib.hid (HX.out.later hb3)
  replace HP := Lib.hid (HP.out.later hb3)
  replace HB := Lib.hid (HB.out.trans (hb3.mono HB.out.size))
  clear hb3 x0 x1 xf xz
  refine (rr_most (HWD.out _ HB.out) HP.out HS1.out HS2.out).mono ?_
  rintro e3 w3 ⟨rfl, hb⟩
  replace HX := Lib.hid (HX.out.later hb)
  replace HP := Lib.hid (HP.out.later hb)
  replace HB := Lib.hid (HB.out.trans (hb.mono HB.out.size))
  clear hb HS1 HS2 hW2
  obtain ⟨x0, x1, xf, xz⟩ := HX.out.v2
  go_wp2_with fail
  refine (rr_empty (HWD.out _ HB.out) HP.out).mono ?_
  rintro e4 w4 ⟨a4, c4, rfl, hs4, hb⟩
  replace HX := Lib.hid (HX.out.later hb)
  replace HP := Lib.hid (HP.out.later hb)
  replace HB := Lib.hid (HB.out.trans (hb.mono HB.out.size))
  have HS4 := Lib.hid hs4
  clear hb hs4 x0 x1 xf xz
  obtain ⟨x0, x1, xf, xz⟩ := HX.out.v2
  go_wp2_with fail
  have hba := alloc_below w4 (.cells #[.int .i64 0, .int .i64 1, .int .i64 2] 3)
  have HS5 := Lib.hid (sl_litAt (f := encI) (sz := 1) encI_len [0, 1, 2] w4 #[.int .i64 0, .int .i64 1, .int .i64 2] 3 3 _ rfl rfl rfl (by simp))
  replace HX := Lib.hid (HX.out.later hba)
  replace HP := Lib.hid (HP.out.later hba)
  replace HB := Lib.hid (HB.out.trans (hba.mono HB.out.size))
  replace HS4 := Lib.hid (HS4.out.later hba)
  clear hba x0 x1 xf xz
  refine (rr_start (HWD.out _ HB.out) HP.out HS4.out HS5.out).mono ?_
  rintro e5 w5 ⟨a5, c5, rfl, hs5, hb⟩
  replace HB := Lib.hid (HB.out.trans (hb.mono HB.out.size))
  have HS6 := Lib.hid hs5
  clear hb hs5 HX HP HS4 HS5
  rw [rpB_len] at HS6 ⊢
  go_wp2_with fail
  have hb5 : Below w5.heap.size w5 (((((w5.alloc (.cells #[] 49)).alloc (.cells #[.slice (some ⟨w5.heap.size, 0, none⟩) 0 0] 50)).alloc (.cells #[.string ⟨#[109, 97, 115, 115]⟩, .int .i64 0, .int .i64 9, .int .i64 0, .slice (some ⟨w5.heap.size + 1, 0, none⟩) 1 1] 37)).alloc (.cells #[.string ⟨#[97]⟩, .string ⟨#[49]⟩] 46)).alloc (.cells #[.string ⟨#[111, 97, 116, 115]⟩, .int .i64 4, .slice (some ⟨w5.heap.size + 1 + 1 + 1, 0, none⟩) 1 1] 49)) := (((((Below.refl _ _).alloc (Nat.le_refl _) _).alloc (by simp) _).alloc (by first | (simp; done) | (simp; omega)) _).alloc (by first | (simp; done) | (simp; omega)) _).alloc (by first | (simp; done) | (simp; omega)) _
  have hcell : (((((w5.alloc (.cells #[] 49)).alloc (.cells #[.slice (some ⟨w5.heap.size, 0, none⟩) 0 0] 50)).alloc (.cells #[.string ⟨#[109, 97, 115, 115]⟩, .int .i64 0, .int .i64 9, .int .i64 0, .slice (some ⟨w5.heap.size + 1, 0, none⟩) 1 1] 37)).alloc (.cells #[.string ⟨#[97]⟩, .string ⟨#[49]⟩] 46)).alloc (.cells #[.string ⟨#[111, 97, 116, 115]⟩, .int .i64 4, .slice (some ⟨w5.heap.size + 1 + 1 + 1, 0, none⟩) 1 1] 49)).cell? ⟨w5.heap.size + 1, 0, none⟩ = some (.slice (some ⟨w5.heap.size, 0, none⟩) 0 0) := ((((Box.newAt (w5.alloc (.cells #[] 49)) #[.slice (some ⟨w5.heap.size, 0, none⟩) 0 0] 50 (n := w5.heap.size + 1) (by simp)).alloc _).alloc _).alloc _).cell 0
  have hsl := sl_litAt (f := Ly.enc) (sz := 3) Ly.enc_len [⟨oatsB, 4, some ⟨w5.heap.size + 1 + 1 + 1, 0, none⟩, 1⟩] ((((w5.alloc (.cells #[] 49)).alloc (.cells #[.slice (some ⟨w5.heap.size, 0, none⟩) 0 0] 50)).alloc (.cells #[.string ⟨#[109, 97, 115, 115]⟩, .int .i64 0, .int .i64 9, .int .i64 0, .slice (some ⟨w5.heap.size + 1, 0, none⟩) 1 1] 37)).alloc (.cells #[.string ⟨#[97]⟩, .string ⟨#[49]⟩] 46)) #[.string ⟨#[111, 97, 116, 115]⟩, .int .i64 4, .slice (some ⟨w5.heap.size + 1 + 1 + 1, 0, none⟩) 1 1] 49 1 (w5.heap.size + 1 + 1 + 1 + 1) (by simp) rfl rfl (by simp)
  have hsh := (sl_litAt (f := encSh) (sz := 2) encSh_len sh1 (((w5.alloc (.cells #[] 49)).alloc (.cells #[.slice (some ⟨w5.heap.size, 0, none⟩) 0 0] 50)).alloc (.cells #[.string ⟨#[109, 97, 115, 115]⟩, .int .i64 0, .int .i64 9, .int .i64 0, .slice (some ⟨w5.heap.size + 1, 0, none⟩) 1 1] 37)) #[.string ⟨#[97]⟩, .string ⟨#[49]⟩] 46 1 (w5.heap.size + 1 + 1 + 1) (by simp) rfl rfl (by simp [sh1])).later (alloc_below ((((w5.alloc (.cells #[] 49)).alloc (.cells #[.slice (some ⟨w5.heap.size, 0, none⟩) 0 0] 50)).alloc (.cells #[.string ⟨#[109, 97, 115, 115]⟩, .int .i64 0, .int .i64 9, .int .i64 0, .slice (some ⟨w5.heap.size + 1, 0, none⟩) 1 1] 37)).alloc (.cells #[.string ⟨#[97]⟩, .string ⟨#[49]⟩] 46)) (.cells #[.string ⟨#[111, 97, 116, 115]⟩, .int .i64 4, .slice (some ⟨w5.heap.size + 1 + 1 + 1, 0, none⟩) 1 1] 49))
  have HF := Lib.hid (rr_fill (((((w5.alloc (.cells #[] 49)).alloc (.cells #[.slice (some ⟨w5.heap.size, 0, none⟩) 0 0] 50)).alloc (.cells #[.string ⟨#[109, 97, 115, 115]⟩, .int .i64 0, .int .i64 9, .int .i64 0, .slice (some ⟨w5.heap.size + 1, 0, none⟩) 1 1] 37)).alloc (.cells #[.string ⟨#[97]⟩, .string ⟨#[49]⟩] 46)).alloc (.cells #[.string ⟨#[111, 97, 116, 115]⟩, .int .i64 4, .slice (some ⟨w5.heap.size + 1 + 1 + 1, 0, none⟩) 1 1] 49)) (HTB.out _ (HB.out.trans (hb5.mono HB.out.size))) (w5.heap.size + 1) (w5.heap.size + 1 + 1 + 1) (w5.heap.size + 1 + 1 + 1 + 1) 1 1 1 w5.heap.size hcell (by first | (simp; done) | (simp; omega)) (Nat.le_refl _) hsl hsh)
  replace HB := Lib.hid (HB.out.trans (hb5.mono HB.out.size))
  replace HS6 := Lib.hid (HS6.out.later hb5)
  clear hcell hsl hsh hb5
  refine HF.out.mono ?_
  rintro e6 w6 ⟨hb, b, o, c, a, k, rfl, hbz, hcell⟩
  replace HB := Lib.hid (HB.out.trans (hb.mono HB.out.size))
  replace HS6 := Lib.hid (HS6.out.later hb)
  clear hb HF
  obtain ⟨a6, c6, e6, _, hA6⟩ := HS6.out
  injection e6 with e7 e8 e9
  clear e8 e9
  obtain ⟨b6, o6, h6, hz6, hc6⟩ := hA6 (by rw [rpB_len]; omega)
  rw [← e7] at h6
  subst h6
  have ht := (hc6 2 (by rw [rpB_len]; omega)) 2 (.string oatsB) (by
    have h := rpB_2
    rw [List.getD_eq_getElem?_getD, List.getElem?_eq_getElem (by rw [rpB_len]; omega)] at h
    simp only [Option.getD_some] at h
    simp [Sx.enc, h])
  have ht2 : w6.cell? ⟨b6, o6 + 2 * 3 + 2, none⟩ = some (.string ⟨#[111, 97, 116, 115]⟩) := ht
  have HB6 := Lib.hid HB.out
  have HA := Lib.hid (HB.out.alloc HB.out.size (.cells #[.string ⟨#[109, 97, 115, 115]⟩, .int .i64 0, .int .i64 9, .int .i64 0, .slice (some ⟨b, o, none⟩) 1 c] 37))
  clear HS6 hA6 hc6 e7 ht HB
  go_wp2_with fail
  go_ret
  exact ⟨rfl, HA.out⟩
end Go.Proofs.YtpafjhjpchdcdaaGreatDoor.Nu
