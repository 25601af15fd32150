/- Lemmas on the way to the laws (part 15): Qh Tg Th Qi -/
import Derived.Test.YtlakcghdehdeiaaLib13
import Derived.Deep.RegionLaw
set_option linter.unusedVariables false
set_option linter.unusedSimpArgs false

/- Books with other masses, plainly. -/
namespace Go.Proofs.Ytlakcghdehdeiaa
open Go Go.Proofs Go.RowKit

def setT (t : Tk) (r : Rg) : Tk := { t with m := r }
/-- The book with these masses. -/
def Bk.setM (b : Bk) (rs : List Rg) : Bk := { b with ts := List.zipWith setT b.ts rs }
theorem setM_len {b : Bk} {rs : List Rg} (h : rs.length = b.ts.length) : (b.setM rs).ts.length = b.ts.length := by simp [Bk.setM, h]
theorem setM_get {b : Bk} {rs : List Rg} (h : rs.length = b.ts.length) (i : Nat) (hi : i < b.ts.length) : (b.setM rs).ts[i]'(by rw [setM_len h]; exact hi) = setT b.ts[i] (rs[i]'(by omega)) := by simp [Bk.setM]
theorem gain_setM (S : List Int) : ∀ (ts : List Tk) (rs : List Rg) (ms : List Int), rs.length = ts.length → gain S (List.zipWith setT ts rs) ms = gain S ts ms
  | [], _, _, _ => by simp
  | t :: ts, [], _, h => by simp at h
  | t :: ts, r :: rs, [], _ => by simp [gain]
  | t :: ts, r :: rs, m :: ms, h => by
    simp only [List.zipWith_cons_cons, gain]
    rw [gain_setM S ts rs ms (by simpa using h)]
    rfl
theorem any_setM (s : ByteArray) : ∀ (ts : List Tk) (rs : List Rg), rs.length = ts.length → (List.zipWith setT ts rs).any (fun x => x.id.toList == s.toList) = ts.any (fun x => x.id.toList == s.toList)
  | [], _, _ => by simp
  | t :: ts, [], h => by simp at h
  | t :: ts, r :: rs, h => by
    simp only [List.zipWith_cons_cons, List.any_cons]
    rw [any_setM s ts rs (by simpa using h)]
    rfl
theorem ck_setM {b : Bk} {rs : List Rg} (hok : ckBook b = 0) (h : rs.length = b.ts.length) (hr : ∀ r ∈ rs, 0 ≤ r.lo ∧ r.lo ≤ r.hi ∧ r.hi ≤ 999999999) : ckBook (b.setM rs) = 0 := by
  obtain ⟨h1, h2, h3, h4⟩ := (ckBook_ok b).1 hok
  refine (ckBook_ok _).2 ⟨h1, h2, by rw [setM_len h]; exact h3, fun i t ht => ?_⟩
  have hi : i < (b.setM rs).ts.length := (List.getElem?_eq_some_iff.1 ht).1
  have hi' : i < b.ts.length := by rwa [setM_len h] at hi
  rw [List.getElem?_eq_getElem hi] at ht
  obtain rfl := Option.some.inj ht
  rw [setM_get h i hi']
  have hk := ckTk_ok (h4 i _ (List.getElem?_eq_getElem hi'))
  have hm := ckMass_ok.2 (hr (rs[i]'(by omega)) (List.getElem_mem _))
  unfold ckTk
  have e : ((b.setM rs).ts.take i).any (fun x => x.id.toList == (setT b.ts[i] (rs[i]'(by omega))).id.toList) = false := by
    show ((List.zipWith setT b.ts rs).take i).any (fun x => x.id.toList == b.ts[i].id.toList) = false
    rw [List.take_zipWith, any_setM _ _ _ (by simp [h])]
    exact hk.2.1
  rw [e]
  obtain ⟨k1, k2, k3, k4, k5, k6⟩ := hk
  show (if isName b.ts[i].id = false then (8 : Int) else if false = true then 9 else if (badPl b.st.length b.ts[i].fr || badPl b.st.length b.ts[i].to) = true then 10 else if b.ts[i].fr = b.ts[i].to then 1 else ckMass _) = 0
  rw [k1, k3, k4, if_neg (by simp), if_neg (by simp), if_neg (by simp), if_neg k5]
  exact hm
/-- Assignments of the book with other masses. -/
theorem asg_setM {b : Bk} {rs : List Rg} {ms : List Int} (h : rs.length = b.ts.length) : IsAsg (b.setM rs) ms ↔ ms.length = b.ts.length ∧ (∀ i (h1 : i < rs.length) (h2 : i < ms.length), (rs[i]).has ms[i]) ∧ ∀ p (hp : p < b.st.length), (b.st[p]).has (gain [(p : Int)] b.ts ms) := by
  constructor
  · rintro ⟨h1, h2, h3⟩
    rw [setM_len h] at h1
    refine ⟨h1, fun i h4 h5 => ?_, fun p hp => ?_⟩
    · have := h2 i (by rw [setM_len h]; omega)
      rw [setM_get h i (by omega)] at this
      exact this
    · have := h3 p hp
      rwa [show (b.setM rs).ts = List.zipWith setT b.ts rs from rfl, gain_setM _ _ _ _ h] at this
  · rintro ⟨h1, h2, h3⟩
    refine ⟨by rw [setM_len h]; exact h1, fun i hi => ?_, fun p hp => ?_⟩
    · rw [setM_len h] at hi
      rw [setM_get h i hi]
      exact h2 i (by omega) (by omega)
    · rw [show (b.setM rs).ts = List.zipWith setT b.ts rs from rfl, gain_setM _ _ _ _ h]
      exact h3 p hp
theorem asg_iff {b : Bk} {ms : List Int} : IsAsg b ms ↔ ms.length = b.ts.length ∧ (∀ i (h1 : i < b.ts.length) (h2 : i < ms.length), (b.ts[i]).m.has ms[i]) ∧ ∀ p (hp : p < b.st.length), (b.st[p]).has (gain [(p : Int)] b.ts ms) :=
  ⟨fun ⟨h1, h2, h3⟩ => ⟨h1, fun i h4 _ => h2 i h4, h3⟩, fun ⟨h1, h2, h3⟩ => ⟨h1, fun i h4 => h2 i h4 (by omega), h3⟩⟩
/-- The ranges that Tighten gives. -/
structure TightS (b : Bk) (rs : List Rg) : Prop where
  len : rs.length = b.ts.length
  sp : ∀ i (h : i < rs.length), Span b (fun ms => ms.getD i 0) rs[i].lo rs[i].hi
theorem tightS_of {b : Bk} {rs : List Rg} (hok : OkBk b) (hl : rs.length = b.ts.length) (h : Tight b rs) : TightS b rs :=
  ⟨hl, fun i hi => extent_span hok (by omega) (h i rs[i] (List.getElem?_eq_getElem hi))⟩
theorem getD_at (ms : List Int) (i : Nat) (h : i < ms.length) : ms.getD i 0 = ms[i] := by rw [List.getD_eq_getElem?_getD, List.getElem?_eq_getElem h]; rfl
theorem TightS.mass {b : Bk} {rs : List Rg} (hok : OkBk b) (h : TightS b rs) : ∀ r ∈ rs, 0 ≤ r.lo ∧ r.lo ≤ r.hi ∧ r.hi ≤ 999999999 := by
  intro r hr
  obtain ⟨i, hi, rfl⟩ := List.mem_iff_getElem.1 hr
  obtain ⟨⟨m1, a1, e1⟩, ⟨m2, a2, e2⟩, h3⟩ := h.sp i hi
  have hi' : i < b.ts.length := by rw [← h.len]; exact hi
  have ht := hok.tk b.ts[i] (List.getElem_mem hi')
  have b1 := a1.tk i hi'
  have b2 := a2.tk i hi'
  have c1 := h3 m1 a1
  rw [show (fun ms : List Int => ms.getD i 0) m1 = m1[i]'(by rw [a1.len]; exact hi') from getD_at _ _ _] at e1 c1
  rw [show (fun ms : List Int => ms.getD i 0) m2 = m2[i]'(by rw [a2.len]; exact hi') from getD_at _ _ _] at e2
  unfold Rg.has at b1 b2
  omega
/-- The tight book has the same assignments. -/
theorem TightS.same {b : Bk} {rs : List Rg} (h : TightS b rs) {ms : List Int} : IsAsg (b.setM rs) ms ↔ IsAsg b ms := by
  rw [asg_setM h.len]
  constructor
  · rintro ⟨h1, h2, h3⟩
    refine asg_iff.2 ⟨h1, fun i h4 h5 => ?_, h3⟩
    have hi : i < rs.length := by rw [h.len]; exact h4
    obtain ⟨⟨m1, a1, e1⟩, ⟨m2, a2, e2⟩, _⟩ := h.sp i hi
    have b1 := a1.tk i h4
    have b2 := a2.tk i h4
    have b3 := h2 i hi h5
    rw [show (fun ms : List Int => ms.getD i 0) m1 = m1[i]'(by rw [a1.len]; exact h4) from getD_at _ _ _] at e1
    rw [show (fun ms : List Int => ms.getD i 0) m2 = m2[i]'(by rw [a2.len]; exact h4) from getD_at _ _ _] at e2
    unfold Rg.has at b1 b2 b3 ⊢
    omega
  · intro ha
    obtain ⟨h1, h2, h3⟩ := asg_iff.1 ha
    refine ⟨h1, fun i h4 h5 => ?_, h3⟩
    have := (h.sp i h4).2.2 ms ha
    rw [show (fun ms : List Int => ms.getD i 0) ms = ms[i] from getD_at _ _ _] at this
    exact this
theorem TightS.span {b : Bk} {rs : List Rg} (h : TightS b rs) {f : List Int → Int} {lo hi : Int} : Span (b.setM rs) f lo hi ↔ Span b f lo hi := by
  unfold Span
  simp only [h.same]
theorem TightS.con {b : Bk} {rs : List Rg} (hok : OkBk b) (h : TightS b rs) : Con (b.setM rs) ↔ Con b := by
  have hok2 : OkBk (b.setM rs) := by
    refine ⟨hok.st32, by rw [setM_len h.len]; exact hok.ts128, hok.st, fun t ht => ?_⟩
    obtain ⟨i, hi, rfl⟩ := List.mem_iff_getElem.1 ht
    have hi' : i < b.ts.length := by rwa [setM_len h.len] at hi
    rw [setM_get h.len i hi']
    have h1 := hok.tk b.ts[i] (List.getElem_mem hi')
    have h2 := h.mass hok (rs[i]'(by rw [h.len]; exact hi')) (List.getElem_mem _)
    obtain ⟨m1, m2, m3, m4, m5, _⟩ := h1
    exact ⟨m1, m2, m3, m4, m5, h2⟩
  rw [con_iff hok2, con_iff hok]
  simp only [h.same]
theorem TightS.unique {b : Bk} {rs us : List Rg} (h : TightS b rs) (h' : TightS b us) : us = rs := by
  apply List.ext_getElem (by rw [h.len, h'.len])
  intro i h1 h2
  have := (h'.sp i h1).unique (h.sp i h2)
  cases hu : us[i]
  cases hr : rs[i]
  rw [hu, hr] at this
  obtain ⟨rfl, rfl⟩ := this
  rfl
theorem TightS.back {b : Bk} {rs us : List Rg} (h : TightS b rs) (h' : TightS (b.setM rs) us) : us = rs := by
  refine h.unique ⟨by rw [h'.len, setM_len h.len], fun i hi => h.span.1 (h'.sp i hi)⟩
/-- The change of places is within the sum of their ranges. -/
theorem change_within {b : Bk} {P : List Int} (hP : OkPl b P) {lo hi : Int} (h : Span b (fun ms => gain P b.ts ms) lo hi) : stLo b P ≤ lo ∧ lo ≤ hi ∧ hi ≤ stHi b P := by
  have key : ∀ ms, IsAsg b ms → stLo b P ≤ gain P b.ts ms ∧ gain P b.ts ms ≤ stHi b P := by
    intro ms ha
    rw [gain_tot P hP.nodup]
    unfold stLo stHi
    have hin := hP.inr
    clear hP h
    induction P with
    | nil => simp [tot]
    | cons p P ih =>
      obtain ⟨p1, p2⟩ := hin p (by simp)
      have h1 := ha.pl p.toNat (by omega)
      rw [show ((p.toNat : Nat) : Int) = p by omega] at h1
      have ih := ih (fun q hq => hin q (by simp [hq]))
      unfold Rg.has at h1
      simp only [tot]
      rw [List.getD_eq_getElem?_getD, List.getElem?_eq_getElem (show p.toNat < b.st.length by omega)]
      dsimp only [Option.getD]
      omega
  obtain ⟨⟨m1, a1, e1⟩, ⟨m2, a2, e2⟩, h3⟩ := h
  have k1 := key m1 a1
  have k2 := key m2 a2
  have k3 := h3 m1 a1
  have e1' : gain P b.ts m1 = lo := e1
  have e2' : gain P b.ts m2 = hi := e2
  have k3' : lo ≤ gain P b.ts m1 ∧ gain P b.ts m1 ≤ hi := k3
  omega
end Go.Proofs.Ytlakcghdehdeiaa

/- Walks: changed. -/
namespace Go.Proofs.Ytlakcghdehdeiaa
open Go Go.Proofs Go.RowKit

/-- 'append(s, l...)' as a step of a region that draws its order. -/
theorem step_cat {α : Type} (f : α → List Value) (sz bytes : Nat) (t e : TypeId) (z : Value) {P : Program} (hT : P.underlying t = some (.slice e)) (hI : (P.info? e).map (fun i => (i.zero, i.size, i.bytes)) = some (some z, sz, bytes))
    (hzs : z.cells.size = sz) (hsz : 0 < sz) (hby : bytes ≤ 1000) (hf : ∀ x, (f x).length = sz) (h1c : ∀ x, ∀ u ∈ f x, u.oneCell' = true)
    (l l2 : List α) (base : Nat) (w : World) (v : Value) (hown : Own f sz e w base v l) (hbase : base ≤ w.heap.size) (hlen : l.length + l2.length ≤ 2000000000) (p : Addr) (c : Nat)
    (hat : ∀ i (h : i < l2.length), ∀ j u, (f l2[i])[j]? = some u → w.cell? (p.add (i * sz + j)) = some u)
    {ops : Array Oper} {o : Oper} {a : Act} {K : Act → World → Prop} {Q : Exit → Act → World → Prop} {E : Prop} (hgd : o.guard = none) (s y : Operand)
    (ho : o.op = .call { callee := .builtin .append, args := #[s, y], argTypes := #[t, t] }) (hs : a.eval s = v) (hy : a.eval y = .slice (some p) l2.length c)
    (h : ∀ v' w', Own f sz e w' base v' (l ++ l2) → w.grownBy w' v.ownBlock → K (a.put o.dst v') w') :
    if Region.wanted o (yielded ops a.tmps) = true then Oper.wp P o a w K Q else E := by
  have hw : Region.wanted o (yielded ops a.tmps) = true := by simp [Region.wanted, hgd]
  rw [if_pos hw]
  obtain ⟨i, hi, hz0, hz1, hz2⟩ := info_parts hI
  have hmul : (l.length + l2.length) * bytes ≤ 2000000000 * 1000 := Nat.mul_le_mul hlen hby
  refine wp_append_own _ s y t ho base e i z sz bytes hT hi hz0 hz1 hz2 hzs hsz v l.length _ hs hown p l2.length c (l2.flatMap f) hy (flat_length f sz hf l2) ?_ ?_ (by simp [maxLen]; omega) (by omega) hbase ?_
  · intro j u hu
    have hj : j < l2.length * sz := by rw [← flat_length f sz hf l2]; exact (List.getElem?_eq_some_iff.1 hu).1
    have hd : j / sz < l2.length := (Nat.div_lt_iff_lt_mul hsz).2 hj
    have hm := Nat.div_add_mod j sz
    rw [Nat.mul_comm] at hm
    have h2 := flat_get f sz hf l2 (j / sz) hd (j % sz) (Nat.mod_lt _ hsz)
    rw [hm, hu] at h2
    have h3 := hat (j / sz) hd (j % sz) u h2.symm
    rwa [hm] at h3
  · intro u hu
    obtain ⟨x, _, hx⟩ := List.mem_flatMap.1 hu
    exact h1c x u hx
  · intro v' w' h1 h2 _
    refine h v' w' ?_ h2
    unfold Own
    rw [List.length_append, List.flatMap_append]
    exact h1

theorem cat_own {w : World} {g B : Nat} (h : w.heap[g]? = some (.cells #[] 53 (0, 0))) (hb : B ≤ g) : Own Tk.enc 5 53 w B (.slice (some ⟨g, 0, none⟩) 0 0) [] :=
  ⟨rfl, .inr ⟨g, 0, #[], rfl, hb, h, Nat.le_refl _, by simp, rfl, rfl⟩⟩
theorem row_at {w : World} {cs : Array Value} {e : TypeId} {g : Nat} (hg : w.heap.size = g) : (w.alloc (.cells cs e)).heap[g]? = some (.cells cs e (0, 0)) := by
  subst hg; exact heap_alloc_new _ _
theorem row_old {w : World} {o c : Obj} {g : Nat} (h : w.heap[g]? = some c) : (w.alloc o).heap[g]? = some c := by
  rw [heap_alloc_old w o (Array.getElem?_eq_some_iff.1 h).1]; exact h
theorem row_drew {w : World} {c : Obj} {g : Nat} (h : w.heap[g]? = some c) : w.drew.heap[g]? = some c := h

def fr42 (N g : Nat) (i r : Value) (z : Nat → Value) : List Value := [z 0, i, z 2, .pointer (some ⟨N, 0, none⟩), z 4, .pointer (some ⟨N + 1, 0, none⟩), .pointer (some ⟨N + 1 + 1, 0, none⟩), .pointer (some ⟨g, 0, none⟩), z 8, z 9, z 10, z 11, z 12, z 13, z 14, z 15, z 16, z 17, z 18, z 19, z 20, z 21]
theorem fr42_of (N g : Nat) (i r : Value) (L : List Value) (hL : L.length = 22) (h1 : L[1]? = some (i)) (h3 : L[3]? = some (.pointer (some ⟨N, 0, none⟩))) (h5 : L[5]? = some (.pointer (some ⟨N + 1, 0, none⟩))) (h6 : L[6]? = some (.pointer (some ⟨N + 1 + 1, 0, none⟩))) (h7 : L[7]? = some (.pointer (some ⟨g, 0, none⟩))) : ∃ z, L = fr42 N g i r z := by
  refine ⟨fun i => L.getD i undef, ?_⟩
  unfold fr42
  have e := list_range L 22 hL
  have e1 : L.getD 1 undef = i := by rw [List.getD_eq_getElem?_getD, h1]; rfl
  have e3 : L.getD 3 undef = .pointer (some ⟨N, 0, none⟩) := by rw [List.getD_eq_getElem?_getD, h3]; rfl
  have e5 : L.getD 5 undef = .pointer (some ⟨N + 1, 0, none⟩) := by rw [List.getD_eq_getElem?_getD, h5]; rfl
  have e6 : L.getD 6 undef = .pointer (some ⟨N + 1 + 1, 0, none⟩) := by rw [List.getD_eq_getElem?_getD, h6]; rfl
  have e7 : L.getD 7 undef = .pointer (some ⟨g, 0, none⟩) := by rw [List.getD_eq_getElem?_getD, h7]; rfl
  rw [← e1, ← e3, ← e5, ← e6, ← e7]
  exact e
theorem fr42_act (N g : Nat) (i r : Value) (A : Act) (ds : List Deferred) (hds : A.defers = ds) (hL : A.tmps.size = 22) (h1 : A.tmps[1]? = some (i)) (h3 : A.tmps[3]? = some (.pointer (some ⟨N, 0, none⟩))) (h5 : A.tmps[5]? = some (.pointer (some ⟨N + 1, 0, none⟩))) (h6 : A.tmps[6]? = some (.pointer (some ⟨N + 1 + 1, 0, none⟩))) (h7 : A.tmps[7]? = some (.pointer (some ⟨g, 0, none⟩))) : ∃ z, A = { tmps := (fr42 N g i r z).toArray, defers := ds } := by
  obtain ⟨z, e⟩ := fr42_of N g i r A.tmps.toList (by rw [Array.length_toList]; exact hL) (by rw [Array.getElem?_toList]; exact h1) (by rw [Array.getElem?_toList]; exact h3) (by rw [Array.getElem?_toList]; exact h5) (by rw [Array.getElem?_toList]; exact h6) (by rw [Array.getElem?_toList]; exact h7)
  exact ⟨z, by cases A; subst hds; dsimp only at e ⊢; rw [← e]⟩

def fp42 (N : Nat) (i r : Value) (z : Nat → Value) : List Value := [z 0, i, z 2, .pointer (some ⟨N, 0, none⟩), z 4, .pointer (some ⟨N + 1, 0, none⟩), .pointer (some ⟨N + 1 + 1, 0, none⟩), z 7, z 8, z 9, z 10, z 11, z 12, z 13, z 14, z 15, z 16, z 17, z 18, z 19, z 20, z 21]
theorem fp42_of (N : Nat) (i r : Value) (L : List Value) (hL : L.length = 22) (h1 : L[1]? = some (i)) (h3 : L[3]? = some (.pointer (some ⟨N, 0, none⟩))) (h5 : L[5]? = some (.pointer (some ⟨N + 1, 0, none⟩))) (h6 : L[6]? = some (.pointer (some ⟨N + 1 + 1, 0, none⟩))) : ∃ z, L = fp42 N i r z := by
  refine ⟨fun i => L.getD i undef, ?_⟩
  unfold fp42
  have e := list_range L 22 hL
  have e1 : L.getD 1 undef = i := by rw [List.getD_eq_getElem?_getD, h1]; rfl
  have e3 : L.getD 3 undef = .pointer (some ⟨N, 0, none⟩) := by rw [List.getD_eq_getElem?_getD, h3]; rfl
  have e5 : L.getD 5 undef = .pointer (some ⟨N + 1, 0, none⟩) := by rw [List.getD_eq_getElem?_getD, h5]; rfl
  have e6 : L.getD 6 undef = .pointer (some ⟨N + 1 + 1, 0, none⟩) := by rw [List.getD_eq_getElem?_getD, h6]; rfl
  rw [← e1, ← e3, ← e5, ← e6]
  exact e
theorem fp42_act (N : Nat) (i r : Value) (A : Act) (ds : List Deferred) (hds : A.defers = ds) (hL : A.tmps.size = 22) (h1 : A.tmps[1]? = some (i)) (h3 : A.tmps[3]? = some (.pointer (some ⟨N, 0, none⟩))) (h5 : A.tmps[5]? = some (.pointer (some ⟨N + 1, 0, none⟩))) (h6 : A.tmps[6]? = some (.pointer (some ⟨N + 1 + 1, 0, none⟩))) : ∃ z, A = { tmps := (fp42 N i r z).toArray, defers := ds } := by
  obtain ⟨z, e⟩ := fp42_of N i r A.tmps.toList (by rw [Array.length_toList]; exact hL) (by rw [Array.getElem?_toList]; exact h1) (by rw [Array.getElem?_toList]; exact h3) (by rw [Array.getElem?_toList]; exact h5) (by rw [Array.getElem?_toList]; exact h6)
  exact ⟨z, by cases A; subst hds; dsimp only at e ⊢; rw [← e]⟩


theorem ca1 {W0 w' : World} {N : Nat} {s v : Value} {l : List Tk} (hg : (W0.alloc (.cells #[] 53)).drew.grownBy w' (some W0.heap.size)) (ho : Own Tk.enc 5 53 w' N v l) :
    Box (w'.alloc (.cells #[s, v] 38)) w'.heap.size 38 [s, v] ∧ Own Tk.enc 5 53 (w'.alloc (.cells #[s, v] 38)) N v l ∧ Below W0.heap.size W0 (w'.alloc (.cells #[s, v] 38)) ∧ W0.heap.size ≤ w'.heap.size := by
  have h0 : Below W0.heap.size W0 (W0.alloc (.cells #[] 53)).drew := ((Below.refl W0.heap.size W0).alloc (Nat.le_refl _) _).drew
  have h1 : Below W0.heap.size W0 w' := h0.grown hg h0.size (fun k hk => by have : W0.heap.size = k := Option.some.inj hk; omega)
  exact ⟨Box.new w' #[s, v] 38, ho.alloc _, h1.alloc h1.size _, h1.size⟩
theorem ca2 {W0 w' : World} {N : Nat} {s v : Value} {l : List Tk} (hg : ((W0.alloc (.cells #[] 53)).alloc (.cells #[.slice none 0 0, .slice none 0 0] 38)).drew.grownBy w' (some W0.heap.size)) (ho : Own Tk.enc 5 53 w' N v l) :
    Box ((w'.setCell ⟨W0.heap.size + 1, 0, none⟩ s).setCell ⟨W0.heap.size + 1, 1, none⟩ v) (W0.heap.size + 1) 38 [s, v] ∧ Own Tk.enc 5 53 ((w'.setCell ⟨W0.heap.size + 1, 0, none⟩ s).setCell ⟨W0.heap.size + 1, 1, none⟩ v) N v l ∧
      Below W0.heap.size W0 ((w'.setCell ⟨W0.heap.size + 1, 0, none⟩ s).setCell ⟨W0.heap.size + 1, 1, none⟩ v) ∧ W0.heap.size ≤ W0.heap.size + 1 := by
  have h0 : Below W0.heap.size W0 ((W0.alloc (.cells #[] 53)).alloc (.cells #[.slice none 0 0, .slice none 0 0] 38)).drew := (((Below.refl W0.heap.size W0).alloc (Nat.le_refl _) _).alloc (by simp) _).drew
  have h1 : Below W0.heap.size W0 w' := h0.grown hg h0.size (fun k hk => by have : W0.heap.size = k := Option.some.inj hk; omega)
  have hx : Box ((W0.alloc (.cells #[] 53)).alloc (.cells #[.slice none 0 0, .slice none 0 0] 38)).drew (W0.heap.size + 1) 38 [.slice none 0 0, .slice none 0 0] := (Box.newAt _ _ _ (by simp)).drew
  have hx1 : Box w' (W0.heap.size + 1) 38 [.slice none 0 0, .slice none 0 0] := hx.grown hg (by simp)
  have hne := ho.other_type hx1 (by decide)
  exact ⟨(hx1.set 0 s).set 1 v, (ho.other _ hne).other _ hne, (h1.setCell (by simp) _).setCell (by simp) _, by omega⟩
theorem ca3 {W0 w' : World} {N : Nat} {s v : Value} {l : List Tk} (hg : ((W0.alloc (.cells #[.slice none 0 0, .slice none 0 0] 38)).alloc (.cells #[] 53)).drew.grownBy w' (some (W0.heap.size + 1))) (ho : Own Tk.enc 5 53 w' N v l) :
    Box ((w'.setCell ⟨W0.heap.size, 0, none⟩ s).setCell ⟨W0.heap.size, 1, none⟩ v) W0.heap.size 38 [s, v] ∧ Own Tk.enc 5 53 ((w'.setCell ⟨W0.heap.size, 0, none⟩ s).setCell ⟨W0.heap.size, 1, none⟩ v) N v l ∧
      Below W0.heap.size W0 ((w'.setCell ⟨W0.heap.size, 0, none⟩ s).setCell ⟨W0.heap.size, 1, none⟩ v) ∧ W0.heap.size ≤ W0.heap.size := by
  have h0 : Below W0.heap.size W0 ((W0.alloc (.cells #[.slice none 0 0, .slice none 0 0] 38)).alloc (.cells #[] 53)).drew := (((Below.refl W0.heap.size W0).alloc (Nat.le_refl _) _).alloc (by simp) _).drew
  have h1 : Below W0.heap.size W0 w' := h0.grown hg h0.size (fun k hk => by have : W0.heap.size + 1 = k := Option.some.inj hk; omega)
  have hx : Box ((W0.alloc (.cells #[.slice none 0 0, .slice none 0 0] 38)).alloc (.cells #[] 53)).drew W0.heap.size 38 [.slice none 0 0, .slice none 0 0] := ((Box.new W0 _ _).alloc _).drew
  have hx1 : Box w' W0.heap.size 38 [.slice none 0 0, .slice none 0 0] := hx.grown hg (by simp)
  have hne := ho.other_type hx1 (by decide)
  exact ⟨(hx1.set 0 s).set 1 v, (ho.other _ hne).other _ hne, (h1.setCell (Nat.le_refl _) _).setCell (Nat.le_refl _) _, Nat.le_refl _⟩
def Ch1 (N : Nat) (W0 : World) (i r s1 : Value) (ts : List Tk) (e : Exit) (a : Act) (W' : World) : Prop :=
  e = .normal ∧ ∃ g v', (∃ z, a = { tmps := (fr42 N g i r z).toArray, defers := [] }) ∧ Box W' g 38 [s1, v'] ∧ Own Tk.enc 5 53 W' N v' ts ∧ Below W0.heap.size W0 W' ∧ W0.heap.size ≤ g
noncomputable def c42 : Code := Try.f42.body.getD .skip
noncomputable def r42 : Code := codeL (codeR c42)
noncomputable def s42 : Code := codeR (codeR c42)

set_option maxRecDepth 100000 in
set_option maxHeartbeats 4000000 in
theorem r42_walk (W0 : World) (N : Nat) (v1 i r : Value) (bb off : Nat) (n2 : Nat) (ts : List Tk) (z : Nat → Value) (hN : N < W0.heap.size) (hx : Box W0 N 38 [v1, .slice (some ⟨bb, off, none⟩) ts.length n2]) (hl : ts.length ≤ 1000)
    (hat : ∀ i (h : i < ts.length), ∀ j u, (Tk.enc ts[i])[j]? = some u → W0.cell? ⟨bb, off + (i * 5 + j), none⟩ = some u) (hb2 : bb < W0.heap.size) (hv1 : ∃ a n c, v1 = .slice a n c) :
    r42.wp Try.prog (Ch1 N W0 i r v1 ts) { tmps := (fp42 N i r z).toArray, defers := [] } W0 := by
  obtain ⟨a1, m1, n1, rfl⟩ := hv1
  have x0 := hx.cell 0
  have x1 := hx.cell 1
  have xz := hx.lt
  simp only [List.getElem?_cons_zero, List.getElem?_cons_succ] at x0 x1
  have hN' : N ≤ W0.heap.size := Nat.le_of_lt hN
  have hNe : N ≠ W0.heap.size := Nat.ne_of_lt hN
  have hNe1 : N ≠ W0.heap.size + 1 := by omega
  have HN := Lib.hid hN'
  clear hN'
  have HAT := Lib.hid hat
  have HB2 := Lib.hid hb2
  have HL := Lib.hid hl
  clear hx hN hat hb2 hl
  simp only [r42, c42, codeL, codeR, Try.f42, Option.getD, fp42]
  refine wp_region_noPanic ?_
  go_region_law ((refine step_cat Tk.enc 5 48 36 53 _ Try.underlying36 Try.infoTk rfl (by decide) (by decide) Tk.enc_len' Tk.enc_one [] ts N _ _ (cat_own (by repeat (first | exact row_at (by simp) | refine row_old ?_ | refine row_drew ?_)) (by have := HN.out; first | exact this | omega)) (by have := HN.out; first | exact this | (simp; omega)) (by have := HL.out; simp; omega) ⟨bb, off, none⟩ n2 (by
      intro i h j u hu
      rw [Addr.add_lit]
      refine Eq.trans (Below.cell (w := W0) (p := ⟨bb, off + (i * 5 + j), none⟩) (B := W0.heap.size) ?_ HB2.out) (HAT.out i h j u hu)
      repeat (first | exact Below.refl _ _ | refine Below.alloc ?_ (by simp) _ | refine Below.drew ?_)) rfl _ _ rfl rfl rfl ?_; intro v' w' hown hgr; rw [List.nil_append] at hown; obtain ⟨av, cv, rfl⟩ := hown.shape; simp only [Value.ownBlock] at hgr; have q4 : N < w'.heap.size := Nat.lt_of_lt_of_le (by first | exact xz | (simp; omega)) hgr.size; have q5 := fun o => World.cell?_of_block (a := ⟨N, o, none⟩) (hgr.block N (by first | exact xz | (simp; omega)) (by simp; omega)); have q0 := fun o h1 h2 => World.cell?_of_block (a := ⟨W0.heap.size, o, none⟩) (hgr.block W0.heap.size h1 h2); have q1 := fun o h1 h2 => World.cell?_of_block (a := ⟨W0.heap.size + 1, o, none⟩) (hgr.block (W0.heap.size + 1) h1 h2); have q2 := fun o h1 h2 => World.frozen?_of_block (a := ⟨W0.heap.size, o, none⟩) (hgr.block W0.heap.size h1 h2); have q3 := fun o h1 h2 => World.frozen?_of_block (a := ⟨W0.heap.size + 1, o, none⟩) (hgr.block (W0.heap.size + 1) h1 h2)))
  all_goals refine NoPanic.normal ?_
  all_goals
    refine ⟨rfl, ?_⟩
    first
      | (with_reducible refine ⟨_, _, ?_, ca1 hgr hown⟩)
      | (with_reducible refine ⟨_, _, ?_, ca2 hgr hown⟩)
      | (with_reducible refine ⟨_, _, ?_, ca3 hgr hown⟩)
    apply fr42_act <;> rfl
end Go.Proofs.Ytlakcghdehdeiaa

/- Walks: changed. -/
namespace Go.Proofs.Ytlakcghdehdeiaa
open Go Go.Proofs Go.RowKit

/-- One ticket with another range. -/
def chT (ts : List Tk) (i : Nat) (r : Rg) : List Tk := match ts[i]? with | some t => ts.set i (setT t r) | none => ts
theorem chT_at {ts : List Tk} {i : Nat} (r : Rg) (h : i < ts.length) : chT ts i r = ts.set i (setT ts[i] r) := by
  unfold chT; rw [List.getElem?_eq_getElem h]
def Bk.ch (b : Bk) (i : Nat) (r : Rg) : Bk := { b with ts := chT b.ts i r }
def ChgPost (w : World) (v1 : Value) (b : Bk) (e : Ending) (w' : World) : Prop := ∃ v', e = .returned (.agg #[v1, v']) ∧ BkR w' w'.heap.size v1 v' b ∧ Below w.heap.size w w'
theorem chT_len (ts : List Tk) (i : Nat) (r : Rg) : (chT ts i r).length = ts.length := by unfold chT; split <;> simp
theorem chg_fin {w W' : World} {N g gg c' i : Nat} {s x y : Value} {b : Bk} {r : Rg} (hN : N = w.heap.size) (h1 : Sl Rg.enc 2 w w.heap.size s b.st) (hb : Below w.heap.size w W') (hx : Box W' g 38 [s, .slice (some ⟨gg, 0, none⟩) b.ts.length c']) (hr : Box W' (N + 1 + 1) 38 [x, y])
    (ho : Own Tk.enc 5 53 W' N (.slice (some ⟨gg, 0, none⟩) b.ts.length c') b.ts) (hi : i < b.ts.length) (hl : b.ts.length ≤ 1000) (hid : ∀ t ∈ b.ts, t.id.size ≤ 9223372036854775807) :
    ChgPost w s (b.ch i r) (.returned (.agg #[s, .slice (some ⟨gg, 0, none⟩) b.ts.length c']))
      ((((W'.setCell ⟨gg, i * 5 + 3, none⟩ (.int .i64 r.lo)).setCell ⟨gg, i * 5 + 3 + 1, none⟩ (.int .i64 r.hi)).setCell ⟨N + 1 + 1, 0, none⟩ s).setCell ⟨N + 1 + 1, 1, none⟩ (.slice (some ⟨gg, 0, none⟩) b.ts.length c')) := by
  subst hN
  have n2 := ho.other_type hr (by decide)
  have hge : w.heap.size ≤ gg := ho.lt' gg rfl
  have o1 := ho.set Tk.enc_len' i hi 3 (by omega) (.int .i64 r.lo) (setT b.ts[i] ⟨r.lo, b.ts[i].m.hi⟩) rfl
  have hl2 : (b.ts.set i (setT b.ts[i] ⟨r.lo, b.ts[i].m.hi⟩)).length = b.ts.length := by simp
  rw [← hl2] at o1
  have o2 := o1.set Tk.enc_len' i (by rw [hl2]; exact hi) 4 (by omega) (.int .i64 r.hi) (setT b.ts[i] r) (by rw [List.getElem_set_self]; rfl)
  rw [List.set_set, hl2] at o2
  have e : b.ts.set i (setT b.ts[i] r) = chT b.ts i r := (chT_at r hi).symm
  rw [e] at o2
  have o3 := (o2.other (a := ⟨w.heap.size + 1 + 1, 0, none⟩) s n2).other (a := ⟨w.heap.size + 1 + 1, 1, none⟩) (.slice (some ⟨gg, 0, none⟩) b.ts.length c') n2
  have hb2 : Below w.heap.size w ((((W'.setCell ⟨gg, i * 5 + 3, none⟩ (.int .i64 r.lo)).setCell ⟨gg, i * 5 + 3 + 1, none⟩ (.int .i64 r.hi)).setCell ⟨w.heap.size + 1 + 1, 0, none⟩ s).setCell ⟨w.heap.size + 1 + 1, 1, none⟩ (.slice (some ⟨gg, 0, none⟩) b.ts.length c')) :=
    (((hb.setCell hge _).setCell hge _).setCell (by simp; omega) _).setCell (by simp; omega) _
  refine ⟨_, rfl, ⟨h1.later hb2, ?_, ?_⟩, hb2⟩
  · exact o3.toSl Tk.enc_len (by rw [chT_len]; omega)
  · intro t ht
    have ht' : t ∈ b.ts.set i (setT b.ts[i] r) := by rw [← chT_at r hi]; exact ht
    rcases List.mem_or_eq_of_mem_set ht' with h | rfl
    · exact hid t h
    · exact hid b.ts[i] (List.getElem_mem hi)
set_option maxRecDepth 100000 in
set_option maxHeartbeats 1000000 in
theorem s42_walk (w W0 : World) (N g : Nat) (v1 v' : Value) (b : Bk) (i : Nat) (r : Rg) (z : Nat → Value) (hN : N = w.heap.size) (h1 : Sl Rg.enc 2 w w.heap.size v1 b.st) (hi : i < b.ts.length) (hl : b.ts.length ≤ 1000) (hid : ∀ t ∈ b.ts, t.id.size ≤ 9223372036854775807)
    (hb : Below w.heap.size w W0) (hx : Box W0 g 38 [v1, v']) (hrr : Box W0 (N + 1) 24 [.int .i64 r.lo, .int .i64 r.hi]) (hr : Box W0 (N + 1 + 1) 38 [.slice none 0 0, .slice none 0 0]) (ho : Own Tk.enc 5 53 W0 N v' b.ts) (hg : N + 1 + 1 < g) :
    s42.wp Try.prog (bodyPost Try.prog Try.f42 (ChgPost w v1 (b.ch i r))) { tmps := (fr42 N g (.int .i64 i) (.agg #[.int .i64 r.lo, .int .i64 r.hi]) z).toArray, defers := [] } W0 := by
  obtain ⟨Q, hQ⟩ : ∃ Q, bodyPost Try.prog Try.f42 (ChgPost w v1 (b.ch i r)) = Q := ⟨_, rfl⟩
  rw [hQ]
  have HQ := Lib.hid hQ
  clear hQ
  obtain ⟨gg, c', rfl, hgN, hgl⟩ := ho.form (by omega)
  have h1' := h1
  obtain ⟨a1, c1, rfl, hl1, _⟩ := h1'
  have HF := Lib.hid (chg_fin (r := r) hN h1 hb hx hr ho hi hl hid)
  subst hN
  have x0 := hx.cell 0
  have x1 := hx.cell 1
  have xz := hx.lt
  have r0 := hr.cell 0
  have r1 := hr.cell 1
  have rf := hr.frozen
  have rz := hr.lt
  have q0 := hrr.cell 0
  have q1 := hrr.cell 1
  have qz := hrr.lt
  have hcl := ho.at Tk.enc_len i hi
  have z3 := hcl 3 _ rfl
  have z4 := hcl 4 _ rfl
  have zf := ho.frozen
  simp only [List.getElem?_cons_zero, List.getElem?_cons_succ] at x0 x1 r0 r1 q0 q1
  have n1 : gg ≠ g := fun e => ho.other_type hx (by decide) (by rw [e]; rfl)
  have n2 : gg ≠ w.heap.size + 1 + 1 := fun e => ho.other_type hr (by decide) (by rw [e]; rfl)
  have n3 : g ≠ w.heap.size + 1 + 1 := by omega
  have n1' : g ≠ gg := Ne.symm n1
  have n2' : w.heap.size + 1 + 1 ≠ gg := Ne.symm n2
  clear hx hr hrr ho hb h1 hg hcl
  simp only [s42, c42, codeL, codeR, Try.f42, Option.getD, fr42]
  go_wp2_with fail
  rw [← HQ.out]
  refine bodyPost_ret (v := .agg #[.slice a1 b.st.length c1, .slice (some ⟨gg, 0, none⟩) b.ts.length c']) (by simp [results, Try.results42, go_sem, *]) rfl ?_
  exact HF.out

set_option maxRecDepth 100000 in
set_option maxHeartbeats 1000000 in
theorem changed42 (w : World) (v1 v2 : Value) (b : Bk) (i : Nat) (r : Rg) (hv : BkR w w.heap.size v1 v2 b) (hi : i < b.ts.length) (hl : b.ts.length ≤ 1000) :
    Calls Try.prog 42 #[.agg #[v1, v2], .int .i64 i, .agg #[.int .i64 r.lo, .int .i64 r.hi]] w (ChgPost w v1 (b.ch i r)) := by
  have FIN : ∀ (A' : Act) (W' : World), (∃ z', A' = { tmps := (fp42 w.heap.size (.int .i64 i) (.agg #[.int .i64 r.lo, .int .i64 r.hi]) z').toArray, defers := [] }) →
      W' = ((w.alloc (.cells #[v1, v2] 38)).alloc (.cells #[.int .i64 r.lo, .int .i64 r.hi] 24)).alloc (.cells #[.slice none 0 0, .slice none 0 0] 38) → (Code.seq r42 s42).wp Try.prog (bodyPost Try.prog Try.f42 (ChgPost w v1 (b.ch i r))) A' W' := by
    rintro A' W' ⟨z', rfl⟩ rfl
    have hx := ((Box.new w #[v1, v2] 38).alloc (.cells #[.int .i64 r.lo, .int .i64 r.hi] 24)).alloc (.cells #[.slice none 0 0, .slice none 0 0] 38)
    have hq := (Box.newAt (w.alloc (.cells #[v1, v2] 38)) #[.int .i64 r.lo, .int .i64 r.hi] 24 (n := w.heap.size + 1) (by simp)).alloc (.cells #[.slice none 0 0, .slice none 0 0] 38)
    have hr := Box.newAt ((w.alloc (.cells #[v1, v2] 38)).alloc (.cells #[.int .i64 r.lo, .int .i64 r.hi] 24)) #[.slice none 0 0, .slice none 0 0] 38 (n := w.heap.size + 1 + 1) (by simp)
    have hb : Below w.heap.size w (((w.alloc (.cells #[v1, v2] 38)).alloc (.cells #[.int .i64 r.lo, .int .i64 r.hi] 24)).alloc (.cells #[.slice none 0 0, .slice none 0 0] 38)) := (((Below.refl _ _).alloc (Nat.le_refl _) _).alloc (by simp) _).alloc (by simp; omega) _
    have hst := hv.st
    obtain ⟨a1, n1, e1, _⟩ := hv.st
    obtain ⟨a2, n2, rfl, _, hA⟩ := hv.ts
    obtain ⟨bb, off, rfl, hbb, hc⟩ := hA (by omega)
    refine wp_seq (wp_mono (r42_walk _ w.heap.size v1 _ _ bb off n2 b.ts z' hx.lt hx hl (fun j hj k u hu => ?_) (Nat.lt_of_lt_of_le hbb hb.size) ⟨_, _, _, e1⟩) ?_)
    · rw [← Nat.add_assoc]
      exact ((hc j hj).below hb hbb) k u hu
    rintro e a W2 ⟨rfl, g, v', ⟨z2, rfl⟩, hbox, hown, hb2, hg⟩
    exact s42_walk w W2 w.heap.size g v1 v' b i r z2 rfl hst hi hl hv.ids (hb.trans (hb2.mono hb.size)) hbox (hq.later hb2) (hr.later hb2) hown (Nat.lt_of_lt_of_le hr.lt hg)
  obtain ⟨⟨a1, n1, hv1, hl1, hA1⟩, ⟨a2, n2, hv2, hl2, hA2⟩, hids⟩ := hv
  subst hv1 hv2
  clear hA1 hA2 hids
  have HFIN := Lib.hid FIN
  clear FIN
  obtain ⟨R, hR⟩ : ∃ R, Code.seq r42 s42 = R := ⟨_, rfl⟩
  rw [hR] at HFIN
  refine calls_of_wp Try.func42 (c := c42) rfl ?_
  simp only [Try.ntmps42, List.size_toArray, List.length_cons, List.length_nil, Nat.reduceAdd, Nat.reduceSub, Array.replicate_succ, Array.replicate_zero, List.push_toArray, List.append_toArray, List.nil_append, List.cons_append]
  obtain ⟨Q, hQ⟩ : ∃ Q, bodyPost Try.prog Try.f42 (ChgPost w (.slice a1 b.st.length n1) (b.ch i r)) = Q := ⟨_, rfl⟩
  rw [hQ] at HFIN ⊢
  rw [show c42 = .seq (codeL c42) R from by rw [← hR]; rfl]
  simp only [c42, Try.f42, Option.getD, codeL, codeR]
  go_wp2_with fail
  refine HFIN.out _ _ ?_ rfl
  apply fp42_act <;> rfl
end Go.Proofs.Ytlakcghdehdeiaa

/- Narrower books, plainly. -/
namespace Go.Proofs.Ytlakcghdehdeiaa
open Go Go.Proofs Go.RowKit

/-- A book has an assignment, or there is a cut (the program's own search shows it). -/
theorem cut_or_con (w : World) {b : Bk} (hok : OkBk b) (hid : ∀ t ∈ b.ts, t.id.size ≤ 9223372036854775807) : Con b ∨ ∃ R : Nat → Bool, 0 < cutv R (arcsOf b) := by
  have h1 := Sl.lit Rg.enc_len b.st w (b.st.flatMap Rg.enc).toArray 24 _ rfl (by simp) (by have := hok.st32; omega)
  have h2 := Sl.lit Tk.enc_len' b.ts (w.alloc (.cells (b.st.flatMap Rg.enc).toArray 24)) (b.ts.flatMap Tk.enc).toArray 53 _ rfl (by simp) (by have := hok.ts128; omega)
  have hb : BkR ((w.alloc (.cells (b.st.flatMap Rg.enc).toArray 24)).alloc (.cells (b.ts.flatMap Tk.enc).toArray 53)) ((w.alloc (.cells (b.st.flatMap Rg.enc).toArray 24)).alloc (.cells (b.ts.flatMap Tk.enc).toArray 53)).heap.size _ _ b :=
    ⟨h1.later ((Below.refl _ _).alloc (Nat.le_refl _) _), h2, hid⟩
  obtain ⟨e, w', fr, hp, _⟩ := settle72 _ _ _ b hok hb []
  obtain ⟨ok, nb, v, l, rc, _, _, _, _, _, _, hiff, _, hno⟩ := settle_con hok hp
  cases ok
  · exact .inr ⟨_, hno rfl⟩
  · exact .inl (hiff.1 rfl)

theorem ch_setM {b : Bk} {i : Nat} (q : Rg) (hi : i < b.ts.length) : b.ch i q = b.setM ((b.ts.map Tk.m).set i q) := by
  unfold Bk.ch Bk.setM
  congr 1
  rw [chT_at q hi]
  apply List.ext_getElem (by simp)
  intro j h1 h2
  rw [List.getElem_set, List.getElem_zipWith, List.getElem_set]
  split
  · rename_i h; subst h; rfl
  · simp [setT]
theorem ch_ck {b : Bk} {i : Nat} {q : Rg} (hok : ckBook b = 0) (hi : i < b.ts.length) (hq : 0 ≤ q.lo ∧ q.lo ≤ q.hi ∧ q.hi ≤ 999999999) : ckBook (b.ch i q) = 0 := by
  rw [ch_setM q hi]
  refine ck_setM hok (by simp) (fun r hr => ?_)
  rcases List.mem_or_eq_of_mem_set hr with h | rfl
  · obtain ⟨t, ht, rfl⟩ := List.mem_map.1 h
    have := (okBk_of hok).tk t ht
    omega
  · exact hq
theorem ch_asg {b : Bk} {i : Nat} {q : Rg} (hi : i < b.ts.length) (h1 : (b.ts[i]).m.lo ≤ q.lo) (h2 : q.hi ≤ (b.ts[i]).m.hi) {ms : List Int} : IsAsg (b.ch i q) ms ↔ IsAsg b ms ∧ q.lo ≤ ms.getD i 0 ∧ ms.getD i 0 ≤ q.hi := by
  rw [ch_setM q hi, asg_setM (by simp), asg_iff]
  constructor
  · rintro ⟨a1, a2, a3⟩
    have ai := a2 i (by simpa using hi) (by omega)
    rw [List.getElem_set_self] at ai
    rw [getD_at ms i (by omega)]
    refine ⟨⟨a1, fun j hj hj2 => ?_, a3⟩, ai⟩
    by_cases h : j = i
    · subst h
      unfold Rg.has at ai ⊢
      omega
    · have := a2 j (by simpa using hj) hj2
      rwa [List.getElem_set_ne (Ne.symm h), List.getElem_map] at this
  · rintro ⟨⟨a1, a2, a3⟩, ai⟩
    rw [getD_at ms i (by omega)] at ai
    refine ⟨a1, fun j hj hj2 => ?_, a3⟩
    by_cases h : j = i
    · subst h
      rw [List.getElem_set_self]
      exact ai
    · rw [List.getElem_set_ne (Ne.symm h), List.getElem_map]
      exact a2 j (by simpa using hj) hj2
theorem tot_set {α : Type} (f : α → Int) : ∀ (l : List α) (i : Nat) (h : i < l.length) (x : α), tot f (l.set i x) = tot f l - f l[i] + f x
  | a :: l, 0, _, x => by simp [tot]; omega
  | a :: l, i + 1, h, x => by
    simp only [List.set_cons_succ, tot, List.getElem_cons_succ]
    rw [tot_set f l i (by simpa using h) x]
    omega
/-- What a cut lets in changes with one ticket's ranges as that ticket does. -/
theorem cut_ch {b : Bk} {i : Nat} (q : Rg) (hi : i < b.ts.length) (R : Nat → Bool) : cutv R (arcsOf (b.ch i q)) = cutv R (arcsOf b) - Ac.least R (tkAc b.ts[i]) + Ac.least R (tkAc (setT b.ts[i] q)) := by
  have e : arcsOf (b.ch i q) = (arcsOf b).set i (tkAc (setT b.ts[i] q)) := by
    unfold arcsOf Bk.ch
    dsimp only
    rw [chT_at q hi, List.map_set, List.set_append_left _ _ (by simpa using hi)]
  rw [e]
  unfold cutv
  rw [tot_set _ _ i (by rw [arcs_len]; omega)]
  congr 2
  unfold arcsOf
  rw [List.getElem_append_left (by simpa using hi), List.getElem_map]
theorem least_lin (R : Nat → Bool) (t : Tk) : (∀ y, Ac.least R (tkAc (setT t ⟨y, y⟩)) = 0) ∨ (∀ y, Ac.least R (tkAc (setT t ⟨y, y⟩)) = y) ∨ (∀ y, Ac.least R (tkAc (setT t ⟨y, y⟩)) = -y) := by
  have e : ∀ y, Ac.least R (tkAc (setT t ⟨y, y⟩)) = (if R (t.to + 1).toNat = true ∧ R (t.fr + 1).toNat = false then y else 0) - (if R (t.fr + 1).toNat = true ∧ R (t.to + 1).toNat = false then y else 0) := fun y => rfl
  simp only [e]
  cases R (t.to + 1).toNat <;> cases R (t.fr + 1).toNat <;> simp
/-- Every mass within the range of Tighten is one of an assignment. -/
theorem mid_con (w : World) {b : Bk} {rs : List Rg} (hck : ckBook b = 0) (hid : ∀ t ∈ b.ts, t.id.size ≤ 9223372036854775807) (h : TightS b rs) {i : Nat} (hi : i < rs.length) {x : Int} (h1 : rs[i].lo ≤ x) (h2 : x ≤ rs[i].hi) : Con (b.ch i ⟨x, x⟩) := by
  have hok := okBk_of hck
  have hi' : i < b.ts.length := by rw [← h.len]; exact hi
  have hm := h.mass hok rs[i] (List.getElem_mem hi)
  obtain ⟨⟨m1, a1, e1⟩, ⟨m2, a2, e2⟩, _⟩ := h.sp i hi
  have t1 := a1.tk i hi'
  have t2 := a2.tk i hi'
  have e1' : m1.getD i 0 = rs[i].lo := e1
  have e2' : m2.getD i 0 = rs[i].hi := e2
  have g1 := e1'
  have g2 := e2'
  rw [getD_at m1 i (by rw [a1.len]; exact hi')] at g1
  rw [getD_at m2 i (by rw [a2.len]; exact hi')] at g2
  unfold Rg.has at t1 t2
  have hid' : ∀ q, ∀ t ∈ (b.ch i q).ts, t.id.size ≤ 9223372036854775807 := fun q t ht => by
    have ht' : t ∈ b.ts.set i (setT b.ts[i] q) := by rw [← chT_at q hi']; exact ht
    rcases List.mem_or_eq_of_mem_set ht' with h | rfl
    · exact hid t h
    · exact hid b.ts[i] (List.getElem_mem hi')
  have no : ∀ q : Rg, (b.ts[i]).m.lo ≤ q.lo → q.hi ≤ (b.ts[i]).m.hi → 0 ≤ q.lo ∧ q.lo ≤ q.hi ∧ q.hi ≤ 999999999 → (∃ ms, IsAsg b ms ∧ q.lo ≤ ms.getD i 0 ∧ ms.getD i 0 ≤ q.hi) → ∀ R, cutv R (arcsOf (b.ch i q)) ≤ 0 := by
    intro q q1 q2 q3 ⟨ms, q4, q5⟩ R
    have hok2 := okBk_of (ch_ck hck hi' q3)
    have ha := (ch_asg hi' q1 q2).2 ⟨q4, q5⟩
    apply Int.not_lt.1
    intro hc
    exact no_circ (shp_asgL ha.len) (arcs_ends hok2) hc (asg_circ hok2 ha).1
  have n1 := no ⟨rs[i].lo, rs[i].lo⟩ (by dsimp only; omega) (by dsimp only; omega) (by dsimp only; omega) ⟨m1, a1, by dsimp only; omega⟩
  have n2 := no ⟨rs[i].hi, rs[i].hi⟩ (by dsimp only; omega) (by dsimp only; omega) (by dsimp only; omega) ⟨m2, a2, by dsimp only; omega⟩
  rcases cut_or_con w (okBk_of (ch_ck (q := ⟨x, x⟩) hck hi' (by dsimp only; omega))) (hid' ⟨x, x⟩) with hc | ⟨R, hR⟩
  · exact hc
  · exfalso
    have k1 := n1 R
    have k2 := n2 R
    rw [cut_ch _ hi'] at hR k1 k2
    generalize cutv R (arcsOf b) - Ac.least R (tkAc b.ts[i]) = c at *
    rcases least_lin R b.ts[i] with hl | hl | hl <;> rw [hl] at hR k1 k2 <;> omega
end Go.Proofs.Ytlakcghdehdeiaa
