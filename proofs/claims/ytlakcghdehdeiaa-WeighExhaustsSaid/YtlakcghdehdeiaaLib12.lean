/- Lemmas on the way to the laws (part 12): Pa Pb Pc -/
import Derived.Test.YtlakcghdehdeiaaLib10
import Derived.Test.YtlakcghdehdeiaaLib04
import Derived.Test.YtlakcghdehdeiaaLib11
set_option linter.unusedVariables false
set_option linter.unusedSimpArgs false

/- Assignments of masses are circulations. -/
namespace Go.Proofs.Ytlakcghdehdeiaa
open Go Go.Proofs Go.RowKit

def tkFl (t : Tk) (m : Int) : Ac := { tkAc t with fl := m }
/-- The arcs of a book with the flows of an assignment. -/
def asgL (b : Bk) (ms : List Int) : List Ac := List.zipWith tkFl b.ts ms ++ (List.range b.st.length).map fun p => { stAc p (b.st.getD p default) with fl := gain [(p : Int)] b.ts ms }

theorem shp_append (l l' : List Ac) : shp (l ++ l') = shp l ++ shp l' := by simp [shp]
theorem shp_zip : ∀ (ts : List Tk) (ms : List Int), ms.length = ts.length → shp (List.zipWith tkFl ts ms) = shp (ts.map tkAc)
  | [], _, _ => by simp
  | t :: ts, [], h => by simp at h
  | t :: ts, m :: ms, h => by
    simp only [List.zipWith_cons_cons, List.map_cons]
    have := shp_zip ts ms (by simpa using h)
    simp only [shp, List.map_cons] at this ⊢
    rw [this]; rfl
theorem shp_asgL {b : Bk} {ms : List Int} (h : ms.length = b.ts.length) : shp (asgL b ms) = shp (arcsOf b) := by
  unfold asgL arcsOf
  rw [shp_append, shp_append, shp_zip _ _ h]
  congr 1
  simp only [shp, stTo, List.map_map]
  rfl

theorem toNat_at {x : Int} (h : -1 ≤ x) (p : Nat) : (x + 1).toNat = p + 1 ↔ x ∈ [(p : Int)] := by simp; omega
/-- What tickets bring to a place. -/
theorem exc_tk (p : Nat) : ∀ (ts : List Tk) (l : List Ac), shp l = shp (ts.map tkAc) → (∀ t ∈ ts, -1 ≤ t.fr ∧ -1 ≤ t.to) → exc (p + 1) l = gain [(p : Int)] ts (l.map Ac.fl)
  | [], [], _, _ => by simp [exc, tot, gain]
  | [], a :: l, h, _ => by simp [shp] at h
  | t :: ts, [], h, _ => by simp [shp] at h
  | t :: ts, a :: l, h, hT => by
    simp only [shp, List.map_cons, List.cons.injEq] at h
    obtain ⟨e1, e2, e3, e4⟩ := bare_eq h.1
    have ih := exc_tk p ts l h.2 (fun x hx => hT x (by simp [hx]))
    obtain ⟨h1, h2⟩ := hT t (by simp)
    have k1 : a.fr = p + 1 ↔ t.fr ∈ [(p : Int)] := by rw [e1]; exact toNat_at h1 p
    have k2 : a.to = p + 1 ↔ t.to ∈ [(p : Int)] := by rw [e2]; exact toNat_at h2 p
    simp only [exc, tot, List.map_cons, gain] at ih ⊢
    rw [ih]
    simp only [Ac.at, k1, k2]
theorem zip_fl : ∀ (ts : List Tk) (ms : List Int), ms.length = ts.length → (List.zipWith tkFl ts ms).map Ac.fl = ms
  | [], ms, h => by simp at h; simp [h]
  | t :: ts, [], h => by simp at h
  | t :: ts, m :: ms, h => by
    simp only [List.zipWith_cons_cons, List.map_cons]
    rw [zip_fl ts ms (by simpa using h)]; rfl

theorem tot_take (f : Ac → Int) (l : List Ac) : ∀ k, k ≤ l.length → tot f (l.take k) = sumN k (fun q => atI f l q)
  | 0, _ => by simp [tot, sumN]
  | k + 1, h => by
    rw [take_snoc l k (by omega), tot_snoc, tot_take f l k (by omega)]
    show _ = sumN k _ + _
    congr 1
    show _ = atI f l k
    unfold atI
    rw [List.getElem?_eq_getElem (by omega)]
theorem tot_getD (f : Ac → Int) (l : List Ac) : tot f l = sumN l.length (fun q => atI f l q) := by
  have := tot_take f l l.length (Nat.le_refl _)
  rwa [List.take_length] at this
/-- What the changes of stocks bring to a place. -/
theorem exc_st (b : Bk) (l : List Ac) (h : shp l = shp (stTo b.st b.st.length)) (p : Nat) (hp : p < b.st.length) : exc (p + 1) l = - atI Ac.fl l p := by
  have hl := shp_length h
  have hl2 : l.length = b.st.length := by rw [hl]; simp [stTo]
  unfold exc
  rw [tot_getD, hl2]
  have : ∀ q, q < b.st.length → atI (fun a => a.at (p + 1)) l q = if q = p then -atI Ac.fl l p else 0 := by
    intro q hq
    have hb := shp_get h q (by omega) (by omega)
    obtain ⟨e1, e2, e3, e4⟩ := bare_eq hb
    simp [stTo, stAc] at e1 e2
    unfold atI
    rw [List.getElem?_eq_getElem (show q < l.length by omega)]
    simp only [Ac.at, e1, e2]
    by_cases hqp : q = p
    · subst hqp; simp [List.getElem?_eq_getElem (show q < l.length by omega)]
    · simp [hqp]
  rw [sumN_congr _ _ _ this, sumN_one _ _ _ hp]
theorem sumN_bot (n : Nat) (f : Nat → Int) (h : ∀ v, 0 < v → v < n → f v = 0) (hn : 0 < n) : sumN n f = f 0 := by
  induction n with
  | zero => omega
  | succ n ih =>
    show sumN n f + f n = _
    by_cases h0 : n = 0
    · subst h0; simp [sumN]
    · rw [ih (fun v h1 h2 => h v h1 (by omega)) (by omega), h n (by omega) (by omega), Int.add_zero]

/-- The masses that flow through the tickets. -/
def flows (b : Bk) (l : List Ac) : List Int := (l.take b.ts.length).map Ac.fl
theorem split_arcs {b : Bk} {l : List Ac} (h : shp l = shp (arcsOf b)) : shp (l.take b.ts.length) = shp (b.ts.map tkAc) ∧ shp (l.drop b.ts.length) = shp (stTo b.st b.st.length) := by
  unfold shp at h ⊢
  rw [List.map_take, List.map_drop, h]
  unfold arcsOf
  rw [← List.map_take, ← List.map_drop]
  rw [List.take_append_of_le_length (by simp), List.drop_append_of_le_length (by simp)]
  refine ⟨?_, by simp⟩
  rw [List.map_take, List.take_of_length_le (by simp)]
theorem flows_len {b : Bk} {l : List Ac} (h : shp l = shp (arcsOf b)) : (flows b l).length = b.ts.length := by
  have := shp_length h
  have h2 := arcs_len b
  simp [flows]; omega
theorem flows_get {b : Bk} {l : List Ac} (i : Nat) (hi : i < b.ts.length) : (flows b l)[i]? = l[i]?.map Ac.fl := by
  simp [flows, List.getElem?_take, hi]
theorem OkBk.ends {b : Bk} (hok : OkBk b) : ∀ t ∈ b.ts, -1 ≤ t.fr ∧ -1 ≤ t.to := fun t ht => by
  have := hok.tk t ht; omega
theorem circ_gain {b : Bk} {l : List Ac} (hok : OkBk b) (h : shp l = shp (arcsOf b)) (hc : Circ (b.st.length + 1) l) (p : Nat) (hp : p < b.st.length) : atI Ac.fl l (b.ts.length + p) = gain [(p : Int)] b.ts (flows b l) := by
  obtain ⟨h1, h2⟩ := split_arcs h
  have hb := hc.bal (p + 1) (by omega)
  have e : exc (p + 1) l = exc (p + 1) (l.take b.ts.length) + exc (p + 1) (l.drop b.ts.length) := by rw [← exc_append, List.take_append_drop]
  rw [e, exc_tk p b.ts _ h1 hok.ends, exc_st b _ h2 p hp] at hb
  have : atI Ac.fl (l.drop b.ts.length) p = atI Ac.fl l (b.ts.length + p) := by unfold atI; rw [List.getElem?_drop]
  unfold flows
  omega
theorem circ_asg {b : Bk} {l : List Ac} (hok : OkBk b) (h : shp l = shp (arcsOf b)) (hc : Circ (b.st.length + 1) l) : IsAsg b (flows b l) := by
  have hlen := shp_length h
  have hal := arcs_len b
  refine ⟨flows_len h, fun i hi => ?_, fun p hp => ?_⟩
  · have hl : i < l.length := by omega
    have hf := hc.fits _ (List.getElem_mem hl)
    have hg := flows_get (b := b) (l := l) i hi
    rw [List.getElem?_eq_getElem hl, Option.map_some, List.getElem?_eq_getElem (by rw [flows_len h]; exact hi)] at hg
    have hg' := Option.some.inj hg
    have hb := bare_eq (shp_get h i hl (by omega))
    have e : (arcsOf b)[i]'(by omega) = tkAc b.ts[i] := by
      unfold arcsOf
      rw [List.getElem_append_left (by simpa using hi), List.getElem_map]
    rw [e] at hb
    unfold Rg.has
    rw [hg']
    have h3 := hb.2.2.1
    have h4 := hb.2.2.2
    simp only [tkAc] at h3 h4
    omega
  · rw [← circ_gain hok h hc p hp]
    have hl : b.ts.length + p < l.length := by omega
    have hf := hc.fits _ (List.getElem_mem hl)
    have hb := bare_eq (shp_get h _ hl (by omega))
    have e : (arcsOf b)[b.ts.length + p]'(by omega) = stAc p b.st[p] := by
      unfold arcsOf
      rw [List.getElem_append_right (by simp)]
      simp [stTo, hp]
    rw [e] at hb
    have h3 := hb.2.2.1
    have h4 := hb.2.2.2
    simp only [stAc] at h3 h4
    unfold Rg.has atI
    rw [List.getElem?_eq_getElem hl]
    dsimp only
    omega
theorem asg_circ {b : Bk} {ms : List Int} (hok : OkBk b) (h : IsAsg b ms) : Circ (b.st.length + 1) (asgL b ms) ∧ flows b (asgL b ms) = ms := by
  have hsh := shp_asgL h.len
  have hfl : flows b (asgL b ms) = ms := by
    unfold flows asgL
    rw [List.take_append_of_le_length (by simp [h.len])]
    rw [List.take_of_length_le (by simp [h.len]), zip_fl _ _ h.len]
  refine ⟨⟨?_, ?_⟩, hfl⟩
  · intro a ha
    unfold asgL at ha
    rcases List.mem_append.1 ha with ha | ha
    · obtain ⟨i, hi, rfl⟩ := List.mem_iff_getElem.1 ha
      simp only [List.length_zipWith, h.len, Nat.min_self] at hi
      rw [List.getElem_zipWith]
      exact h.tk i hi
    · obtain ⟨p, hp, rfl⟩ := List.mem_map.1 ha
      have hp' := List.mem_range.1 hp
      have := h.pl p hp'
      unfold Rg.has at this
      simp only [stAc]
      rw [List.getD_eq_getElem?_getD, List.getElem?_eq_getElem hp']
      exact this
  · have hE : Ends (b.st.length + 1) (asgL b ms) := shp_ends hsh.symm (arcs_ends hok)
    have hpos : ∀ v, 0 < v → v < b.st.length + 1 → exc v (asgL b ms) = 0 := by
      intro v h0 hv
      obtain ⟨p, rfl⟩ : ∃ p, v = p + 1 := ⟨v - 1, by omega⟩
      have hp : p < b.st.length := by omega
      obtain ⟨h1, h2⟩ := split_arcs hsh
      have e : exc (p + 1) (asgL b ms) = exc (p + 1) ((asgL b ms).take b.ts.length) + exc (p + 1) ((asgL b ms).drop b.ts.length) := by rw [← exc_append, List.take_append_drop]
      rw [e, exc_tk p b.ts _ h1 hok.ends, exc_st b _ h2 p hp]
      have e2 : ((asgL b ms).take b.ts.length).map Ac.fl = ms := hfl
      rw [e2]
      have e3 : atI Ac.fl ((asgL b ms).drop b.ts.length) p = gain [(p : Int)] b.ts ms := by
        unfold atI asgL
        rw [List.getElem?_drop, List.getElem?_append_right (by simp [h.len])]
        simp [h.len, hp]
      omega
    intro v hv
    by_cases h0 : v = 0
    · subst h0
      have := exc_all hE
      rwa [sumN_bot _ _ hpos (by omega)] at this
    · exact hpos v (by omega) hv
/-- A book is consistent where it has an assignment. -/
theorem con_iff {b : Bk} (hok : OkBk b) : Con b ↔ ∃ ms, IsAsg b ms :=
  ⟨fun ⟨l, h, hc⟩ => ⟨_, circ_asg hok h hc⟩, fun ⟨ms, h⟩ => ⟨asgL b ms, shp_asgL h.len, (asg_circ hok h).1⟩⟩

/-- The least and greatest mass of a ticket in all assignments. -/
def Span (b : Bk) (f : List Int → Int) (lo hi : Int) : Prop := (∃ ms, IsAsg b ms ∧ f ms = lo) ∧ (∃ ms, IsAsg b ms ∧ f ms = hi) ∧ ∀ ms, IsAsg b ms → lo ≤ f ms ∧ f ms ≤ hi
theorem Span.unique {b : Bk} {f : List Int → Int} {lo hi lo' hi' : Int} (h : Span b f lo hi) (h' : Span b f lo' hi') : lo = lo' ∧ hi = hi' := by
  obtain ⟨⟨m1, a1, e1⟩, ⟨m2, a2, e2⟩, h3⟩ := h
  obtain ⟨⟨m1', a1', e1'⟩, ⟨m2', a2', e2'⟩, h3'⟩ := h'
  have := h3 _ a1'
  have := h3 _ a2'
  have := h3' _ a1
  have := h3' _ a2
  omega
theorem extent_span {b : Bk} {i : Nat} {lo hi : Int} (hok : OkBk b) (hi' : i < b.ts.length) (h : Extent (b.st.length + 1) (arcsOf b) i lo hi) : Span b (fun ms => ms.getD i 0) lo hi := by
  obtain ⟨⟨l1, a1, s1, c1, g1, rfl⟩, ⟨l2, a2, s2, c2, g2, rfl⟩, h3⟩ := h
  refine ⟨⟨_, circ_asg hok s1 c1, ?_⟩, ⟨_, circ_asg hok s2 c2, ?_⟩, fun ms hm => ?_⟩
  · show (flows b l1).getD i 0 = _
    rw [List.getD_eq_getElem?_getD, flows_get i hi', g1]; rfl
  · show (flows b l2).getD i 0 = _
    rw [List.getD_eq_getElem?_getD, flows_get i hi', g2]; rfl
  · obtain ⟨c, e⟩ := asg_circ hok hm
    have hsh := shp_asgL hm.len
    have hl : i < (asgL b ms).length := by have := shp_length hsh; have := arcs_len b; omega
    have := h3 _ _ hsh c (List.getElem?_eq_getElem hl)
    have e2 := flows_get (b := b) (l := asgL b ms) i hi'
    rw [e, List.getElem?_eq_getElem hl] at e2
    show _ ≤ ms.getD i 0 ∧ ms.getD i 0 ≤ _
    rw [List.getD_eq_getElem?_getD, e2]
    exact this
theorem gain_tot (ps : List Int) (hn : ps.Nodup) : ∀ (ts : List Tk) (ms : List Int), gain ps ts ms = tot (fun p => gain [p] ts ms) ps := by
  have key : ∀ (x m : Int) (l : List Int), l.Nodup → tot (fun p => if x ∈ [p] then m else 0) l = if x ∈ l then m else 0 := by
    intro x m l
    induction l with
    | nil => intro _; simp [tot]
    | cons y l ih =>
      intro hn
      simp only [List.nodup_cons] at hn
      rw [tot, ih hn.2]
      simp only [List.mem_cons, List.not_mem_nil, or_false]
      by_cases h : x = y
      · subst h; simp [hn.1]
      · simp [h]
  intro ts
  induction ts with
  | nil => intro ms; simp [gain, tot_zero]
  | cons t ts ih =>
    intro ms
    cases ms with
    | nil => simp [gain, tot_zero]
    | cons m ms =>
      simp only [gain]
      rw [tot_add (fun p => (if t.to ∈ [p] then m else 0) - (if t.fr ∈ [p] then m else 0)), tot_sub, key _ _ _ hn, key _ _ _ hn, ← ih]
theorem flSum_gain {b : Bk} {l : List Ac} (hok : OkBk b) (h : shp l = shp (arcsOf b)) (hc : Circ (b.st.length + 1) l) (ps : List Int) (hn : ps.Nodup) (hp : ∀ p ∈ ps, 0 ≤ p ∧ p < b.st.length) :
    flSum (idx b.ts.length ps) l = gain ps b.ts (flows b l) := by
  rw [gain_tot ps hn]
  unfold flSum idx
  clear hn
  induction ps with
  | nil => rfl
  | cons p ps ih =>
    simp only [List.map_cons, tot]
    rw [ih (fun q hq => hp q (by simp [hq]))]
    obtain ⟨h1, h2⟩ := hp p (by simp)
    rw [circ_gain hok h hc p.toNat (by omega), show ((p.toNat : Nat) : Int) = p by omega]
theorem together_span {b : Bk} {ps : List Int} {lo hi : Int} (hok : OkBk b) (hn : ps.Nodup) (hp : ∀ p ∈ ps, 0 ≤ p ∧ p < b.st.length) (h : Together b.st.length (arcsOf b) (idx b.ts.length ps) lo hi) : Span b (fun ms => gain ps b.ts ms) lo hi := by
  obtain ⟨⟨l1, s1, c1, rfl⟩, ⟨l2, s2, c2, rfl⟩, h3⟩ := h
  refine ⟨⟨_, circ_asg hok s1 c1, ?_⟩, ⟨_, circ_asg hok s2 c2, ?_⟩, fun ms hm => ?_⟩
  · exact (flSum_gain hok s1 c1 ps hn hp).symm
  · exact (flSum_gain hok s2 c2 ps hn hp).symm
  · obtain ⟨c, e⟩ := asg_circ hok hm
    have hsh := shp_asgL hm.len
    have := h3 _ hsh c
    rw [flSum_gain hok hsh c ps hn hp, e] at this
    exact this
end Go.Proofs.Ytlakcghdehdeiaa

/- Walks: weigh.Holds. -/
namespace Go.Proofs.Ytlakcghdehdeiaa
open Go Go.Proofs Go.RowKit

theorem gain_snoc (S : List Int) (t : Tk) (m : Int) : ∀ (ts : List Tk) (ms : List Int), ms.length = ts.length → gain S (ts ++ [t]) (ms ++ [m]) = gain S ts ms + ((if t.to ∈ S then m else 0) - (if t.fr ∈ S then m else 0))
  | [], ms, h => by
    have : ms = [] := List.eq_nil_of_length_eq_zero (by simpa using h)
    subst this; simp [gain]
  | t' :: ts, [], h => by simp at h
  | t' :: ts, m' :: ms, h => by
    simp only [List.cons_append, gain]
    rw [gain_snoc S t m ts ms (by simpa using h)]
    omega
theorem gain_bd (S : List Int) : ∀ (ts : List Tk) (ms : List Int), (∀ m ∈ ms, 0 ≤ m ∧ m ≤ 999999999) → -(ts.length * 999999999 : Int) ≤ gain S ts ms ∧ gain S ts ms ≤ ts.length * 999999999
  | [], ms, _ => by simp [gain]
  | t :: ts, [], _ => by simp [gain]; omega
  | t :: ts, m :: ms, h => by
    have ih := gain_bd S ts ms (fun x hx => h x (by simp [hx]))
    have hm := h m (by simp)
    simp only [gain, List.length_cons]
    have e : ((ts.length + 1 : Nat) : Int) * 999999999 = ts.length * 999999999 + 999999999 := by push_cast; omega
    rw [e]
    split <;> split <;> omega
/-- What the first k masses change in each node. -/
def chgL (b : Bk) (ms : List Int) (k : Nat) : List Int := (List.range (b.st.length + 1)).map fun (v : Nat) => gain [(v : Int) - 1] (b.ts.take k) (ms.take k)
theorem chgL_len (b : Bk) (ms : List Int) (k : Nat) : (chgL b ms k).length = b.st.length + 1 := by simp [chgL]
theorem chgL_get (b : Bk) (ms : List Int) (k v : Nat) (h : v < b.st.length + 1) : (chgL b ms k)[v]'(by rw [chgL_len]; exact h) = gain [(v : Int) - 1] (b.ts.take k) (ms.take k) := by simp [chgL]
theorem chgL_zero (b : Bk) (ms : List Int) : chgL b ms 0 = List.replicate (b.st.length + 1) 0 := by
  apply List.ext_getElem (by simp [chgL])
  intro i h1 h2
  simp [chgL, gain]
theorem chgL_succ {b : Bk} {ms : List Int} {k : Nat} (hok : OkBk b) (hlen : ms.length = b.ts.length) (hk : k < b.ts.length) (hk2 : k < ms.length) :
    let t := b.ts[k]
    (0 ≤ t.to + 1 ∧ (t.to + 1).toNat < b.st.length + 1 ∧ 0 ≤ t.fr + 1 ∧ (t.fr + 1).toNat < b.st.length + 1 ∧ (t.fr + 1).toNat ≠ (t.to + 1).toNat) ∧
    chgL b ms (k + 1) = ((chgL b ms k).set (t.to + 1).toNat (gain [t.to] (b.ts.take k) (ms.take k) + ms[k])).set (t.fr + 1).toNat (gain [t.fr] (b.ts.take k) (ms.take k) - ms[k]) := by
  intro t
  have ht := hok.tk b.ts[k] (List.getElem_mem hk)
  obtain ⟨m1, m2, m3, m4, m5, _⟩ := ht
  refine ⟨⟨by show 0 ≤ b.ts[k].to + 1; omega, by show (b.ts[k].to + 1).toNat < _; omega, by show 0 ≤ b.ts[k].fr + 1; omega, by show (b.ts[k].fr + 1).toNat < _; omega, by show (b.ts[k].fr + 1).toNat ≠ (b.ts[k].to + 1).toNat; omega⟩, ?_⟩
  apply List.ext_getElem (by simp [chgL])
  intro v h1 h2
  have hv : v < b.st.length + 1 := by rw [chgL_len] at h1; exact h1
  rw [chgL_get _ _ _ _ hv, List.getElem_set, List.getElem_set, chgL_get _ _ _ _ hv, take_snoc _ _ hk, take_snoc _ _ hk2, gain_snoc _ _ _ _ _ (by simp [hlen])]
  show _ + ((if b.ts[k].to ∈ [(v : Int) - 1] then ms[k] else 0) - (if b.ts[k].fr ∈ [(v : Int) - 1] then ms[k] else 0)) = if (b.ts[k].fr + 1).toNat = v then gain [b.ts[k].fr] _ _ - ms[k] else if (b.ts[k].to + 1).toNat = v then gain [b.ts[k].to] _ _ + ms[k] else _
  simp only [List.mem_singleton]
  by_cases h3 : (b.ts[k].fr + 1).toNat = v
  · have e : b.ts[k].fr = (v : Int) - 1 := by omega
    have e2 : ¬ b.ts[k].to = (v : Int) - 1 := by omega
    rw [if_pos h3, if_neg e2, if_pos e, e]; omega
  · have e : ¬ b.ts[k].fr = (v : Int) - 1 := by omega
    rw [if_neg h3, if_neg e]
    by_cases h4 : (b.ts[k].to + 1).toNat = v
    · have e2 : b.ts[k].to = (v : Int) - 1 := by omega
      rw [if_pos h4, if_pos e2, e2]; omega
    · have e2 : ¬ b.ts[k].to = (v : Int) - 1 := by omega
      rw [if_neg h4, if_neg e2]; omega
theorem chgL_old {b : Bk} {ms : List Int} {k : Nat} (x : Int) (h0 : 0 ≤ x + 1) (h : (x + 1).toNat < b.st.length + 1) : (chgL b ms k)[(x + 1).toNat]'(by rw [chgL_len]; exact h) = gain [x] (b.ts.take k) (ms.take k) := by
  rw [chgL_get _ _ _ _ h]
  congr 2
  omega
def holdsE (b : Bk) (ms : List Int) : Int := if ckBook b ≠ 0 then ckBook b else if ms.length ≠ b.ts.length then 2 else 0

/-- What the walk has. -/
structure HolW (w wr : World) (xs : List Value) (g : Nat) (b : Bk) (ms : List Int) (k : Nat) : Prop where
  below : Below w.heap.size w wr
  box : Box wr w.heap.size 38 xs
  own : Own encI 1 3 wr (w.heap.size + 1) (.slice (some ⟨g, 0, none⟩) (chgL b ms k).length (b.st.length + 1)) (chgL b ms k)
  ge : w.heap.size + 1 ≤ g
theorem HolW.later {w wr w' : World} {xs : List Value} {g : Nat} {b : Bk} {ms : List Int} {k : Nat} (h : HolW w wr xs g b ms k) (hb : Below wr.heap.size wr w') : HolW w w' xs g b ms k :=
  ⟨h.below.trans (hb.mono h.below.size), h.box.later hb, h.own.later hb, h.ge⟩

theorem cell_other (w : World) (b o b' o' : Nat) (v : Value) (h : b ≠ b' ∨ o ≠ o') : (w.setCell ⟨b, o, none⟩ v).cell? ⟨b', o', none⟩ = w.cell? ⟨b', o', none⟩ :=
  World.cell?_setCell_other _ _ _ _ (by intro e; injection e with e1 e2; rcases h with h | h; exact h e1; exact h e2)
theorem HolW.cell {w wr : World} {xs : List Value} {g : Nat} {b : Bk} {ms : List Int} {k : Nat} (h : HolW w wr xs g b ms k) {i : Nat} {x : Int} (hi : i < b.st.length + 1) (e : (chgL b ms k)[i]'(by rw [chgL_len]; exact hi) = x) :
    wr.cell? ⟨g, i, none⟩ = some (.int .i64 x) := by
  have := (h.own.at encI_len i (by rw [chgL_len]; exact hi)).c1
  rwa [Nat.mul_one, e] at this
theorem HolW.set2 {w wr : World} {xs : List Value} {g : Nat} {b : Bk} {ms : List Int} {k i j : Nat} {x y : Int} (h : HolW w wr xs g b ms k) (hi : i < b.st.length + 1) (hj : j < b.st.length + 1) (hs : chgL b ms (k + 1) = ((chgL b ms k).set i x).set j y) (n' n : Nat) :
    HolW w ((((wr.drewN n').setCell ⟨g, i, none⟩ (.int .i64 x)).drewN n).setCell ⟨g, j, none⟩ (.int .i64 y)) xs g b ms (k + 1) := by
  replace h := h.later (below_drewN (Below.refl _ _) n')
  generalize wr.drewN n' = wr at *
  have hne : g ≠ w.heap.size := by have := h.ge; omega
  have hge := h.ge
  have o1 := h.own.set encI_len i (by rw [chgL_len]; exact hi) 0 (by omega) (.int .i64 x) x rfl
  rw [Nat.mul_one, Nat.add_zero] at o1
  have hl : (chgL b ms k).length = ((chgL b ms k).set i x).length := by simp
  rw [hl] at o1
  have o2 := (o1.drewN n).set encI_len j (by rw [← hl, chgL_len]; exact hj) 0 (by omega) (.int .i64 y) y rfl
  have e : ((chgL b ms k).set i x).length = (chgL b ms (k + 1)).length := by simp [chgL_len]
  rw [Nat.mul_one, Nat.add_zero, ← hs, e] at o2
  refine ⟨?_, ?_, o2, h.ge⟩
  · exact (below_drewN (h.below.setCell (by simp; omega) _) n).setCell (by simp; omega) _
  · exact (Box.other (a := ⟨g, i, none⟩) h.box _ hne |>.later (below_drewN (Below.refl _ _) n)).other _ hne

set_option maxRecDepth 100000 in
set_option maxHeartbeats 1000000 in
theorem holds26 (v1 v2 u : Value) (b : Bk) (ms : List Int) (w : World) (hv : BkR w w.heap.size v1 v2 b) (hu : Sl encI 1 w w.heap.size u ms) (R : Bool) (hR : R = true ↔ ckBook b = 0 ∧ IsAsg b ms) :
    Calls Try.prog 26 #[.agg #[v1, v2], u] w (Ret (.tuple #[.bool R, .int .i64 (holdsE b ms)]) w) := by
  have HCK := Lib.hid (fun (w1 : World) (hb : Below w.heap.size w w1) => ckBook25 v1 v2 b w1 (hv.later hb))
  obtain ⟨⟨a1, c1, rfl, hl1, hA1⟩, ⟨a2, c2, rfl, hl2, hA2⟩, hids⟩ := hv
  obtain ⟨a3, c3, rfl, hl3, hA3⟩ := hu
  clear hids
  obtain ⟨n, hn⟩ : ∃ n, ckBook b = n := ⟨_, rfl⟩
  obtain ⟨E, hE⟩ : ∃ E, holdsE b ms = E := ⟨_, rfl⟩
  rw [hE]
  rw [hn] at HCK
  have HN := Lib.hid hn
  clear hn
  have HE := Lib.hid hE
  clear hE
  have HA1 := Lib.hid hA1
  clear hA1
  have HA2 := Lib.hid hA2
  clear hA2
  have HA3 := Lib.hid hA3
  clear hA3
  have HR := Lib.hid hR
  clear hR
  go_enter Try.func26, Try.ntmps26
  go_wp2_with fail
  refine (HCK.out _ ((Below.refl _ _).alloc (Nat.le_refl _) _)).mono ?_
  rintro e w1 ⟨rfl, hb1⟩
  have hx1 := (Box.new w #[.slice a1 b.st.length c1, .slice a2 b.ts.length c2] 38).later hb1
  have HB1 := Lib.hid (((Below.refl w.heap.size w).alloc (Nat.le_refl _) (.cells #[.slice a1 b.st.length c1, .slice a2 b.ts.length c2] 38)).trans (hb1.mono (by simp)))
  have x0 := hx1.cell 0
  have x1 := hx1.cell 1
  have xz := hx1.lt
  simp only [List.getElem?_cons_zero, List.getElem?_cons_succ] at x0 x1
  have HX1 := Lib.hid hx1
  clear hb1 hx1
  by_cases h0 : n = 0
  · subst h0
    have HOK := Lib.hid (okBk_of HN.out)
    have h128 := HOK.out.ts128
    have h32 := HOK.out.st32
    obtain ⟨q, hq⟩ : ∃ q, ms.length = q := ⟨_, rfl⟩
    rw [hq] at hl3 ⊢
    have HA3' := Lib.hid (show 0 < q → ∃ bb off, a3 = some ⟨bb, off, none⟩ ∧ bb < w.heap.size ∧ ∀ i (h : i < ms.length), At w bb (off + i * 1) (encI ms[i]) from fun h => HA3.out (by omega))
    clear HA3
    by_cases hql : q = b.ts.length
    · subst hql
      have HE2 := Lib.hid (show E = 0 by rw [← HE.out]; unfold holdsE; rw [HN.out, hq]; simp)
      clear HE
      have HM : Hid (∀ i (h : i < b.ts.length), 0 ≤ (b.ts[i]).m.lo ∧ (b.ts[i]).m.lo ≤ (b.ts[i]).m.hi ∧ (b.ts[i]).m.hi ≤ 999999999) := Lib.hid (fun i hi => by have := HOK.out.tk _ (List.getElem_mem hi); omega)
      have HR2 : Hid (R = true ↔ IsAsg b ms) := Lib.hid (by rw [HR.out, HN.out]; simp)
      clear HR
      have HQ := Lib.hid hq
      clear hq
      have hbz : w.heap.size + 1 ≤ w1.heap.size := xz
      go_wp2_with ((refine wpList_mk1 encI 0 (.int .i64 0) rfl 22 3 8 Try.underlying22 Try.infoI rfl (by decide) (w.heap.size + 1) w1 (b.st.length + 1) (by omega) hbz rfl _ _ rfl .i64 .i64 rfl rfl ?_); intro w2 hown hgr; have HOW := Lib.hid hown; have HGR := Lib.hid hgr; have y0 := (HX1.out.grown hgr (by simp)).cell 0; have y1 := (HX1.out.grown hgr (by simp)).cell 1; simp only [List.getElem?_cons_zero, List.getElem?_cons_succ] at y0 y1; clear hown hgr)
      have hxx1 : Box w2 w.heap.size 38 [.slice a1 b.st.length c1, .slice a2 b.ts.length c2] := HX1.out.grown HGR.out (by simp)
      have HOL := Lib.hid (show HolW w w2 [.slice a1 b.st.length c1, .slice a2 b.ts.length c2] w1.heap.size b ms 0 from
        ⟨HB1.out.trans ((grown_none_below HGR.out).mono HB1.out.size), hxx1, by rw [chgL_len, chgL_zero]; exact HOW.out, hbz⟩)
      clear x0 x1 xz hbz HOW HGR HX1 HB1 y0 y1 hxx1
      go_loopw [31] (fun j wr => ∃ k : Nat, k ≤ b.ts.length ∧ j = .int .i64 k ∧ HolW w wr [.slice a1 b.st.length c1, .slice a2 b.ts.length c2] w1.heap.size b ms k ∧ ∀ i (h : i < k) (h' : i < b.ts.length) (h2 : i < ms.length), (b.ts[i]).m.has ms[i]) (fun j _ => b.ts.length - (intOf j).toNat)
      case atStart => exact ⟨0, by omega, rfl, HOL.out, fun i h => absurd h (by omega)⟩
      case round =>
        clear HOL
        obtain ⟨k, hk, rfl, hx, hrel⟩ := hrel
        have HL := Lib.hid hrel
        clear hrel
        by_cases hlt : k < b.ts.length
        · obtain ⟨bb, off, rfl, hbb, hcells⟩ := HA2.out (by omega)
          obtain ⟨e0, e1, e2, e3, e4⟩ := ((hcells k hlt).below hx.below hbb).c5
          obtain ⟨b3, o3, rfl, hb3, hcells3⟩ := HA3'.out (by omega)
          have hk3 : k < ms.length := by rw [HQ.out]; omega
          have f0 := ((hcells3 k hk3).below hx.below hb3).c1
          rw [Nat.mul_one] at f0
          obtain ⟨m0, m1, m2⟩ := HM.out k hlt
          obtain ⟨⟨t1, t2, t3, t4, t5⟩, hsucc⟩ := chgL_succ HOK.out HQ.out hlt hk3
          obtain ⟨y, hy⟩ : ∃ y, ms[k] = y := ⟨_, rfl⟩
          obtain ⟨t, ht⟩ : ∃ t, b.ts[k] = t := ⟨_, rfl⟩
          rw [hy] at f0 hsucc
          rw [ht] at e0 e1 e2 e3 e4 m0 m1 m2 hsucc
          simp only [ht] at t1 t2 t3 t4 t5
          have HTT := Lib.hid (show t ∈ b.ts from by rw [← ht]; exact List.getElem_mem hlt)
          obtain ⟨tid, tfr, tto, tlo, thi⟩ := t
          dsimp only at *
          have hbd : ∀ x, -128000000000 ≤ gain [x] (b.ts.take k) (ms.take k) ∧ gain [x] (b.ts.take k) (ms.take k) ≤ 128000000000 := fun x => by
            have h := gain_bd [x] (b.ts.take k) (ms.take k) (fun z hz => by
              obtain ⟨i, hi, rfl⟩ := List.mem_iff_getElem.1 hz
              have hi' : i < k := by simp at hi; omega
              rw [List.getElem_take]
              have h3 := HL.out i hi' (by omega) (by omega)
              have h4 := HM.out i (by omega)
              unfold Rg.has at h3
              omega)
            have : ((b.ts.take k).length : Int) ≤ 128 := by have := List.length_take_le k b.ts; omega
            omega
          obtain ⟨p1, p2⟩ := hbd tto
          obtain ⟨p3, p4⟩ := hbd tfr
          have o1 := chgL_old (ms := ms) (k := k) tto t1 t2
          have o2 := chgL_old (ms := ms) (k := k) tfr t3 t4
          clear hbd
          obtain ⟨G1, hG1⟩ : ∃ G, gain [tto] (b.ts.take k) (ms.take k) = G := ⟨_, rfl⟩
          obtain ⟨G2, hG2⟩ : ∃ G, gain [tfr] (b.ts.take k) (ms.take k) = G := ⟨_, rfl⟩
          rw [hG1] at p1 p2 o1 hsucc
          rw [hG2] at p3 p4 o2 hsucc
          clear hG1 hG2
          have HO1 := Lib.hid o1
          have HO2 := Lib.hid o2
          clear o1 o2
          have HSU := Lib.hid hsucc
          clear hsucc
          have HY := Lib.hid hy
          clear hy
          have HT := Lib.hid ht
          clear ht
          have hbz : b3 < wr.heap.size := by have := hx.below.size; omega
          clear hcells hcells3 HA3' HA2
          go_wp2_with fail
          have hxA := hx.later ((Below.refl _ _).alloc (Nat.le_refl _) (.cells #[.string tid, .int .i64 tfr, .int .i64 tto, .int .i64 tlo, .int .i64 thi] 53))
          have hbt := Box.new wr #[.string tid, .int .i64 tfr, .int .i64 tto, .int .i64 tlo, .int .i64 thi] 53
          have f0A : (wr.alloc (.cells #[.string tid, .int .i64 tfr, .int .i64 tto, .int .i64 tlo, .int .i64 thi] 53)).cell? ⟨b3, o3 + k, none⟩ = some (.int .i64 y) := by
            rw [((Below.refl wr.heap.size wr).alloc (Nat.le_refl _) (.cells #[.string tid, .int .i64 tfr, .int .i64 tto, .int .i64 tlo, .int .i64 thi] 53)).cell (p := ⟨b3, o3 + k, none⟩) hbz]; exact f0
          have hBN : wr.heap.size ≠ w1.heap.size := by
            obtain ⟨g', cap, e, hg', hgl⟩ := hx.own.form (by rw [chgL_len]; omega)
            cases e; omega
          generalize wr.alloc (.cells #[.string tid, .int .i64 tfr, .int .i64 tto, .int .i64 tlo, .int .i64 thi] 53) = W0 at *
          clear hx e0 e1 e2 e3 e4 f0 hbz
          generalize wr.heap.size = Bt at *
          have d0 := hbt.cell 0
          have d1 := hbt.cell 1
          have d2 := hbt.cell 2
          have d3 := hbt.cell 3
          have d4 := hbt.cell 4
          have dz := hbt.lt
          simp only [List.getElem?_cons_zero, List.getElem?_cons_succ] at d0 d1 d2 d3 d4
          by_cases h1 : y < tlo
          · go_quiet (fail)
            go_wp2_with fail
            have hF : R = false := Bool.eq_false_iff.2 fun hT => absurd ((HR2.out.1 hT).tk k hlt) (by rw [HT.out, HY.out]; unfold Rg.has; dsimp only; omega)
            subst hF
            refine bodyPost_ret (results_tmp2 rfl _ _ _) rfl ?_
            exact ⟨by rw [HE2.out]; rfl, below_drewN hxA.below _⟩
          by_cases h2 : thi < y
          · go_quiet (fail)
            go_wp2_with fail
            have hF : R = false := Bool.eq_false_iff.2 fun hT => absurd ((HR2.out.1 hT).tk k hlt) (by rw [HT.out, HY.out]; unfold Rg.has; dsimp only; omega)
            subst hF
            refine bodyPost_ret (results_tmp2 rfl _ _ _) rfl ?_
            exact ⟨by rw [HE2.out]; rfl, below_drewN hxA.below _⟩
          · go_quiet (fail)
            have hxB := hxA.later (below_drewN (Below.refl _ _) nq)
            have hbB := hbt.later (below_drewN (Below.refl _ _) nq)
            have f0B : (W0.drewN nq).cell? ⟨b3, o3 + k, none⟩ = some (.int .i64 y) := f0A
            generalize W0.drewN nq = W1 at *
            clear hxA hbt f0A d0 d1 d2 d3 d4 dz
            have d1 := hbB.cell 1
            have d2 := hbB.cell 2
            have dz := hbB.lt
            simp only [List.getElem?_cons_zero, List.getElem?_cons_succ] at d1 d2
            have c1' := hxB.cell t2 HO1.out
            have c2' := hxB.cell t4 HO2.out
            have hfr := hxB.own.frozen
            have HSX := Lib.hid (hxB.set2 t2 t4 HSU.out)
            have hNb : b3 ≠ w1.heap.size := by have := hxB.ge; omega
            clear hxB
            go_wp2_with fail
            refine wp_region_head_drew 11 (by kernel_rfl) (by kernel_rfl) ?_
            simp only [List.take_succ_cons, List.take_zero, List.drop_succ_cons, List.drop_zero]
            repeat go_big_quiet_step (fail)
            refine wpQuiet_nil ?_
            rintro _ ⟨nq, rfl⟩
            go_wp2_with fail
            have f0C : (((W1.drewN nq).setCell ⟨w1.heap.size, (tto + 1).toNat, none⟩ (.int .i64 (G1 + y)))).cell? ⟨b3, o3 + k, none⟩ = some (.int .i64 y) := by
              rw [cell_other _ _ _ _ _ _ (.inl (Ne.symm hNb))]; exact f0B
            have hbC := (hbB.later (below_drewN (Below.refl _ _) nq)).other (a := ⟨w1.heap.size, (tto + 1).toNat, none⟩) (.int .i64 (G1 + y)) (Ne.symm hBN)
            have c2C : (((W1.drewN nq).setCell ⟨w1.heap.size, (tto + 1).toNat, none⟩ (.int .i64 (G1 + y)))).cell? ⟨w1.heap.size, (tfr + 1).toNat, none⟩ = some (.int .i64 G2) := by
              rw [cell_other _ _ _ _ _ _ (.inr (Ne.symm t5))]; exact c2'
            have hfC : ∀ o, (((W1.drewN nq).setCell ⟨w1.heap.size, (tto + 1).toNat, none⟩ (.int .i64 (G1 + y)))).frozen? ⟨w1.heap.size, o, none⟩ = false := fun o => by rw [World.frozen?_setCell]; exact hfr o
            have HSY := Lib.hid (HSX.out nq)
            generalize (W1.drewN nq).setCell ⟨w1.heap.size, (tto + 1).toNat, none⟩ (.int .i64 (G1 + y)) = W2 at *
            clear nq
            clear hbB d1 d2 dz c1' c2' hfr f0B HSX
            have d1 := hbC.cell 1
            have dz := hbC.lt
            simp only [List.getElem?_cons_zero, List.getElem?_cons_succ] at d1
            clear hbC
            refine wp_region_head_drew 11 (by kernel_rfl) (by kernel_rfl) ?_
            simp only [List.take_succ_cons, List.take_zero, List.drop_succ_cons, List.drop_zero]
            repeat go_big_quiet_step (fail)
            refine wpQuiet_nil ?_
            rintro _ ⟨nq, rfl⟩
            go_wp2_with fail
            go_roundw
            case rel => exact ⟨k + 1, by omega, by go_num, HSY.out nq, fun i h h' h3 => by
              by_cases hik : i = k
              · subst hik; rw [HT.out, HY.out]; unfold Rg.has; dsimp only; omega
              · exact HL.out i (by omega) h' h3⟩
            case measure => simp [intOf]; omega
        · obtain rfl : b.ts.length = k := by omega
          have HMS := Lib.hid (fun i (h : i < b.ts.length) (h' : i < ms.length) => (⟨Int.le_trans (HM.out i h).1 (HL.out i h h h').1, Int.le_trans (HL.out i h h h').2 (HM.out i h).2.2⟩ : 0 ≤ ms[i] ∧ ms[i] ≤ 999999999))
          have hbd : ∀ x, -128000000000 ≤ gain [x] b.ts ms ∧ gain [x] b.ts ms ≤ 128000000000 := fun x => by
            have h := gain_bd [x] b.ts ms (fun z hz => by
              obtain ⟨i, hi, rfl⟩ := List.mem_iff_getElem.1 hz
              exact HMS.out i (by rw [← HQ.out]; exact hi) hi)
            omega
          have HBD := Lib.hid hbd
          have HCH := Lib.hid (show ∀ v (h : v < b.st.length), (chgL b ms b.ts.length)[v + 1]'(by rw [chgL_len]; omega) = gain [(v : Int)] b.ts ms from fun v h => by
            rw [chgL_get _ _ _ _ (by omega), List.take_length, List.take_of_length_le (by rw [HQ.out]; exact Nat.le_refl _)]
            congr 2
            omega)
          clear hbd HA2 HA3' HMS
          have x0 := hx.box.cell 0
          have x1 := hx.box.cell 1
          have xz := hx.box.lt
          simp only [List.getElem?_cons_zero, List.getElem?_cons_succ] at x0 x1
          have HX := Lib.hid hx
          clear hx
          go_wp2_with fail
          clear x0 x1 xz
          go_loopw [82] (fun j w2 => ∃ k : Nat, k ≤ b.st.length ∧ j = .int .i64 k ∧ HolW w w2 [.slice a1 b.st.length c1, .slice a2 b.ts.length c2] w1.heap.size b ms b.ts.length ∧ ∀ p (h : p < k) (h' : p < b.st.length), (b.st[p]).has (gain [(p : Int)] b.ts ms)) (fun j _ => b.st.length - (intOf j).toNat)
          case atStart => exact ⟨0, by omega, rfl, HX.out, fun i h => absurd h (by omega)⟩
          case round =>
            clear HX
            obtain ⟨k, hk, rfl, hx, hrel⟩ := hrel
            have HPP := Lib.hid hrel
            clear hrel
            by_cases hlt : k < b.st.length
            · obtain ⟨bb, off, rfl, hbb, hcells⟩ := HA1.out (by omega)
              obtain ⟨e0, e1⟩ := ((hcells k hlt).below hx.below hbb).c2
              have hcc := hx.cell (i := k + 1) (by omega) (HCH.out k hlt)
              obtain ⟨q1, q2⟩ := HBD.out (k : Int)
              obtain ⟨g, hg⟩ : ∃ g, gain [(k : Int)] b.ts ms = g := ⟨_, rfl⟩
              obtain ⟨r, hr⟩ : ∃ r, b.st[k] = r := ⟨_, rfl⟩
              rw [hg] at q1 q2 hcc
              rw [hr] at e0 e1
              obtain ⟨lo, hi⟩ := r
              dsimp only at *
              have HGE := Lib.hid hg
              clear hg
              have HRR := Lib.hid hr
              clear hr
              clear hcells HA1
              go_wp2_with fail
              have hxA := hx.later ((Below.refl _ _).alloc (Nat.le_refl _) (.cells #[.int .i64 lo, .int .i64 hi] 24))
              have hbt := Box.new wr #[.int .i64 lo, .int .i64 hi] 24
              have hcA := hxA.cell (i := k + 1) (by omega) (HCH.out k hlt)
              rw [HGE.out] at hcA
              generalize wr.alloc (.cells #[.int .i64 lo, .int .i64 hi] 24) = W0 at *
              clear hx e0 e1 hcc
              generalize wr.heap.size = Bt at *
              have d0 := hbt.cell 0
              have d1 := hbt.cell 1
              have dz := hbt.lt
              simp only [List.getElem?_cons_zero, List.getElem?_cons_succ] at d0 d1
              by_cases h1 : g < lo
              · go_quiet (fail)
                go_wp2_with fail
                have hF : R = false := Bool.eq_false_iff.2 fun hT => absurd ((HR2.out.1 hT).pl k hlt) (by rw [HRR.out, HGE.out]; unfold Rg.has; dsimp only; omega)
                subst hF
                refine bodyPost_ret (results_tmp2 rfl _ _ _) rfl ?_
                exact ⟨by rw [HE2.out]; rfl, below_drewN hxA.below _⟩
              by_cases h2 : hi < g
              · go_quiet (fail)
                go_wp2_with fail
                have hF : R = false := Bool.eq_false_iff.2 fun hT => absurd ((HR2.out.1 hT).pl k hlt) (by rw [HRR.out, HGE.out]; unfold Rg.has; dsimp only; omega)
                subst hF
                refine bodyPost_ret (results_tmp2 rfl _ _ _) rfl ?_
                exact ⟨by rw [HE2.out]; rfl, below_drewN hxA.below _⟩
              · go_quiet (fail)
                go_wp2_with fail
                go_roundw
                case rel => exact ⟨k + 1, by omega, by go_num, hxA.later (below_drewN (Below.refl _ _) nq), fun p h h' => by
                  by_cases hpk : p = k
                  · subst hpk; rw [HRR.out, HGE.out]; unfold Rg.has; dsimp only; omega
                  · exact HPP.out p (by omega) h'⟩
                case measure => simp [intOf]; omega
            · obtain rfl : b.st.length = k := by omega
              have hT : R = true := HR2.out.2 ⟨HQ.out, fun i h => HL.out i h h (by rw [HQ.out]; exact h), fun p h => HPP.out p h h⟩
              subst hT
              have HBE := Lib.hid hx.below
              clear hx
              go_wp2_with fail
              refine bodyPost_ret (results_tmp2 rfl _ _ _) rfl ?_
              exact ⟨by rw [HE2.out]; rfl, HBE.out⟩
    · have hne : ((q : Int) == (b.ts.length : Int)) = false := by simp; omega
      have hF : R = false := Bool.eq_false_iff.2 fun h => hql (by rw [← hq]; exact (HR.out.1 h).2.len)
      have HF := Lib.hid (show E = 2 by rw [← HE.out]; unfold holdsE; rw [HN.out, hq]; simp [hql])
      subst hF
      have HQQ := Lib.hid hq
      clear hq
      clear hql
      go_wp2_with fail
      refine bodyPost_ret (results_tmp2 rfl _ _ _) rfl ?_
      exact ⟨by rw [HF.out]; rfl, HB1.out⟩
  · have hne : (n == 0) = false := by simp [h0]
    have hF : R = false := Bool.eq_false_iff.2 fun h => h0 (by rw [← HN.out]; exact (HR.out.1 h).1)
    have HF := Lib.hid (show E = n by rw [← HE.out]; unfold holdsE; rw [HN.out]; simp [h0])
    subst hF
    go_wp2_with fail
    refine bodyPost_ret (results_tmp2 rfl _ _ _) rfl ?_
    exact ⟨by rw [HF.out]; rfl, HB1.out⟩
end Go.Proofs.Ytlakcghdehdeiaa

/- Walks: shows (weigh). -/
namespace Go.Proofs.Ytlakcghdehdeiaa
open Go Go.Proofs Go.RowKit

def stLo (b : Bk) (P : List Int) : Int := tot (fun p : Int => (b.st.getD p.toNat default).lo) P
def stHi (b : Bk) (P : List Int) : Int := tot (fun p : Int => (b.st.getD p.toNat default).hi) P
def comLo (P : List Int) (ts : List Tk) : Int := tot (fun t : Tk => if t.to ∈ P ∧ t.fr ∉ P then t.m.lo else 0) ts
def comHi (P : List Int) (ts : List Tk) : Int := tot (fun t : Tk => if t.to ∈ P ∧ t.fr ∉ P then t.m.hi else 0) ts
def goLo (P : List Int) (ts : List Tk) : Int := tot (fun t : Tk => if t.fr ∈ P ∧ t.to ∉ P then t.m.lo else 0) ts
def goHi (P : List Int) (ts : List Tk) : Int := tot (fun t : Tk => if t.fr ∈ P ∧ t.to ∉ P then t.m.hi else 0) ts
/-- Places show that there is no assignment. -/
def ShowsP (b : Bk) (P : List Int) : Prop := comHi P b.ts - goLo P b.ts < stLo b P ∨ stHi b P < comLo P b.ts - goHi P b.ts
/-- Different places. -/
structure OkPl (b : Bk) (P : List Int) : Prop where
  inr : ∀ p ∈ P, 0 ≤ p ∧ p < b.st.length
  nodup : P.Nodup
theorem OkPl.short {b : Bk} {P : List Int} (h : OkPl b P) : P.length ≤ b.st.length := by
  have := nodup_short b.st.length (P.map Int.toNat) (List.pairwise_map.2 (h.nodup.imp_of_mem fun {x y} hx hy hne e => by
    have := h.inr x hx
    have := h.inr y hy
    omega)) (fun i hi => by
    obtain ⟨p, hp, rfl⟩ := List.mem_map.1 hi
    have := h.inr p hp
    omega)
  simpa using this
/-- Which nodes the first k places are. -/
def inL (n : Nat) (P : List Int) : List Bool := (List.range (n + 1)).map fun (v : Nat) => decide ((v : Int) - 1 ∈ P)
theorem inL_len (n : Nat) (P : List Int) : (inL n P).length = n + 1 := by simp [inL]
theorem inL_get (n : Nat) (P : List Int) (v : Nat) (h : v < n + 1) : (inL n P)[v]'(by rw [inL_len]; exact h) = decide ((v : Int) - 1 ∈ P) := by simp [inL]
theorem inL_nil (n : Nat) : inL n [] = List.replicate (n + 1) false := by
  apply List.ext_getElem (by simp [inL])
  intro i h1 h2
  simp [inL]
theorem inL_snoc (n : Nat) (P : List Int) (q : Nat) (hq : q < n) : inL n (P ++ [(q : Int)]) = (inL n P).set (q + 1) true := by
  apply List.ext_getElem (by simp [inL])
  intro v h1 h2
  have hv : v < n + 1 := by rw [inL_len] at h1; exact h1
  rw [inL_get _ _ _ hv, List.getElem_set, inL_get _ _ _ hv]
  by_cases h : q + 1 = v
  · rw [if_pos h, decide_eq_true_eq, List.mem_append]
    exact .inr (by simp; omega)
  · rw [if_neg h, decide_eq_decide, List.mem_append]
    constructor
    · rintro (h2 | h2)
      · exact h2
      · simp at h2; omega
    · exact .inl
theorem sums_bd {P : List Int} : ∀ {ts : List Tk}, (∀ t ∈ ts, 0 ≤ t.m.lo ∧ t.m.lo ≤ t.m.hi ∧ t.m.hi ≤ 999999999) →
    (0 ≤ comLo P ts ∧ comLo P ts ≤ ts.length * 999999999) ∧ (0 ≤ comHi P ts ∧ comHi P ts ≤ ts.length * 999999999) ∧ (0 ≤ goLo P ts ∧ goLo P ts ≤ ts.length * 999999999) ∧ (0 ≤ goHi P ts ∧ goHi P ts ≤ ts.length * 999999999)
  | [], _ => by simp [comLo, comHi, goLo, goHi, tot]
  | t :: ts, h => by
    have ih := sums_bd (P := P) (ts := ts) (fun x hx => h x (by simp [hx]))
    have ht := h t (by simp)
    have e : ((ts.length + 1 : Nat) : Int) * 999999999 = ts.length * 999999999 + 999999999 := by push_cast; omega
    simp only [comLo, comHi, goLo, goHi, tot, List.length_cons] at ih ⊢
    rw [e]
    refine ⟨?_, ?_, ?_, ?_⟩ <;> split <;> omega
theorem st_bd {b : Bk} (hok : OkBk b) : ∀ {P : List Int}, (∀ p ∈ P, 0 ≤ p ∧ p < b.st.length) → (-(P.length * 999999999 : Int) ≤ stLo b P ∧ stLo b P ≤ P.length * 999999999) ∧ (-(P.length * 999999999 : Int) ≤ stHi b P ∧ stHi b P ≤ P.length * 999999999)
  | [], _ => by simp [stLo, stHi, tot]
  | p :: P, h => by
    have ih := st_bd hok (P := P) (fun x hx => h x (by simp [hx]))
    have hp := h p (by simp)
    have hm := hok.st (b.st.getD p.toNat default) (by
      rw [List.getD_eq_getElem?_getD, List.getElem?_eq_getElem (by omega)]; exact List.getElem_mem _)
    have e : ((P.length + 1 : Nat) : Int) * 999999999 = P.length * 999999999 + 999999999 := by push_cast; omega
    simp only [stLo, stHi, tot, List.length_cons] at ih ⊢
    rw [e]
    omega
end Go.Proofs.Ytlakcghdehdeiaa
