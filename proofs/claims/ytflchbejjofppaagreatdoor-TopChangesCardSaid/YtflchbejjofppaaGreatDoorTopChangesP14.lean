/- Lemmas on the way to the law TopChanges (part 14): WPa WSx WUc Kn La -/
import Derived.Test.YtflchbejjofppaaGreatDoorTopChangesP13
import Derived.Test.YtflchbejjofppaaGreatDoorTopChangesP08
set_option linter.unusedVariables false
set_option linter.unusedSimpArgs false

/- Assignments of masses are circulations. -/
namespace Go.Proofs.YtflchbejjofppaaGreatDoor
open Go Go.Proofs Go.RowKit
def tkFl (t : Tk) (m : Int) : Ac := { tkAc t with fl := m }
def asgL (b : Bk) (ms : List Int) : List Ac := List.zipWith tkFl b.ts ms ++ (List.range b.st.length).map fun p => { stAc p (b.st.getD p default) with fl := gain [(p : Int)] b.ts ms }
theorem shp_append (l l' : List Ac) : shp (l ++ l') = shp l ++ shp l' := by simp [shp]
theorem shp_zip : ∀ (ts : List Tk) (ms : List Int), ms.length = ts.length → shp (List.zipWith tkFl ts ms) = shp (ts.map tkAc)
  | [], _, _ => by simp
  | t :: ts, [], h => by simp at h
  | t :: ts, m :: ms, h => by
    simp only [List.zipWith_cons_cons, List.map_cons]
    have := shp_zip ts ms (by simpa using h)
    simp only [shp, List.map_cons] at this ⊢
    rw [this]; rfl
theorem shp_asgL {b : Bk} {ms : List Int} (h : ms.length = b.ts.length) : shp (asgL b ms) = shp (arcsOf b) := by
  unfold asgL arcsOf
  rw [shp_append, shp_append, shp_zip _ _ h]
  congr 1
  simp only [shp, stTo, List.map_map]
  rfl
theorem toNat_at {x : Int} (h : -1 ≤ x) (p : Nat) : (x + 1).toNat = p + 1 ↔ x ∈ [(p : Int)] := by simp; omega
theorem exc_tk (p : Nat) : ∀ (ts : List Tk) (l : List Ac), shp l = shp (ts.map tkAc) → (∀ t ∈ ts, -1 ≤ t.fr ∧ -1 ≤ t.to) → exc (p + 1) l = gain [(p : Int)] ts (l.map Ac.fl)
  | [], [], _, _ => by simp [exc, tot, gain]
  | [], a :: l, h, _ => by simp [shp] at h
  | t :: ts, [], h, _ => by simp [shp] at h
  | t :: ts, a :: l, h, hT => by
    simp only [shp, List.map_cons, List.cons.injEq] at h
    obtain ⟨e1, e2, e3, e4⟩ := bare_eq h.1
    have ih := exc_tk p ts l h.2 (fun x hx => hT x (by simp [hx]))
    obtain ⟨h1, h2⟩ := hT t (by simp)
    have k1 : a.fr = p + 1 ↔ t.fr ∈ [(p : Int)] := by rw [e1]; exact toNat_at h1 p
    have k2 : a.to = p + 1 ↔ t.to ∈ [(p : Int)] := by rw [e2]; exact toNat_at h2 p
    simp only [exc, tot, List.map_cons, gain] at ih ⊢
    rw [ih]
    simp only [Ac.at, k1, k2]
theorem zip_fl : ∀ (ts : List Tk) (ms : List Int), ms.length = ts.length → (List.zipWith tkFl ts ms).map Ac.fl = ms
  | [], ms, h => by simp at h; simp [h]
  | t :: ts, [], h => by simp at h
  | t :: ts, m :: ms, h => by
    simp only [List.zipWith_cons_cons, List.map_cons]
    rw [zip_fl ts ms (by simpa using h)]; rfl
theorem tot_take (f : Ac → Int) (l : List Ac) : ∀ k, k ≤ l.length → tot f (l.take k) = sumN k (fun q => atI f l q)
  | 0, _ => by simp [tot, sumN]
  | k + 1, h => by
    rw [take_snoc l k (by omega), tot_snoc, tot_take f l k (by omega)]
    show _ = sumN k _ + _
    congr 1
    show _ = atI f l k
    unfold atI
    rw [List.getElem?_eq_getElem (by omega)]
theorem tot_getD (f : Ac → Int) (l : List Ac) : tot f l = sumN l.length (fun q => atI f l q) := by
  have := tot_take f l l.length (Nat.le_refl _)
  rwa [List.take_length] at this
theorem exc_st (b : Bk) (l : List Ac) (h : shp l = shp (stTo b.st b.st.length)) (p : Nat) (hp : p < b.st.length) : exc (p + 1) l = - atI Ac.fl l p := by
  have hl := shp_length h
  have hl2 : l.length = b.st.length := by rw [hl]; simp [stTo]
  unfold exc
  rw [tot_getD, hl2]
  have : ∀ q, q < b.st.length → atI (fun a => a.at (p + 1)) l q = if q = p then -atI Ac.fl l p else 0 := by
    intro q hq
    have hb := shp_get h q (by omega) (by omega)
    obtain ⟨e1, e2, e3, e4⟩ := bare_eq hb
    simp [stTo, stAc] at e1 e2
    unfold atI
    rw [List.getElem?_eq_getElem (show q < l.length by omega)]
    simp only [Ac.at, e1, e2]
    by_cases hqp : q = p
    · subst hqp; simp [List.getElem?_eq_getElem (show q < l.length by omega)]
    · simp [hqp]
  rw [sumN_congr _ _ _ this, sumN_one _ _ _ hp]
theorem sumN_bot (n : Nat) (f : Nat → Int) (h : ∀ v, 0 < v → v < n → f v = 0) (hn : 0 < n) : sumN n f = f 0 := by
  induction n with
  | zero => omega
  | succ n ih =>
    show sumN n f + f n = _
    by_cases h0 : n = 0
    · subst h0; simp [sumN]
    · rw [ih (fun v h1 h2 => h v h1 (by omega)) (by omega), h n (by omega) (by omega), Int.add_zero]
def flows (b : Bk) (l : List Ac) : List Int := (l.take b.ts.length).map Ac.fl
theorem split_arcs {b : Bk} {l : List Ac} (h : shp l = shp (arcsOf b)) : shp (l.take b.ts.length) = shp (b.ts.map tkAc) ∧ shp (l.drop b.ts.length) = shp (stTo b.st b.st.length) := by
  unfold shp at h ⊢
  rw [List.map_take, List.map_drop, h]
  unfold arcsOf
  rw [← List.map_take, ← List.map_drop]
  rw [List.take_append_of_le_length (by simp), List.drop_append_of_le_length (by simp)]
  refine ⟨?_, by simp⟩
  rw [List.map_take, List.take_of_length_le (by simp)]
theorem flows_len {b : Bk} {l : List Ac} (h : shp l = shp (arcsOf b)) : (flows b l).length = b.ts.length := by
  have := shp_length h
  have h2 := arcs_len b
  simp [flows]; omega
theorem flows_get {b : Bk} {l : List Ac} (i : Nat) (hi : i < b.ts.length) : (flows b l)[i]? = l[i]?.map Ac.fl := by
  simp [flows, List.getElem?_take, hi]
theorem OkBk.ends {b : Bk} (hok : OkBk b) : ∀ t ∈ b.ts, -1 ≤ t.fr ∧ -1 ≤ t.to := fun t ht => by
  have := hok.tk t ht; omega
theorem circ_gain {b : Bk} {l : List Ac} (hok : OkBk b) (h : shp l = shp (arcsOf b)) (hc : Circ (b.st.length + 1) l) (p : Nat) (hp : p < b.st.length) : atI Ac.fl l (b.ts.length + p) = gain [(p : Int)] b.ts (flows b l) := by
  obtain ⟨h1, h2⟩ := split_arcs h
  have hb := hc.bal (p + 1) (by omega)
  have e : exc (p + 1) l = exc (p + 1) (l.take b.ts.length) + exc (p + 1) (l.drop b.ts.length) := by rw [← exc_append, List.take_append_drop]
  rw [e, exc_tk p b.ts _ h1 hok.ends, exc_st b _ h2 p hp] at hb
  have : atI Ac.fl (l.drop b.ts.length) p = atI Ac.fl l (b.ts.length + p) := by unfold atI; rw [List.getElem?_drop]
  unfold flows
  omega
theorem circ_asg {b : Bk} {l : List Ac} (hok : OkBk b) (h : shp l = shp (arcsOf b)) (hc : Circ (b.st.length + 1) l) : IsAsg b (flows b l) := by
  have hlen := shp_length h
  have hal := arcs_len b
  refine ⟨flows_len h, fun i hi => ?_, fun p hp => ?_⟩
  · have hl : i < l.length := by omega
    have hf := hc.fits _ (List.getElem_mem hl)
    have hg := flows_get (b := b) (l := l) i hi
    rw [List.getElem?_eq_getElem hl, Option.map_some, List.getElem?_eq_getElem (by rw [flows_len h]; exact hi)] at hg
    have hg' := Option.some.inj hg
    have hb := bare_eq (shp_get h i hl (by omega))
    have e : (arcsOf b)[i]'(by omega) = tkAc b.ts[i] := by
      unfold arcsOf
      rw [List.getElem_append_left (by simpa using hi), List.getElem_map]
    rw [e] at hb
    unfold Rg.has
    rw [hg']
    have h3 := hb.2.2.1
    have h4 := hb.2.2.2
    simp only [tkAc] at h3 h4
    omega
  · rw [← circ_gain hok h hc p hp]
    have hl : b.ts.length + p < l.length := by omega
    have hf := hc.fits _ (List.getElem_mem hl)
    have hb := bare_eq (shp_get h _ hl (by omega))
    have e : (arcsOf b)[b.ts.length + p]'(by omega) = stAc p b.st[p] := by
      unfold arcsOf
      rw [List.getElem_append_right (by simp)]
      simp [stTo, hp]
    rw [e] at hb
    have h3 := hb.2.2.1
    have h4 := hb.2.2.2
    simp only [stAc] at h3 h4
    unfold Rg.has atI
    rw [List.getElem?_eq_getElem hl]
    dsimp only
    omega
theorem asg_circ {b : Bk} {ms : List Int} (hok : OkBk b) (h : IsAsg b ms) : Circ (b.st.length + 1) (asgL b ms) ∧ flows b (asgL b ms) = ms := by
  have hsh := shp_asgL h.len
  have hfl : flows b (asgL b ms) = ms := by
    unfold flows asgL
    rw [List.take_append_of_le_length (by simp [h.len])]
    rw [List.take_of_length_le (by simp [h.len]), zip_fl _ _ h.len]
  refine ⟨⟨?_, ?_⟩, hfl⟩
  · intro a ha
    unfold asgL at ha
    rcases List.mem_append.1 ha with ha | ha
    · obtain ⟨i, hi, rfl⟩ := List.mem_iff_getElem.1 ha
      simp only [List.length_zipWith, h.len, Nat.min_self] at hi
      rw [List.getElem_zipWith]
      exact h.tk i hi
    · obtain ⟨p, hp, rfl⟩ := List.mem_map.1 ha
      have hp' := List.mem_range.1 hp
      have := h.pl p hp'
      unfold Rg.has at this
      simp only [stAc]
      rw [List.getD_eq_getElem?_getD, List.getElem?_eq_getElem hp']
      exact this
  · have hE : Ends (b.st.length + 1) (asgL b ms) := shp_ends hsh.symm (arcs_ends hok)
    have hpos : ∀ v, 0 < v → v < b.st.length + 1 → exc v (asgL b ms) = 0 := by
      intro v h0 hv
      obtain ⟨p, rfl⟩ : ∃ p, v = p + 1 := ⟨v - 1, by omega⟩
      have hp : p < b.st.length := by omega
      obtain ⟨h1, h2⟩ := split_arcs hsh
      have e : exc (p + 1) (asgL b ms) = exc (p + 1) ((asgL b ms).take b.ts.length) + exc (p + 1) ((asgL b ms).drop b.ts.length) := by rw [← exc_append, List.take_append_drop]
      rw [e, exc_tk p b.ts _ h1 hok.ends, exc_st b _ h2 p hp]
      have e2 : ((asgL b ms).take b.ts.length).map Ac.fl = ms := hfl
      rw [e2]
      have e3 : atI Ac.fl ((asgL b ms).drop b.ts.length) p = gain [(p : Int)] b.ts ms := by
        unfold atI asgL
        rw [List.getElem?_drop, List.getElem?_append_right (by simp [h.len])]
        simp [h.len, hp]
      omega
    intro v hv
    by_cases h0 : v = 0
    · subst h0
      have := exc_all hE
      rwa [sumN_bot _ _ hpos (by omega)] at this
    · exact hpos v (by omega) hv
theorem con_iff {b : Bk} (hok : OkBk b) : Con b ↔ ∃ ms, IsAsg b ms :=
  ⟨fun ⟨l, h, hc⟩ => ⟨_, circ_asg hok h hc⟩, fun ⟨ms, h⟩ => ⟨asgL b ms, shp_asgL h.len, (asg_circ hok h).1⟩⟩
def Span (b : Bk) (f : List Int → Int) (lo hi : Int) : Prop := (∃ ms, IsAsg b ms ∧ f ms = lo) ∧ (∃ ms, IsAsg b ms ∧ f ms = hi) ∧ ∀ ms, IsAsg b ms → lo ≤ f ms ∧ f ms ≤ hi
theorem Span.unique {b : Bk} {f : List Int → Int} {lo hi lo' hi' : Int} (h : Span b f lo hi) (h' : Span b f lo' hi') : lo = lo' ∧ hi = hi' := by
  obtain ⟨⟨m1, a1, e1⟩, ⟨m2, a2, e2⟩, h3⟩ := h
  obtain ⟨⟨m1', a1', e1'⟩, ⟨m2', a2', e2'⟩, h3'⟩ := h'
  have := h3 _ a1'
  have := h3 _ a2'
  have := h3' _ a1
  have := h3' _ a2
  omega
theorem extent_span {b : Bk} {i : Nat} {lo hi : Int} (hok : OkBk b) (hi' : i < b.ts.length) (h : Extent (b.st.length + 1) (arcsOf b) i lo hi) : Span b (fun ms => ms.getD i 0) lo hi := by
  obtain ⟨⟨l1, a1, s1, c1, g1, rfl⟩, ⟨l2, a2, s2, c2, g2, rfl⟩, h3⟩ := h
  refine ⟨⟨_, circ_asg hok s1 c1, ?_⟩, ⟨_, circ_asg hok s2 c2, ?_⟩, fun ms hm => ?_⟩
  · show (flows b l1).getD i 0 = _
    rw [List.getD_eq_getElem?_getD, flows_get i hi', g1]; rfl
  · show (flows b l2).getD i 0 = _
    rw [List.getD_eq_getElem?_getD, flows_get i hi', g2]; rfl
  · obtain ⟨c, e⟩ := asg_circ hok hm
    have hsh := shp_asgL hm.len
    have hl : i < (asgL b ms).length := by have := shp_length hsh; have := arcs_len b; omega
    have := h3 _ _ hsh c (List.getElem?_eq_getElem hl)
    have e2 := flows_get (b := b) (l := asgL b ms) i hi'
    rw [e, List.getElem?_eq_getElem hl] at e2
    show _ ≤ ms.getD i 0 ∧ ms.getD i 0 ≤ _
    rw [List.getD_eq_getElem?_getD, e2]
    exact this
theorem gain_tot (ps : List Int) (hn : ps.Nodup) : ∀ (ts : List Tk) (ms : List Int), gain ps ts ms = tot (fun p => gain [p] ts ms) ps := by
  have key : ∀ (x m : Int) (l : List Int), l.Nodup → tot (fun p => if x ∈ [p] then m else 0) l = if x ∈ l then m else 0 := by
    intro x m l
    induction l with
    | nil => intro _; simp [tot]
    | cons y l ih =>
      intro hn
      simp only [List.nodup_cons] at hn
      rw [tot, ih hn.2]
      simp only [List.mem_cons, List.not_mem_nil, or_false]
      by_cases h : x = y
      · subst h; simp [hn.1]
      · simp [h]
  intro ts
  induction ts with
  | nil => intro ms; simp [gain, tot_zero]
  | cons t ts ih =>
    intro ms
    cases ms with
    | nil => simp [gain, tot_zero]
    | cons m ms =>
      simp only [gain]
      rw [tot_add (fun p => (if t.to ∈ [p] then m else 0) - (if t.fr ∈ [p] then m else 0)), tot_sub, key _ _ _ hn, key _ _ _ hn, ← ih]
theorem flSum_gain {b : Bk} {l : List Ac} (hok : OkBk b) (h : shp l = shp (arcsOf b)) (hc : Circ (b.st.length + 1) l) (ps : List Int) (hn : ps.Nodup) (hp : ∀ p ∈ ps, 0 ≤ p ∧ p < b.st.length) :
    flSum (idx b.ts.length ps) l = gain ps b.ts (flows b l) := by
  rw [gain_tot ps hn]
  unfold flSum idx
  clear hn
  induction ps with
  | nil => rfl
  | cons p ps ih =>
    simp only [List.map_cons, tot]
    rw [ih (fun q hq => hp q (by simp [hq]))]
    obtain ⟨h1, h2⟩ := hp p (by simp)
    rw [circ_gain hok h hc p.toNat (by omega), show ((p.toNat : Nat) : Int) = p by omega]
theorem together_span {b : Bk} {ps : List Int} {lo hi : Int} (hok : OkBk b) (hn : ps.Nodup) (hp : ∀ p ∈ ps, 0 ≤ p ∧ p < b.st.length) (h : Together b.st.length (arcsOf b) (idx b.ts.length ps) lo hi) : Span b (fun ms => gain ps b.ts ms) lo hi := by
  obtain ⟨⟨l1, s1, c1, rfl⟩, ⟨l2, s2, c2, rfl⟩, h3⟩ := h
  refine ⟨⟨_, circ_asg hok s1 c1, ?_⟩, ⟨_, circ_asg hok s2 c2, ?_⟩, fun ms hm => ?_⟩
  · exact (flSum_gain hok s1 c1 ps hn hp).symm
  · exact (flSum_gain hok s2 c2 ps hn hp).symm
  · obtain ⟨c, e⟩ := asg_circ hok hm
    have hsh := shp_asgL hm.len
    have := h3 _ hsh c
    rw [flSum_gain hok hsh c ps hn hp, e] at this
    exact this
end Go.Proofs.YtflchbejjofppaaGreatDoor
/- Plain: no arc leads from a node to itself. -/
namespace Go.Proofs.YtflchbejjofppaaGreatDoor
open Go Go.Proofs Go.RowKit
def NoLoop (l : List Ac) : Prop := ∀ a ∈ l, a.fr ≠ a.to
theorem arcs_noLoop {b : Bk} (hok : OkBk b) : NoLoop (arcsOf b) := fun a ha => (arcs_props hok ha).2.2.1
theorem smallS_of_arcs {b : Bk} (hok : OkBk b) {l : List Ac} (h : shp l = shp (arcsOf b)) : SmallS l 1000000000000 := SmallS.shp h (smallS_arcs hok)
theorem NoLoop.shp {l l' : List Ac} (h : NoLoop l) (hs : shp l' = shp l) : NoLoop l' := fun a ha => by
  obtain ⟨i, hi, rfl⟩ := List.mem_iff_getElem.1 ha
  have hi' : i < l.length := by rw [← shp_length hs]; exact hi
  have := bare_eq (shp_get hs i hi hi')
  have := h l[i] (List.getElem_mem hi')
  omega
theorem encI_one (x : Int) : ∀ u ∈ encI x, u.oneCell' = true := by intro u hu; simp [encI] at hu; subst hu; rfl
theorem row_here {w : World} {cs : Array Value} {e : TypeId} {g : Nat} (hg : w.heap.size = g) : (w.alloc (.cells cs e)).heap[g]? = some (.cells cs e (0, 0)) := by
  subst hg; exact Box.new w cs e
theorem Tryz.infoI : (Tryz.prog.info? 3).map (fun i => (i.zero, i.size, i.bytes)) = some (some (.int .i64 0), 1, 8) := by kernel_rfl
end Go.Proofs.YtflchbejjofppaaGreatDoor
/- Walks: Witness. -/
namespace Go.Proofs.YtflchbejjofppaaGreatDoor
open Go Go.Proofs Go.RowKit
theorem ends_more {n m : Nat} {l : List Ac} (h : Ends n l) (hnm : n ≤ m) : Ends m l := fun a ha => by have := h a ha; omega
def WitOk (b : Bk) (i : Nat) (high : Bool) (ms : List Int) : Prop := IsAsg b ms ∧ ∀ ms', IsAsg b ms' → if high then ms'.getD i 0 ≤ ms.getD i 0 else ms.getD i 0 ≤ ms'.getD i 0
theorem flows_at {b : Bk} {l : List Ac} {i : Nat} (hi : i < b.ts.length) {a : Ac} (h : l[i]? = some a) : (flows b l).getD i 0 = a.fl := by
  rw [List.getD_eq_getElem?_getD, flows_get i hi, h]; rfl
theorem witOk_of {b : Bk} {l l' : List Ac} {i : Nat} {high : Bool} (hok : OkBk b) (hi : i < b.ts.length) (hs : shp l = shp (arcsOf b)) (hc : Circ (b.st.length + 1) l) (hp : PushR l l' i high) : WitOk b i high (flows b l') := by
  have hs' := hp.shape.trans hs
  have hc' := hp.circ hc
  refine ⟨circ_asg hok hs' hc', fun ms' hms => ?_⟩
  obtain ⟨k1, k2⟩ := asg_circ hok hms
  have k3 := shp_asgL (b := b) hms.len
  have hll : l'.length = b.ts.length + b.st.length := by rw [shp_length hs', arcs_len]
  have hla : (asgL b ms').length = b.ts.length + b.st.length := by rw [shp_length k3, arcs_len]
  have e1 : l'[i]? = some (l'[i]'(by omega)) := List.getElem?_eq_getElem _
  have e2 : (asgL b ms')[i]? = some ((asgL b ms')[i]'(by omega)) := List.getElem?_eq_getElem _
  have h := hp.ext _ (shp_ends hs.symm (arcs_ends hok)) hc (asgL b ms') (k3.trans hs.symm) k1 _ _ e1 e2
  have f2 := flows_at hi e2
  rw [k2] at f2
  rw [flows_at hi e1, f2]
  exact h
def WitPost (w : World) (b : Bk) (t : Int) (high : Bool) (e : Ending) (w' : World) : Prop :=
  Below w.heap.size w w' ∧ ((ckBook b ≠ 0 ∧ e = .returned (.tuple #[.slice none 0 0, .int .i64 (ckBook b)])) ∨ (ckBook b = 0 ∧ (t < 0 ∨ b.ts.length ≤ t) ∧ e = .returned (.tuple #[.slice none 0 0, .int .i64 10])) ∨
    (ckBook b = 0 ∧ 0 ≤ t ∧ t < b.ts.length ∧ ¬ Con b ∧ e = .returned (.tuple #[.slice none 0 0, .int .i64 15])) ∨
    (ckBook b = 0 ∧ Con b ∧ ∃ i : Nat, t = i ∧ i < b.ts.length ∧ ∃ v ms, e = .returned (.tuple #[v, .int .i64 0]) ∧ Sl encI 1 w' w'.heap.size v ms ∧ WitOk b i high ms))
set_option maxRecDepth 100000 in
set_option maxHeartbeats 1000000 in
theorem witness43 (w : World) (v1 v2 : Value) (b : Bk) (t : Int) (high : Bool) (hv : BkR w w.heap.size v1 v2 b) : Calls Tryz.prog 15 #[.agg #[v1, v2], .int .i64 t, .bool high] w (WitPost w b t high) := by
  have HCK := Lib.hid (fun (w1 : World) (hb : Below w.heap.size w w1) => ckBook25 v1 v2 b w1 (hv.later hb))
  have HST := Lib.hid (fun (w1 : World) (hb : Below w.heap.size w w1) (hok : OkBk b) => settle72 w1 v1 v2 b hok (hv.later hb))
  obtain ⟨⟨a1, n1, hv1, hl1, hA1⟩, ⟨a2, n2, hv2, hl2, hA2⟩, hids⟩ := hv
  subst hv1 hv2
  clear hA1 hA2 hids
  obtain ⟨CK, hCK⟩ : ∃ CK, ckBook b = CK := ⟨_, rfl⟩
  rw [hCK] at HCK
  have ECK := Lib.hid hCK
  clear hCK
  go_enter Tryz.func15, Tryz.ntmps15
  go_wp2_with fail
  refine (HCK.out _ ((Below.refl _ _).alloc (Nat.le_refl _) _)).mono ?_
  rintro e w1 ⟨rfl, hb1⟩
  have HX1 := Lib.hid ((Box.new w #[.slice a1 b.st.length n1, .slice a2 b.ts.length n2] 25).later hb1)
  have HB1 := Lib.hid (((Below.refl w.heap.size w).alloc (Nat.le_refl _) (.cells #[.slice a1 b.st.length n1, .slice a2 b.ts.length n2] 25)).trans (hb1.mono (by simp)))
  clear hb1
  obtain ⟨x0, x1, xf, xz⟩ := HX1.out.v2
  by_cases h0 : CK = 0
  · subst h0
    have HOK := Lib.hid (okBk_of ECK.out)
    have h128 := HOK.out.ts128
    have h32 := HOK.out.st32
    by_cases ht0 : t < 0
    · have b1 : decide (t < 0) = true := decide_eq_true ht0
      go_wp2_with fail
      refine bodyPost_ret (results_tmp2 rfl _ _ _) rfl ?_
      exact ⟨HB1.out, .inr (.inl ⟨ECK.out, .inl ht0, rfl⟩)⟩
    · have b1 : decide (t < 0) = false := decide_eq_false ht0
      by_cases ht1 : (b.ts.length : Int) ≤ t
      · have b2 : decide ((b.ts.length : Int) ≤ t) = true := decide_eq_true ht1
        go_wp2_with fail
        refine bodyPost_ret (results_tmp2 rfl _ _ _) rfl ?_
        exact ⟨HB1.out, .inr (.inl ⟨ECK.out, .inr ht1, rfl⟩)⟩
      · have b2 : decide ((b.ts.length : Int) ≤ t) = false := decide_eq_false ht1
        obtain ⟨i, hi⟩ : ∃ i : Nat, t = i := ⟨t.toNat, by omega⟩
        subst hi
        have hil : i < b.ts.length := by omega
        go_wp2_with fail
        refine (HST.out _ HB1.out HOK.out).mono ?_
        intro e w2 hpost
        obtain ⟨ok, nb, v, l, rc, rfl, hnet, hb2, hnb, hsh, hft, hcon, hyes, _⟩ := settle_con HOK.out hpost
        have HX2 := Lib.hid (HX1.out.later hb2)
        have HB2 := Lib.hid (HB1.out.trans (hb2.mono HB1.out.size))
        have hzz : w.heap.size < nb ∧ w1.heap.size ≤ nb ∧ w.heap.size < w1.heap.size := by omega
        clear hpost hb2 x0 x1 xf xz HX1
        cases ok with
        | false =>
          have hnc : ¬ Con b := fun h => by have := hcon.2 h; cases this
          clear hnet hnb hsh hft hcon hyes
          go_wp2_with fail
          refine bodyPost_ret (results_tmp2 rfl _ _ _) rfl ?_
          exact ⟨HB2.out, .inr (.inr (.inl ⟨ECK.out, by omega, by omega, hnc, rfl⟩))⟩
        | true =>
          have hc := hyes rfl
          have hcc := hcon.1 rfl
          have hll : l.length = b.ts.length + b.st.length := by rw [shp_length hsh, arcs_len]
          have hne : ∀ (j : Nat) (h : j < l.length), l[j].fr ≠ l[j].to := fun j h => (arcs_noLoop HOK.out).shp hsh l[j] (List.getElem_mem h)
          have HNET := Lib.hid hnet
          have HSH := Lib.hid hsh
          have HC := Lib.hid hc
          have HCC := Lib.hid hcc
          have HNE := Lib.hid hne
          have HLL := Lib.hid hll
          have hzb : nb < w2.heap.size := hnet.box.lt
          clear hnet hsh hft hcon hyes hc hcc hne hll
          go_wp2_with fail
          refine (push80 _ nb v l b.ts.length b.st.length rc i high w2 HNET.out (by have := HLL.out; omega) (smallS_of_arcs HOK.out HSH.out) HC.out.fits (ends_more (shp_ends HSH.out.symm (arcs_ends HOK.out)) (by omega)) (by have := HLL.out; omega) (HNE.out i (by have := HLL.out; omega))).mono ?_
          rintro e w3 ⟨l', rc', rfl, hnet3, hk3, hp⟩
          have hc3 := hp.circ HC.out
          have hs3 := hp.shape.trans HSH.out
          have hll3 : l'.length = b.ts.length + b.st.length := by rw [shp_length hs3, arcs_len]
          have hmine : ¬ Mine nb v w.heap.size := by
            rintro (h | h)
            · omega
            · have := HNET.out.own.lt' _ h; omega
          have hx3 := HX2.out.keeps hk3 hmine
          have HB3 := Lib.hid (HB2.out.trans (hk3.toBelow (B := w.heap.size) HB2.out.size (fun k hk => by
            rcases hk with h | h
            · omega
            · have := HNET.out.own.lt' _ h; omega)))
          have HW := Lib.hid (witOk_of (high := high) HOK.out hil HSH.out HC.out hp)
          have HN3 := Lib.hid hnet3
          have HL3 := Lib.hid hll3
          obtain ⟨x0, x1, xf, xz⟩ := hx3.v2
          have HX3 := Lib.hid hx3
          have hfl : (flows b l').length = b.ts.length := flows_len hs3
          have HFL := Lib.hid hfl
          clear hnet3 hk3 hp hc3 hs3 hmine hx3 hfl hll3
          go_wp2_with fail
          go_loopw [41, 11] (fun j o wr => ∃ (k : Nat) (vo : Value), k ≤ b.ts.length ∧ j = .int .i64 k ∧ o = vo ∧ Below w3.heap.size w3 wr ∧ Own encI 1 3 wr w3.heap.size vo ((flows b l').take k)) (fun j _ _ => b.ts.length - (intOf j).toNat)
          case atStart => exact ⟨0, _, by omega, rfl, rfl, Below.refl _ _, Own.nil _ _ _ _ _⟩
          case round =>
            clear x0 x1 xf xz
            obtain ⟨k, vo, hk, rfl, rfl, hbe, hown⟩ := hrel
            have hnr := HN3.out.later hbe
            by_cases hlt : k < b.ts.length
            · have hkl : k < l'.length := by rw [HL3.out]; omega
              obtain ⟨g, cap, e1, hg, hgs⟩ := hnr.own.form (by omega)
              subst e1
              have c0 := hnr.toA.c0
              have zn := hnr.box.lt
              obtain ⟨_, _, _, _, f4⟩ := (hnr.own.at Ac.encW_len k hkl).c5
              have hfk : (flows b l')[k]'(by rw [HFL.out]; exact hlt) = l'[k].fl := by
                have h1 := flows_at hlt (List.getElem?_eq_getElem hkl)
                rw [List.getD_eq_getElem?_getD, List.getElem?_eq_getElem (by rw [HFL.out]; exact hlt)] at h1
                exact h1
              have HTK := Lib.hid (take_snoc (flows b l') k (by rw [HFL.out]; exact hlt))
              rw [hfk] at HTK
              obtain ⟨x, hx⟩ : ∃ x, l'[k].fl = x := ⟨_, rfl⟩
              rw [hx] at f4 HTK
              have HBE := Lib.hid (hbe.alloc hbe.size (.cells #[.int .i64 x] 3))
              have HOW := Lib.hid (hown.alloc (.cells #[.int .i64 x] 3))
              have HSZ := Lib.hid (show w3.heap.size ≤ (wr.alloc (.cells #[.int .i64 x] 3)).heap.size by have := hbe.size; simp; omega)
              have HLE := Lib.hid (show ((flows b l').take k).length ≤ 1000000 by have := List.length_take_le k (flows b l'); omega)
              clear hnr hfk hx hbe hown
              go_wp2_with (at_builtin; (refine wpList_pushB encI 1 8 26 3 _ Tryz.underlying26 Tryz.infoI rfl (by decide) (by decide) encI_len encI_one ((flows b l').take k) x w3.heap.size _ _ _ _ (row_here (by simp)) rfl _ HOW.out HSZ.out HLE.out rfl _ _ rfl rfl rfl ?_); intro v' w' hown' hg')
              go_roundw
              case rel =>
                refine ⟨k + 1, _, by omega, by go_num, rfl, grown_below HBE.out hg' HBE.out.size HOW.out.lt' (Nat.le_refl _), ?_⟩
                rw [HTK.out]; exact hown'
              case measure => simp [intOf]; omega
            · obtain rfl : b.ts.length = k := by omega
              rw [List.take_of_length_le (by rw [HFL.out]; exact Nat.le_refl _)] at hown
              have HOW := Lib.hid hown
              have HBE := Lib.hid (HB3.out.trans (hbe.mono HB3.out.size))
              clear hnr hbe hown
              go_wp2_with fail
              refine bodyPost_ret (results_tmp2 rfl _ _ _) rfl ?_
              exact ⟨HBE.out, .inr (.inr (.inr ⟨ECK.out, HCC.out, i, rfl, hil, _, flows b l', rfl, HOW.out.toSl encI_len (by rw [HFL.out]; omega), HW.out⟩))⟩
  · have b0 : (CK == 0) = false := beq_eq_false_iff_ne.2 h0
    go_wp2_with fail
    refine bodyPost_ret (results_tmp2 rfl _ _ _) rfl ?_
    exact ⟨HB1.out, .inl ⟨by rw [ECK.out]; exact h0, by rw [ECK.out]; rfl⟩⟩
end Go.Proofs.YtflchbejjofppaaGreatDoor
/- Plain: the law TopChanges: sums over the tickets that cross, gains within them, the only crossing ticket. -/
namespace Go.Proofs.YtflchbejjofppaaGreatDoor
open Go Go.Proofs
def inn (b : Bk) (ps : List Int) (k : Nat) : Bool := match b.ts[k]? with | some t => decide (t.to ∈ ps) && !decide (t.fr ∈ ps) | none => false
def oun (b : Bk) (ps : List Int) (k : Nat) : Bool := match b.ts[k]? with | some t => decide (t.fr ∈ ps) && !decide (t.to ∈ ps) | none => false
def rgA (rs : List Rg) (k : Nat) : Rg := rs.getD k ⟨0, 0⟩
def sumC (c : Nat → Bool) (f : Rg → Int) (rs : List Rg) (k : Nat) : Int := sumN k fun q => if c q = true then f (rgA rs q) else 0
theorem sumC_succ (c : Nat → Bool) (f : Rg → Int) (rs : List Rg) (k : Nat) : sumC c f rs (k + 1) = sumC c f rs k + (if c k = true then f (rgA rs k) else 0) := rfl
def crs (b : Bk) (ps : List Int) : Nat → Nat
  | 0 => 0
  | k + 1 => if inn b ps k = true ∨ oun b ps k = true then crs b ps k + 1 else crs b ps k
def onl (b : Bk) (ps : List Int) : Nat → Int
  | 0 => 0
  | k + 1 => if oun b ps k = true then -1 else if inn b ps k = true then (k : Int) else onl b ps k
theorem inn_oun (b : Bk) (ps : List Int) (k : Nat) : ¬ (inn b ps k = true ∧ oun b ps k = true) := by
  unfold inn oun
  cases b.ts[k]? with
  | none => simp
  | some t => by_cases h : t.to ∈ ps <;> simp [h]
theorem cross_spec (b : Bk) (ps : List Int) : ∀ k, (crs b ps k = 0 → onl b ps k = 0 ∧ ∀ q, q < k → inn b ps q = false ∧ oun b ps q = false) ∧
    (crs b ps k = 1 → 0 ≤ onl b ps k → ∃ i : Nat, onl b ps k = i ∧ i < k ∧ inn b ps i = true ∧ ∀ q, q < k → q ≠ i → inn b ps q = false ∧ oun b ps q = false)
  | 0 => ⟨fun _ => ⟨rfl, fun q h => absurd h (by omega)⟩, fun h => by simp [crs] at h⟩
  | k + 1 => by
    obtain ⟨h1, h2⟩ := cross_spec b ps k
    have hx := inn_oun b ps k
    constructor
    · intro h
      unfold crs at h
      split at h
      · omega
      · rename_i hn
        have ho : oun b ps k = false := by simpa using fun e => hn (.inr e)
        have hi : inn b ps k = false := by simpa using fun e => hn (.inl e)
        obtain ⟨e, ha⟩ := h1 h
        refine ⟨by unfold onl; rw [ho, hi]; simpa using e, fun q hq => ?_⟩
        rcases Nat.lt_or_ge q k with h | h
        · exact ha q h
        · obtain rfl : q = k := by omega
          exact ⟨hi, ho⟩
    · intro h hl
      unfold crs at h
      split at h
      · rename_i hn
        obtain ⟨_, ha⟩ := h1 (by omega)
        unfold onl at hl
        cases ho : oun b ps k with
        | true => rw [ho] at hl; simp at hl
        | false =>
          have hi : inn b ps k = true := hn.resolve_right (by rw [ho]; simp)
          refine ⟨k, by unfold onl; rw [ho, hi]; simp, by omega, hi, fun q hq hne => ha q (by omega)⟩
      · rename_i hn
        have ho : oun b ps k = false := by simpa using fun e => hn (.inr e)
        have hi : inn b ps k = false := by simpa using fun e => hn (.inl e)
        have e : onl b ps (k + 1) = onl b ps k := by unfold onl; rw [ho, hi]; cases k <;> simp [onl]
        rw [e] at hl ⊢
        obtain ⟨i, e1, e2, e3, e4⟩ := h2 h hl
        refine ⟨i, e1, by omega, e3, fun q hq hne => ?_⟩
        rcases Nat.lt_or_ge q k with h | h
        · exact e4 q h hne
        · obtain rfl : q = k := by omega
          exact ⟨hi, ho⟩
theorem gain_sum (S : List Int) (ts : List Tk) (ms : List Int) (hl : ms.length = ts.length) : ∀ k (hk : k ≤ ts.length),
    gain S ts ms = sumN k (fun q => (match ts[q]? with | some t => (if t.to ∈ S then ms.getD q 0 else 0) - (if t.fr ∈ S then ms.getD q 0 else 0) | none => 0)) + gain S (ts.drop k) (ms.drop k)
  | 0, _ => by simp [sumN]
  | k + 1, hk => by
    rw [gain_sum S ts ms hl k (by omega), gain_drop S ts ms k (by omega) (by omega)]
    simp only [sumN, List.getElem?_eq_getElem (show k < ts.length by omega), List.getD_eq_getElem?_getD, List.getElem?_eq_getElem (show k < ms.length by omega), Option.getD_some]
    omega
theorem gain_terms (b : Bk) (ps ms : List Int) (hl : ms.length = b.ts.length) :
    gain ps b.ts ms = sumN b.ts.length (fun q => (if inn b ps q = true then ms.getD q 0 else 0) - (if oun b ps q = true then ms.getD q 0 else 0)) := by
  rw [gain_sum ps b.ts ms hl b.ts.length (Nat.le_refl _), List.drop_length, List.drop_of_length_le (by omega)]
  have e : gain ps [] [] = 0 := rfl
  rw [e, Int.add_zero]
  apply sumN_congr
  intro q hq
  unfold inn oun
  rw [List.getElem?_eq_getElem hq]
  by_cases h1 : (b.ts[q]).to ∈ ps <;> by_cases h2 : (b.ts[q]).fr ∈ ps <;> simp [h1, h2]
theorem tight_span {b : Bk} {rs : List Rg} (hok : OkBk b) (hT : Tight b rs) {k : Nat} (hk : k < b.ts.length) (hl : rs.length = b.ts.length) : Span b (fun ms => ms.getD k 0) (rgA rs k).lo (rgA rs k).hi := by
  have h := hT k (rs[k]'(by omega)) (List.getElem?_eq_getElem (by omega))
  have e : rgA rs k = rs[k]'(by omega) := by unfold rgA; rw [List.getD_eq_getElem?_getD, List.getElem?_eq_getElem (by omega)]; rfl
  rw [e]
  exact extent_span hok hk h
theorem asg_at {b : Bk} {ms : List Int} (hok : OkBk b) (h : IsAsg b ms) (k : Nat) (hk : k < b.ts.length) : 0 ≤ ms.getD k 0 ∧ ms.getD k 0 ≤ 999999999 := by
  have h1 := h.tk k hk
  have h2 := hok.tk _ (List.getElem_mem hk)
  rw [List.getD_eq_getElem?_getD, List.getElem?_eq_getElem (by rw [h.len]; exact hk)]
  unfold Rg.has at h1
  simp only [Option.getD_some]
  omega
theorem tight_ok {b : Bk} {rs : List Rg} (hok : OkBk b) (hT : Tight b rs) {k : Nat} (hk : k < b.ts.length) (hl : rs.length = b.ts.length) : 0 ≤ (rgA rs k).lo ∧ (rgA rs k).lo ≤ (rgA rs k).hi ∧ (rgA rs k).hi ≤ 999999999 := by
  obtain ⟨⟨m1, a1, e1⟩, ⟨m2, a2, e2⟩, h3⟩ := tight_span hok hT hk hl
  have h1 := asg_at hok a1 k hk
  have h2 := asg_at hok a2 k hk
  have h4 := h3 m1 a1
  dsimp only at e1 e2 h4
  omega
theorem gain_within {b : Bk} {rs : List Rg} {ps ms : List Int} (hok : OkBk b) (hT : Tight b rs) (hl : rs.length = b.ts.length) (ha : IsAsg b ms) :
    sumC (inn b ps) Rg.lo rs b.ts.length - sumC (oun b ps) Rg.hi rs b.ts.length ≤ gain ps b.ts ms ∧ gain ps b.ts ms ≤ sumC (inn b ps) Rg.hi rs b.ts.length - sumC (oun b ps) Rg.lo rs b.ts.length := by
  rw [gain_terms b ps ms ha.len]
  unfold sumC
  rw [← sumN_sub, ← sumN_sub]
  constructor <;>
    (apply sumN_le
     intro q hq
     have h := (tight_span hok hT hq hl).2.2 ms ha
     dsimp only at h
     have hx := inn_oun b ps q
     cases h1 : inn b ps q <;> cases h2 : oun b ps q <;> simp only [h1, h2, if_true, if_false, Bool.false_eq_true, not_true_eq_false, and_self, and_true, and_false, false_and, not_false_eq_true] at hx ⊢ <;> omega)
theorem sumN_only (F : Nat → Int) (i : Nat) : ∀ n, (∀ q, q < n → q ≠ i → F q = 0) → sumN n F = if i < n then F i else 0
  | 0, _ => by simp [sumN]
  | n + 1, h => by
    have ih := sumN_only F i n (fun q hq hne => h q (by omega) hne)
    simp only [sumN]
    rw [ih]
    by_cases h1 : i < n
    · rw [if_pos h1, if_pos (by omega), h n (by omega) (by omega)]; omega
    · rw [if_neg h1]
      by_cases h2 : i = n
      · subst h2; rw [if_pos (by omega)]; omega
      · rw [if_neg (by omega), h n (by omega) (fun e => h2 e.symm)]; rfl
theorem none_cross {b : Bk} {ps : List Int} {lo hi : Int} (h0 : crs b ps b.ts.length = 0) (h : Span b (fun ms => gain ps b.ts ms) lo hi) : lo = 0 ∧ hi = 0 := by
  obtain ⟨⟨m1, a1, e1⟩, ⟨m2, a2, e2⟩, _⟩ := h
  have key : ∀ ms, IsAsg b ms → gain ps b.ts ms = 0 := fun ms ha => by
    rw [gain_terms b ps ms ha.len]
    rw [sumN_congr _ _ (fun _ => 0) (fun q hq => by obtain ⟨k1, k2⟩ := (((cross_spec b ps _).1 h0).2 q hq); rw [k1, k2]; simp), sumN_zero]
  dsimp only at e1 e2
  rw [key m1 a1] at e1
  rw [key m2 a2] at e2
  omega
theorem one_cross {b : Bk} {rs : List Rg} {ps : List Int} {lo hi : Int} (hok : OkBk b) (hT : Tight b rs) (hl : rs.length = b.ts.length) (h1 : crs b ps b.ts.length = 1) (h0 : 0 ≤ onl b ps b.ts.length) (h : Span b (fun ms => gain ps b.ts ms) lo hi) :
    ∃ i : Nat, onl b ps b.ts.length = i ∧ i < b.ts.length ∧ rgA rs i = ⟨lo, hi⟩ := by
  obtain ⟨i, e, hi', hin, hne⟩ := (cross_spec b ps _).2 h1 h0
  refine ⟨i, e, hi', ?_⟩
  have key : ∀ ms, IsAsg b ms → gain ps b.ts ms = ms.getD i 0 := fun ms ha => by
    rw [gain_terms b ps ms ha.len, sumN_only _ i _ (fun q hq hq2 => by obtain ⟨k1, k2⟩ := hne q hq hq2; rw [k1, k2]; simp), if_pos hi', hin]
    have : oun b ps i = false := by
      cases ho : oun b ps i with
      | false => rfl
      | true => exact absurd ⟨hin, ho⟩ (inn_oun b ps i)
    rw [this]; simp
  have hs : Span b (fun ms => ms.getD i 0) lo hi := by
    obtain ⟨⟨m1, a1, e1⟩, ⟨m2, a2, e2⟩, h3⟩ := h
    exact ⟨⟨m1, a1, (key m1 a1).symm.trans e1⟩, ⟨m2, a2, (key m2 a2).symm.trans e2⟩, fun ms ha => by have := h3 ms ha; dsimp only at this; rw [key ms ha] at this; exact this⟩
  obtain ⟨u1, u2⟩ := (tight_span hok hT hi' hl).unique hs
  cases hr : rgA rs i with
  | mk l u => rw [hr] at u1 u2; simp only at u1 u2; rw [u1, u2]
end Go.Proofs.YtflchbejjofppaaGreatDoor
/- The example of the law: the book, plainly and walked. -/
namespace Go.Proofs.YtflchbejjofppaaGreatDoor
open Go Go.Proofs Go.RowKit
theorem Sl.litAt {α : Type} {f : α → List Value} {sz : Nat} (hf : ∀ x, (f x).length = sz) (l : List α) (w : World) (cs : Array Value) (e : TypeId) (n g : Nat) (hg : w.heap.size = g) (hn : n = l.length) (hcs : cs.toList = l.flatMap f) (hlen : l.length ≤ 1000000000) :
    Sl f sz (w.alloc (.cells cs e)) (w.alloc (.cells cs e)).heap.size (.slice (some ⟨g, 0, none⟩) n n) l := by
  subst hg; exact Sl.lit hf l w cs e n hn hcs hlen
theorem Tk.enc_len' (x : Tk) : (Tk.enc x).length = 5 := rfl
def exR : Bk := ⟨[⟨5, 8⟩], [⟨⟨#[105, 110]⟩, -1, 0, ⟨10, 20⟩⟩, ⟨⟨#[111, 117, 116]⟩, 0, -1, ⟨7, 9⟩⟩]⟩
def ExRPost (w : World) (e : Ending) (w' : World) : Prop := ∃ v1 v2, e = .returned (.agg #[v1, v2]) ∧ BkR w' w'.heap.size v1 v2 exR ∧ Below w.heap.size w w'
theorem exr_post (w : World) (x : Array Value) (t : TypeId) : ExRPost w (.returned (.agg #[.slice (some ⟨w.heap.size + 1, 0, none⟩) 1 1, .slice (some ⟨w.heap.size + 1 + 1, 0, none⟩) 2 2]))
    (((w.alloc (.cells x t)).alloc (.cells #[.int .i64 5, .int .i64 8] 34)).alloc
      (.cells #[.string ⟨#[105, 110]⟩, .int .i64 (-1), .int .i64 0, .int .i64 10, .int .i64 20, .string ⟨#[111, 117, 116]⟩, .int .i64 0, .int .i64 (-1), .int .i64 7, .int .i64 9] 42)) := by
  refine ⟨_, _, rfl, ⟨?_, ?_, ?_⟩, ?_⟩
  · have h := Sl.litAt Rg.enc_len [⟨5, 8⟩] (w.alloc (.cells x t)) #[.int .i64 5, .int .i64 8] 34 1 (w.heap.size + 1) (by simp) rfl rfl (by simp)
    exact h.later ((Below.refl _ _).alloc (Nat.le_refl _) _)
  · exact Sl.litAt Tk.enc_len' exR.ts ((w.alloc (.cells x t)).alloc (.cells #[.int .i64 5, .int .i64 8] 34)) #[.string ⟨#[105, 110]⟩, .int .i64 (-1), .int .i64 0, .int .i64 10, .int .i64 20, .string ⟨#[111, 117, 116]⟩, .int .i64 0, .int .i64 (-1), .int .i64 7, .int .i64 9] 42 2 (w.heap.size + 1 + 1) (by simp) rfl rfl (by simp [exR])
  · intro t ht
    simp only [exR, List.mem_cons, List.not_mem_nil, or_false] at ht
    rcases ht with rfl | rfl <;> exact Nat.le_of_ble_eq_true rfl
  · exact (((Below.refl _ _).alloc (Nat.le_refl _) _).alloc (by simp) _).alloc (by simp; omega) _
set_option maxRecDepth 100000 in
set_option maxHeartbeats 1000000 in
theorem routeBook30 (w : World) : Calls Tryz.prog 30 #[] w (ExRPost w) := by
  go_enter Tryz.func30, Tryz.ntmps30
  go_wp2_with fail
  refine bodyPost_ret (v := .agg #[.slice (some ⟨w.heap.size + 1, 0, none⟩) 1 1, .slice (some ⟨w.heap.size + 1 + 1, 0, none⟩) 2 2]) (by simp [results, Tryz.results30, go_sem, *]) rfl ?_
  exact exr_post w _ _
theorem exR_asg {ms : List Int} : IsAsg exR ms ↔ ∃ a b : Int, ms = [a, b] ∧ 10 ≤ a ∧ a ≤ 20 ∧ 7 ≤ b ∧ b ≤ 9 ∧ 5 ≤ a - b ∧ a - b ≤ 8 := by
  constructor
  · rintro ⟨h1, h2, h3⟩
    match ms, h1 with
    | [a, b], _ =>
      have t0 := h2 0 (show 0 < 2 by decide)
      have t1 := h2 1 (show 1 < 2 by decide)
      have p0 := h3 0 (show 0 < 1 by decide)
      refine ⟨a, b, rfl, ?_⟩
      simp [Rg.has, exR, gain] at t0 t1 p0
      omega
  · rintro ⟨a, b, rfl, h⟩
    refine ⟨rfl, fun i hi => ?_, fun p hp => ?_⟩
    · match i, hi with
      | 0, _ => simp [Rg.has, exR]; omega
      | 1, _ => simp [Rg.has, exR]; omega
    · match p, hp with
      | 0, _ => simp [Rg.has, exR, gain]; omega
theorem ck_r : ckBook exR = 0 := by decide +kernel
theorem asg_r1 : IsAsg exR [12, 7] := exR_asg.2 ⟨_, _, rfl, by decide⟩
theorem asg_r2 : IsAsg exR [17, 9] := exR_asg.2 ⟨_, _, rfl, by decide⟩
theorem con_r : Con exR := (con_iff (okBk_of ck_r)).2 ⟨_, asg_r1⟩
theorem span_r0 : Span exR (fun ms => ms.getD 0 0) 12 17 := ⟨⟨_, asg_r1, rfl⟩, ⟨_, asg_r2, rfl⟩, fun ms h => by
  obtain ⟨a, b, rfl, h⟩ := exR_asg.1 h
  show 12 ≤ a ∧ a ≤ 17
  omega⟩
theorem span_r1 : Span exR (fun ms => ms.getD 1 0) 7 9 := ⟨⟨_, asg_r1, rfl⟩, ⟨_, asg_r2, rfl⟩, fun ms h => by
  obtain ⟨a, b, rfl, h⟩ := exR_asg.1 h
  show 7 ≤ b ∧ b ≤ 9
  omega⟩
def TiRPost (w : World) (e : Ending) (w' : World) : Prop := ∃ v, e = .returned (.tuple #[v, .int .i64 0]) ∧ Sl Rg.enc 2 w' w'.heap.size v [⟨12, 17⟩, ⟨7, 9⟩] ∧ Below w.heap.size w w'
theorem tight_r (w : World) (v1 v2 : Value) (hv : BkR w w.heap.size v1 v2 exR) : Calls Tryz.prog 8 #[.agg #[v1, v2]] w (TiRPost w) := by
  refine (tighten35 w v1 v2 _ hv).mono ?_
  rintro e w' ⟨hb, h | h | ⟨_, _, v, rs, rfl, hs, hl, ht⟩⟩
  · exact absurd ck_r h.1
  · exact absurd con_r h.2.1
  · match rs, hl with
    | [r0, r1], _ =>
      have e0 := (extent_span (okBk_of ck_r) (by decide) (ht 0 r0 rfl)).unique span_r0
      have e1 := (extent_span (okBk_of ck_r) (by decide) (ht 1 r1 rfl)).unique span_r1
      refine ⟨v, rfl, ?_, hb⟩
      obtain ⟨l0, h0⟩ := r0
      obtain ⟨l1, h1⟩ := r1
      obtain ⟨rfl, rfl⟩ := e0
      obtain ⟨rfl, rfl⟩ := e1
      exact hs
end Go.Proofs.YtflchbejjofppaaGreatDoor
