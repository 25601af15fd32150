/- Lemmas on the way to the law TopScales (part 12): WPa WSx La Da Db -/
import Derived.Test.YtflchbejjofppaaGreatDoorTopScalesP11
import Derived.Test.YtflchbejjofppaaGreatDoorTopScalesP08
import Derived.Lib.Hide
set_option linter.unusedVariables false
set_option linter.unusedSimpArgs false

/- Assignments of masses are circulations. -/
namespace Go.Proofs.YtflchbejjofppaaGreatDoor
open Go Go.Proofs Go.RowKit
def tkFl (t : Tk) (m : Int) : Ac := { tkAc t with fl := m }
def asgL (b : Bk) (ms : List Int) : List Ac := List.zipWith tkFl b.ts ms ++ (List.range b.st.length).map fun p => { stAc p (b.st.getD p default) with fl := gain [(p : Int)] b.ts ms }
theorem shp_append (l l' : List Ac) : shp (l ++ l') = shp l ++ shp l' := by simp [shp]
theorem shp_zip : ∀ (ts : List Tk) (ms : List Int), ms.length = ts.length → shp (List.zipWith tkFl ts ms) = shp (ts.map tkAc)
  | [], _, _ => by simp
  | t :: ts, [], h => by simp at h
  | t :: ts, m :: ms, h => by
    simp only [List.zipWith_cons_cons, List.map_cons]
    have := shp_zip ts ms (by simpa using h)
    simp only [shp, List.map_cons] at this ⊢
    rw [this]; rfl
theorem shp_asgL {b : Bk} {ms : List Int} (h : ms.length = b.ts.length) : shp (asgL b ms) = shp (arcsOf b) := by
  unfold asgL arcsOf
  rw [shp_append, shp_append, shp_zip _ _ h]
  congr 1
  simp only [shp, stTo, List.map_map]
  rfl
theorem toNat_at {x : Int} (h : -1 ≤ x) (p : Nat) : (x + 1).toNat = p + 1 ↔ x ∈ [(p : Int)] := by simp; omega
theorem exc_tk (p : Nat) : ∀ (ts : List Tk) (l : List Ac), shp l = shp (ts.map tkAc) → (∀ t ∈ ts, -1 ≤ t.fr ∧ -1 ≤ t.to) → exc (p + 1) l = gain [(p : Int)] ts (l.map Ac.fl)
  | [], [], _, _ => by simp [exc, tot, gain]
  | [], a :: l, h, _ => by simp [shp] at h
  | t :: ts, [], h, _ => by simp [shp] at h
  | t :: ts, a :: l, h, hT => by
    simp only [shp, List.map_cons, List.cons.injEq] at h
    obtain ⟨e1, e2, e3, e4⟩ := bare_eq h.1
    have ih := exc_tk p ts l h.2 (fun x hx => hT x (by simp [hx]))
    obtain ⟨h1, h2⟩ := hT t (by simp)
    have k1 : a.fr = p + 1 ↔ t.fr ∈ [(p : Int)] := by rw [e1]; exact toNat_at h1 p
    have k2 : a.to = p + 1 ↔ t.to ∈ [(p : Int)] := by rw [e2]; exact toNat_at h2 p
    simp only [exc, tot, List.map_cons, gain] at ih ⊢
    rw [ih]
    simp only [Ac.at, k1, k2]
theorem zip_fl : ∀ (ts : List Tk) (ms : List Int), ms.length = ts.length → (List.zipWith tkFl ts ms).map Ac.fl = ms
  | [], ms, h => by simp at h; simp [h]
  | t :: ts, [], h => by simp at h
  | t :: ts, m :: ms, h => by
    simp only [List.zipWith_cons_cons, List.map_cons]
    rw [zip_fl ts ms (by simpa using h)]; rfl
theorem tot_take (f : Ac → Int) (l : List Ac) : ∀ k, k ≤ l.length → tot f (l.take k) = sumN k (fun q => atI f l q)
  | 0, _ => by simp [tot, sumN]
  | k + 1, h => by
    rw [take_snoc l k (by omega), tot_snoc, tot_take f l k (by omega)]
    show _ = sumN k _ + _
    congr 1
    show _ = atI f l k
    unfold atI
    rw [List.getElem?_eq_getElem (by omega)]
theorem tot_getD (f : Ac → Int) (l : List Ac) : tot f l = sumN l.length (fun q => atI f l q) := by
  have := tot_take f l l.length (Nat.le_refl _)
  rwa [List.take_length] at this
theorem exc_st (b : Bk) (l : List Ac) (h : shp l = shp (stTo b.st b.st.length)) (p : Nat) (hp : p < b.st.length) : exc (p + 1) l = - atI Ac.fl l p := by
  have hl := shp_length h
  have hl2 : l.length = b.st.length := by rw [hl]; simp [stTo]
  unfold exc
  rw [tot_getD, hl2]
  have : ∀ q, q < b.st.length → atI (fun a => a.at (p + 1)) l q = if q = p then -atI Ac.fl l p else 0 := by
    intro q hq
    have hb := shp_get h q (by omega) (by omega)
    obtain ⟨e1, e2, e3, e4⟩ := bare_eq hb
    simp [stTo, stAc] at e1 e2
    unfold atI
    rw [List.getElem?_eq_getElem (show q < l.length by omega)]
    simp only [Ac.at, e1, e2]
    by_cases hqp : q = p
    · subst hqp; simp [List.getElem?_eq_getElem (show q < l.length by omega)]
    · simp [hqp]
  rw [sumN_congr _ _ _ this, sumN_one _ _ _ hp]
theorem sumN_bot (n : Nat) (f : Nat → Int) (h : ∀ v, 0 < v → v < n → f v = 0) (hn : 0 < n) : sumN n f = f 0 := by
  induction n with
  | zero => omega
  | succ n ih =>
    show sumN n f + f n = _
    by_cases h0 : n = 0
    · subst h0; simp [sumN]
    · rw [ih (fun v h1 h2 => h v h1 (by omega)) (by omega), h n (by omega) (by omega), Int.add_zero]
def flows (b : Bk) (l : List Ac) : List Int := (l.take b.ts.length).map Ac.fl
theorem split_arcs {b : Bk} {l : List Ac} (h : shp l = shp (arcsOf b)) : shp (l.take b.ts.length) = shp (b.ts.map tkAc) ∧ shp (l.drop b.ts.length) = shp (stTo b.st b.st.length) := by
  unfold shp at h ⊢
  rw [List.map_take, List.map_drop, h]
  unfold arcsOf
  rw [← List.map_take, ← List.map_drop]
  rw [List.take_append_of_le_length (by simp), List.drop_append_of_le_length (by simp)]
  refine ⟨?_, by simp⟩
  rw [List.map_take, List.take_of_length_le (by simp)]
theorem flows_len {b : Bk} {l : List Ac} (h : shp l = shp (arcsOf b)) : (flows b l).length = b.ts.length := by
  have := shp_length h
  have h2 := arcs_len b
  simp [flows]; omega
theorem flows_get {b : Bk} {l : List Ac} (i : Nat) (hi : i < b.ts.length) : (flows b l)[i]? = l[i]?.map Ac.fl := by
  simp [flows, List.getElem?_take, hi]
theorem OkBk.ends {b : Bk} (hok : OkBk b) : ∀ t ∈ b.ts, -1 ≤ t.fr ∧ -1 ≤ t.to := fun t ht => by
  have := hok.tk t ht; omega
theorem circ_gain {b : Bk} {l : List Ac} (hok : OkBk b) (h : shp l = shp (arcsOf b)) (hc : Circ (b.st.length + 1) l) (p : Nat) (hp : p < b.st.length) : atI Ac.fl l (b.ts.length + p) = gain [(p : Int)] b.ts (flows b l) := by
  obtain ⟨h1, h2⟩ := split_arcs h
  have hb := hc.bal (p + 1) (by omega)
  have e : exc (p + 1) l = exc (p + 1) (l.take b.ts.length) + exc (p + 1) (l.drop b.ts.length) := by rw [← exc_append, List.take_append_drop]
  rw [e, exc_tk p b.ts _ h1 hok.ends, exc_st b _ h2 p hp] at hb
  have : atI Ac.fl (l.drop b.ts.length) p = atI Ac.fl l (b.ts.length + p) := by unfold atI; rw [List.getElem?_drop]
  unfold flows
  omega
theorem circ_asg {b : Bk} {l : List Ac} (hok : OkBk b) (h : shp l = shp (arcsOf b)) (hc : Circ (b.st.length + 1) l) : IsAsg b (flows b l) := by
  have hlen := shp_length h
  have hal := arcs_len b
  refine ⟨flows_len h, fun i hi => ?_, fun p hp => ?_⟩
  · have hl : i < l.length := by omega
    have hf := hc.fits _ (List.getElem_mem hl)
    have hg := flows_get (b := b) (l := l) i hi
    rw [List.getElem?_eq_getElem hl, Option.map_some, List.getElem?_eq_getElem (by rw [flows_len h]; exact hi)] at hg
    have hg' := Option.some.inj hg
    have hb := bare_eq (shp_get h i hl (by omega))
    have e : (arcsOf b)[i]'(by omega) = tkAc b.ts[i] := by
      unfold arcsOf
      rw [List.getElem_append_left (by simpa using hi), List.getElem_map]
    rw [e] at hb
    unfold Rg.has
    rw [hg']
    have h3 := hb.2.2.1
    have h4 := hb.2.2.2
    simp only [tkAc] at h3 h4
    omega
  · rw [← circ_gain hok h hc p hp]
    have hl : b.ts.length + p < l.length := by omega
    have hf := hc.fits _ (List.getElem_mem hl)
    have hb := bare_eq (shp_get h _ hl (by omega))
    have e : (arcsOf b)[b.ts.length + p]'(by omega) = stAc p b.st[p] := by
      unfold arcsOf
      rw [List.getElem_append_right (by simp)]
      simp [stTo, hp]
    rw [e] at hb
    have h3 := hb.2.2.1
    have h4 := hb.2.2.2
    simp only [stAc] at h3 h4
    unfold Rg.has atI
    rw [List.getElem?_eq_getElem hl]
    dsimp only
    omega
theorem asg_circ {b : Bk} {ms : List Int} (hok : OkBk b) (h : IsAsg b ms) : Circ (b.st.length + 1) (asgL b ms) ∧ flows b (asgL b ms) = ms := by
  have hsh := shp_asgL h.len
  have hfl : flows b (asgL b ms) = ms := by
    unfold flows asgL
    rw [List.take_append_of_le_length (by simp [h.len])]
    rw [List.take_of_length_le (by simp [h.len]), zip_fl _ _ h.len]
  refine ⟨⟨?_, ?_⟩, hfl⟩
  · intro a ha
    unfold asgL at ha
    rcases List.mem_append.1 ha with ha | ha
    · obtain ⟨i, hi, rfl⟩ := List.mem_iff_getElem.1 ha
      simp only [List.length_zipWith, h.len, Nat.min_self] at hi
      rw [List.getElem_zipWith]
      exact h.tk i hi
    · obtain ⟨p, hp, rfl⟩ := List.mem_map.1 ha
      have hp' := List.mem_range.1 hp
      have := h.pl p hp'
      unfold Rg.has at this
      simp only [stAc]
      rw [List.getD_eq_getElem?_getD, List.getElem?_eq_getElem hp']
      exact this
  · have hE : Ends (b.st.length + 1) (asgL b ms) := shp_ends hsh.symm (arcs_ends hok)
    have hpos : ∀ v, 0 < v → v < b.st.length + 1 → exc v (asgL b ms) = 0 := by
      intro v h0 hv
      obtain ⟨p, rfl⟩ : ∃ p, v = p + 1 := ⟨v - 1, by omega⟩
      have hp : p < b.st.length := by omega
      obtain ⟨h1, h2⟩ := split_arcs hsh
      have e : exc (p + 1) (asgL b ms) = exc (p + 1) ((asgL b ms).take b.ts.length) + exc (p + 1) ((asgL b ms).drop b.ts.length) := by rw [← exc_append, List.take_append_drop]
      rw [e, exc_tk p b.ts _ h1 hok.ends, exc_st b _ h2 p hp]
      have e2 : ((asgL b ms).take b.ts.length).map Ac.fl = ms := hfl
      rw [e2]
      have e3 : atI Ac.fl ((asgL b ms).drop b.ts.length) p = gain [(p : Int)] b.ts ms := by
        unfold atI asgL
        rw [List.getElem?_drop, List.getElem?_append_right (by simp [h.len])]
        simp [h.len, hp]
      omega
    intro v hv
    by_cases h0 : v = 0
    · subst h0
      have := exc_all hE
      rwa [sumN_bot _ _ hpos (by omega)] at this
    · exact hpos v (by omega) hv
theorem con_iff {b : Bk} (hok : OkBk b) : Con b ↔ ∃ ms, IsAsg b ms :=
  ⟨fun ⟨l, h, hc⟩ => ⟨_, circ_asg hok h hc⟩, fun ⟨ms, h⟩ => ⟨asgL b ms, shp_asgL h.len, (asg_circ hok h).1⟩⟩
def Span (b : Bk) (f : List Int → Int) (lo hi : Int) : Prop := (∃ ms, IsAsg b ms ∧ f ms = lo) ∧ (∃ ms, IsAsg b ms ∧ f ms = hi) ∧ ∀ ms, IsAsg b ms → lo ≤ f ms ∧ f ms ≤ hi
theorem Span.unique {b : Bk} {f : List Int → Int} {lo hi lo' hi' : Int} (h : Span b f lo hi) (h' : Span b f lo' hi') : lo = lo' ∧ hi = hi' := by
  obtain ⟨⟨m1, a1, e1⟩, ⟨m2, a2, e2⟩, h3⟩ := h
  obtain ⟨⟨m1', a1', e1'⟩, ⟨m2', a2', e2'⟩, h3'⟩ := h'
  have := h3 _ a1'
  have := h3 _ a2'
  have := h3' _ a1
  have := h3' _ a2
  omega
theorem extent_span {b : Bk} {i : Nat} {lo hi : Int} (hok : OkBk b) (hi' : i < b.ts.length) (h : Extent (b.st.length + 1) (arcsOf b) i lo hi) : Span b (fun ms => ms.getD i 0) lo hi := by
  obtain ⟨⟨l1, a1, s1, c1, g1, rfl⟩, ⟨l2, a2, s2, c2, g2, rfl⟩, h3⟩ := h
  refine ⟨⟨_, circ_asg hok s1 c1, ?_⟩, ⟨_, circ_asg hok s2 c2, ?_⟩, fun ms hm => ?_⟩
  · show (flows b l1).getD i 0 = _
    rw [List.getD_eq_getElem?_getD, flows_get i hi', g1]; rfl
  · show (flows b l2).getD i 0 = _
    rw [List.getD_eq_getElem?_getD, flows_get i hi', g2]; rfl
  · obtain ⟨c, e⟩ := asg_circ hok hm
    have hsh := shp_asgL hm.len
    have hl : i < (asgL b ms).length := by have := shp_length hsh; have := arcs_len b; omega
    have := h3 _ _ hsh c (List.getElem?_eq_getElem hl)
    have e2 := flows_get (b := b) (l := asgL b ms) i hi'
    rw [e, List.getElem?_eq_getElem hl] at e2
    show _ ≤ ms.getD i 0 ∧ ms.getD i 0 ≤ _
    rw [List.getD_eq_getElem?_getD, e2]
    exact this
end Go.Proofs.YtflchbejjofppaaGreatDoor
/- Plain: no arc leads from a node to itself. -/
namespace Go.Proofs.YtflchbejjofppaaGreatDoor
open Go Go.Proofs Go.RowKit
def NoLoop (l : List Ac) : Prop := ∀ a ∈ l, a.fr ≠ a.to
theorem NoLoop.shp {l l' : List Ac} (h : NoLoop l) (hs : shp l' = shp l) : NoLoop l' := fun a ha => by
  obtain ⟨i, hi, rfl⟩ := List.mem_iff_getElem.1 ha
  have hi' : i < l.length := by rw [← shp_length hs]; exact hi
  have := bare_eq (shp_get hs i hi hi')
  have := h l[i] (List.getElem_mem hi')
  omega
end Go.Proofs.YtflchbejjofppaaGreatDoor
/- The example of the law: the book, plainly and walked. -/
namespace Go.Proofs.YtflchbejjofppaaGreatDoor
open Go Go.Proofs Go.RowKit
theorem Sl.litAt {α : Type} {f : α → List Value} {sz : Nat} (hf : ∀ x, (f x).length = sz) (l : List α) (w : World) (cs : Array Value) (e : TypeId) (n g : Nat) (hg : w.heap.size = g) (hn : n = l.length) (hcs : cs.toList = l.flatMap f) (hlen : l.length ≤ 1000000000) :
    Sl f sz (w.alloc (.cells cs e)) (w.alloc (.cells cs e)).heap.size (.slice (some ⟨g, 0, none⟩) n n) l := by
  subst hg; exact Sl.lit hf l w cs e n hn hcs hlen
theorem Tk.enc_len' (x : Tk) : (Tk.enc x).length = 5 := rfl
def exR : Bk := ⟨[⟨5, 8⟩], [⟨⟨#[105, 110]⟩, -1, 0, ⟨10, 20⟩⟩, ⟨⟨#[111, 117, 116]⟩, 0, -1, ⟨7, 9⟩⟩]⟩
def ExRPost (w : World) (e : Ending) (w' : World) : Prop := ∃ v1 v2, e = .returned (.agg #[v1, v2]) ∧ BkR w' w'.heap.size v1 v2 exR ∧ Below w.heap.size w w'
theorem exr_post (w : World) (x : Array Value) (t : TypeId) : ExRPost w (.returned (.agg #[.slice (some ⟨w.heap.size + 1, 0, none⟩) 1 1, .slice (some ⟨w.heap.size + 1 + 1, 0, none⟩) 2 2]))
    (((w.alloc (.cells x t)).alloc (.cells #[.int .i64 5, .int .i64 8] 34)).alloc
      (.cells #[.string ⟨#[105, 110]⟩, .int .i64 (-1), .int .i64 0, .int .i64 10, .int .i64 20, .string ⟨#[111, 117, 116]⟩, .int .i64 0, .int .i64 (-1), .int .i64 7, .int .i64 9] 42)) := by
  refine ⟨_, _, rfl, ⟨?_, ?_, ?_⟩, ?_⟩
  · have h := Sl.litAt Rg.enc_len [⟨5, 8⟩] (w.alloc (.cells x t)) #[.int .i64 5, .int .i64 8] 34 1 (w.heap.size + 1) (by simp) rfl rfl (by simp)
    exact h.later ((Below.refl _ _).alloc (Nat.le_refl _) _)
  · exact Sl.litAt Tk.enc_len' exR.ts ((w.alloc (.cells x t)).alloc (.cells #[.int .i64 5, .int .i64 8] 34)) #[.string ⟨#[105, 110]⟩, .int .i64 (-1), .int .i64 0, .int .i64 10, .int .i64 20, .string ⟨#[111, 117, 116]⟩, .int .i64 0, .int .i64 (-1), .int .i64 7, .int .i64 9] 42 2 (w.heap.size + 1 + 1) (by simp) rfl rfl (by simp [exR])
  · intro t ht
    simp only [exR, List.mem_cons, List.not_mem_nil, or_false] at ht
    rcases ht with rfl | rfl <;> exact Nat.le_of_ble_eq_true rfl
  · exact (((Below.refl _ _).alloc (Nat.le_refl _) _).alloc (by simp) _).alloc (by simp; omega) _
set_option maxRecDepth 100000 in
set_option maxHeartbeats 1000000 in
theorem routeBook30 (w : World) : Calls Tryz.prog 30 #[] w (ExRPost w) := by
  go_enter Tryz.func30, Tryz.ntmps30
  go_wp2_with fail
  refine bodyPost_ret (v := .agg #[.slice (some ⟨w.heap.size + 1, 0, none⟩) 1 1, .slice (some ⟨w.heap.size + 1 + 1, 0, none⟩) 2 2]) (by simp [results, Tryz.results30, go_sem, *]) rfl ?_
  exact exr_post w _ _
theorem exR_asg {ms : List Int} : IsAsg exR ms ↔ ∃ a b : Int, ms = [a, b] ∧ 10 ≤ a ∧ a ≤ 20 ∧ 7 ≤ b ∧ b ≤ 9 ∧ 5 ≤ a - b ∧ a - b ≤ 8 := by
  constructor
  · rintro ⟨h1, h2, h3⟩
    match ms, h1 with
    | [a, b], _ =>
      have t0 := h2 0 (show 0 < 2 by decide)
      have t1 := h2 1 (show 1 < 2 by decide)
      have p0 := h3 0 (show 0 < 1 by decide)
      refine ⟨a, b, rfl, ?_⟩
      simp [Rg.has, exR, gain] at t0 t1 p0
      omega
  · rintro ⟨a, b, rfl, h⟩
    refine ⟨rfl, fun i hi => ?_, fun p hp => ?_⟩
    · match i, hi with
      | 0, _ => simp [Rg.has, exR]; omega
      | 1, _ => simp [Rg.has, exR]; omega
    · match p, hp with
      | 0, _ => simp [Rg.has, exR, gain]; omega
theorem ck_r : ckBook exR = 0 := by decide +kernel
theorem asg_r1 : IsAsg exR [12, 7] := exR_asg.2 ⟨_, _, rfl, by decide⟩
theorem asg_r2 : IsAsg exR [17, 9] := exR_asg.2 ⟨_, _, rfl, by decide⟩
theorem con_r : Con exR := (con_iff (okBk_of ck_r)).2 ⟨_, asg_r1⟩
theorem span_r0 : Span exR (fun ms => ms.getD 0 0) 12 17 := ⟨⟨_, asg_r1, rfl⟩, ⟨_, asg_r2, rfl⟩, fun ms h => by
  obtain ⟨a, b, rfl, h⟩ := exR_asg.1 h
  show 12 ≤ a ∧ a ≤ 17
  omega⟩
theorem span_r1 : Span exR (fun ms => ms.getD 1 0) 7 9 := ⟨⟨_, asg_r1, rfl⟩, ⟨_, asg_r2, rfl⟩, fun ms h => by
  obtain ⟨a, b, rfl, h⟩ := exR_asg.1 h
  show 7 ≤ b ∧ b ≤ 9
  omega⟩
def TiRPost (w : World) (e : Ending) (w' : World) : Prop := ∃ v, e = .returned (.tuple #[v, .int .i64 0]) ∧ Sl Rg.enc 2 w' w'.heap.size v [⟨12, 17⟩, ⟨7, 9⟩] ∧ Below w.heap.size w w'
theorem tight_r (w : World) (v1 v2 : Value) (hv : BkR w w.heap.size v1 v2 exR) : Calls Tryz.prog 8 #[.agg #[v1, v2]] w (TiRPost w) := by
  refine (tighten35 w v1 v2 _ hv).mono ?_
  rintro e w' ⟨hb, h | h | ⟨_, _, v, rs, rfl, hs, hl, ht⟩⟩
  · exact absurd ck_r h.1
  · exact absurd con_r h.2.1
  · match rs, hl with
    | [r0, r1], _ =>
      have e0 := (extent_span (okBk_of ck_r) (by decide) (ht 0 r0 rfl)).unique span_r0
      have e1 := (extent_span (okBk_of ck_r) (by decide) (ht 1 r1 rfl)).unique span_r1
      refine ⟨v, rfl, ?_, hb⟩
      obtain ⟨l0, h0⟩ := r0
      obtain ⟨l1, h1⟩ := r1
      obtain ⟨rfl, rfl⟩ := e0
      obtain ⟨rfl, rfl⟩ := e1
      exact hs
end Go.Proofs.YtflchbejjofppaaGreatDoor
/- Plain: lists of digits to a base, the least significant one first. -/
namespace Go.Proofs.YtflchbejjofppaaGreatDoor
def val (B : Nat) : List Nat → Nat
  | [] => 0
  | x :: r => x + B * val B r
def Dg (B : Nat) (l : List Nat) : Prop := ∀ x ∈ l, x < B
def Tr (l : List Nat) : Prop := l.getLast? ≠ some 0
theorem Dg.nil (B : Nat) : Dg B [] := fun _ h => absurd h (by simp)
theorem Dg.app {B : Nat} {a b : List Nat} (ha : Dg B a) (hb : Dg B b) : Dg B (a ++ b) := fun x hx => (List.mem_append.1 hx).elim (ha x) (hb x)
theorem Dg.take {B : Nat} {a : List Nat} (ha : Dg B a) (k : Nat) : Dg B (a.take k) := fun x hx => ha x (List.mem_of_mem_take hx)
theorem Dg.drop {B : Nat} {a : List Nat} (ha : Dg B a) (k : Nat) : Dg B (a.drop k) := fun x hx => ha x (List.mem_of_mem_drop hx)
theorem Dg.one {B x : Nat} (h : x < B) : Dg B [x] := fun y hy => by rw [List.mem_singleton.1 hy]; exact h
theorem Dg.zeros {B : Nat} (h : 0 < B) (n : Nat) : Dg B (List.replicate n 0) := fun y hy => by rw [(List.mem_replicate.1 hy).2]; exact h
theorem Dg.get {B : Nat} {a : List Nat} (ha : Dg B a) (i : Nat) (h : i < a.length) : a[i] < B := ha _ (List.getElem_mem h)
theorem Dg.set {B : Nat} {a : List Nat} (ha : Dg B a) (i : Nat) {y : Nat} (h : y < B) : Dg B (a.set i y) := fun x hx => by
  rcases List.mem_or_eq_of_mem_set hx with h1 | h1
  · exact ha x h1
  · rw [h1]; exact h
theorem val_app (B : Nat) (a b : List Nat) : val B (a ++ b) = val B a + B ^ a.length * val B b := by
  induction a with
  | nil => simp [val]
  | cons x a ih =>
    rw [List.cons_append, List.length_cons]
    show x + B * val B (a ++ b) = (x + B * val B a) + _
    rw [ih, Nat.pow_succ, Nat.mul_add, Nat.mul_comm (B ^ a.length) B, Nat.mul_assoc, Nat.add_assoc]
theorem val_one (B x : Nat) : val B [x] = x := by simp [val]
theorem val_zeros (B n : Nat) : val B (List.replicate n 0) = 0 := by
  induction n with
  | zero => rfl
  | succ n ih => rw [List.replicate_succ]; show 0 + B * val B (List.replicate n 0) = 0; rw [ih]; simp
theorem val_lt {B : Nat} {l : List Nat} (h : Dg B l) : val B l < B ^ l.length := by
  induction l with
  | nil => simp [val]
  | cons x l ih =>
    have h1 := ih (fun y hy => h y (List.mem_cons_of_mem _ hy))
    have h2 := h x List.mem_cons_self
    show x + B * val B l < B ^ (l.length + 1)
    rw [Nat.pow_succ, Nat.mul_comm (B ^ l.length) B]
    have h3 : B * (val B l + 1) ≤ B * B ^ l.length := Nat.mul_le_mul_left B h1
    rw [Nat.mul_add] at h3
    omega
theorem val_split (B : Nat) (l : List Nat) (k : Nat) (h : k ≤ l.length) : val B l = val B (l.take k) + B ^ k * val B (l.drop k) := by
  have e := val_app B (l.take k) (l.drop k)
  rw [List.take_append_drop, List.length_take, Nat.min_eq_left h] at e
  exact e
theorem val_take_succ (B : Nat) (l : List Nat) (k : Nat) (h : k < l.length) : val B (l.take (k + 1)) = val B (l.take k) + B ^ k * l[k] := by
  rw [List.take_succ_eq_append_getElem h, val_app, val_one, List.length_take, Nat.min_eq_left (by omega)]
theorem val_drop (B : Nat) (l : List Nat) (k : Nat) (h : k < l.length) : val B (l.drop k) = l[k] + B * val B (l.drop (k + 1)) := by
  rw [List.drop_eq_getElem_cons h]; rfl
theorem val_set (B : Nat) : ∀ (l : List Nat) (i : Nat) (h : i < l.length) (y : Nat), val B (l.set i y) + B ^ i * l[i] = val B l + B ^ i * y := by
  intro l
  induction l with
  | nil => intro i h; simp at h
  | cons x l ih =>
    intro i h y
    cases i with
    | zero => simp [val]; omega
    | succ i =>
      have hi : i < l.length := by simpa using h
      have h1 := ih i hi y
      show (x + B * val B (l.set i y)) + B ^ (i + 1) * l[i] = (x + B * val B l) + B ^ (i + 1) * y
      have e1 : B ^ (i + 1) * l[i] = B * (B ^ i * l[i]) := by rw [Nat.pow_succ, Nat.mul_comm (B ^ i) B, Nat.mul_assoc]
      have e2 : B ^ (i + 1) * y = B * (B ^ i * y) := by rw [Nat.pow_succ, Nat.mul_comm (B ^ i) B, Nat.mul_assoc]
      rw [e1, e2]
      have h2 : B * (val B (l.set i y) + B ^ i * l[i]) = B * (val B l + B ^ i * y) := by rw [h1]
      rw [Nat.mul_add, Nat.mul_add] at h2
      omega
theorem Tr.nil : Tr [] := by simp [Tr]
theorem Tr.last {l : List Nat} (h : Tr l) (hn : 0 < l.length) : l[l.length - 1] ≠ 0 := fun e => by
  apply h
  rw [List.getLast?_eq_getElem?, List.getElem?_eq_getElem (by omega), e]
theorem Tr.of_last {l : List Nat} (h : ∀ hn : 0 < l.length, l[l.length - 1] ≠ 0) : Tr l := fun e => by
  rw [List.getLast?_eq_getElem?] at e
  obtain ⟨h1, h2⟩ := List.getElem?_eq_some_iff.1 e
  exact h (by omega) h2
theorem Tr.le {B : Nat} {l : List Nat} (h : Tr l) (hn : 0 < l.length) : B ^ (l.length - 1) ≤ val B l := by
  have h1 := h.last hn
  rw [val_split B l (l.length - 1) (by omega), val_drop B l (l.length - 1) (by omega), show l.length - 1 + 1 = l.length by omega, List.drop_length]
  generalize l[l.length - 1] = x at *
  have : B ^ (l.length - 1) * 1 ≤ B ^ (l.length - 1) * (x + B * val B []) := Nat.mul_le_mul_left _ (by omega)
  omega
theorem Tr.zero {B : Nat} {l : List Nat} (hB : 0 < B) (h : Tr l) (hv : val B l = 0) : l = [] := by
  rcases Nat.eq_zero_or_pos l.length with h0 | h0
  · exact List.eq_nil_of_length_eq_zero h0
  · have := h.le (B := B) h0
    have := Nat.pow_pos (n := l.length - 1) hB
    omega
theorem val_take_zeros {B : Nat} {l : List Nat} {n : Nat} (hn : n ≤ l.length) (h : ∀ x ∈ l.drop n, x = 0) : val B (l.take n) = val B l := by
  rw [val_split B l n hn, show l.drop n = List.replicate (l.drop n).length 0 from List.eq_replicate_of_mem h, val_zeros]; simp
theorem len_le {B : Nat} {l : List Nat} (hB : 2 ≤ B) (h : Tr l) {n : Nat} (hv : val B l < B ^ n) : l.length ≤ n := by
  rcases Nat.eq_zero_or_pos l.length with h0 | h0
  · omega
  · have h1 := h.le (B := B) h0
    have h2 : B ^ (l.length - 1) < B ^ n := by omega
    have := (Nat.pow_lt_pow_iff_right (show 1 < B by omega)).1 h2
    omega
end Go.Proofs.YtflchbejjofppaaGreatDoor
/- Plain: one round of addition, subtraction, multiplication, division by a digit. -/
namespace Go.Proofs.YtflchbejjofppaaGreatDoor
def dig (l : List Nat) (i : Nat) : Nat := l.getD i 0
theorem dig_lt_len {l : List Nat} {i : Nat} (h : i < l.length) : dig l i = l[i] := by
  unfold dig; rw [List.getD_eq_getElem?_getD, List.getElem?_eq_getElem h]; rfl
theorem dig_ge {l : List Nat} {i : Nat} (h : l.length ≤ i) : dig l i = 0 := by
  unfold dig; rw [List.getD_eq_getElem?_getD, List.getElem?_eq_none h]; rfl
theorem Dg.dig {B : Nat} {l : List Nat} (hB : 0 < B) (h : Dg B l) (i : Nat) : dig l i < B := by
  by_cases hi : i < l.length
  · rw [dig_lt_len hi]; exact h.get i hi
  · rw [dig_ge (by omega)]; exact hB
theorem val_take_dig (B : Nat) (l : List Nat) (i : Nat) : val B (l.take (i + 1)) = val B (l.take i) + B ^ i * dig l i := by
  by_cases hi : i < l.length
  · rw [val_take_succ B l i hi, dig_lt_len hi]
  · rw [dig_ge (by omega), List.take_of_length_le (by omega), List.take_of_length_le (by omega)]; simp
structure AddI (B : Nat) (x y d : List Nat) (c i : Nat) : Prop where
  len : d.length = i
  dg : Dg B d
  carry : c ≤ 1
  eq : val B d + B ^ i * c = val B (x.take i) + val B (y.take i)
theorem AddI.start (B : Nat) (x y : List Nat) : AddI B x y [] 0 0 := ⟨rfl, Dg.nil B, by omega, by simp [val]⟩
theorem AddI.step {B : Nat} {x y d : List Nat} {c i : Nat} (hB : 2 ≤ B) (hx : Dg B x) (hy : Dg B y) (h : AddI B x y d c i) {s : Nat} (hs : s = dig x i + dig y i + c) : AddI B x y (d ++ [s % B]) (s / B) (i + 1) := by
  have h1 := hx.dig (by omega) i
  have h2 := hy.dig (by omega) i
  refine ⟨by simp [h.len], h.dg.app (Dg.one (Nat.mod_lt _ (by omega))), ?_, ?_⟩
  · have := h.carry
    have : s < B * 2 := by omega
    have := Nat.div_lt_of_lt_mul this
    omega
  · rw [val_app, val_one, h.len, val_take_dig, val_take_dig, Nat.pow_succ, Nat.mul_assoc, Nat.add_assoc, ← Nat.mul_add, Nat.mod_add_div, hs, Nat.mul_add, Nat.mul_add]
    have := h.eq
    omega
structure SubI (B : Nat) (x y d : List Nat) (c i : Nat) : Prop where
  len : d.length = i
  dg : Dg B d
  carry : c ≤ 1
  eq : val B d + val B (y.take i) = val B (x.take i) + B ^ i * c
theorem SubI.start (B : Nat) (x y : List Nat) : SubI B x y [] 0 0 := ⟨rfl, Dg.nil B, by omega, by simp [val]⟩
theorem SubI.step {B : Nat} {x y d : List Nat} {c i : Nat} (hB : 2 ≤ B) (hx : Dg B x) (hy : Dg B y) (h : SubI B x y d c i) {s c' : Nat} (hs : s + dig y i + c = dig x i + B * c') (hs2 : s < B) (hc : c' ≤ 1) : SubI B x y (d ++ [s]) c' (i + 1) := by
  refine ⟨by simp [h.len], h.dg.app (Dg.one hs2), hc, ?_⟩
  rw [val_app, val_one, h.len, val_take_dig, val_take_dig, Nat.pow_succ, Nat.mul_assoc]
  have := h.eq
  have e : B ^ i * (s + dig y i + c) = B ^ i * (dig x i + B * c') := by rw [hs]
  rw [Nat.mul_add, Nat.mul_add, Nat.mul_add] at e
  omega
theorem SubI.done {B : Nat} {x y d : List Nat} {c : Nat} (h : SubI B x y d c x.length) (hl : y.length ≤ x.length) (hle : val B y ≤ val B x) : c = 0 ∧ val B d = val B x - val B y := by
  have h1 := val_lt h.dg
  have h2 := h.eq
  rw [List.take_of_length_le hl, List.take_of_length_le (Nat.le_refl _)] at h2
  rw [h.len] at h1
  have h3 := h.carry
  rcases (show c = 0 ∨ c = 1 by omega) with rfl | rfl
  · exact ⟨rfl, by omega⟩
  · omega
structure MulI (B : Nat) (o b : List Nat) (base x i j c : Nat) : Prop where
  dg : Dg B o
  carry : c < B
  eq : val B o + B ^ (i + j) * c = base + B ^ i * (x * val B (b.take j))
theorem MulI.step {B : Nat} {o b : List Nat} {base x i j c : Nat} (hB : 2 ≤ B) (hb : Dg B b) (hx : x < B) (h : MulI B o b base x i j c) (hj : j < b.length) (hi : i + j < o.length) {s : Nat} (hs : s = o[i + j] + x * b[j] + c) :
    MulI B (o.set (i + j) (s % B)) b base x i (j + 1) (s / B) := by
  have h1 := h.dg.get _ hi
  have h2 := hb.get _ hj
  have h3 := h.carry
  refine ⟨h.dg.set _ (Nat.mod_lt _ (by omega)), ?_, ?_⟩
  · apply Nat.div_lt_of_lt_mul
    have h4 : x * b[j] ≤ (B - 1) * (B - 1) := Nat.mul_le_mul (by omega) (by omega)
    have h5 : B * B = (B - 1) * (B - 1) + (B - 1) + (B - 1) + 1 := by
      obtain ⟨k, rfl⟩ : ∃ k, B = k + 1 := ⟨B - 1, by omega⟩
      rw [Nat.add_sub_cancel, Nat.mul_add, Nat.add_mul]; omega
    omega
  · have e1 := val_set B o (i + j) hi (s % B)
    have e2 := h.eq
    rw [val_take_succ B b j hj, Nat.mul_add, Nat.mul_add]
    have e3 : B ^ (i + (j + 1)) * (s / B) = B ^ (i + j) * (B * (s / B)) := by rw [show i + (j + 1) = (i + j) + 1 by omega, Nat.pow_succ, Nat.mul_assoc]
    have e4 : B ^ (i + j) * (s % B) + B ^ (i + j) * (B * (s / B)) = B ^ (i + j) * o[i + j] + B ^ (i + j) * (x * b[j]) + B ^ (i + j) * c := by
      rw [← Nat.mul_add, Nat.mod_add_div, hs, Nat.mul_add, Nat.mul_add]
    have e5 : B ^ i * (x * (B ^ j * b[j])) = B ^ (i + j) * (x * b[j]) := by rw [Nat.pow_add, Nat.mul_left_comm x, Nat.mul_assoc]
    rw [e3, e5]
    omega
structure MulO (B : Nat) (o a b : List Nat) (i : Nat) : Prop where
  len : o.length = a.length + b.length
  dg : Dg B o
  zer : ∀ k (h : k < o.length), i + b.length ≤ k → o[k] = 0
  eq : val B o = val B (a.take i) * val B b
theorem MulO.start {B : Nat} (hB : 2 ≤ B) (a b : List Nat) : MulO B (List.replicate (a.length + b.length) 0) a b 0 :=
  ⟨List.length_replicate, Dg.zeros (by omega) _, fun k h _ => List.getElem_replicate h, by rw [val_zeros]; simp [val]⟩
theorem MulO.row {B : Nat} {o a b : List Nat} {i : Nat} (h : MulO B o a b i) (hi : i < a.length) (hB : 2 ≤ B) : MulI B o b (val B (a.take i) * val B b) a[i] i 0 0 :=
  ⟨h.dg, by omega, by rw [h.eq]; simp [val]⟩
theorem MulO.step {B : Nat} {o' a b : List Nat} {i c : Nat} (hi : i < a.length) (hl : o'.length = a.length + b.length) (hz : ∀ k (h : k < o'.length), i + b.length ≤ k → o'[k] = 0)
    (h : MulI B o' b (val B (a.take i) * val B b) a[i] i b.length c) : MulO B (o'.set (i + b.length) c) a b (i + 1) := by
  have hk : i + b.length < o'.length := by omega
  have e1 := val_set B o' (i + b.length) hk c
  rw [hz _ hk (Nat.le_refl _)] at e1
  refine ⟨by simp [hl], h.dg.set _ h.carry, fun k hk2 hge => ?_, ?_⟩
  · rw [List.getElem_set_ne (by omega)]
    exact hz k (by simpa using hk2) (by omega)
  · have e2 := h.eq
    rw [List.take_of_length_le (Nat.le_refl _)] at e2
    rw [val_take_succ B a i hi, Nat.add_mul, Nat.mul_assoc]
    omega
theorem MulO.done {B : Nat} {o a b : List Nat} (h : MulO B o a b a.length) : val B o = val B a * val B b := by
  rw [h.eq, List.take_of_length_le (Nat.le_refl _)]
structure DivI (B : Nat) (a q : List Nat) (d r i : Nat) : Prop where
  len : q.length = a.length
  dg : Dg B (q.drop i)
  rest : r < d
  eq : val B (a.drop i) = val B (q.drop i) * d + r
theorem DivI.start {B : Nat} {a q : List Nat} {d : Nat} (hd : 0 < d) (hl : q.length = a.length) : DivI B a q d 0 a.length := by
  refine ⟨hl, ?_, hd, ?_⟩
  · rw [← hl, List.drop_length]; exact Dg.nil B
  · rw [← hl, List.drop_length, hl, List.drop_length]; simp [val]
theorem DivI.step {B : Nat} {a q : List Nat} {d r i : Nat} (hB : 2 ≤ B) (hdB : d ≤ B) (ha : Dg B a) (hi : i < a.length) (h : DivI B a q d r (i + 1)) {s : Nat} (hs : s = r * B + a[i]) : DivI B a (q.set i (s / d)) d (s % d) i := by
  have hiq : i < q.length := by rw [h.len]; exact hi
  have h1 := ha.get i hi
  have h2 := h.rest
  have hsd : s < d * B := by
    have : (r + 1) * B ≤ d * B := Nat.mul_le_mul_right B h2
    rw [Nat.add_mul] at this
    omega
  have ht : s / d < B := Nat.div_lt_of_lt_mul hsd
  have hdr : (q.set i (s / d)).drop i = s / d :: q.drop (i + 1) := by
    rw [List.drop_eq_getElem_cons (by simpa using hiq), List.getElem_set_self, List.drop_set_of_lt (by omega)]
  refine ⟨by simp [h.len], ?_, Nat.mod_lt _ (by omega), ?_⟩
  · rw [hdr]
    intro x hx
    rcases List.mem_cons.1 hx with rfl | hx
    · exact ht
    · exact h.dg x hx
  · rw [hdr, val_drop B a i hi, h.eq]
    show _ = (s / d + B * val B (q.drop (i + 1))) * d + s % d
    have e := Nat.div_add_mod s d
    rw [Nat.add_mul, Nat.mul_add, Nat.mul_comm (s / d) d, ← Nat.mul_assoc]
    rw [Nat.mul_comm r B] at hs
    omega
theorem DivI.done {B : Nat} {a q : List Nat} {d r : Nat} (h : DivI B a q d r 0) : val B q = val B a / d ∧ r = val B a % d := by
  have e := h.eq
  have hr := h.rest
  simp only [List.drop_zero] at e
  have e2 : val B a = d * val B q + r := by rw [e, Nat.mul_comm]
  rw [e2, Nat.mul_add_div (by omega), Nat.mul_add_mod, Nat.div_eq_of_lt hr, Nat.mod_eq_of_lt hr]
  exact ⟨by omega, rfl⟩
end Go.Proofs.YtflchbejjofppaaGreatDoor
