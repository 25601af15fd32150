/- Lemmas on the way to the laws (part 28): Hb Hc Hd -/
import Derived.Test.YtahpdkkpnkhnhaaGreatDoorLib27
set_option linter.unusedVariables false
set_option linter.unusedSimpArgs false

/- Plain: what the program answers at the example. -/
namespace Go.Proofs.YtahpdkkpnkhnhaaGreatDoor
open Go Go.Proofs Go.RowKit Go.Shelf

set_option maxRecDepth 100000
theorem ex_ck : ckPlant exP = 0 := by decide +kernel
theorem ex_time : timeV exP [0, 1, 2, 3, 5] = (55, 0) := by decide +kernel
theorem ex_both : bothE exP [0, 4] [5, 7] = 0 := by decide +kernel
theorem ex_cut : cutE exP [0, 4] [5, 7] [3, 6] = 0 := by decide +kernel
def wheatB : ByteArray := ⟨#[119, 104, 101, 97, 116]⟩
def ryeB : ByteArray := ⟨#[114, 121, 101]⟩
def exB : List Sx := startTo exP [0, 1, 2, 3, 4] wheatB (emptyS 9) 5
def exC : List Sx := stopTo exP [0, 1, 2, 3, 4] false exB 5
theorem ex_start : startE exP (emptyS 9) [0, 1, 2, 3, 4] wheatB = 0 := by decide +kernel
theorem ex_stop : stopE exP exB [0, 1, 2, 3, 4] = 0 := by decide +kernel
theorem ex_start2 : startE exP exC [0, 1, 2, 3, 5] ryeB = 16 := by decide +kernel
theorem ex_upE : upE exP exB 2 = 0 := by decide +kernel
theorem exB_len : exB.length = 9 := by decide +kernel
theorem exC_len : exC.length = 9 := by decide +kernel
theorem exB_sz : SzR exB := by
  have h : ∀ s ∈ exB, s.grain.data.size ≤ 5 := by decide +kernel
  intro s hs
  have := h s hs
  show s.grain.data.size ≤ _
  omega
theorem exC_sz : SzR exC := by
  have h : ∀ s ∈ exC, s.grain.data.size ≤ 5 := by decide +kernel
  intro s hs
  have := h s hs
  show s.grain.data.size ≤ _
  omega
theorem exE_sz : SzR (emptyS 9) := by
  have h : ∀ s ∈ emptyS 9, s.grain.data.size ≤ 5 := by decide +kernel
  intro s hs
  have := h s hs
  show s.grain.data.size ≤ _
  omega
theorem exB_f : ∀ i, i < 9 → (exB.getD i ⟨false, 0, ⟨#[]⟩⟩).feeds = [1, 2, 3, 4, -1, -1, -1, -1, -1].getD i (0 : Int) := by decide +kernel
theorem exB_4 : (exB.getD 4 ⟨false, 0, ⟨#[]⟩⟩).grain.data = #[119, 104, 101, 97, 116] := by decide +kernel
theorem exB_3 : (exB.getD 3 ⟨false, 0, ⟨#[]⟩⟩).runs = true := by decide +kernel
theorem exB_get {i : Nat} (h : i < exB.length) : exB[i].feeds = [1, 2, 3, 4, -1, -1, -1, -1, -1].getD i (0 : Int) := by
  have := exB_f i (by rw [exB_len] at h; exact h)
  rw [List.getD_eq_getElem?_getD, List.getElem?_eq_getElem h] at this
  exact this
theorem ex_up0 : UpR exB 2 1 := .base (by rw [exB_len]; omega) (by decide) (by rw [exB_get]; rfl)
theorem ex_up1 : UpR exB 2 0 := .step (by rw [exB_len]; omega) (by decide) (by rw [exB_get]; rfl) ex_up0
theorem ex_upN {i : Nat} (hi : 2 ≤ i) (hu : UpR exB 2 i) : False := by
  have key : ∀ i, UpR exB 2 i → i < 2 := by
    intro i hu
    induction hu with
    | @base i h hne hf =>
      rw [exB_get] at hf
      rw [exB_len] at h
      match i, h with
      | 0, _ => omega
      | 1, _ => omega
      | 2, _ => cases hf
      | 3, _ => cases hf
      | 4, _ => cases hf
      | 5, _ => cases hf
      | 6, _ => cases hf
      | 7, _ => cases hf
      | 8, _ => cases hf
    | @step i j h hne hf hj ih =>
      rw [exB_get] at hf
      rw [exB_len] at h
      match i, h with
      | 0, _ => omega
      | 1, _ => omega
      | 2, _ => exact absurd rfl hne
      | 3, _ =>
        have : (4 : Int) = j := hf
        omega
      | 4, _ => have : (-1 : Int) = j := hf; omega
      | 5, _ => have : (-1 : Int) = j := hf; omega
      | 6, _ => have : (-1 : Int) = j := hf; omega
      | 7, _ => have : (-1 : Int) = j := hf; omega
      | 8, _ => have : (-1 : Int) = j := hf; omega
  have := key i hu
  omega
open Classical in
theorem ex_upB (i : Nat) : upB exB 2 i = Nat.blt i 2 := by
  unfold upB
  by_cases hi : i < 2
  · rw [show Nat.blt i 2 = true by rw [Nat.blt_eq]; exact hi]
    refine decide_eq_true ?_
    rcases (show i = 0 ∨ i = 1 by omega) with rfl | rfl
    · exact ex_up1
    · exact ex_up0
  · rw [show Nat.blt i 2 = false from by cases h : Nat.blt i 2 with | false => rfl | true => rw [Nat.blt_eq] at h; exact absurd h hi]
    exact decide_eq_false fun hu => ex_upN (by omega) hu
theorem ex_upL : upL exB 2 9 = [0, 1] := by
  unfold upL
  rw [show upB exB 2 = fun i => Nat.blt i 2 from funext ex_upB]
  rfl
def exT : List Tk := [⟨[0, 1, 2, 3, 4], wheatB, 100⟩, ⟨[0, 1, 2, 3, 5], ryeB, 50⟩]
theorem ex_ckT : ckTasks exP exT = 0 := by decide +kernel
theorem ex_bound : boundV exP exT = (235, 0) := by decide +kernel
theorem exT_sz : SzT exT := by
  have h : ∀ t ∈ exT, t.grain.data.size ≤ 5 := by decide +kernel
  intro s hs
  have := h s hs
  show s.grain.data.size ≤ _
  omega
theorem ex_bars : barsT exP exT [0, 130] 1 1 = [⟨-49, 99⟩, ⟨-69, 119⟩, ⟨-79, 129⟩, ⟨-54, 104⟩] := by decide +kernel
theorem ex_sched : SchedR exP exT [0, 130] := by
  intro k hk
  match k, hk with
  | 0, _ => exact Least.nil
  | 1, _ =>
    show Least (barsT exP exT [0, 130] 1 1) 130
    rw [ex_bars]
    refine ⟨by omega, fun x hx => ?_, fun t h0 h1 => ⟨⟨-79, 129⟩, by simp, by dsimp only; omega⟩⟩
    simp only [List.mem_cons, List.not_mem_nil, or_false] at hx
    rcases hx with rfl | rfl | rfl | rfl <;> (dsimp only; omega)
theorem ex_schedU {outs : List Int} (hl : outs.length = exT.length) (h : SchedR exP exT outs) : outs = [0, 130] := h.unique ex_sched hl
/-- The search of Route at the example. -/
theorem ex_run : (runR exP [] 7 65 (start18 0)).map (fun s => (pickTo s 9, s.before.take 9)) = some (7, [0, 0, 1, 2, 0, 0, 3, 6, 0]) := by decide +kernel
theorem ex_route : RtOut exP [] 0 7 [0, 1, 2, 3, 6, 7] 0 := by
  obtain ⟨sf, hsf, he⟩ := Option.map_eq_some_iff.1 ex_run
  simp only [Prod.mk.injEq] at he
  obtain ⟨h1, h2⟩ := he
  have hb : ∀ i, i < 9 → sf.before.getD i 0 = [0, 0, 1, 2, 0, 0, 3, 6, 0].getD i (0 : Int) := fun i hi => by
    rw [← h2, List.getD_eq_getElem?_getD, List.getD_eq_getElem?_getD, List.getElem?_take_of_lt hi]
  have a0 : atK sf.before 7 0 = 7 := rfl
  have a1 : atK sf.before 7 1 = 6 := by show sf.before.getD (atK sf.before 7 0).toNat 0 = 6; rw [a0]; exact hb 7 (by omega)
  have a2 : atK sf.before 7 2 = 3 := by show sf.before.getD (atK sf.before 7 1).toNat 0 = 3; rw [a1]; exact hb 6 (by omega)
  have a3 : atK sf.before 7 3 = 2 := by show sf.before.getD (atK sf.before 7 2).toNat 0 = 2; rw [a2]; exact hb 3 (by omega)
  have a4 : atK sf.before 7 4 = 1 := by show sf.before.getD (atK sf.before 7 3).toNat 0 = 1; rw [a3]; exact hb 2 (by omega)
  have a5 : atK sf.before 7 5 = 0 := by show sf.before.getD (atK sf.before 7 4).toNat 0 = 0; rw [a4]; exact hb 1 (by omega)
  refine .inr ⟨ex_ck, .inr ⟨by decide +kernel, .inr ⟨by decide +kernel, 65, sf, by omega, hsf, .inr ⟨?_, 5, by omega, a5, fun k hk => ?_, ?_, rfl⟩⟩⟩⟩
  · rw [show exP.ms.length = 9 from rfl, h1]; omega
  · match k, hk with
    | 0, _ => rw [a0]; decide
    | 1, _ => rw [a1]; decide
    | 2, _ => rw [a2]; decide
    | 3, _ => rw [a3]; decide
    | 4, _ => rw [a4]; decide
  · unfold trL
    simp only [List.range_succ, List.range_zero, List.nil_append, List.map_append, List.map_cons, List.map_nil, List.cons_append, a0, a1, a2, a3, a4, a5]
    rfl
/-- Two paths that share no machine; and two machines that all paths share. -/
def exS (i : Nat) : Bool := [18, 0, 1, 2, 3, 4, 5, 6, 8, 9, 16, 17, 12].contains i
def exFl : List (Nat × Nat) := [(18, 0), (0, 1), (1, 2), (2, 3), (3, 4), (4, 5), (5, 6), (6, 7), (7, 10), (10, 11), (11, 19), (18, 8), (8, 9), (9, 16), (16, 17), (17, 12), (12, 13), (13, 14), (14, 15), (15, 19)]
def exR (i j : Nat) : Int := capC exP [0, 4] [5, 7] i j - (if exFl.contains (i, j) then 1 else 0) + (if exFl.contains (j, i) then 1 else 0)
theorem ex_cap : capS 20 (capC exP [0, 4] [5, 7]) exS = 2 := by decide +kernel
theorem ex_nn : ∀ i, i < 20 → ∀ j, j < 20 → 0 ≤ exR i j := by decide +kernel
theorem ex_nt : ∀ i, i < 20 → sumF 20 (fun k => capC exP [0, 4] [5, 7] i k - exR i k) = valX 18 19 2 i := by decide +kernel
theorem ex_flow : RFlow 20 (capC exP [0, 4] [5, 7]) exR (valX 18 19 2) :=
  ⟨fun i j hi hj => ex_nn i hi j hj, fun i j _ _ => by unfold exR; omega, ex_nt⟩
theorem MostR.cap {p : Pl} {src snk : List Int} {rm : List Int} {n : Int} (h : MostR p src snk rm n) : ∃ S : Nat → Bool, S (2 * p.ms.length) = true ∧ S (2 * p.ms.length + 1) = false ∧ n = capS (2 * p.ms.length + 2) (capC p src snk) S := by
  obtain ⟨bf, ord, h1, h2, h3⟩ := h.cl
  refine ⟨fun i => decide (i ∈ ord), decide_eq_true h1.hd, decide_eq_false h3, h.fl.eq_cap (by omega) _ (decide_eq_true h1.hd) (decide_eq_false h3) fun i k hi hk hS hS' => ?_⟩
  have hm : i ∈ ord := of_decide_eq_true hS
  have hno : k ∉ ord := of_decide_eq_false hS'
  have h0 := h.fl.nn i k hi hk
  obtain ⟨j, hj, e⟩ := List.getElem_of_mem hm
  by_cases hp : 0 < matR rm i k
  · exact absurd (h2 j hj hj k hk (by rw [e]; exact hp)) hno
  · omega
theorem ex_most {rm : List Int} {n : Int} (h : MostR exP [0, 4] [5, 7] rm n) : n = 2 := by
  obtain ⟨S, h1, h2, h3⟩ := h.cap
  have h4 := ex_flow.le_cap (by omega) S h1 h2
  have h5 := h.fl.le_cap (by omega) exS rfl rfl
  rw [show 2 * exP.ms.length + 2 = 20 from rfl] at h3 h5
  rw [ex_cap] at h5
  omega
end Go.Proofs.YtahpdkkpnkhnhaaGreatDoor

/- Walks: awake. -/
namespace Go.Proofs.YtahpdkkpnkhnhaaGreatDoor
open Go Go.Proofs Go.RowKit Go.Shelf

/-- It returns a slice that reads as a list, and an error number. -/
def SlE {α : Type} (f : α → List Value) (sz : Nat) (l : List α) (c : Int) (w : World) (e : Ending) (w' : World) : Prop := ∃ a cp, e = .returned (.tuple #[.slice a l.length cp, .int .i64 c]) ∧ Sl f sz w' w'.heap.size (.slice a l.length cp) l ∧ Below w.heap.size w w'
theorem own_slE {α : Type} {f : α → List Value} {sz : Nat} {t : TypeId} {w w' : World} {v : Value} {l : List α} {c : Int} (hf : ∀ x, (f x).length = sz) (hl : l.length ≤ 1000000000) (ho : Own f sz t w' w.heap.size v l) (hb : Below w.heap.size w w') : SlE f sz l c w (.returned (.tuple #[v, .int .i64 c])) w' := by
  have h := ho.toSl hf hl
  obtain ⟨a, cp, rfl, _, _⟩ := id h
  exact ⟨a, cp, rfl, h, hb⟩
section
variable {w : World} {g1 g2 : Nat} (hwd : WdR w) (hpl : PlR w w.heap.size (.slice (some ⟨g1, 0, none⟩) 9 9) (.slice (some ⟨g2, 0, none⟩) 10 10) exP)
include hwd hpl
theorem aw_time {u : Value} (hu : Sl encI 1 w w.heap.size u [0, 1, 2, 3, 5]) : Calls Tryz.prog 34 #[.agg #[.slice (some ⟨g1, 0, none⟩) 9 9, .slice (some ⟨g2, 0, none⟩) 10 10], u] w (Ret (.tuple #[.int .i64 55, .int .i64 0]) w) := by
  have h := time34 w _ _ u exP _ hwd hpl hu
  rw [ex_time] at h
  exact h
theorem aw_route : Calls Tryz.prog 18 #[.agg #[.slice (some ⟨g1, 0, none⟩) 9 9, .slice (some ⟨g2, 0, none⟩) 10 10], .int .i64 0, .int .i64 7, .slice none 0 0] w (SlE encI 1 [0, 1, 2, 3, 6, 7] 0 w) := by
  refine (route18 w _ _ (.slice none 0 0) exP [] 0 7 hwd hpl (Sl.nil _ _ _ _ _ _) (by simp) _ _ ex_route).mono ?_
  rintro e w' ⟨v, rfl, ho, hb⟩
  exact own_slE encI_len (by simp) ho hb
theorem aw_most {s t : Value} (hs : Sl encI 1 w w.heap.size s [0, 4]) (ht : Sl encI 1 w w.heap.size t [5, 7]) : Calls Tryz.prog 60 #[.agg #[.slice (some ⟨g1, 0, none⟩) 9 9, .slice (some ⟨g2, 0, none⟩) 10 10], s, t] w (Ret (.tuple #[.int .i64 2, .int .i64 0]) w) := by
  refine (most60 w _ _ s t exP _ _ hwd hpl hs ht).mono ?_
  rintro e w' ⟨n, rfl, _, h, hb⟩
  obtain ⟨rm, hr⟩ := h ex_both
  rw [ex_most hr, ex_both]
  exact ⟨rfl, hb⟩
theorem aw_cut {s t u : Value} (hs : Sl encI 1 w w.heap.size s [0, 4]) (ht : Sl encI 1 w w.heap.size t [5, 7]) (hu : Sl encI 1 w w.heap.size u [3, 6]) : Calls Tryz.prog 75 #[.agg #[.slice (some ⟨g1, 0, none⟩) 9 9, .slice (some ⟨g2, 0, none⟩) 10 10], s, t, u] w (Ret (.int .i64 0) w) := by
  have h := checkCut75 w _ _ s t u exP _ _ _ hwd hpl hs ht hu
  rw [ex_cut] at h
  exact h
theorem aw_empty : Calls Tryz.prog 36 #[.agg #[.slice (some ⟨g1, 0, none⟩) 9 9, .slice (some ⟨g2, 0, none⟩) 10 10]] w (SlE Sx.enc 3 (emptyS 9) 0 w) := by
  refine (empty36 w _ _ exP hwd hpl).mono ?_
  rintro e w' ⟨v, rfl, ho, hb⟩
  rw [ex_ck, if_neg (by simp)] at ho
  rw [ex_ck]
  exact own_slE Sx.enc_len (by simp [emptyS]) ho hb
theorem aw_start {a y : Value} (ha : Sl Sx.enc 3 w w.heap.size a (emptyS 9)) (hy : Sl encI 1 w w.heap.size y [0, 1, 2, 3, 4]) : Calls Tryz.prog 26 #[.agg #[.slice (some ⟨g1, 0, none⟩) 9 9, .slice (some ⟨g2, 0, none⟩) 10 10], a, y, .string ⟨#[119, 104, 101, 97, 116]⟩] w (SlE Sx.enc 3 exB 0 w) := by
  refine (start26 w _ _ a y wheatB exP (emptyS 9) [0, 1, 2, 3, 4] hwd hpl ha exE_sz hy (by decide)).mono ?_
  rintro e w' ⟨v, rfl, ho, hb⟩
  rw [ex_start, if_neg (by simp)] at ho
  rw [ex_start]
  exact own_slE Sx.enc_len (by rw [exB_len]; omega) ho hb
theorem aw_stop {a y : Value} (ha : Sl Sx.enc 3 w w.heap.size a exB) (hy : Sl encI 1 w w.heap.size y [0, 1, 2, 3, 4]) : Calls Tryz.prog 44 #[.agg #[.slice (some ⟨g1, 0, none⟩) 9 9, .slice (some ⟨g2, 0, none⟩) 10 10], a, y] w (SlE Sx.enc 3 exC 0 w) := by
  refine (stop44 w _ _ a y exP exB [0, 1, 2, 3, 4] hwd hpl ha exB_sz hy).mono ?_
  rintro e w' ⟨v, rfl, ho, hb⟩
  rw [ex_stop, if_neg (by simp)] at ho
  rw [ex_stop]
  exact own_slE Sx.enc_len (by rw [exC_len]; omega) ho hb
theorem aw_start2 {a y : Value} (ha : Sl Sx.enc 3 w w.heap.size a exC) (hy : Sl encI 1 w w.heap.size y [0, 1, 2, 3, 5]) : Calls Tryz.prog 26 #[.agg #[.slice (some ⟨g1, 0, none⟩) 9 9, .slice (some ⟨g2, 0, none⟩) 10 10], a, y, .string ⟨#[114, 121, 101]⟩] w (SlE Sx.enc 3 [] 16 w) := by
  refine (start26 w _ _ a y ryeB exP exC [0, 1, 2, 3, 5] hwd hpl ha exC_sz hy (by decide)).mono ?_
  rintro e w' ⟨v, rfl, ho, hb⟩
  rw [ex_start2, if_pos (by simp)] at ho
  rw [ex_start2]
  exact own_slE Sx.enc_len (by simp) ho hb
theorem aw_up {a : Value} (ha : Sl Sx.enc 3 w w.heap.size a exB) : Calls Tryz.prog 38 #[.agg #[.slice (some ⟨g1, 0, none⟩) 9 9, .slice (some ⟨g2, 0, none⟩) 10 10], a, .int .i64 2] w (SlE encI 1 [0, 1] 0 w) := by
  refine (upstream38 w _ _ a exP exB 2 hwd hpl ha exB_sz).mono ?_
  rintro e w' ⟨v, rfl, ho, hb⟩
  rw [ex_upE, if_neg (by simp), exB_len, ex_upL] at ho
  rw [ex_upE]
  exact own_slE encI_len (by simp) ho hb
theorem aw_sched {u : Value} (hu : TasksR w w.heap.size u exT) : Calls Tryz.prog 54 #[.agg #[.slice (some ⟨g1, 0, none⟩) 9 9, .slice (some ⟨g2, 0, none⟩) 10 10], u] w (SlE encI 1 [0, 130] 0 w) := by
  refine (schedule54 w _ _ u exP exT hwd hpl hu exT_sz).mono ?_
  rintro e w' ⟨v, outs, rfl, ho, h, hb⟩
  rw [ex_ckT, if_neg (by simp)] at h
  rw [ex_schedU h.1 h.2] at ho
  rw [ex_ckT]
  exact own_slE encI_len (by simp) ho hb
theorem aw_bound {u : Value} (hu : TasksR w w.heap.size u exT) : Calls Tryz.prog 70 #[.agg #[.slice (some ⟨g1, 0, none⟩) 9 9, .slice (some ⟨g2, 0, none⟩) 10 10], u] w (Ret (.tuple #[.int .i64 235, .int .i64 0]) w) := by
  have h := bound70 w _ _ u exP exT hwd hpl hu exT_sz
  rw [ex_bound] at h
  exact h
end
end Go.Proofs.YtahpdkkpnkhnhaaGreatDoor

/- Walks: awake. -/
namespace Go.Proofs.YtahpdkkpnkhnhaaGreatDoor
open Go Go.Proofs Go.RowKit Go.Shelf

theorem SlE.n {α : Type} {f : α → List Value} {sz : Nat} {l : List α} {c : Int} {w : World} {e : Ending} {w' : World} (h : SlE f sz l c w e w') {n : Nat} (hn : l.length = n) :
    ∃ a cp, e = .returned (.tuple #[.slice a n cp, .int .i64 c]) ∧ Sl f sz w' w'.heap.size (.slice a n cp) l ∧ Below w.heap.size w w' := by
  subst hn
  exact h
theorem aw_same {w : World} {u v : Value} {l : List Int} (hu : Sl encI 1 w w.heap.size u l) (hv : Sl encI 1 w w.heap.size v l) : Calls Tryz.prog 40 #[u, v] w (Ret (.bool true) w) := by
  have h := sameInts40 u v l l w hu hv
  rw [decide_eq_true rfl] at h
  exact h
theorem exB_g3 (h : 3 < exB.length) : exB[3].enc = [.bool true, .int .i64 4, .string ⟨#[119, 104, 101, 97, 116]⟩] := by
  have h1 : exB[3].runs = true := by
    have := exB_3
    rw [List.getD_eq_getElem?_getD, List.getElem?_eq_getElem h] at this
    exact this
  have h2 : exB[3].feeds = 4 := exB_get h
  have h3 : exB[3].grain = ⟨#[119, 104, 101, 97, 116]⟩ := by
    have h4 : (exB.getD 3 ⟨false, 0, ⟨#[]⟩⟩).grain.data = #[119, 104, 101, 97, 116] := by decide +kernel
    rw [List.getD_eq_getElem?_getD, List.getElem?_eq_getElem h] at h4
    exact ByteArray.ext h4
  unfold Sx.enc
  rw [h1, h2, h3]
theorem exB_g4 (h : 4 < exB.length) : ∃ r, exB[4].enc = [.bool r, .int .i64 (-1), .string ⟨#[119, 104, 101, 97, 116]⟩] := by
  have h2 : exB[4].feeds = -1 := exB_get h
  have h3 : exB[4].grain = ⟨#[119, 104, 101, 97, 116]⟩ := by
    have h4 := exB_4
    rw [List.getD_eq_getElem?_getD, List.getElem?_eq_getElem h] at h4
    exact ByteArray.ext h4
  refine ⟨exB[4].runs, ?_⟩
  unfold Sx.enc
  rw [h2, h3]
theorem exT_R (w : World) : TasksR (((w.alloc (.cells #[.int .i64 0, .int .i64 1, .int .i64 2, .int .i64 3, .int .i64 4] 3)).alloc (.cells #[.int .i64 0, .int .i64 1, .int .i64 2, .int .i64 3, .int .i64 5] 3)).alloc (.cells #[.slice (some ⟨w.heap.size, 0, none⟩) 5 5, .string ⟨#[119, 104, 101, 97, 116]⟩, .int .i64 100, .slice (some ⟨w.heap.size + 1, 0, none⟩) 5 5, .string ⟨#[114, 121, 101]⟩, .int .i64 50] 114)) (((w.alloc (.cells #[.int .i64 0, .int .i64 1, .int .i64 2, .int .i64 3, .int .i64 4] 3)).alloc (.cells #[.int .i64 0, .int .i64 1, .int .i64 2, .int .i64 3, .int .i64 5] 3)).alloc (.cells #[.slice (some ⟨w.heap.size, 0, none⟩) 5 5, .string ⟨#[119, 104, 101, 97, 116]⟩, .int .i64 100, .slice (some ⟨w.heap.size + 1, 0, none⟩) 5 5, .string ⟨#[114, 121, 101]⟩, .int .i64 50] 114)).heap.size
    (.slice (some ⟨w.heap.size + 1 + 1, 0, none⟩) 2 2) exT := by
  have h0 := Sl.litAt encI_len [0, 1, 2, 3, 4] w #[.int .i64 0, .int .i64 1, .int .i64 2, .int .i64 3, .int .i64 4] 3 5 _ rfl rfl rfl (by simp)
  have h1 := Sl.litAt encI_len [0, 1, 2, 3, 5] (w.alloc (.cells #[.int .i64 0, .int .i64 1, .int .i64 2, .int .i64 3, .int .i64 4] 3)) #[.int .i64 0, .int .i64 1, .int .i64 2, .int .i64 3, .int .i64 5] 3 5 (w.heap.size + 1) (by simp) rfl rfl (by simp)
  have b1 := (Below.refl (w.alloc (.cells #[.int .i64 0, .int .i64 1, .int .i64 2, .int .i64 3, .int .i64 4] 3)).heap.size _).alloc (Nat.le_refl _) (.cells #[.int .i64 0, .int .i64 1, .int .i64 2, .int .i64 3, .int .i64 5] 3)
  have h0 := h0.later b1
  have hs : ((w.alloc (.cells #[.int .i64 0, .int .i64 1, .int .i64 2, .int .i64 3, .int .i64 4] 3)).alloc (.cells #[.int .i64 0, .int .i64 1, .int .i64 2, .int .i64 3, .int .i64 5] 3)).heap.size = w.heap.size + 1 + 1 := by simp
  clear b1
  generalize (w.alloc (.cells #[.int .i64 0, .int .i64 1, .int .i64 2, .int .i64 3, .int .i64 4] 3)).alloc (.cells #[.int .i64 0, .int .i64 1, .int .i64 2, .int .i64 3, .int .i64 5] 3) = W at h0 h1 hs ⊢
  have hbx := Box.newAt W #[.slice (some ⟨w.heap.size, 0, none⟩) 5 5, .string ⟨#[119, 104, 101, 97, 116]⟩, .int .i64 100, .slice (some ⟨w.heap.size + 1, 0, none⟩) 5 5, .string ⟨#[114, 121, 101]⟩, .int .i64 50] 114 hs
  have bb := (Below.refl W.heap.size W).alloc (Nat.le_refl _) (.cells #[.slice (some ⟨w.heap.size, 0, none⟩) 5 5, .string ⟨#[119, 104, 101, 97, 116]⟩, .int .i64 100, .slice (some ⟨w.heap.size + 1, 0, none⟩) 5 5, .string ⟨#[114, 121, 101]⟩, .int .i64 50] 114)
  have h0 := h0.later bb
  have h1 := h1.later bb
  have hlt := hbx.lt
  clear bb
  generalize W.alloc (.cells #[.slice (some ⟨w.heap.size, 0, none⟩) 5 5, .string ⟨#[119, 104, 101, 97, 116]⟩, .int .i64 100, .slice (some ⟨w.heap.size + 1, 0, none⟩) 5 5, .string ⟨#[114, 121, 101]⟩, .int .i64 50] 114) = V at h0 h1 hbx hlt ⊢
  refine ⟨_, 2, rfl, ⟨by decide, by decide⟩, fun _ => ⟨w.heap.size + 1 + 1, 0, rfl, hlt, fun i hi => ?_⟩⟩
  match i, hi with
  | 0, _ =>
    refine ⟨_, _, ?_, h0⟩
    intro j u hj
    match j, hj with
    | 0, hj => exact (hbx.cell 0).trans hj
    | 1, hj => exact (hbx.cell 1).trans hj
    | 2, hj => exact (hbx.cell 2).trans hj
  | 1, _ =>
    refine ⟨_, _, ?_, h1⟩
    intro j u hj
    match j, hj with
    | 0, hj => exact (hbx.cell 3).trans hj
    | 1, hj => exact (hbx.cell 4).trans hj
    | 2, hj => exact (hbx.cell 5).trans hj
set_option maxRecDepth 100000 in
set_option maxHeartbeats 1000000 in
theorem awake16 (w : World) (hwd : WdR w) : Calls Tryz.prog 16 #[] w (Ret (.bool true) w) := by
  go_enter Tryz.func16, Tryz.ntmps16
  go_wp2_with fail
  refine (example78 _).mono ?_
  rintro e w1 ⟨g1, g2, rfl, hpl, hb⟩
  have HX := Lib.hid (Box.new w1 #[.slice (some ⟨g1, 0, none⟩) 9 9, .slice (some ⟨g2, 0, none⟩) 10 10] 25)
  have hba : Below w1.heap.size w1 (w1.alloc (.cells #[.slice (some ⟨g1, 0, none⟩) 9 9, .slice (some ⟨g2, 0, none⟩) 10 10] 25)) := (Below.refl _ _).alloc (Nat.le_refl _) _
  have HB := Lib.hid (hb.trans (hba.mono hb.size))
  have HPL := Lib.hid (hpl.later hba)
  have HW := Lib.hid ((hwd.later hb).later hba)
  clear hb hpl hba hwd
  obtain ⟨x0, x1, xf, xz⟩ := HX.out.v2
  go_wp2_with fail
  have hba : Below (w1.alloc (.cells #[.slice (some ⟨g1, 0, none⟩) 9 9, .slice (some ⟨g2, 0, none⟩) 10 10] 25)).heap.size (w1.alloc (.cells #[.slice (some ⟨g1, 0, none⟩) 9 9, .slice (some ⟨g2, 0, none⟩) 10 10] 25)) ((w1.alloc (.cells #[.slice (some ⟨g1, 0, none⟩) 9 9, .slice (some ⟨g2, 0, none⟩) 10 10] 25)).alloc (.cells #[.int .i64 0, .int .i64 1, .int .i64 2, .int .i64 3, .int .i64 5] 3)) := ((Below.refl _ _).alloc (Nat.le_refl _) _)
  have HPLa := Lib.hid (HPL.out.later hba)
  have HWa := Lib.hid (HW.out.later hba)
  have HS0 := Lib.hid (Sl.litAt encI_len [0, 1, 2, 3, 5] (w1.alloc (.cells #[.slice (some ⟨g1, 0, none⟩) 9 9, .slice (some ⟨g2, 0, none⟩) 10 10] 25)) #[.int .i64 0, .int .i64 1, .int .i64 2, .int .i64 3, .int .i64 5] 3 5 (w1.heap.size + 1) (by simp) rfl rfl (by simp))
  refine (aw_time HWa.out HPLa.out HS0.out).mono ?_
  rintro e w2 ⟨rfl, hb⟩
  have hb2 := hba.trans (hb.mono hba.size)
  have HXn := Lib.hid (HX.out.later hb2)
  have HPLn := Lib.hid (HPL.out.later hb2)
  have HWn := Lib.hid (HW.out.later hb2)
  have HBn := Lib.hid (HB.out.trans (hb2.mono HB.out.size))
  clear hb hb2 x0 x1 xf xz HX HPL HW HB hba HS0 HPLa HWa
  have HX := HXn
  clear HXn
  have HPL := HPLn
  clear HPLn
  have HW := HWn
  clear HWn
  have HB := HBn
  clear HBn
  obtain ⟨x0, x1, xf, xz⟩ := HX.out.v2
  go_wp2_with fail
  refine (aw_route HW.out HPL.out).mono ?_
  intro e w3 hh
  obtain ⟨a4, c4, rfl, hs, hb⟩ := hh.n (n := 6) rfl
  clear hh
  have hb2 := hb
  have HXn := Lib.hid (HX.out.later hb2)
  have HPLn := Lib.hid (HPL.out.later hb2)
  have HWn := Lib.hid (HW.out.later hb2)
  have HBn := Lib.hid (HB.out.trans (hb2.mono HB.out.size))
  have HRn := Lib.hid hs
  clear hb hb2 x0 x1 xf xz HX HPL HW HB hs
  have HX := HXn
  clear HXn
  have HPL := HPLn
  clear HPLn
  have HW := HWn
  clear HWn
  have HB := HBn
  clear HBn
  have HR := HRn
  clear HRn
  obtain ⟨x0, x1, xf, xz⟩ := HX.out.v2
  go_wp2_with fail
  have hba : Below w3.heap.size w3 ((w3.alloc (.cells #[.int .i64 0, .int .i64 4] 3)).alloc (.cells #[.int .i64 5, .int .i64 7] 3)) := (((Below.refl _ _).alloc (Nat.le_refl _) _).alloc (by simp) _)
  have HPLa := Lib.hid (HPL.out.later hba)
  have HWa := Lib.hid (HW.out.later hba)
  have HRa := Lib.hid (HR.out.later hba)
  have HS0 := Lib.hid ((Sl.litAt encI_len [0, 4] w3 #[.int .i64 0, .int .i64 4] 3 2 (w3.heap.size) (by simp) rfl rfl (by simp)).later ((Below.refl _ _).alloc (Nat.le_refl _) (.cells #[.int .i64 5, .int .i64 7] 3)))
  have HS1 := Lib.hid (Sl.litAt encI_len [5, 7] (w3.alloc (.cells #[.int .i64 0, .int .i64 4] 3)) #[.int .i64 5, .int .i64 7] 3 2 (w3.heap.size + 1) (by simp) rfl rfl (by simp))
  refine (aw_most HWa.out HPLa.out HS0.out HS1.out).mono ?_
  rintro e w4 ⟨rfl, hb⟩
  have hb2 := hba.trans (hb.mono hba.size)
  have HXn := Lib.hid (HX.out.later hb2)
  have HPLn := Lib.hid (HPL.out.later hb2)
  have HWn := Lib.hid (HW.out.later hb2)
  have HRn := Lib.hid (HR.out.later hb2)
  have HBn := Lib.hid (HB.out.trans (hb2.mono HB.out.size))
  clear hb hb2 x0 x1 xf xz HX HPL HW HB HR hba HS0 HS1 HPLa HWa HRa
  have HX := HXn
  clear HXn
  have HPL := HPLn
  clear HPLn
  have HW := HWn
  clear HWn
  have HB := HBn
  clear HBn
  have HR := HRn
  clear HRn
  obtain ⟨x0, x1, xf, xz⟩ := HX.out.v2
  go_wp2_with fail
  have hba : Below w4.heap.size w4 (((w4.alloc (.cells #[.int .i64 0, .int .i64 4] 3)).alloc (.cells #[.int .i64 5, .int .i64 7] 3)).alloc (.cells #[.int .i64 3, .int .i64 6] 3)) := ((((Below.refl _ _).alloc (Nat.le_refl _) _).alloc (by simp) _).alloc (by simp; omega) _)
  have HPLa := Lib.hid (HPL.out.later hba)
  have HWa := Lib.hid (HW.out.later hba)
  have HRa := Lib.hid (HR.out.later hba)
  have HS0 := Lib.hid ((Sl.litAt encI_len [0, 4] w4 #[.int .i64 0, .int .i64 4] 3 2 (w4.heap.size) (by simp) rfl rfl (by simp)).later (((Below.refl _ _).alloc (Nat.le_refl _) (.cells #[.int .i64 5, .int .i64 7] 3)).alloc (by simp) (.cells #[.int .i64 3, .int .i64 6] 3)))
  have HS1 := Lib.hid ((Sl.litAt encI_len [5, 7] (w4.alloc (.cells #[.int .i64 0, .int .i64 4] 3)) #[.int .i64 5, .int .i64 7] 3 2 (w4.heap.size + 1) (by simp) rfl rfl (by simp)).later ((Below.refl _ _).alloc (Nat.le_refl _) (.cells #[.int .i64 3, .int .i64 6] 3)))
  have HS2 := Lib.hid (Sl.litAt encI_len [3, 6] ((w4.alloc (.cells #[.int .i64 0, .int .i64 4] 3)).alloc (.cells #[.int .i64 5, .int .i64 7] 3)) #[.int .i64 3, .int .i64 6] 3 2 (w4.heap.size + 1 + 1) (by simp) rfl rfl (by simp))
  refine (aw_cut HWa.out HPLa.out HS0.out HS1.out HS2.out).mono ?_
  rintro e w5 ⟨rfl, hb⟩
  have hb2 := hba.trans (hb.mono hba.size)
  have HXn := Lib.hid (HX.out.later hb2)
  have HPLn := Lib.hid (HPL.out.later hb2)
  have HWn := Lib.hid (HW.out.later hb2)
  have HRn := Lib.hid (HR.out.later hb2)
  have HBn := Lib.hid (HB.out.trans (hb2.mono HB.out.size))
  clear hb hb2 x0 x1 xf xz HX HPL HW HB HR hba HS0 HS1 HS2 HPLa HWa HRa
  have HX := HXn
  clear HXn
  have HPL := HPLn
  clear HPLn
  have HW := HWn
  clear HWn
  have HB := HBn
  clear HBn
  have HR := HRn
  clear HRn
  obtain ⟨x0, x1, xf, xz⟩ := HX.out.v2
  go_wp2_with fail
  refine (aw_empty HW.out HPL.out).mono ?_
  intro e w6 hh
  obtain ⟨a5, c5, rfl, hs, hb⟩ := hh.n (n := 9) rfl
  clear hh
  have hb2 := hb
  have HXn := Lib.hid (HX.out.later hb2)
  have HPLn := Lib.hid (HPL.out.later hb2)
  have HWn := Lib.hid (HW.out.later hb2)
  have HRn := Lib.hid (HR.out.later hb2)
  have HBn := Lib.hid (HB.out.trans (hb2.mono HB.out.size))
  have HEn := Lib.hid hs
  clear hb hb2 x0 x1 xf xz HX HPL HW HB HR hs
  have HX := HXn
  clear HXn
  have HPL := HPLn
  clear HPLn
  have HW := HWn
  clear HWn
  have HB := HBn
  clear HBn
  have HR := HRn
  clear HRn
  have HE := HEn
  clear HEn
  obtain ⟨x0, x1, xf, xz⟩ := HX.out.v2
  go_wp2_with fail
  have hba : Below w6.heap.size w6 (w6.alloc (.cells #[.int .i64 0, .int .i64 1, .int .i64 2, .int .i64 3, .int .i64 4] 3)) := ((Below.refl _ _).alloc (Nat.le_refl _) _)
  have HPLa := Lib.hid (HPL.out.later hba)
  have HWa := Lib.hid (HW.out.later hba)
  have HRa := Lib.hid (HR.out.later hba)
  have HEa := Lib.hid (HE.out.later hba)
  have HS0 := Lib.hid (Sl.litAt encI_len [0, 1, 2, 3, 4] w6 #[.int .i64 0, .int .i64 1, .int .i64 2, .int .i64 3, .int .i64 4] 3 5 (w6.heap.size) (by simp) rfl rfl (by simp))
  refine (aw_start HWa.out HPLa.out HEa.out HS0.out).mono ?_
  intro e w7 hh
  obtain ⟨a6, c6, rfl, hs, hb⟩ := hh.n (n := 9) exB_len
  clear hh
  have hb2 := hba.trans (hb.mono hba.size)
  have HXn := Lib.hid (HX.out.later hb2)
  have HPLn := Lib.hid (HPL.out.later hb2)
  have HWn := Lib.hid (HW.out.later hb2)
  have HRn := Lib.hid (HR.out.later hb2)
  have HEn := Lib.hid (HE.out.later hb2)
  have HBn := Lib.hid (HB.out.trans (hb2.mono HB.out.size))
  have HBBn := Lib.hid hs
  clear hb hb2 x0 x1 xf xz HX HPL HW HB HR HE hba HS0 HPLa HWa HRa HEa hs
  have HX := HXn
  clear HXn
  have HPL := HPLn
  clear HPLn
  have HW := HWn
  clear HWn
  have HB := HBn
  clear HBn
  have HR := HRn
  clear HRn
  have HE := HEn
  clear HEn
  have HBB := HBBn
  clear HBBn
  obtain ⟨x0, x1, xf, xz⟩ := HX.out.v2
  go_wp2_with fail
  have hba : Below w7.heap.size w7 (w7.alloc (.cells #[.int .i64 0, .int .i64 1, .int .i64 2, .int .i64 3, .int .i64 4] 3)) := ((Below.refl _ _).alloc (Nat.le_refl _) _)
  have HPLa := Lib.hid (HPL.out.later hba)
  have HWa := Lib.hid (HW.out.later hba)
  have HRa := Lib.hid (HR.out.later hba)
  have HEa := Lib.hid (HE.out.later hba)
  have HBBa := Lib.hid (HBB.out.later hba)
  have HS0 := Lib.hid (Sl.litAt encI_len [0, 1, 2, 3, 4] w7 #[.int .i64 0, .int .i64 1, .int .i64 2, .int .i64 3, .int .i64 4] 3 5 (w7.heap.size) (by simp) rfl rfl (by simp))
  refine (aw_stop HWa.out HPLa.out HBBa.out HS0.out).mono ?_
  intro e w8 hh
  obtain ⟨a7, c7, rfl, hs, hb⟩ := hh.n (n := 9) exC_len
  clear hh
  have hb2 := hba.trans (hb.mono hba.size)
  have HXn := Lib.hid (HX.out.later hb2)
  have HPLn := Lib.hid (HPL.out.later hb2)
  have HWn := Lib.hid (HW.out.later hb2)
  have HRn := Lib.hid (HR.out.later hb2)
  have HEn := Lib.hid (HE.out.later hb2)
  have HBBn := Lib.hid (HBB.out.later hb2)
  have HBn := Lib.hid (HB.out.trans (hb2.mono HB.out.size))
  have HCn := Lib.hid hs
  clear hb hb2 x0 x1 xf xz HX HPL HW HB HR HE HBB hba HS0 HPLa HWa HRa HEa HBBa hs
  have HX := HXn
  clear HXn
  have HPL := HPLn
  clear HPLn
  have HW := HWn
  clear HWn
  have HB := HBn
  clear HBn
  have HR := HRn
  clear HRn
  have HE := HEn
  clear HEn
  have HBB := HBBn
  clear HBBn
  have HC := HCn
  clear HCn
  obtain ⟨x0, x1, xf, xz⟩ := HX.out.v2
  go_wp2_with fail
  have hba : Below w8.heap.size w8 (w8.alloc (.cells #[.int .i64 0, .int .i64 1, .int .i64 2, .int .i64 3, .int .i64 5] 3)) := ((Below.refl _ _).alloc (Nat.le_refl _) _)
  have HPLa := Lib.hid (HPL.out.later hba)
  have HWa := Lib.hid (HW.out.later hba)
  have HRa := Lib.hid (HR.out.later hba)
  have HEa := Lib.hid (HE.out.later hba)
  have HBBa := Lib.hid (HBB.out.later hba)
  have HCa := Lib.hid (HC.out.later hba)
  have HS0 := Lib.hid (Sl.litAt encI_len [0, 1, 2, 3, 5] w8 #[.int .i64 0, .int .i64 1, .int .i64 2, .int .i64 3, .int .i64 5] 3 5 (w8.heap.size) (by simp) rfl rfl (by simp))
  refine (aw_start2 HWa.out HPLa.out HCa.out HS0.out).mono ?_
  intro e w9 hh
  obtain ⟨a8, c8, rfl, hs, hb⟩ := hh.n (n := 0) rfl
  clear hh
  have hb2 := hba.trans (hb.mono hba.size)
  have HXn := Lib.hid (HX.out.later hb2)
  have HPLn := Lib.hid (HPL.out.later hb2)
  have HWn := Lib.hid (HW.out.later hb2)
  have HRn := Lib.hid (HR.out.later hb2)
  have HEn := Lib.hid (HE.out.later hb2)
  have HBBn := Lib.hid (HBB.out.later hb2)
  have HCn := Lib.hid (HC.out.later hb2)
  have HBn := Lib.hid (HB.out.trans (hb2.mono HB.out.size))
  clear hb hb2 x0 x1 xf xz HX HPL HW HB HR HE HBB HC hba HS0 HPLa HWa HRa HEa HBBa HCa
  have HX := HXn
  clear HXn
  have HPL := HPLn
  clear HPLn
  have HW := HWn
  clear HWn
  have HB := HBn
  clear HBn
  have HR := HRn
  clear HRn
  have HE := HEn
  clear HEn
  have HBB := HBBn
  clear HBBn
  have HC := HCn
  clear HCn
  obtain ⟨x0, x1, xf, xz⟩ := HX.out.v2
  go_wp2_with fail
  refine (aw_up HW.out HPL.out HBB.out).mono ?_
  intro e w10 hh
  obtain ⟨a9, c9, rfl, hs, hb⟩ := hh.n (n := 2) rfl
  clear hh
  have hb2 := hb
  have HXn := Lib.hid (HX.out.later hb2)
  have HPLn := Lib.hid (HPL.out.later hb2)
  have HWn := Lib.hid (HW.out.later hb2)
  have HRn := Lib.hid (HR.out.later hb2)
  have HEn := Lib.hid (HE.out.later hb2)
  have HBBn := Lib.hid (HBB.out.later hb2)
  have HCn := Lib.hid (HC.out.later hb2)
  have HBn := Lib.hid (HB.out.trans (hb2.mono HB.out.size))
  have HUn := Lib.hid hs
  clear hb hb2 x0 x1 xf xz HX HPL HW HB HR HE HBB HC hs
  have HX := HXn
  clear HXn
  have HPL := HPLn
  clear HPLn
  have HW := HWn
  clear HWn
  have HB := HBn
  clear HBn
  have HR := HRn
  clear HRn
  have HE := HEn
  clear HEn
  have HBB := HBBn
  clear HBBn
  have HC := HCn
  clear HCn
  have HU := HUn
  clear HUn
  have HT := Lib.hid (exT_R w10)
  have hba : Below w10.heap.size w10 (((w10.alloc (.cells #[.int .i64 0, .int .i64 1, .int .i64 2, .int .i64 3, .int .i64 4] 3)).alloc (.cells #[.int .i64 0, .int .i64 1, .int .i64 2, .int .i64 3, .int .i64 5] 3)).alloc (.cells #[.slice (some ⟨w10.heap.size, 0, none⟩) 5 5, .string ⟨#[119, 104, 101, 97, 116]⟩, .int .i64 100, .slice (some ⟨w10.heap.size + 1, 0, none⟩) 5 5, .string ⟨#[114, 121, 101]⟩, .int .i64 50] 114)) := ((((Below.refl _ _).alloc (Nat.le_refl _) _).alloc (by simp) _).alloc (by simp; omega) _)
  have HXn := Lib.hid (HX.out.later hba)
  have HPLn := Lib.hid (HPL.out.later hba)
  have HWn := Lib.hid (HW.out.later hba)
  have HRn := Lib.hid (HR.out.later hba)
  have HEn := Lib.hid (HE.out.later hba)
  have HBBn := Lib.hid (HBB.out.later hba)
  have HCn := Lib.hid (HC.out.later hba)
  have HUn := Lib.hid (HU.out.later hba)
  have HBn := Lib.hid (HB.out.trans (hba.mono HB.out.size))
  clear HB hba HX HPL HW HR HE HBB HC HU
  have HX := HXn
  clear HXn
  have HPL := HPLn
  clear HPLn
  have HW := HWn
  clear HWn
  have HR := HRn
  clear HRn
  have HE := HEn
  clear HEn
  have HBB := HBBn
  clear HBBn
  have HC := HCn
  clear HCn
  have HU := HUn
  clear HUn
  have HB := HBn
  clear HBn
  obtain ⟨x0, x1, xf, xz⟩ := HX.out.v2
  go_wp2_with fail
  refine (aw_sched HW.out HPL.out HT.out).mono ?_
  intro e w11 hh
  obtain ⟨a10, c10, rfl, hs, hb⟩ := hh.n (n := 2) rfl
  clear hh
  have hb2 := hb
  have HXn := Lib.hid (HX.out.later hb2)
  have HPLn := Lib.hid (HPL.out.later hb2)
  have HWn := Lib.hid (HW.out.later hb2)
  have HRn := Lib.hid (HR.out.later hb2)
  have HEn := Lib.hid (HE.out.later hb2)
  have HBBn := Lib.hid (HBB.out.later hb2)
  have HCn := Lib.hid (HC.out.later hb2)
  have HUn := Lib.hid (HU.out.later hb2)
  have HTn := Lib.hid (HT.out.later hb2)
  have HBn := Lib.hid (HB.out.trans (hb2.mono HB.out.size))
  have HOn := Lib.hid hs
  clear hb hb2 x0 x1 xf xz HX HPL HW HB HR HE HBB HC HU HT hs
  have HX := HXn
  clear HXn
  have HPL := HPLn
  clear HPLn
  have HW := HWn
  clear HWn
  have HB := HBn
  clear HBn
  have HR := HRn
  clear HRn
  have HE := HEn
  clear HEn
  have HBB := HBBn
  clear HBBn
  have HC := HCn
  clear HCn
  have HU := HUn
  clear HUn
  have HT := HTn
  clear HTn
  have HO := HOn
  clear HOn
  obtain ⟨x0, x1, xf, xz⟩ := HX.out.v2
  go_wp2_with fail
  refine (aw_bound HW.out HPL.out HT.out).mono ?_
  rintro e w12 ⟨rfl, hb⟩
  have hb2 := hb
  have HXn := Lib.hid (HX.out.later hb2)
  have HPLn := Lib.hid (HPL.out.later hb2)
  have HWn := Lib.hid (HW.out.later hb2)
  have HRn := Lib.hid (HR.out.later hb2)
  have HEn := Lib.hid (HE.out.later hb2)
  have HBBn := Lib.hid (HBB.out.later hb2)
  have HCn := Lib.hid (HC.out.later hb2)
  have HUn := Lib.hid (HU.out.later hb2)
  have HTn := Lib.hid (HT.out.later hb2)
  have HOn := Lib.hid (HO.out.later hb2)
  have HBn := Lib.hid (HB.out.trans (hb2.mono HB.out.size))
  clear hb hb2 x0 x1 xf xz HX HPL HW HB HR HE HBB HC HU HT HO
  have HX := HXn
  clear HXn
  have HPL := HPLn
  clear HPLn
  have HW := HWn
  clear HWn
  have HB := HBn
  clear HBn
  have HR := HRn
  clear HRn
  have HE := HEn
  clear HEn
  have HBB := HBBn
  clear HBBn
  have HC := HCn
  clear HCn
  have HU := HUn
  clear HUn
  have HT := HTn
  clear HTn
  have HO := HOn
  clear HOn
  obtain ⟨x0, x1, xf, xz⟩ := HX.out.v2
  go_wp2_with fail
  have hba : Below w12.heap.size w12 (w12.alloc (.cells #[.int .i64 0, .int .i64 1, .int .i64 2, .int .i64 3, .int .i64 6, .int .i64 7] 3)) := ((Below.refl _ _).alloc (Nat.le_refl _) _)
  have HPLa := Lib.hid (HPL.out.later hba)
  have HWa := Lib.hid (HW.out.later hba)
  have HRa := Lib.hid (HR.out.later hba)
  have HEa := Lib.hid (HE.out.later hba)
  have HBBa := Lib.hid (HBB.out.later hba)
  have HCa := Lib.hid (HC.out.later hba)
  have HUa := Lib.hid (HU.out.later hba)
  have HTa := Lib.hid (HT.out.later hba)
  have HOa := Lib.hid (HO.out.later hba)
  have HS0 := Lib.hid (Sl.litAt encI_len [0, 1, 2, 3, 6, 7] w12 #[.int .i64 0, .int .i64 1, .int .i64 2, .int .i64 3, .int .i64 6, .int .i64 7] 3 6 (w12.heap.size) (by simp) rfl rfl (by simp))
  refine (aw_same HRa.out HS0.out).mono ?_
  rintro e w13 ⟨rfl, hb⟩
  have hb2 := hba.trans (hb.mono hba.size)
  have HXn := Lib.hid (HX.out.later hb2)
  have HPLn := Lib.hid (HPL.out.later hb2)
  have HWn := Lib.hid (HW.out.later hb2)
  have HRn := Lib.hid (HR.out.later hb2)
  have HEn := Lib.hid (HE.out.later hb2)
  have HBBn := Lib.hid (HBB.out.later hb2)
  have HCn := Lib.hid (HC.out.later hb2)
  have HUn := Lib.hid (HU.out.later hb2)
  have HTn := Lib.hid (HT.out.later hb2)
  have HOn := Lib.hid (HO.out.later hb2)
  have HBn := Lib.hid (HB.out.trans (hb2.mono HB.out.size))
  clear hb hb2 x0 x1 xf xz HX HPL HW HB HR HE HBB HC HU HT HO hba HS0 HPLa HWa HRa HEa HBBa HCa HUa HTa HOa
  have HX := HXn
  clear HXn
  have HPL := HPLn
  clear HPLn
  have HW := HWn
  clear HWn
  have HB := HBn
  clear HBn
  have HR := HRn
  clear HRn
  have HE := HEn
  clear HEn
  have HBB := HBBn
  clear HBBn
  have HC := HCn
  clear HCn
  have HU := HUn
  clear HUn
  have HT := HTn
  clear HTn
  have HO := HOn
  clear HOn
  obtain ⟨x0, x1, xf, xz⟩ := HX.out.v2
  go_wp2_with fail
  have hba : Below w13.heap.size w13 (w13.alloc (.cells #[.int .i64 0, .int .i64 1] 3)) := ((Below.refl _ _).alloc (Nat.le_refl _) _)
  have HPLa := Lib.hid (HPL.out.later hba)
  have HWa := Lib.hid (HW.out.later hba)
  have HRa := Lib.hid (HR.out.later hba)
  have HEa := Lib.hid (HE.out.later hba)
  have HBBa := Lib.hid (HBB.out.later hba)
  have HCa := Lib.hid (HC.out.later hba)
  have HUa := Lib.hid (HU.out.later hba)
  have HTa := Lib.hid (HT.out.later hba)
  have HOa := Lib.hid (HO.out.later hba)
  have HS0 := Lib.hid (Sl.litAt encI_len [0, 1] w13 #[.int .i64 0, .int .i64 1] 3 2 (w13.heap.size) (by simp) rfl rfl (by simp))
  refine (aw_same HUa.out HS0.out).mono ?_
  rintro e w14 ⟨rfl, hb⟩
  have hb2 := hba.trans (hb.mono hba.size)
  have HXn := Lib.hid (HX.out.later hb2)
  have HPLn := Lib.hid (HPL.out.later hb2)
  have HWn := Lib.hid (HW.out.later hb2)
  have HRn := Lib.hid (HR.out.later hb2)
  have HEn := Lib.hid (HE.out.later hb2)
  have HBBn := Lib.hid (HBB.out.later hb2)
  have HCn := Lib.hid (HC.out.later hb2)
  have HUn := Lib.hid (HU.out.later hb2)
  have HTn := Lib.hid (HT.out.later hb2)
  have HOn := Lib.hid (HO.out.later hb2)
  have HBn := Lib.hid (HB.out.trans (hb2.mono HB.out.size))
  clear hb hb2 x0 x1 xf xz HX HPL HW HB HR HE HBB HC HU HT HO hba HS0 HPLa HWa HRa HEa HBBa HCa HUa HTa HOa
  have HX := HXn
  clear HXn
  have HPL := HPLn
  clear HPLn
  have HW := HWn
  clear HWn
  have HB := HBn
  clear HBn
  have HR := HRn
  clear HRn
  have HE := HEn
  clear HEn
  have HBB := HBBn
  clear HBBn
  have HC := HCn
  clear HCn
  have HU := HUn
  clear HUn
  have HT := HTn
  clear HTn
  have HO := HOn
  clear HOn
  obtain ⟨x0, x1, xf, xz⟩ := HX.out.v2
  go_wp2_with fail
  have hba : Below w14.heap.size w14 (w14.alloc (.cells #[.int .i64 0, .int .i64 130] 3)) := ((Below.refl _ _).alloc (Nat.le_refl _) _)
  have HPLa := Lib.hid (HPL.out.later hba)
  have HWa := Lib.hid (HW.out.later hba)
  have HRa := Lib.hid (HR.out.later hba)
  have HEa := Lib.hid (HE.out.later hba)
  have HBBa := Lib.hid (HBB.out.later hba)
  have HCa := Lib.hid (HC.out.later hba)
  have HUa := Lib.hid (HU.out.later hba)
  have HTa := Lib.hid (HT.out.later hba)
  have HOa := Lib.hid (HO.out.later hba)
  have HS0 := Lib.hid (Sl.litAt encI_len [0, 130] w14 #[.int .i64 0, .int .i64 130] 3 2 (w14.heap.size) (by simp) rfl rfl (by simp))
  refine (aw_same HOa.out HS0.out).mono ?_
  rintro e w15 ⟨rfl, hb⟩
  have hb2 := hba.trans (hb.mono hba.size)
  have HXn := Lib.hid (HX.out.later hb2)
  have HPLn := Lib.hid (HPL.out.later hb2)
  have HWn := Lib.hid (HW.out.later hb2)
  have HRn := Lib.hid (HR.out.later hb2)
  have HEn := Lib.hid (HE.out.later hb2)
  have HBBn := Lib.hid (HBB.out.later hb2)
  have HCn := Lib.hid (HC.out.later hb2)
  have HUn := Lib.hid (HU.out.later hb2)
  have HTn := Lib.hid (HT.out.later hb2)
  have HOn := Lib.hid (HO.out.later hb2)
  have HBn := Lib.hid (HB.out.trans (hb2.mono HB.out.size))
  clear hb hb2 x0 x1 xf xz HX HPL HW HB HR HE HBB HC HU HT HO hba HS0 HPLa HWa HRa HEa HBBa HCa HUa HTa HOa
  have HX := HXn
  clear HXn
  have HPL := HPLn
  clear HPLn
  have HW := HWn
  clear HWn
  have HB := HBn
  clear HBn
  have HR := HRn
  clear HRn
  have HE := HEn
  clear HEn
  have HBB := HBBn
  clear HBBn
  have HC := HCn
  clear HCn
  have HU := HUn
  clear HUn
  have HT := HTn
  clear HTn
  have HO := HOn
  clear HOn
  obtain ⟨a', c', e', _, hA⟩ := HBB.out
  simp only [Value.slice.injEq] at e'
  obtain ⟨rfl, hnn, rfl⟩ := e'
  clear hnn
  obtain ⟨b, off, rfl, hlt, hAt⟩ := hA (by rw [exB_len]; decide)
  have h3 := hAt 3 (by rw [exB_len]; decide)
  have h4 := hAt 4 (by rw [exB_len]; decide)
  obtain ⟨r, hr⟩ := exB_g4 (by rw [exB_len]; decide)
  rw [exB_g3] at h3
  rw [hr] at h4
  obtain ⟨p0, p1, _⟩ := h3.c3
  obtain ⟨_, _, q2⟩ := h4.c3
  clear hA hAt h3 h4 hr HBB HX HPL HW HR HE HC HU HO HT
  simp only [Nat.reduceMul, Nat.add_assoc, Nat.reduceAdd] at p0 p1 q2
  go_wp2_with fail
  go_ret
  exact ⟨rfl, HB.out⟩
end Go.Proofs.YtahpdkkpnkhnhaaGreatDoor
