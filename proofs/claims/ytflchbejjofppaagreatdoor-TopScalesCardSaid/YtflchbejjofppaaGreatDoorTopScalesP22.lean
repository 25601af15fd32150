/- Lemmas on the way to the law TopScales (part 22): Gq Lc -/
import Derived.Test.YtflchbejjofppaaGreatDoorTopScalesP20
import Derived.Test.YtflchbejjofppaaGreatDoorTopScalesP21
set_option linter.unusedVariables false
set_option linter.unusedSimpArgs false

/- Walks: measure.Clash at whole numbers. -/
namespace Go.Proofs.YtflchbejjofppaaGreatDoor.Nu
open Go Go.Proofs Go.RowKit Go.Proofs.YtflchbejjofppaaGreatDoor
def Clsh (l : List (Int × Int)) : Prop := ∃ (i k : Nat) (p q : Int × Int), i < k ∧ l[i]? = some p ∧ l[k]? = some q ∧ (p.2 < q.1 ∨ q.2 < p.1)
def ClPost (w : World) (l : List (Int × Int)) (e : Ending) (w' : World) : Prop :=
  ∃ i k r : Int, e = .returned (.tuple #[.int .i64 i, .int .i64 k, .int .i64 r]) ∧ ((r = 7 ∧ ¬ Clsh l) ∨ (r = 0 ∧ Clsh l)) ∧ Below w.heap.size w w'
set_option maxRecDepth 100000 in
set_option maxHeartbeats 4000000 in
theorem clash24 (w : World) (hw : TbR w) (v : Value) (l : List (Int × Int)) (hv : Sl encP 2 w w.heap.size v l) (h0 : l ≠ []) (h256 : l.length ≤ 256) (hl : ∀ p ∈ l, SpOk p) : Calls Tryz.prog 24 #[v] w (ClPost w l) := by
  have HCS := Lib.hid (checkSpans51 w hw v l hv h0 h256 hl)
  have HEL := Lib.hid (fun (k : Nat) (hk : k < l.length) => (hl _ (List.getElem_mem hk)).sm)
  have HC := Lib.hid (fun (w1 : World) (a b : Int) (ha : Sm a) (hb : Sm b) => scmp54 w1 a b ha hb)
  have HGT := Lib.hid (fun (k : Nat) (hk : k < l.length) => List.getElem?_eq_getElem hk)
  obtain ⟨Q, hQ⟩ : ∃ Q, ClPost w l = Q := ⟨_, rfl⟩
  have HQ : Hid (∀ (i k r : Int) (w' : World), ((r = 7 ∧ ¬ Clsh l) ∨ (r = 0 ∧ Clsh l)) → Below w.heap.size w w' → Q (.returned (.tuple #[.int .i64 i, .int .i64 k, .int .i64 r])) w') := Lib.hid (fun i k r w' h1 h2 => by rw [← hQ]; exact ⟨i, k, r, rfl, h1, h2⟩)
  rw [hQ]
  clear hQ
  have hlm1 : (l.map (·.1)).length = l.length := List.length_map _
  have hlm2 : (l.map (·.2)).length = l.length := List.length_map _
  obtain ⟨a0, c0, rfl, _⟩ := hv
  obtain ⟨n, hn⟩ : ∃ n, l.length = n := ⟨_, rfl⟩
  have HN := Lib.hid hn
  rw [hn] at HCS hlm1 hlm2 h256 ⊢
  clear hw hl h0 hn
  go_enter Tryz.func24, Tryz.ntmps24
  go_wp2_with fail
  go_step3
  go_wp2_with fail
  refine HCS.out.mono ?_
  rintro e4 w4 ⟨v1, v2, rfl, hs1, hs2, hb⟩
  have HB := Lib.hid hb
  obtain ⟨q1, d1, rfl, _, hA1⟩ := hs1
  obtain ⟨q2, d2, rfl, _, hA2⟩ := hs2
  rw [hlm1, hlm2]
  have HL1 := Lib.hid hlm1
  have HL2 := Lib.hid hlm2
  have HA1 := Lib.hid (fun (h0 : 0 < n) => (by
    obtain ⟨b, off, e, hb1, hc⟩ := hA1 (by rw [hlm1]; exact h0)
    refine ⟨b, off, e, hb1, fun w1 hb2 k hk => ?_⟩
    have h := (hc k (by rw [hlm1, ← HN.out]; exact hk)).below hb2 hb1
    rw [List.getElem_map] at h
    exact h.c4 : ∃ b off, q1 = some ⟨b, off, none⟩ ∧ b < w4.heap.size ∧ ∀ w1, Below w4.heap.size w4 w1 → ∀ (k : Nat) (hk : k < l.length), w1.cell? ⟨b, off + k * 4, none⟩ = some (.int .i64 l[k].1) ∧ w1.cell? ⟨b, off + k * 4 + 1, none⟩ = some (.slice none 0 0) ∧ w1.cell? ⟨b, off + k * 4 + 2, none⟩ = some (.int .i64 1) ∧ w1.cell? ⟨b, off + k * 4 + 3, none⟩ = some (.slice none 0 0)))
  have HA2 := Lib.hid (fun (h0 : 0 < n) => (by
    obtain ⟨b, off, e, hb1, hc⟩ := hA2 (by rw [hlm2]; exact h0)
    refine ⟨b, off, e, hb1, fun w1 hb2 k hk => ?_⟩
    have h := (hc k (by rw [hlm2, ← HN.out]; exact hk)).below hb2 hb1
    rw [List.getElem_map] at h
    exact h.c4 : ∃ b off, q2 = some ⟨b, off, none⟩ ∧ b < w4.heap.size ∧ ∀ w1, Below w4.heap.size w4 w1 → ∀ (k : Nat) (hk : k < l.length), w1.cell? ⟨b, off + k * 4, none⟩ = some (.int .i64 l[k].2) ∧ w1.cell? ⟨b, off + k * 4 + 1, none⟩ = some (.slice none 0 0) ∧ w1.cell? ⟨b, off + k * 4 + 2, none⟩ = some (.int .i64 1) ∧ w1.cell? ⟨b, off + k * 4 + 3, none⟩ = some (.slice none 0 0)))
  clear hb hA1 hA2 hlm1 hlm2 HCS
  go_wp2_with fail
  go_step3
  go_wp2_with fail
  go_loopw [8, 9, 23] (fun f s i wr => ∃ k : Nat, k ≤ n ∧ i = .int .i64 k ∧ f = .int .i64 (-1) ∧ s = .int .i64 (-1) ∧ Below w4.heap.size w4 wr ∧ ∀ (i j : Nat) (p q : Int × Int), i < j → i < k → l[i]? = some p → l[j]? = some q → ¬ (p.2 < q.1 ∨ q.2 < p.1)) (fun _ _ i _ => n - (intOf i).toNat)
  case atStart => exact ⟨0, by omega, rfl, rfl, rfl, Below.refl _ _, fun i j p q _ h => absurd h (by omega)⟩
  case round =>
    obtain ⟨k, hk, rfl, rfl, rfl, hbe, hno⟩ := hrel
    have HNO := Lib.hid hno
    have HBE := Lib.hid hbe
    clear hno hbe
    obtain ⟨U, hU⟩ : ∃ U : World, U = wr := ⟨_, rfl⟩
    subst hU
    by_cases hlt : k < n
    · have hkl : k < l.length := by rw [HN.out]; exact hlt
      obtain ⟨b1, o1, rfl, hb1, hc1⟩ := HA1.out (by omega)
      obtain ⟨b2, o2, rfl, hb2, hc2⟩ := HA2.out (by omega)
      have HC1 := Lib.hid hc1
      have HC2 := Lib.hid hc2
      clear hc1 hc2
      have k1 : IntKind.i64.wrap ((k : Int) + 1) = ((k + 1 : Nat) : Int) := by rw [IntWalk.i64_in _ (by omega)]; omega
      go_wp2_with fail
      go_loopw [8, 9, 11] (fun f s j wr => ∃ m : Nat, k < m ∧ m ≤ n ∧ j = .int .i64 m ∧ f = .int .i64 (-1) ∧ s = .int .i64 (-1) ∧ Below w4.heap.size w4 wr ∧ ∀ (j : Nat) (p q : Int × Int), k < j → j < m → l[k]? = some p → l[j]? = some q → ¬ (p.2 < q.1 ∨ q.2 < p.1)) (fun _ _ j _ => n - (intOf j).toNat)
      case atStart => exact ⟨k + 1, by omega, by omega, by go_num, rfl, rfl, HBE.out, fun j p q h1 h2 => absurd h2 (by omega)⟩
      case round =>
        clear HBE
        obtain ⟨m, hkm, hm, rfl, rfl, rfl, hbe, hno⟩ := hrel
        have HNI := Lib.hid hno
        have HBE := Lib.hid hbe
        by_cases hlm : m < n
        · have hml : m < l.length := by rw [HN.out]; exact hlm
          obtain ⟨x0, x1, x2, x3⟩ := HC1.out wr hbe k hkl
          obtain ⟨y0, y1, y2, y3⟩ := HC2.out wr hbe k hkl
          obtain ⟨z0, z1, z2, z3⟩ := HC1.out wr hbe m hml
          obtain ⟨t0, t1, t2, t3⟩ := HC2.out wr hbe m hml
          have hg1 := HGT.out k hkl
          have hg2 := HGT.out m hml
          obtain ⟨s1, s2⟩ := HEL.out k hkl
          obtain ⟨s3, s4⟩ := HEL.out m hml
          obtain ⟨p, hp⟩ : ∃ p, l[k] = p := ⟨_, rfl⟩
          obtain ⟨q, hq⟩ : ∃ q, l[m] = q := ⟨_, rfl⟩
          rw [hp] at hg1 x0 y0 s1 s2
          rw [hq] at hg2 z0 t0 s3 s4
          obtain ⟨p1, p2⟩ := p
          obtain ⟨q1, q2⟩ := q
          dsimp only at x0 y0 z0 t0 s1 s2 s3 s4
          have HG1 := Lib.hid hg1
          have HG2 := Lib.hid hg2
          have HCA := Lib.hid (fun X : Later wr => HC.out X.w p2 q1 s2 s3)
          have HCB := Lib.hid (fun X : Later wr => HC.out X.w q2 p1 s4 s1)
          have hbr1 : b1 < wr.heap.size := by have := hbe.size; omega
          have hbr2 : b2 < wr.heap.size := by have := hbe.size; omega
          have k2 : decide ((n : Int) ≤ (k : Int)) = false := decide_eq_false (by omega)
          have k3 : decide ((n : Int) ≤ (m : Int)) = false := decide_eq_false (by omega)
          have k4 : decide ((0 : Int) ≤ (k : Int)) = true := decide_eq_true (by omega)
          have k5 : decide ((0 : Int) ≤ (m : Int)) = true := decide_eq_true (by omega)
          have hc : (decide (cmpZ p2 q1 < 0) = true ∧ p2 < q1) ∨ (decide (cmpZ p2 q1 < 0) = false ∧ ¬ p2 < q1) := by
            rcases cmpZ_cases p2 q1 with ⟨h, e⟩ | ⟨h, e⟩ | ⟨h, e⟩
            · exact .inl ⟨decide_eq_true (by omega), h⟩
            · exact .inr ⟨decide_eq_false (by omega), by omega⟩
            · exact .inr ⟨decide_eq_false (by omega), by omega⟩
          have hd : (decide (cmpZ q2 p1 < 0) = true ∧ q2 < p1) ∨ (decide (cmpZ q2 p1 < 0) = false ∧ ¬ q2 < p1) := by
            rcases cmpZ_cases q2 p1 with ⟨h, e⟩ | ⟨h, e⟩ | ⟨h, e⟩
            · exact .inl ⟨decide_eq_true (by omega), h⟩
            · exact .inr ⟨decide_eq_false (by omega), by omega⟩
            · exact .inr ⟨decide_eq_false (by omega), by omega⟩
          generalize cmpZ p2 q1 = ca at *
          generalize cmpZ q2 p1 = cb at *
          clear hbe hno hg1 hg2 hp hq s1 s2 s3 s4
          rcases hc with ⟨d0, hlt1⟩ | ⟨d0, hlt1⟩
          · have HCL := Lib.hid (show Clsh l from ⟨k, m, _, _, hkm, HG1.out, HG2.out, .inl hlt1⟩)
            clear hd hlt1
            go_wp2_with fail
            refine wp_region_later (by kernel_rfl) (by kernel_rfl) ?_
            repeat go_big_quiet_step ((go_at_call 54; first | with_reducible exact Calls.later (HCA.out _) | with_reducible exact Calls.later (HCB.out _)))
            refine wpQuiet_nil ?_
            rintro w2 ⟨⟨_, hb2⟩, rfl⟩
            have HB2 := Lib.hid (HB.out.trans ((HBE.out.trans (hb2.mono HBE.out.size)).mono HB.out.size))
            clear hb2
            have k6 : decide ((k : Int) < 0) = false := decide_eq_false (by omega)
            go_wp2_with fail
            refine bodyPost_ret (v := .tuple #[.int .i64 (k : Int), .int .i64 (m : Int), .int .i64 0]) (by simp [results, Tryz.results24, go_sem, *]) rfl ?_
            exact HQ.out _ _ _ _ (.inr ⟨rfl, HCL.out⟩) HB2.out
          rcases hd with ⟨d1, hlt2⟩ | ⟨d1, hlt2⟩
          · have HCL := Lib.hid (show Clsh l from ⟨k, m, _, _, hkm, HG1.out, HG2.out, .inr hlt2⟩)
            clear hlt1 hlt2
            go_wp2_with fail
            refine wp_region_later (by kernel_rfl) (by kernel_rfl) ?_
            repeat go_big_quiet_step ((go_at_call 54; first | with_reducible exact Calls.later (HCA.out _) | with_reducible exact Calls.later (HCB.out _)))
            refine wpQuiet_nil ?_
            rintro w2 ⟨⟨_, hb2⟩, rfl⟩
            have HB2 := Lib.hid (HB.out.trans ((HBE.out.trans (hb2.mono HBE.out.size)).mono HB.out.size))
            clear hb2
            have k6 : decide ((k : Int) < 0) = false := decide_eq_false (by omega)
            go_wp2_with fail
            refine bodyPost_ret (v := .tuple #[.int .i64 (k : Int), .int .i64 (m : Int), .int .i64 0]) (by simp [results, Tryz.results24, go_sem, *]) rfl ?_
            exact HQ.out _ _ _ _ (.inr ⟨rfl, HCL.out⟩) HB2.out
          · have HL := Lib.hid (show ¬ (p2 < q1 ∨ q2 < p1) from fun h => h.elim hlt1 hlt2)
            clear hlt1 hlt2
            go_wp2_with fail
            refine wp_region_later (by kernel_rfl) (by kernel_rfl) ?_
            repeat go_big_quiet_step ((go_at_call 54; first | with_reducible exact Calls.later (HCA.out _) | with_reducible exact Calls.later (HCB.out _)))
            refine wpQuiet_nil ?_
            rintro w2 ⟨⟨_, hb2⟩, rfl⟩
            replace HBE := Lib.hid (HBE.out.trans (hb2.mono HBE.out.size))
            clear hb2
            go_wp2_with fail
            go_roundw
            case rel =>
              refine ⟨m + 1, by omega, by omega, by go_num, rfl, rfl, HBE.out, fun j p q h1 h2 h3 h4 => ?_⟩
              rcases (show j = m ∨ j < m by omega) with rfl | h5
              · rw [HG1.out] at h3
                rw [HG2.out] at h4
                injection h3 with h3
                injection h4 with h4
                subst h3 h4
                exact HL.out
              · exact HNI.out j p q h1 h5 h3 h4
            case measure => simp [intOf]; omega
        · clear hno hbe
          have hmn : m = n := by omega
          go_wp2_with fail
          go_roundw
          case rel =>
            refine ⟨k + 1, by omega, by go_num, rfl, rfl, HBE.out, fun i j p q h1 h2 h3 h4 => ?_⟩
            rcases (show i = k ∨ i < k by omega) with rfl | h5
            · have hj := (List.getElem?_eq_some_iff.1 h4).1
              exact HNI.out j p q h1 (by rw [hmn, ← HN.out]; exact hj) h3 h4
            · exact HNO.out i j p q h1 h5 h3 h4
          case measure => simp [intOf]; omega
    · have HCL := Lib.hid (show ¬ Clsh l from fun ⟨i, j, p, q, h1, h2, h3, h4⟩ => HNO.out i j p q h1 (by have h5 := (List.getElem?_eq_some_iff.1 h2).1; rw [HN.out] at h5; omega) h2 h3 h4)
      have HB2 := Lib.hid (HB.out.trans (HBE.out.mono HB.out.size))
      go_wp2_with fail
      refine bodyPost_ret (v := .tuple #[.int .i64 0, .int .i64 0, .int .i64 7]) (by simp [results, Tryz.results24, go_sem, *]) rfl ?_
      exact HQ.out _ _ _ _ (.inl ⟨rfl, HCL.out⟩) HB2.out
end Go.Proofs.YtflchbejjofppaaGreatDoor.Nu
/- Plain: what the law on scales compares. -/
namespace Go.Proofs.YtflchbejjofppaaGreatDoor.Nu
open Go Go.Proofs Go.RowKit Go.Proofs.YtflchbejjofppaaGreatDoor
def spans (l : List Rg) : List (Int × Int) := l.map (fun r => (r.lo, r.hi))
theorem agL_fold (r : Rg) (l : List Rg) : agL r l = ⟨(l.map Rg.lo).foldl max r.lo, (l.map Rg.hi).foldl min r.hi⟩ := by
  induction l generalizing r with
  | nil => rfl
  | cons x l ih => simp only [agL, ih, List.map_cons, List.foldl_cons, meet2]
theorem ag_mx {l : List Rg} (h : l ≠ []) : mxL ((spans l).map (·.1)) = (ag l).lo ∧ mnL ((spans l).map (·.2)) = (ag l).hi := by
  cases l with
  | nil => exact absurd rfl h
  | cons x l =>
    have e : ag (x :: l) = agL x l := by
      show agL x (x :: l) = _
      simp only [agL, meet2_self]
    rw [e, agL_fold]
    simp [spans, mxL, mnL, List.map_map, Function.comp_def]
theorem mxL_ge {l : List Int} {x : Int} (h : x ∈ l) : x ≤ mxL l := by
  cases l with
  | nil => cases h
  | cons y r =>
    show x ≤ r.foldl max y
    have gen : ∀ (r : List Int) (y : Int), y ≤ r.foldl max y ∧ ∀ x ∈ r, x ≤ r.foldl max y := by
      intro r
      induction r with
      | nil => intro y; exact ⟨Int.le_refl _, fun _ h => by cases h⟩
      | cons z r ih =>
        intro y
        obtain ⟨h1, h2⟩ := ih (max y z)
        refine ⟨by show y ≤ r.foldl max (max y z); omega, fun x hx => ?_⟩
        rcases List.mem_cons.1 hx with rfl | hx
        · show x ≤ r.foldl max (max y x); omega
        · exact h2 x hx
    rcases List.mem_cons.1 h with rfl | h
    · exact (gen r x).1
    · exact (gen r y).2 x h
theorem mnL_le {l : List Int} {x : Int} (h : x ∈ l) : mnL l ≤ x := by
  cases l with
  | nil => cases h
  | cons y r =>
    show r.foldl min y ≤ x
    have gen : ∀ (r : List Int) (y : Int), r.foldl min y ≤ y ∧ ∀ x ∈ r, r.foldl min y ≤ x := by
      intro r
      induction r with
      | nil => intro y; exact ⟨Int.le_refl _, fun _ h => by cases h⟩
      | cons z r ih =>
        intro y
        obtain ⟨h1, h2⟩ := ih (min y z)
        refine ⟨by show r.foldl min (min y z) ≤ y; omega, fun x hx => ?_⟩
        rcases List.mem_cons.1 hx with rfl | hx
        · show r.foldl min (min y x) ≤ x; omega
        · exact h2 x hx
    rcases List.mem_cons.1 h with rfl | h
    · exact (gen r x).1
    · exact (gen r y).2 x h
theorem mxL_mem {l : List Int} (h : l ≠ []) : mxL l ∈ l := by
  cases l with
  | nil => exact absurd rfl h
  | cons y r =>
    show r.foldl max y ∈ _
    clear h
    induction r generalizing y with
    | nil => exact List.mem_cons_self
    | cons z r ih =>
      have h1 := ih (max y z)
      show r.foldl max (max y z) ∈ _
      rcases List.mem_cons.1 h1 with h2 | h2
      · rw [h2]
        rcases (show max y z = y ∨ max y z = z by omega) with e | e <;> rw [e] <;> simp
      · exact List.mem_cons_of_mem _ (List.mem_cons_of_mem _ h2)
theorem mnL_mem {l : List Int} (h : l ≠ []) : mnL l ∈ l := by
  cases l with
  | nil => exact absurd rfl h
  | cons y r =>
    show r.foldl min y ∈ _
    clear h
    induction r generalizing y with
    | nil => exact List.mem_cons_self
    | cons z r ih =>
      have h1 := ih (min y z)
      show r.foldl min (min y z) ∈ _
      rcases List.mem_cons.1 h1 with h2 | h2
      · rw [h2]
        rcases (show min y z = y ∨ min y z = z by omega) with e | e <;> rw [e] <;> simp
      · exact List.mem_cons_of_mem _ (List.mem_cons_of_mem _ h2)
theorem clsh_iff {l : List Rg} (h : l ≠ []) (hok : ∀ r ∈ l, massOk r) : Clsh (spans l) ↔ (ag l).hi < (ag l).lo := by
  obtain ⟨e1, e2⟩ := ag_mx h
  have hs : spans l ≠ [] := by simpa [spans] using h
  have hle : ∀ p ∈ spans l, p.1 ≤ p.2 := fun p hp => by
    obtain ⟨r, hr, rfl⟩ := List.mem_map.1 hp
    exact (hok r hr).2.1
  rw [← e1, ← e2]
  constructor
  · rintro ⟨i, k, p, q, _, hp, hq, hc⟩
    have p1 : p.1 ≤ mxL ((spans l).map (·.1)) := mxL_ge (List.mem_map_of_mem (f := Prod.fst) (List.mem_of_getElem? hp))
    have p2 : mnL ((spans l).map (·.2)) ≤ p.2 := mnL_le (List.mem_map_of_mem (f := Prod.snd) (List.mem_of_getElem? hp))
    have q1 : q.1 ≤ mxL ((spans l).map (·.1)) := mxL_ge (List.mem_map_of_mem (f := Prod.fst) (List.mem_of_getElem? hq))
    have q2 : mnL ((spans l).map (·.2)) ≤ q.2 := mnL_le (List.mem_map_of_mem (f := Prod.snd) (List.mem_of_getElem? hq))
    rcases hc with h | h <;> omega
  · intro hc
    obtain ⟨p, hp, ep⟩ := List.mem_map.1 (mxL_mem (l := (spans l).map Prod.fst) (by simpa using hs))
    obtain ⟨q, hq, eq⟩ := List.mem_map.1 (mnL_mem (l := (spans l).map Prod.snd) (by simpa using hs))
    obtain ⟨i, hi⟩ := List.mem_iff_getElem?.1 hp
    obtain ⟨k, hk⟩ := List.mem_iff_getElem?.1 hq
    have h1 : q.2 < p.1 := by
      have a1 : p.1 = mxL ((spans l).map (fun x => x.1)) := ep
      have a2 : q.2 = mnL ((spans l).map (fun x => x.2)) := eq
      omega
    rcases Nat.lt_trichotomy i k with h2 | h2 | h2
    · exact ⟨i, k, p, q, h2, hi, hk, .inr h1⟩
    · subst h2
      rw [hi] at hk
      injection hk with hk
      subst hk
      have := hle p hp
      omega
    · exact ⟨k, i, q, p, h2, hk, hi, .inl h1⟩
theorem meetV_ag {l : List Rg} (h : l ≠ []) : meetV (spans l) = if (ag l).lo ≤ (ag l).hi then .tuple #[.agg #[.string (txz (ag l).lo), .string (txz (ag l).hi)], .int .i64 0] else .tuple #[.agg #[.string ⟨#[]⟩, .string ⟨#[]⟩], .int .i64 15] := by
  obtain ⟨e1, e2⟩ := ag_mx h
  unfold meetV
  rw [e1, e2]
theorem spans_ok {l : List Rg} (hok : ∀ r ∈ l, massOk r) : ∀ p ∈ spans l, SpOk p := fun p hp => by
  obtain ⟨r, hr, rfl⟩ := List.mem_map.1 hp
  obtain ⟨h1, h2, h3⟩ := hok r hr
  have e18 : (10 : Nat) ^ 18 = 1000000000000000000 := by decide
  exact ⟨by dsimp only; omega, by dsimp only; omega, h2⟩
theorem drE_ok {l : List Rg} (h : ckMasses l = 0) : (drE l = 0 ∧ drR l = dr l) ∨ drE l = 4 := by
  unfold drR drE
  rw [h]
  simp only [ne_eq, not_true, if_false]
  by_cases h1 : 999999999 < (dr l).hi
  · rw [if_pos h1]; exact .inr rfl
  · rw [if_neg h1]; exact .inl ⟨rfl, rfl⟩
theorem agE_ok {l : List Rg} (h : ckMasses l = 0) : (agE l = 0 ∧ agR l = ag l ∧ (ag l).lo ≤ (ag l).hi) ∨ (agE l = 15 ∧ (ag l).hi < (ag l).lo) := by
  unfold agR agE
  rw [h]
  simp only [ne_eq, not_true, if_false]
  by_cases h1 : (ag l).hi < (ag l).lo
  · rw [if_pos h1]; exact .inr ⟨rfl, h1⟩
  · rw [if_neg h1]; exact .inl ⟨rfl, rfl, by omega⟩
theorem netE_ok {g t : Rg} (h1 : ckMass g = 0) (h2 : ckMass t = 0) : (netB g t = 0 ∧ netF g t = ⟨max 0 (g.lo - t.hi), g.hi - t.lo⟩ ∧ t.lo ≤ g.hi) ∨ (netB g t = 15 ∧ g.hi < t.lo) := by
  unfold netF netB netE
  rw [h1, h2]
  simp only [firstNZ, if_true, ne_eq, not_true, if_false, false_or]
  by_cases h : g.hi < t.lo
  · rw [if_pos h]; exact .inr ⟨rfl, h⟩
  · rw [if_neg h, if_neg h]; exact .inl ⟨rfl, rfl, by omega⟩
end Go.Proofs.YtflchbejjofppaaGreatDoor.Nu
