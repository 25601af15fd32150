/- Lemmas on the way to the law PathNeverMeets (part 4): Mb Mc Md -/
import Derived.Test.YtahpdkkpnkhnhaaGreatDoorPathNeverMeetsP03
set_option linter.unusedVariables false
set_option linter.unusedSimpArgs false

/- Walks: Upstream of the reference. -/
namespace Go.Proofs.YtahpdkkpnkhnhaaGreatDoor
open Go Go.Proofs Go.RowKit Go.Shelf
/-- No machine ahead of k feeds a marked one without being marked. -/
def Clo (st : List Sx) (O : List Bool) (k : Nat) : Prop := ∀ i (h : i < st.length), i < k → ¬ mkd O i → ∀ j : Nat, st[i].feeds = (j : Int) → ¬ mkd O j
theorem clo_up {st : List Sx} {O : List Bool} {x : Nat} (h : Clo st O st.length) (hx : mkd O x) {i : Nat} (hu : UpR st x i) : mkd O i := by
  induction hu with
  | base hi hne hf => exact Classical.byContradiction fun hh => h _ hi hi hh x hf hx
  | step hi hne hf _ ih => exact Classical.byContradiction fun hh => h _ hi hi hh _ hf ih
open Classical in
/-- How many marks are not set, read off the memory. -/
noncomputable def cntW (g n : Nat) (w : World) : Nat := (List.range n).countP (fun i => decide (w.cell? ⟨g, i, none⟩ = some (.bool false)))
open Classical in
theorem cntW_eq {g n : Nat} {w : World} {O : List Bool} (hl : O.length = n) (h : ∀ i (hi : i < O.length), w.cell? ⟨g, i, none⟩ = some (.bool O[i])) : cntW g n w = O.count false := by
  unfold cntW
  have e : O = (List.range n).map (fun i => O.getD i true) := by
    apply List.ext_getElem
    · simp [hl]
    · intro i h1 h2
      simp [List.getElem?_eq_getElem h1]
  have e2 : O.count false = ((List.range n).map (fun i => O.getD i true)).count false := congrArg _ e
  rw [e2, List.count_eq_countP, List.countP_map]
  apply List.countP_congr
  intro i hi
  rw [List.mem_range] at hi
  have h1 := h i (by omega)
  simp only [decide_eq_true_eq, Function.comp, beq_iff_eq, List.getD_eq_getElem?_getD, List.getElem?_eq_getElem (show i < O.length by omega), Option.getD_some]
  rw [h1]
  constructor
  · intro hh; injection hh with hh; injection hh
  · intro hh; rw [hh]
theorem Own.cntW {O : List Bool} {w : World} {B g n cap : Nat} (h : Own encB 1 4 w B (.slice (some ⟨g, 0, none⟩) n cap) O) (hl : O.length = n) : YtahpdkkpnkhnhaaGreatDoor.cntW g n w = O.count false :=
  cntW_eq hl fun i hi => by
    have := (h.atN hl encB_len i hi).c1
    rw [Nat.mul_one] at this
    exact this
def b2n : Value → Nat
  | .bool true => 1
  | _ => 0
theorem up_ne {st : List Sx} {mc : Int} {i : Nat} (h : UpR st mc i) : (i : Int) ≠ mc := by
  cases h with
  | base _ hne _ => exact hne
  | step _ hne _ _ => exact hne
open Classical in
theorem upB_ok {st : List Sx} {O : List Bool} {x k : Nat} {b : Bool} (h1 : ∀ i, mkd O i → i = x ∨ UpR st x i) (h2 : Clo st O st.length) (hx : mkd O x) (hk : O[k]? = some b) : upB st x k = (b && !((k : Int) == (x : Int))) := by
  unfold upB
  cases hb : (b && !((k : Int) == (x : Int))) with
  | true =>
    simp only [Bool.and_eq_true, Bool.not_eq_true', beq_eq_false_iff_ne] at hb
    obtain ⟨rfl, hne⟩ := hb
    rcases h1 k hk with rfl | h
    · exact absurd rfl hne
    · exact decide_eq_true h
  | false =>
    refine decide_eq_false (fun hu => ?_)
    have h3 := clo_up h2 hx hu
    unfold mkd at h3
    rw [hk] at h3
    cases h3
    have := up_ne hu
    simp at hb
    omega
def UlPost (w : World) (l : List Int) (e : Ending) (w' : World) : Prop := ∃ v, e = .returned v ∧ Own encI 1 3 w' w.heap.size v l ∧ Below w.heap.size w w'
set_option maxRecDepth 100000 in
set_option maxHeartbeats 1000000 in
theorem upstream41 (w : World) (u : Value) (st : List Sx) (x : Nat) (hu : Sl Sx.enc 3 w w.heap.size u st) (h1000 : st.length ≤ 1000000) (hx : x < st.length) (hfd : ∀ s ∈ st, s.feeds < 0 ∨ inN st.length s.feeds = true) : Calls Tryz.prog 41 #[u, .int .i64 x] w (UlPost w (upL st x st.length)) := by
  obtain ⟨a3, n3, rfl, hl3, hA3⟩ := hu
  obtain ⟨b3, off3, rfl, hbb3, hcells3⟩ := hA3 (by omega)
  have HC3 := Lib.hid hcells3
  have HFD := Lib.hid hfd
  clear hA3 hcells3 hfd
  obtain ⟨n, hn⟩ : ∃ n, st.length = n := ⟨_, rfl⟩
  rw [hn] at hl3 h1000 hx HFD ⊢
  obtain ⟨h31, h32⟩ := hl3
  obtain ⟨Q, hQ⟩ : ∃ Q, UlPost w (upL st x n) = Q := ⟨_, rfl⟩
  rw [hQ]
  have HQ := Lib.hid hQ
  have HN := Lib.hid hn
  clear hQ hn
  have HT : Hid (Tryz.prog.underlying 135 = some (.slice 4)) := Lib.hid Tryz.underlying135
  have HI := Lib.hid infoB
  go_enter Tryz.func41, Tryz.ntmps41
  go_wp2_with (at_make; refine wpList_mk1 encB false (.bool false) rfl 135 4 1 HT.out HI.out (by rfl) (by omega) w.heap.size _ n (by omega) (Nat.le_refl _) rfl _ _ rfl .i64 .i64 rfl rfl ?_; intro w3 hown hgr; have HO3 := Lib.hid hown; have HB3 := Lib.hid (grown_none_below hgr); have hg0 := hown.ltN.2; have ofz := hown.frozenN (by simp); have o0 := (hown.atN (by simp) encB_len x (by simp; omega)).c1; rw [Nat.mul_one, List.getElem_replicate] at o0; clear hown hgr)
  have hos := HO3.out.setN (by simp) encB_len x (by simp; omega) 0 (by omega) (.bool true) true (by rfl)
  simp only [Nat.mul_one, Nat.add_zero] at hos
  have HOS := Lib.hid hos
  have HB4 := Lib.hid (HB3.out.setCell (p := ⟨w.heap.size, x, none⟩) (Nat.le_refl _) (.bool true))
  clear hos o0 ofz hg0
  obtain ⟨W4, hW4⟩ : ∃ W, w3.setCell ⟨w.heap.size, x, none⟩ (.bool true) = W := ⟨_, rfl⟩
  rw [hW4] at HOS HB4 ⊢
  clear hW4 HO3 HB3
  obtain ⟨g, hgw⟩ : ∃ g, w.heap.size = g := ⟨_, rfl⟩
  have HGW := Lib.hid hgw
  rw [hgw] at HOS ⊢
  clear hgw
  go_loopw [6, 7] (fun m i wr => ∃ O q, m = .bool q ∧ O.length = n ∧ Own encB 1 4 wr g (.slice (some ⟨g, 0, none⟩) n n) O ∧ Below w.heap.size w wr ∧ mkd O x ∧ (∀ i, mkd O i → i = x ∨ UpR st x i) ∧ (q = false → Clo st O n)) (fun m _ wr => 2 * cntW g n wr + b2n m)
  case atStart =>
    refine ⟨_, true, rfl, by simp, HOS.out, HB4.out, (mkd_set (by simp; omega) x).2 (.inl rfl), fun i hi => ?_, fun h => by cases h⟩
    rcases (mkd_set (by simp; omega) i).1 hi with h | h
    · exact .inl h
    · unfold mkd at h
      rw [List.getElem?_replicate] at h
      split at h <;> cases h
  case round =>
    clear HOS HB4
    obtain ⟨O, q, rfl, hol, ho, hbe, hox, hos, hcl⟩ := hrel
    have HOL := Lib.hid hol
    have HO := Lib.hid ho
    have HBE := Lib.hid hbe
    have HOX := Lib.hid hox
    have HOS := Lib.hid hos
    have HCL := Lib.hid hcl
    clear hol ho hbe hox hos hcl
    cases q with
    | false =>
      have HCN := Lib.hid (HCL.out rfl)
      clear HCL
      have HT2 : Hid (Tryz.prog.underlying 26 = some (.slice 3)) := Lib.hid Tryz.underlying26
      have HI2 := Lib.hid infoI
      generalize wr = W5 at *
      go_wp2_with fail
      go_loopw [8, 9] (fun v i wr => ∃ k : Nat, k ≤ n ∧ i = .int .i64 k ∧ Own encI 1 3 wr W5.heap.size v (upL st x k) ∧ Below W5.heap.size W5 wr) (fun _ i _ => n - (intOf i).toNat)
      case atStart => exact ⟨0, by omega, rfl, Own.nil _ _ _ _ _, Below.refl _ _⟩
      case round =>
        obtain ⟨k, hk, rfl, hown, hbe2⟩ := hrel
        have HOV := Lib.hid hown
        have HBF := Lib.hid hbe2
        clear hown hbe2
        by_cases hlt : k < n
        rotate_left
        · obtain rfl : n = k := by omega
          go_wp2_with fail
          rw [← HQ.out]
          exact ⟨_, rfl, HOV.out.lower HBE.out.size, HBE.out.trans (HBF.out.mono HBE.out.size)⟩
        have hkO : k < O.length := by rw [HOL.out]; exact hlt
        have hat := HO.out.atN HOL.out encB_len k hkO
        obtain ⟨ok, hok⟩ : ∃ b, O[k] = b := ⟨_, rfl⟩
        rw [hok] at hat
        have hgz := HO.out.ltN.2
        have o0 := (hat.below HBF.out hgz).c1
        rw [Nat.mul_one] at o0
        have hgz2 : g < wr.heap.size := Nat.lt_of_lt_of_le hgz HBF.out.size
        have HUB := Lib.hid (upB_ok HOS.out (by rw [HN.out]; exact HCN.out) HOX.out (show O[k]? = some ok by rw [List.getElem?_eq_getElem hkO, hok]))
        have HUS := Lib.hid (upL_succ st x k)
        rw [HUB.out] at HUS
        have HUL := Lib.hid (upL_len st x k)
        clear hat hok hkO
        cases ok with
        | false =>
          go_wp2_with fail
          go_roundw
          case rel => exact ⟨k + 1, by omega, by go_num, by rw [HUS.out, if_neg (by simp)]; exact HOV.out, HBF.out⟩
          case measure => simp [intOf]; omega
        | true =>
          cases hkx : ((k : Int) == (x : Int)) with
          | true =>
            rw [hkx] at HUS
            have hkx2 : ((k : Int) != (x : Int)) = false := by rw [bne, hkx]; rfl
            go_wp2_with fail
            go_roundw
            case rel => exact ⟨k + 1, by omega, by go_num, by rw [HUS.out, if_neg (by simp)]; exact HOV.out, HBF.out⟩
            case measure => simp [intOf]; omega
          | false =>
            rw [hkx] at HUS
            have hkx2 : ((k : Int) != (x : Int)) = true := by rw [bne, hkx]; rfl
            have HLK : Hid ((upL st x k).length ≤ 1000000) := Lib.hid (by have := HUL.out; omega)
            go_wp2_with (at_builtin; refine wpList_push encI 1 8 26 3 _ HT2.out HI2.out rfl (by decide) (by decide) encI_len encI_one _ (k : Int) W5.heap.size wr _ rfl _ HOV.out HBF.out.size HLK.out rfl _ _ rfl rfl rfl ?_; intro v' w' hown' hg'; obtain ⟨a', cap', rfl⟩ := hown'.shape; rw [List.length_append, List.length_singleton] at hown'; have HOW := Lib.hid hown'; have HGR := Lib.hid (grown_below HBF.out hg' HBF.out.size (HOV.out.lt') (Nat.le_refl _)); clear hown' hg')
            go_roundw
            case rel => exact ⟨k + 1, by omega, by go_num, by rw [HUS.out, if_pos (by rfl)]; exact HOW.out, HGR.out⟩
            case measure => simp [intOf]; omega
    | true =>
      clear HCL
      have HM := Lib.hid (Own.cntW HO.out HOL.out)
      go_wp2_with fail
      go_loopw [6, 7] (fun m i wr' => ∃ (k : Nat) (O' : List Bool) (q : Bool), k ≤ n ∧ i = .int .i64 k ∧ m = .bool q ∧ O'.length = n ∧ Own encB 1 4 wr' g (.slice (some ⟨g, 0, none⟩) n n) O' ∧ Below w.heap.size w wr' ∧ mkd O' x ∧ (∀ i, mkd O' i → i = x ∨ UpR st x i) ∧ (q = false → Clo st O' k) ∧ O'.count false + (if q then 1 else 0) ≤ O.count false) (fun _ i _ => n - (intOf i).toNat)
      case atStart => exact ⟨0, O, false, by omega, rfl, rfl, HOL.out, HO.out, HBE.out, HOX.out, HOS.out, fun _ i _ hi => absurd hi (Nat.not_lt_zero _), by simp⟩
      case round =>
        clear HOL HO HBE HOX HOS
        obtain ⟨k, O', q, hk, rfl, rfl, hol, ho, hbe, hox, hos, hcl, hct⟩ := hrel
        have HOL := Lib.hid hol
        have HO := Lib.hid ho
        have HBE := Lib.hid hbe
        have HOX := Lib.hid hox
        have HOS := Lib.hid hos
        have HCL := Lib.hid hcl
        have HCT := Lib.hid hct
        clear hol ho hbe hox hos hcl hct
        by_cases hlt : k < n
        rotate_left
        · obtain rfl : n = k := by omega
          go_wp2_with fail
          go_roundw
          case rel => exact ⟨O', q, rfl, HOL.out, HO.out, HBE.out, HOX.out, HOS.out, HCL.out⟩
          case measure =>
            rw [Own.cntW HO.out HOL.out, HM.out]
            have := HCT.out
            cases q <;> simp [b2n] at this ⊢ <;> omega
        have hks : k < st.length := by rw [HN.out]; exact hlt
        have hkO : k < O'.length := by rw [HOL.out]; exact hlt
        have o0 := (HO.out.atN HOL.out encB_len k hkO).c1
        rw [Nat.mul_one] at o0
        have oz := HO.out.ltN.2
        have ofz := HO.out.frozenN HOL.out
        obtain ⟨d0, d1, d2⟩ := ((HC3.out k hks).below HBE.out hbb3).c3
        have hbz := Nat.lt_of_lt_of_le hbb3 HBE.out.size
        have HFK := Lib.hid (HFD.out st[k] (List.getElem_mem hks))
        have HSF := Lib.hid (show st[k].feeds = st[k].feeds from rfl)
        obtain ⟨ok, hok⟩ : ∃ b, O'[k] = b := ⟨_, rfl⟩
        have HOK := Lib.hid (show O'[k]? = some ok by rw [List.getElem?_eq_getElem hkO, hok])
        rw [hok] at o0
        have HKS := Lib.hid hks
        have HKO := Lib.hid hkO
        clear hok HSF hkO
        generalize hsk : st[k] = sk at d0 d1 d2 HFK
        have HSK := Lib.hid hsk
        clear hsk hks
        obtain ⟨rn, fd, gr⟩ := sk
        dsimp only at d0 d1 d2 HFK
        cases ok with
        | true =>
          have HCN := Lib.hid (show q = false → Clo st O' (k + 1) from fun hq i h hi hn j hj => by
            rcases Nat.lt_succ_iff_lt_or_eq.1 hi with h1 | h1
            · exact HCL.out hq i h h1 hn j hj
            · subst h1; exact absurd HOK.out hn)
          go_wp2_with fail
          go_roundw
          case rel => exact ⟨k + 1, O', q, by omega, by go_num, rfl, HOL.out, HO.out, HBE.out, HOX.out, HOS.out, HCN.out, HCT.out⟩
          case measure => simp [intOf]; omega
        | false =>
        by_cases hf0 : 0 ≤ fd
        rotate_left
        · have e0 : decide (0 ≤ fd) = false := decide_eq_false hf0
          have HCN := Lib.hid (show q = false → Clo st O' (k + 1) from fun hq i h hi hn j hj => by
            rcases Nat.lt_succ_iff_lt_or_eq.1 hi with h1 | h1
            · exact HCL.out hq i h h1 hn j hj
            · subst h1
              have hj2 : fd = (j : Int) := (congrArg Sx.feeds HSK.out).symm.trans hj
              omega)
          clear hf0
          go_wp2_with fail
          go_roundw
          case rel => exact ⟨k + 1, O', q, by omega, by go_num, rfl, HOL.out, HO.out, HBE.out, HOX.out, HOS.out, HCN.out, HCT.out⟩
          case measure => simp [intOf]; omega
        have e0 : decide (0 ≤ fd) = true := decide_eq_true hf0
        obtain ⟨y, rfl, hyn⟩ := inN_nat (HFK.out.resolve_left (by omega))
        have hyO : y < O'.length := by rw [HOL.out]; exact hyn
        have p0 := (HO.out.atN HOL.out encB_len y hyO).c1
        rw [Nat.mul_one] at p0
        obtain ⟨oy, hoy⟩ : ∃ b, O'[y] = b := ⟨_, rfl⟩
        have HOY := Lib.hid (show O'[y]? = some oy by rw [List.getElem?_eq_getElem hyO, hoy])
        rw [hoy] at p0
        clear hoy hyO hf0 HFK
        cases oy with
        | false =>
          have HCN := Lib.hid (show q = false → Clo st O' (k + 1) from fun hq i h hi hn j hj => by
            rcases Nat.lt_succ_iff_lt_or_eq.1 hi with h1 | h1
            · exact HCL.out hq i h h1 hn j hj
            · subst h1
              have hj2 : (y : Int) = (j : Int) := (congrArg Sx.feeds HSK.out).symm.trans hj
              obtain rfl : y = j := by omega
              intro hh
              unfold mkd at hh
              rw [HOY.out] at hh
              cases hh)
          go_wp2_with fail
          go_roundw
          case rel => exact ⟨k + 1, O', q, by omega, by go_num, rfl, HOL.out, HO.out, HBE.out, HOX.out, HOS.out, HCN.out, HCT.out⟩
          case measure => simp [intOf]; omega
        | true =>
          have hos2 := HO.out.setN HOL.out encB_len k HKO.out 0 (by omega) (.bool true) true (by rfl)
          simp only [Nat.mul_one, Nat.add_zero] at hos2
          have HO2 := Lib.hid hos2
          have HB2 := Lib.hid (HBE.out.setCell (p := ⟨g, k, none⟩) (by rw [HGW.out]; exact Nat.le_refl _) (.bool true))
          have HX2 := Lib.hid ((mkd_set HKO.out x).2 (.inr HOX.out))
          have HS2 := Lib.hid (show ∀ i, mkd (O'.set k true) i → i = x ∨ UpR st x i from fun i hi => by
            rcases (mkd_set HKO.out i).1 hi with rfl | h
            · have hne : i ≠ x := fun e => by
                subst e
                have := HOX.out
                unfold mkd at this
                rw [HOK.out] at this
                cases this
              right
              rcases HOS.out y HOY.out with rfl | h2
              · exact .base HKS.out (by omega) (congrArg Sx.feeds HSK.out)
              · exact .step HKS.out (by omega) (congrArg Sx.feeds HSK.out) h2
            · exact HOS.out i h)
          have HC2 := Lib.hid (show (O'.set k true).count false + (if true = true then 1 else 0) ≤ O.count false by
            have h1 := cnt_set O' k HOK.out
            have h2 := HCT.out
            simp only [if_true]
            omega)
          have HL2 := Lib.hid (show (O'.set k true).length = n by rw [List.length_set, HOL.out])
          clear hos2
          go_wp2_with fail
          go_roundw
          case rel => exact ⟨k + 1, _, true, by omega, by go_num, rfl, HL2.out, HO2.out, HB2.out, HX2.out, HS2.out, (fun h => by cases h), HC2.out⟩
          case measure => simp [intOf]; omega
end Go.Proofs.YtahpdkkpnkhnhaaGreatDoor

/- Walks: Fault of the reference. -/
namespace Go.Proofs.YtahpdkkpnkhnhaaGreatDoor
open Go Go.Proofs Go.RowKit Go.Shelf
def offX (s : Sx) : Sx := ⟨false, s.feeds, s.grain⟩
def offAt (L : List Sx) (m : Int) : List Sx := L.set m.toNat (offX (L.getD m.toNat s0))
def offL (st : List Sx) (l : List Int) : List Sx := l.foldl offAt st
theorem offAt_len (L : List Sx) (m : Int) : (offAt L m).length = L.length := List.length_set
theorem offL_len : ∀ (l : List Int) (st : List Sx), (offL st l).length = st.length
  | [], _ => rfl
  | m :: l, st => (offL_len l (offAt st m)).trans (offAt_len st m)
theorem offL_snoc (st : List Sx) (l : List Int) (m : Int) : offL st (l ++ [m]) = offAt (offL st l) m := by unfold offL; rw [List.foldl_append]; rfl
theorem offAt_comm (L : List Sx) (a b : Int) : offAt (offAt L a) b = offAt (offAt L b) a := by
  unfold offAt
  by_cases h : a.toNat = b.toNat
  · rw [h]
  · rw [getD_set, getD_set, if_neg (fun hh => h hh.1), if_neg (fun hh => h hh.1.symm), List.set_comm _ _ h]
theorem offL_at : ∀ (l : List Int) (st : List Sx) (x : Int), offL (offAt st x) l = offAt (offL st l) x
  | [], _, _ => rfl
  | m :: l, st, x => by
    show offL (offAt (offAt st x) m) l = offAt (offL (offAt st m) l) x
    rw [offAt_comm, offL_at l]
end Go.Proofs.YtahpdkkpnkhnhaaGreatDoor

/- Walks: Fault. -/
namespace Go.Proofs.YtahpdkkpnkhnhaaGreatDoor
open Go Go.Proofs Go.RowKit Go.Shelf
def faultE (p : Pl) (st : List Sx) (mc : Int) : Int := if ckState p st ≠ 0 then ckState p st else if inN p.ms.length mc then (if cvB (kdA p mc) then 0 else 20) else 10
set_option maxRecDepth 100000 in
set_option maxHeartbeats 1000000 in
theorem fault39 (w : World) (v1 v2 u : Value) (p : Pl) (st : List Sx) (mc : Int) (hw : WdR w) (hv : PlR w w.heap.size v1 v2 p) (hu : Sl Sx.enc 3 w w.heap.size u st) (hs : SzR st) : Calls Tryz.prog 39 #[.agg #[v1, v2], u, .int .i64 mc] w (StE w (faultE p st mc) (offL st (upL st mc st.length ++ [mc]))) := by
  have HP := Lib.hid (fun (w1 : World) (hb : Below w.heap.size w w1) => checkState35 w1 _ _ u p st (hw.later hb) (hv.later hb) (hu.later hb) hs)
  have HUP := Lib.hid (fun (w1 : World) (hb : Below w.heap.size w w1) => upstream108 w1 u st mc (hu.later hb))
  have HCV := Lib.hid (fun s t (w1 : World) (hb : Below w.heap.size w w1) => conveys84 s t w1 (hw.later hb))
  have HCL := Lib.hid (fun (w1 : World) (hb : Below w.heap.size w w1) => clone95 w1 u st (hu.later hb))
  have HPV := Lib.hid hv
  obtain ⟨a1, n1, a2, n2, rfl, rfl⟩ := hv.agg
  obtain ⟨a3, n3, rfl, _, _⟩ := id hu
  clear hw hv hu hs
  have HB := Lib.hid ((Below.refl w.heap.size w).alloc (Nat.le_refl _) (.cells #[.slice a1 p.ms.length n1, .slice a2 p.arcs.length n2] 25))
  have HX := Lib.hid (Box.new w #[.slice a1 p.ms.length n1, .slice a2 p.arcs.length n2] 25)
  have HOK := Lib.hid (fun h : ckState p st = 0 => ckState_ok h)
  obtain ⟨E, hE⟩ : ∃ E, faultE p st mc = E := ⟨_, rfl⟩
  rw [hE]
  unfold faultE at hE
  have HE := Lib.hid hE
  clear hE
  obtain ⟨cp, hcp⟩ : ∃ c, ckState p st = c := ⟨_, rfl⟩
  rw [hcp] at HP HE HOK
  clear hcp
  obtain ⟨n, hn⟩ : ∃ n, p.ms.length = n := ⟨_, rfl⟩
  obtain ⟨m, hm⟩ : ∃ m, p.arcs.length = m := ⟨_, rfl⟩
  obtain ⟨sn, hsn⟩ : ∃ m, st.length = m := ⟨_, rfl⟩
  rw [hn] at HB HX HP HE HPV ⊢
  rw [hm] at HB HX HP HPV ⊢
  rw [hsn] at HP HUP HCL ⊢
  have HN := Lib.hid hn
  have HSN := Lib.hid hsn
  clear hn hm hsn
  obtain ⟨Q, hQ⟩ : ∃ Q, StE w E (offL st (upL st mc sn ++ [mc])) = Q := ⟨_, rfl⟩
  rw [hQ]
  have HQ := Lib.hid hQ
  clear hQ
  go_enter Tryz.func39, Tryz.ntmps39
  go_wp2_with fail
  refine (HP.out _ HB.out).mono ?_
  rintro e w2 ⟨rfl, hb2⟩
  have HB2 := Lib.hid (HB.out.trans (hb2.mono HB.out.size))
  have HX2 := Lib.hid (HX.out.later hb2)
  obtain ⟨x0, x1, xf, xz⟩ := HX2.out.v2
  clear hb2
  by_cases hc0 : cp = 0
  rotate_left
  · have k0 : (cp != 0) = true := by simpa using hc0
    rw [if_pos hc0] at HE
    have HC0 := Lib.hid hc0
    clear hc0
    go_wp2_with fail
    rw [← HQ.out, ← HE.out]
    exact StE.no HC0.out HB2.out
  subst hc0
  rw [if_neg (by simp)] at HE
  obtain ⟨hok1, hok2, _, _⟩ := HOK.out rfl
  have HN64 := Lib.hid (show n ≤ 64 by rw [← HN.out]; exact hok1.le)
  have HSEQ := Lib.hid (show sn = n by rw [← HSN.out, hok2, HN.out])
  have hs64 : sn ≤ 64 := by have := HN64.out; have := HSEQ.out; omega
  clear hok1 hok2 HOK
  have HB3 := Lib.hid (HB2.out.alloc HB2.out.size (.cells #[.int .i64 mc] 3))
  have HX3 := Lib.hid (HX2.out.alloc (.cells #[.int .i64 mc] 3))
  have HU79 := Lib.hid (unknown79 a1 n n1 (.slice a2 m n2) _ [mc] _ (Sl.lit encI_len [mc] w2 #[.int .i64 mc] 3 1 rfl rfl (by simp)))
  obtain ⟨qm, hqm⟩ : ∃ q, inN n mc = q := ⟨_, rfl⟩
  have HUE := Lib.hid (show unkE n [mc] = if qm then 0 else 10 by unfold unkE; simp only [List.any_cons, List.any_nil, Bool.or_false, hqm]; cases qm <;> rfl)
  rw [HUE.out] at HU79
  rw [hqm] at HE
  have HQM := Lib.hid hqm
  clear hqm
  go_wp2_with fail
  refine HU79.out.mono ?_
  rintro e w4 ⟨rfl, hb4⟩
  have HB4 := Lib.hid (HB3.out.trans (hb4.mono HB3.out.size))
  have HX4 := Lib.hid (HX3.out.later hb4)
  clear hb4 x0 x1 xf xz
  cases qm with
  | false =>
    have HE2 := Lib.hid (show E = 10 by rw [← HE.out]; rfl)
    go_wp2_with fail
    rw [← HQ.out, HE2.out]
    exact StE.no (by decide) HB4.out
  | true =>
  rw [if_pos rfl] at HE
  obtain ⟨x, hx0, hxn⟩ := inN_nat HQM.out
  subst hx0
  obtain ⟨⟨a1', c1', e1', hl1, hA1⟩, _⟩ := HPV.out
  simp only [Value.slice.injEq] at e1'
  obtain ⟨rfl, hnn, rfl⟩ := e1'
  have hxl : x < p.ms.length := by rw [HN.out]; exact hxn
  obtain ⟨b1, off1, rfl, hbb1, hcells1⟩ := hA1 (by omega)
  have HCM := Lib.hid (hcells1 x hxl)
  have HKD := Lib.hid (kdA_nat hxl)
  rw [HKD.out] at HE
  clear hA1 hcells1 hl1 hnn HKD
  generalize p.ms[x] = mx at *
  clear hxl
  obtain ⟨sm, tm⟩ := mx
  dsimp only at HE
  have HK84 := Lib.hid (HCV.out sm tm)
  obtain ⟨qc, hqc⟩ : ∃ q, cvB sm = q := ⟨_, rfl⟩
  rw [hqc] at HK84 HE
  clear hqc HCV
  obtain ⟨x0, x1, xf, xz⟩ := HX4.out.v2
  obtain ⟨m0, m1⟩ := (HCM.out.below HB4.out hbb1).c2
  have hb1z := Nat.lt_of_lt_of_le hbb1 HB4.out.size
  dsimp only at m0 m1
  go_wp2_with fail
  refine (HK84.out _ HB4.out).mono ?_
  rintro e w5 ⟨rfl, hb5⟩
  have HB5 := Lib.hid (HB4.out.trans (hb5.mono HB4.out.size))
  clear hb5 x0 x1 xf xz m0 m1 hb1z
  cases qc with
  | false =>
    have HE2 := Lib.hid (show E = 20 by rw [← HE.out]; rfl)
    go_wp2_with fail
    rw [← HQ.out, HE2.out]
    exact StE.no (by decide) HB5.out
  | true =>
  have HE2 := Lib.hid (show E = 0 by rw [← HE.out]; rfl)
  clear HE
  go_wp2_with fail
  refine (HCL.out _ HB5.out).mono ?_
  rintro e w6 ⟨v, rfl, hown, hb6⟩
  have HB6 := Lib.hid (HB5.out.trans (hb6.mono HB5.out.size))
  have hsx : x < sn := by rw [HSEQ.out]; exact hxn
  obtain ⟨g, cap, hvv, hg1, hg2⟩ := hown.form (by rw [HSN.out]; omega)
  rw [HSN.out] at hvv
  subst hvv
  have HLX := Lib.hid (fun l => (offL_len l st).trans HSN.out)
  have HSX := Lib.hid (set_self st x (by rw [HSN.out]; exact hsx))
  have HFA := Lib.hid (show offAt st (x : Int) = st.set x (offX (st.getD x s0)) from rfl)
  have hgw : w.heap.size ≤ g := Nat.le_trans HB5.out.size hg1
  have hown2 := hown
  rw [← HSX.out] at hown2
  generalize st.getD x s0 = sx at *
  obtain ⟨rn, fd, gr⟩ := sx
  have o0 := (hown2.atS HSN.out Sx.enc_len hsx).c3.1
  have ofz := hown2.frozenS HSN.out
  have oz := hown2.ltN.2
  have hof := hown2.setS HSN.out Sx.enc_len hsx 0 (by omega) (.bool false) ⟨false, fd, gr⟩ rfl
  have hbf := HB6.out.setCell (p := ⟨g, x * 3 + 0, none⟩) (by dsimp only; omega) (.bool false)
  simp only [Nat.add_zero] at hof hbf
  have HOF := Lib.hid (show Own Sx.enc 3 100 (w6.setCell ⟨g, x * 3, none⟩ (.bool false)) w.heap.size (.slice (some ⟨g, 0, none⟩) sn cap) (offAt st x) by rw [HFA.out]; exact hof.lower HB5.out.size)
  have HBF := Lib.hid hbf
  clear hof hbf hown hown2 hb6 hg1 hg2
  go_wp2_with fail
  clear o0 ofz oz
  refine (HUP.out _ HBF.out (by have := HN64.out; have := HSEQ.out; omega)).mono ?_
  rintro e w7 ⟨O, gO, rfl, ho, hol, hor, hb7⟩
  have HB7 := Lib.hid (HBF.out.trans (hb7.mono HBF.out.size))
  have HO7 := Lib.hid (HOF.out.later hb7)
  have hg7 := HOF.out.ltN.2
  have HOO := Lib.hid ho
  have HOL := Lib.hid hol
  have HOR := Lib.hid hor
  obtain ⟨BB, hBB⟩ : ∃ b, (w6.setCell ⟨g, x * 3, none⟩ (.bool false)).heap.size = b := ⟨_, rfl⟩
  rw [hBB] at HOO hg7
  clear hb7 ho hol hor hBB HOF HBF
  go_wp2_with fail
  go_loopw [43] (fun i wr => ∃ k : Nat, k ≤ sn ∧ i = .int .i64 k ∧ Below w.heap.size w wr ∧ Own Sx.enc 3 100 wr w.heap.size (.slice (some ⟨g, 0, none⟩) sn cap) (offL (offAt st x) (upL st x k)) ∧ Own encB 1 4 wr BB (.slice (some ⟨gO, 0, none⟩) sn sn) O) (fun i _ => sn - (intOf i).toNat)
  case atStart => exact ⟨0, by omega, rfl, HB7.out, HO7.out, HOO.out⟩
  case round =>
    clear HB7 HO7 HOO
    obtain ⟨k, hk, rfl, hbe, ho, hoo⟩ := hrel
    have HBE := Lib.hid hbe
    have HO := Lib.hid ho
    have HOO := Lib.hid hoo
    clear hbe ho hoo
    by_cases hlt : k < sn
    rotate_left
    · obtain rfl : sn = k := by omega
      go_wp2_with fail
      rw [← HQ.out, HE2.out]
      refine StE.yes ?_ HBE.out
      rw [offL_snoc, ← offL_at]
      exact HO.out
    have hkO : k < O.length := by rw [HOL.out]; exact hlt
    have hat := HOO.out.atN HOL.out encB_len k hkO
    obtain ⟨ok, hok⟩ : ∃ b, O[k] = b := ⟨_, rfl⟩
    rw [hok] at hat
    have o0 := hat.c1
    rw [Nat.mul_one] at o0
    have hgz2 := HOO.out.ltN.2
    have HUB := Lib.hid (upB_of HOR.out (show O[k]? = some ok by rw [List.getElem?_eq_getElem hkO, hok]))
    have HUS := Lib.hid (upL_succ st x k)
    rw [HUB.out] at HUS
    have HFS := Lib.hid (offL_snoc (offAt st x) (upL st x k) (k : Int))
    have HLL := Lib.hid ((offL_len (upL st x k) (offAt st x)).trans ((offAt_len st x).trans HSN.out))
    clear hat hok hkO HUB
    cases ok with
    | false =>
      go_wp2_with fail
      go_roundw
      case rel => exact ⟨k + 1, by omega, by go_num, HBE.out, by rw [HUS.out, if_neg (by simp)]; exact HO.out, HOO.out⟩
      case measure => simp [intOf]; omega
    | true =>
      have HFA2 := Lib.hid (show offAt (offL (offAt st x) (upL st x k)) (k : Int) = (offL (offAt st x) (upL st x k)).set k (offX ((offL (offAt st x) (upL st x k)).getD k s0)) from rfl)
      have HSE := Lib.hid (set_self (offL (offAt st x) (upL st x k)) k (by rw [HLL.out]; exact hlt))
      generalize offL (offAt st x) (upL st x k) = L at *
      rw [← HSE.out] at HO
      generalize L.getD k s0 = sy at *
      obtain ⟨ry, fy, gy⟩ := sy
      have p0 := (HO.out.atS HLL.out Sx.enc_len hlt).c3.1
      have pfz := HO.out.frozenS HLL.out
      have pz := HO.out.ltN.2
      have hof := HO.out.setS HLL.out Sx.enc_len hlt 0 (by omega) (.bool false) ⟨false, fy, gy⟩ rfl
      have hbf := HBE.out.setCell (p := ⟨g, k * 3 + 0, none⟩) (by dsimp only; omega) (.bool false)
      have hvf := HOO.out.below (a := ⟨g, k * 3 + 0, none⟩) (.bool false) (by dsimp only; omega)
      simp only [Nat.add_zero] at hof hbf hvf
      have HOF := Lib.hid hof
      have HBF := Lib.hid hbf
      have HVF := Lib.hid hvf
      clear hof hbf hvf
      go_wp2_with fail
      go_roundw
      case rel => exact ⟨k + 1, by omega, by go_num, HBF.out, by rw [HUS.out, if_pos rfl, HFS.out, HFA2.out]; exact HOF.out, HVF.out⟩
      case measure => simp [intOf]; omega
end Go.Proofs.YtahpdkkpnkhnhaaGreatDoor
