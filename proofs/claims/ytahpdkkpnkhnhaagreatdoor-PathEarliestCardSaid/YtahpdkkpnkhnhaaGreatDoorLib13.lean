/- Lemmas on the way to the laws (part 13): Bh Bi Q Bj -/
import Derived.Test.YtahpdkkpnkhnhaaGreatDoorLib12
import Derived.Laws.EntriesVeiled
import Derived.Test.YtahpdkkpnkhnhaaGreatDoorLib03
import Derived.Maps.Own
import Derived.Maps.OwnOps
import Derived.Maps.OwnSet
import Derived.Maps.Views
import Derived.Maps.RangeWalk
set_option linter.unusedVariables false
set_option linter.unusedSimpArgs false

/- Walks: the machines upstream of a machine. -/
namespace Go.Proofs.YtahpdkkpnkhnhaaGreatDoor
open Go Go.Proofs Go.RowKit Go.Shelf

/-- Machine i is marked. -/
def mkd (O : List Bool) (i : Nat) : Prop := O[i]? = some true
theorem mkd_set {O : List Bool} {k : Nat} (h : k < O.length) (i : Nat) : mkd (O.set k true) i ↔ i = k ∨ mkd O i := by
  unfold mkd
  rw [List.getElem?_set]
  by_cases e : k = i
  · subst e; simp [h]
  · rw [if_neg e]; constructor
    · exact .inr
    · rintro (h | h)
      · exact absurd h.symm e
      · exact h
/-- Machine i feeds machine mc, over others or not. -/
inductive UpR (st : List Sx) (mc : Int) : Nat → Prop
  | base {i : Nat} (h : i < st.length) (hne : (i : Int) ≠ mc) (hf : st[i].feeds = mc) : UpR st mc i
  | step {i j : Nat} (h : i < st.length) (hne : (i : Int) ≠ mc) (hf : st[i].feeds = (j : Int)) (hj : UpR st mc j) : UpR st mc i
/-- What a visit of m makes of the marks O. -/
structure VisR (st : List Sx) (mc m : Int) (n : Nat) (O O' : List Bool) : Prop where
  len : O'.length = O.length
  le : ∀ i, mkd O i → mkd O' i
  sound : (∀ i, mkd O i → UpR st mc i) → ∀ i, mkd O' i → UpR st mc i
  feed : ∀ i (h : i < st.length), i < n → st[i].feeds = m → (i : Int) ≠ mc → mkd O' i
  closed : ∀ j : Nat, mkd O' j → ¬ mkd O j → ∀ i (h : i < st.length), st[i].feeds = (j : Int) → (i : Int) ≠ mc → mkd O' i
theorem VisR.zero (st : List Sx) (mc m : Int) (O : List Bool) : VisR st mc m 0 O O :=
  ⟨rfl, fun _ h => h, fun h => h, fun _ _ h => absurd h (by omega), fun j h h' => absurd h h'⟩
theorem VisR.skip {st : List Sx} {mc m : Int} {k : Nat} {O O1 : List Bool} (h : VisR st mc m k O O1) (hs : ∀ h : k < st.length, st[k].feeds = m → (k : Int) ≠ mc → mkd O1 k) : VisR st mc m (k + 1) O O1 :=
  ⟨h.len, h.le, h.sound, fun i hi hik hf hne => by
    rcases Nat.lt_succ_iff_lt_or_eq.1 hik with h1 | h1
    · exact h.feed i hi h1 hf hne
    · subst h1; exact hs hi hf hne, h.closed⟩
theorem VisR.mark {st : List Sx} {mc m : Int} {k : Nat} {O O1 O2 : List Bool} (h : VisR st mc m k O O1) (hk : k < st.length) (hkO : k < O1.length) (hf : st[k].feeds = m) (hne : (k : Int) ≠ mc) (hm : m = mc ∨ ∃ j : Nat, m = j ∧ (UpR st mc j)) (h2 : VisR st mc k st.length (O1.set k true) O2) : VisR st mc m (k + 1) O O2 := by
  have hle : ∀ i, mkd O1 i → mkd O2 i := fun i hi => h2.le i ((mkd_set hkO i).2 (.inr hi))
  have hkk : mkd O2 k := h2.le k ((mkd_set hkO k).2 (.inl rfl))
  refine ⟨by rw [h2.len, List.length_set, h.len], fun i hi => hle i (h.le i hi), fun hs => h2.sound (fun i hi => ?_), fun i hi hik hf' hne' => ?_, fun j hj hj' i hi hf' hne' => ?_⟩
  · rcases (mkd_set hkO i).1 hi with rfl | h1
    · rcases hm with rfl | ⟨j, rfl, hj⟩
      · exact .base hk hne hf
      · exact .step hk hne hf hj
    · exact h.sound hs i h1
  · rcases Nat.lt_succ_iff_lt_or_eq.1 hik with h1 | h1
    · exact hle _ (h.feed i hi h1 hf' hne')
    · subst h1; exact hkk
  · by_cases h1 : mkd O1 j
    · exact hle _ (h.closed j h1 hj' i hi hf' hne')
    · by_cases h3 : j = k
      · subst h3; exact h2.feed i hi hi hf' hne'
      · exact h2.closed j hj (fun hh => by rcases (mkd_set hkO j).1 hh with h4 | h4; exact h3 h4; exact h1 h4) i hi hf' hne'
/-- All in all. -/
theorem VisR.all {st : List Sx} {mc : Int} {n : Nat} {O' : List Bool} (h : VisR st mc mc st.length (List.replicate n false) O') (i : Nat) : mkd O' i ↔ UpR st mc i := by
  have hno : ∀ j, ¬ mkd (List.replicate n false) j := fun j hj => by
    unfold mkd at hj; rw [List.getElem?_replicate] at hj; split at hj <;> cases hj
  refine ⟨h.sound (fun j hj => absurd hj (hno j)) i, fun hu => ?_⟩
  induction hu with
  | base hi hne hf => exact h.feed _ hi hi hf hne
  | step hi hne hf _ ih => exact h.closed _ ih (hno _) _ hi hf hne
theorem cnt_set : ∀ (O : List Bool) (i : Nat), O[i]? = some false → (O.set i true).count false + 1 = O.count false
  | b :: O, 0, h => by simp at h; subst h; simp
  | b :: O, i + 1, h => by
    have := cnt_set O i (by simpa using h)
    simp only [List.set_cons_succ, List.count_cons]; omega
theorem cnt_le : ∀ (O O' : List Bool), O'.length = O.length → (∀ i, mkd O i → mkd O' i) → O'.count false ≤ O.count false
  | [], [], _, _ => Nat.le_refl _
  | b :: O, b' :: O', hl, h => by
    have h1 := cnt_le O O' (by simpa using hl) (fun i hi => by have := h (i + 1) (by simpa [mkd] using hi); simpa [mkd] using this)
    have h2 : b = true → b' = true := fun hb => by have := h 0 (by simp [mkd, hb]); simpa [mkd] using this
    simp only [List.count_cons]
    cases b <;> cases b' <;> simp_all <;> omega

/-- What a visit sees: its four captured variables. -/
structure VisW (W : World) (q1 q2 q3 q4 g n cap : Nat) (u : Value) (mc : Int) : Prop where
  b1 : Box W q1 39 [u]
  b2 : Box W q2 3 [.int .i64 mc]
  b3 : Box W q3 135 [.slice (some ⟨g, 0, none⟩) n cap]
  b4 : Box W q4 175 [.func (.func 145) #[] #[.pointer (some ⟨q1, 0, none⟩), .pointer (some ⟨q2, 0, none⟩), .pointer (some ⟨q3, 0, none⟩), .pointer (some ⟨q4, 0, none⟩)]]
  n1 : q1 ≠ g
  n2 : q2 ≠ g
  n3 : q3 ≠ g
  n4 : q4 ≠ g
theorem VisW.keeps {W W' : World} {q1 q2 q3 q4 g n cap : Nat} {u : Value} {mc : Int} (h : VisW W q1 q2 q3 q4 g n cap u mc) (hk : Kept (fun k => k = g) W W') : VisW W' q1 q2 q3 q4 g n cap u mc :=
  ⟨h.b1.keeps hk h.n1, h.b2.keeps hk h.n2, h.b3.keeps hk h.n3, h.b4.keeps hk h.n4, h.n1, h.n2, h.n3, h.n4⟩
def VisPost (st : List Sx) (mc m : Int) (W : World) (B g n cap : Nat) (O : List Bool) (e : Ending) (W' : World) : Prop :=
  (∃ v, e = .returned v) ∧ ∃ O', VisR st mc m st.length O O' ∧ Own encB 1 4 W' B (.slice (some ⟨g, 0, none⟩) n cap) O' ∧ Kept (fun k => k = g) W W'

set_option maxRecDepth 100000 in
set_option maxHeartbeats 1000000 in
theorem visit145 (w : World) (a3 : Option Addr) (n n3 cap : Nat) (st : List Sx) (mc : Int) (q1 q2 q3 q4 g : Nat) (hu : Sl Sx.enc 3 w w.heap.size (.slice a3 n n3) st) (hn : st.length = n) (hg : w.heap.size ≤ g) :
    ∀ (cnt : Nat) (W : World) (O : List Bool) (m : Int), O.count false ≤ cnt → O.length = n → Below w.heap.size w W → VisW W q1 q2 q3 q4 g n cap (.slice a3 n n3) mc → Own encB 1 4 W w.heap.size (.slice (some ⟨g, 0, none⟩) n cap) O → (∀ i, mkd O i → UpR st mc i) → (m = mc ∨ ∃ j : Nat, m = j ∧ UpR st mc j) →
      Calls Tryz.prog 145 (#[.int .i64 m] ++ #[.pointer (some ⟨q1, 0, none⟩), .pointer (some ⟨q2, 0, none⟩), .pointer (some ⟨q3, 0, none⟩), .pointer (some ⟨q4, 0, none⟩)]) W (VisPost st mc m W w.heap.size g n cap O) := by
  intro cnt
  induction cnt using Nat.strongRecOn with
  | _ cnt ih =>
  intro W O m hcnt hOl hbW hvw hown hsd hm
  obtain ⟨Q, hQ⟩ : ∃ Q, VisPost st mc m W w.heap.size g n cap O = Q := ⟨_, rfl⟩
  rw [hQ]
  have HQ := Lib.hid hQ
  have HIH := Lib.hid ih
  have HCNT := Lib.hid hcnt
  have HOL := Lib.hid hOl
  have HBW := Lib.hid hbW
  have HVW := Lib.hid hvw
  have HOW := Lib.hid hown
  have HSD := Lib.hid hsd
  have HMM := Lib.hid hm
  have HN := Lib.hid hn
  obtain ⟨a3', n3', e3, ⟨h31, h32⟩, hA3⟩ := hu
  injection e3 with e31 e32 e33
  subst e31 e33
  have HA3 := Lib.hid hA3
  have eg := enters_of Tryz.func145 (by kernel_rfl) rfl
  rw [hn] at h31 h32
  clear e32 hQ ih hcnt hOl hbW hvw hown hsd hm hA3 hn
  have b10 := HVW.out.b1.cell 0
  have b1z := HVW.out.b1.lt
  simp only [List.getElem?_cons_zero] at b10
  go_enter Tryz.func145, Tryz.ntmps145
  go_wp2_with fail
  go_loopw [10] (fun i wr => ∃ k : Nat, k ≤ n ∧ i = .int .i64 k ∧ ∃ O1, VisR st mc m k O O1 ∧ Own encB 1 4 wr w.heap.size (.slice (some ⟨g, 0, none⟩) n cap) O1 ∧ Kept (fun k => k = g) W wr) (fun i _ => n - (intOf i).toNat)
  case atStart => exact ⟨0, by omega, rfl, O, VisR.zero _ _ _ _, HOW.out, Kept.refl _ _⟩
  case round =>
    clear b10 b1z
    obtain ⟨k, hk, rfl, O1, hvr, hown, hkp⟩ := hrel
    have HVR := Lib.hid hvr
    have HO1 := Lib.hid hown
    have HKP := Lib.hid hkp
    have HV1 := Lib.hid (HVW.out.keeps hkp)
    have HB1 := Lib.hid (HBW.out.trans (hkp.toBelow HBW.out.size (fun k e => by rw [e]; exact hg)))
    clear hvr hown hkp
    by_cases hlt : k < n
    rotate_left
    · obtain rfl : n = k := by omega
      go_wp2_with fail
      go_end0
      rw [← HQ.out]
      exact ⟨⟨_, rfl⟩, O1, by have := HVR.out; rwa [← HN.out] at this, HO1.out, HKP.out⟩
    have hks : k < st.length := by rw [HN.out]; exact hlt
    have hkO : k < O1.length := by rw [HVR.out.len, HOL.out]; exact hlt
    obtain ⟨b3, off3, rfl, hbb3, hcells3⟩ := HA3.out (by omega)
    have HCS := Lib.hid (hcells3 k hks)
    have HSK := Lib.hid (fun (hs : st[k].feeds = m → (k : Int) ≠ mc → mkd O1 k) => HVR.out.skip (fun _ => hs))
    have HMK := Lib.hid (fun (hf : st[k].feeds = m) (hne : (k : Int) ≠ mc) O2 h2 => HVR.out.mark (O2 := O2) hks hkO hf hne HMM.out h2)
    have HUP := Lib.hid (fun (hf : st[k].feeds = m) (hne : (k : Int) ≠ mc) => show UpR st mc k by
      rcases HMM.out with h | ⟨j, h, hj⟩
      · exact .base hks hne (hf.trans h)
      · exact .step hks hne (hf.trans h) hj)
    generalize st[k] = sx at *
    obtain ⟨rn, fd, gr⟩ := sx
    dsimp only at HSK HMK HUP
    obtain ⟨d0, d1, d2⟩ := (HCS.out.below HB1.out hbb3).c3
    dsimp only at d0 d1 d2
    have hb3z : b3 < wr.heap.size := Nat.lt_of_lt_of_le hbb3 HB1.out.size
    have hkO1 : O1.length = n := by rw [HVR.out.len, HOL.out]
    have HKO := Lib.hid hkO1
    have hat := HO1.out.atN hkO1 encB_len k hkO
    obtain ⟨ok, hok⟩ : ∃ b, O1[k] = b := ⟨_, rfl⟩
    rw [hok] at hat
    have o0 := hat.c1
    rw [Nat.mul_one] at o0
    have ofz := HO1.out.frozenN hkO1
    have oz := HO1.out.ltN.2
    have HOK := Lib.hid (show O1[k]? = some ok by rw [List.getElem?_eq_getElem hkO, hok])
    have HOS := Lib.hid (HO1.out.setN hkO1 encB_len k hkO 0 (by omega) (.bool true) true (by rfl))
    have c20 := HV1.out.b2.cell 0
    have c2z := HV1.out.b2.lt
    have c30 := HV1.out.b3.cell 0
    have c3z := HV1.out.b3.lt
    have c40 := HV1.out.b4.cell 0
    have c4z := HV1.out.b4.lt
    have n2 := HV1.out.n2
    have n3' := HV1.out.n3
    have n4 := HV1.out.n4
    simp only [List.getElem?_cons_zero] at c20 c30 c40
    clear hat hok hcells3 hkO1 hks hkO
    have HKA := Lib.hid (HKP.out.alloc (.cells #[.bool rn, .int .i64 fd, .string gr] 100))
    have HOA := Lib.hid (HO1.out.alloc (.cells #[.bool rn, .int .i64 fd, .string gr] 100))
    by_cases hf : fd = m
    rotate_left
    · have k1 : (fd == m) = false := beq_eq_false_iff_ne.2 hf
      have HV := Lib.hid (HSK.out (fun h => absurd h hf))
      clear hf
      go_wp2_with fail
      go_roundw
      case rel => exact ⟨k + 1, by omega, by go_num, O1, HV.out, HOA.out, HKA.out⟩
      case measure => simp [intOf]; omega
    have k1 : (fd == m) = true := beq_iff_eq.2 hf
    have HF := Lib.hid hf
    clear hf
    by_cases hne : (k : Int) = mc
    · have k2 : ((k : Int) != mc) = false := by simp [hne]
      have HV := Lib.hid (HSK.out (fun _ h => absurd hne h))
      clear hne
      go_wp2_with fail
      go_roundw
      case rel => exact ⟨k + 1, by omega, by go_num, O1, HV.out, HOA.out, HKA.out⟩
      case measure => simp [intOf]; omega
    have k2 : ((k : Int) != mc) = true := by simp [hne]
    have HNE := Lib.hid hne
    clear hne
    cases ok with
    | true =>
      have HV := Lib.hid (HSK.out (fun _ _ => HOK.out))
      go_wp2_with fail
      go_roundw
      case rel => exact ⟨k + 1, by omega, by go_num, O1, HV.out, HOA.out, HKA.out⟩
      case measure => simp [intOf]; omega
    | false =>
    have HKS := Lib.hid ((HKP.out.set (p := ⟨g, k, none⟩) (.bool true) (.inl rfl)).alloc (.cells #[.bool rn, .int .i64 fd, .string gr] 100))
    have hos := HOS.out.alloc (.cells #[.bool rn, .int .i64 fd, .string gr] 100)
    rw [Nat.mul_one, Nat.add_zero] at hos
    have HVS := Lib.hid (HVW.out.keeps HKS.out)
    have HBS := Lib.hid (HBW.out.trans (HKS.out.toBelow HBW.out.size (fun k e => by rw [e]; exact hg)))
    have HC := Lib.hid (HIH.out ((O1.set k true).count false) (by have h1 := cnt_set O1 k HOK.out; have h2 := cnt_le O O1 HVR.out.len HVR.out.le; have h3 := HCNT.out; omega) _ (O1.set k true) k (Nat.le_refl _) (by rw [List.length_set]; exact HKO.out) HBS.out HVS.out hos
      (fun i hi => by
        rcases (mkd_set (by rw [HKO.out]; exact hlt) i).1 hi with h | h
        · subst h; exact HUP.out HF.out HNE.out
        · exact HVR.out.sound HSD.out i h) (.inr ⟨k, rfl, HUP.out HF.out HNE.out⟩))
    clear hos
    go_wp2_with fail
    refine HC.out.mono ?_
    rintro e w4 ⟨⟨ve, rfl⟩, O2, hv2, ho2, hk2⟩
    have HVF := Lib.hid (HMK.out HF.out HNE.out _ hv2)
    have HO2 := Lib.hid ho2
    have HK2 := Lib.hid (HKS.out.trans hk2)
    clear hv2 ho2 hk2
    go_wp2_with fail
    go_roundw
    case rel => exact ⟨k + 1, by omega, by go_num, O2, HVF.out, HO2.out, HK2.out⟩
    case measure => simp [intOf]; omega
end Go.Proofs.YtahpdkkpnkhnhaaGreatDoor

/- Walks: Upstream. -/
namespace Go.Proofs.YtahpdkkpnkhnhaaGreatDoor
open Go Go.Proofs Go.RowKit Go.Shelf

def UpsPost (st : List Sx) (mc : Int) (n : Nat) (w : World) (e : Ending) (w' : World) : Prop :=
  ∃ O g, e = .returned (.slice (some ⟨g, 0, none⟩) n n) ∧ Own encB 1 4 w' w.heap.size (.slice (some ⟨g, 0, none⟩) n n) O ∧ O.length = n ∧ (∀ i, mkd O i ↔ UpR st mc i) ∧ Below w.heap.size w w'
theorem infoB : (Tryz.prog.info? 4).map (fun i => (i.zero, i.size, i.bytes)) = some (some (.bool false), 1, 1) := by kernel_rfl
set_option maxRecDepth 100000 in
set_option maxHeartbeats 1000000 in
theorem upstream108 (w : World) (u : Value) (st : List Sx) (mc : Int) (hu : Sl Sx.enc 3 w w.heap.size u st) (h1000 : st.length ≤ 1000000) : Calls Tryz.prog 108 #[u, .int .i64 mc] w (UpsPost st mc st.length w) := by
  obtain ⟨a3, n3, rfl, _, _⟩ := id hu
  obtain ⟨n, hn⟩ : ∃ n, st.length = n := ⟨_, rfl⟩
  rw [hn] at hu h1000 ⊢
  obtain ⟨Q, hQ⟩ : ∃ Q, UpsPost st mc n w = Q := ⟨_, rfl⟩
  rw [hQ]
  have HQ := Lib.hid hQ
  have HN := Lib.hid hn
  have HU := Lib.hid hu
  clear hQ hn hu
  have HB2 := Lib.hid (((Below.refl w.heap.size w).alloc (Nat.le_refl _) (.cells #[.slice a3 n n3] 39)).alloc (by simp) (.cells #[.int .i64 mc] 3))
  have HX2 := Lib.hid ((Box.new w #[.slice a3 n n3] 39).alloc (.cells #[.int .i64 mc] 3))
  have HY2 := Lib.hid (Box.newAt (w.alloc (.cells #[.slice a3 n n3] 39)) #[.int .i64 mc] 3 (by simp : _ = w.heap.size + 1))
  have HT : Hid (Tryz.prog.underlying 135 = some (.slice 4)) := Lib.hid Tryz.underlying135
  have HI := Lib.hid infoB
  go_enter Tryz.func108, Tryz.ntmps108
  go_wp2_with (at_make; refine wpList_mk1 encB false (.bool false) rfl 135 4 1 HT.out HI.out (by rfl) (by omega) w.heap.size _ n (by omega) (by have := HB2.out.size; omega) rfl _ _ rfl .i64 .i64 rfl rfl ?_; intro w3 hown hgr; simp only [World.size_alloc] at hown; have hg0 := hown.ltN; have HO3 := Lib.hid hown; have HG3 := Lib.hid (grown_none_below hgr); have HB3 := Lib.hid (HB2.out.trans (HG3.out.mono HB2.out.size)); have HX3 := Lib.hid (HX2.out.later HG3.out); have HY3 := Lib.hid (HY2.out.later HG3.out); clear hown hgr; have y0 := HY3.out.cell 0; have yz := HY3.out.lt; have x0 := HX3.out.cell 0; have xz := HX3.out.lt; simp only [List.getElem?_cons_zero] at y0 x0)
  have HB5 := Lib.hid ((HB3.out.alloc (by have := HB3.out.size; omega) (.cells #[.slice (some ⟨w.heap.size + 1 + 1, 0, none⟩) n n] 135)).alloc (by have := HB3.out.size; simp; omega) (.cells #[.func (.func 145) #[] #[.pointer (some ⟨w.heap.size, 0, none⟩), .pointer (some ⟨w.heap.size + 1, 0, none⟩), .pointer (some ⟨w3.heap.size, 0, none⟩), .pointer (some ⟨w3.heap.size + 1, 0, none⟩)]] 175))
  have HO5 := Lib.hid ((HO3.out.alloc (.cells #[.slice (some ⟨w.heap.size + 1 + 1, 0, none⟩) n n] 135)).alloc (.cells #[.func (.func 145) #[] #[.pointer (some ⟨w.heap.size, 0, none⟩), .pointer (some ⟨w.heap.size + 1, 0, none⟩), .pointer (some ⟨w3.heap.size, 0, none⟩), .pointer (some ⟨w3.heap.size + 1, 0, none⟩)]] 175))
  have HV5 : Hid (VisW ((w3.alloc (.cells #[.slice (some ⟨w.heap.size + 1 + 1, 0, none⟩) n n] 135)).alloc (.cells #[.func (.func 145) #[] #[.pointer (some ⟨w.heap.size, 0, none⟩), .pointer (some ⟨w.heap.size + 1, 0, none⟩), .pointer (some ⟨w3.heap.size, 0, none⟩), .pointer (some ⟨w3.heap.size + 1, 0, none⟩)]] 175)) w.heap.size (w.heap.size + 1) w3.heap.size (w3.heap.size + 1) (w.heap.size + 1 + 1) n n (.slice a3 n n3) mc) :=
    Lib.hid ⟨(HX3.out.alloc _).alloc _, (HY3.out.alloc _).alloc _, (Box.new w3 #[.slice (some ⟨w.heap.size + 1 + 1, 0, none⟩) n n] 135).alloc _, Box.newAt (w3.alloc _) #[.func (.func 145) #[] #[.pointer (some ⟨w.heap.size, 0, none⟩), .pointer (some ⟨w.heap.size + 1, 0, none⟩), .pointer (some ⟨w3.heap.size, 0, none⟩), .pointer (some ⟨w3.heap.size + 1, 0, none⟩)]] 175 (by simp), by omega, by omega, by have := hg0.2; omega, by have := hg0.2; omega⟩
  refine (visit145 w a3 n n3 n st mc w.heap.size (w.heap.size + 1) w3.heap.size (w3.heap.size + 1) (w.heap.size + 1 + 1) HU.out HN.out (by omega) ((List.replicate n false).count false) _ (List.replicate n false) mc (Nat.le_refl _) (by simp) HB5.out HV5.out HO5.out (fun i hi => by unfold mkd at hi; rw [List.getElem?_replicate] at hi; split at hi <;> cases hi) (.inl rfl)).mono ?_
  rintro e w6 ⟨⟨ve, rfl⟩, O, hvr, ho, hk⟩
  have HV6 := Lib.hid (HV5.out.keeps hk)
  have HB6 := Lib.hid (HB5.out.trans (hk.toBelow HB5.out.size (fun k e => by rw [e]; omega)))
  have HO6 := Lib.hid ho
  have HVR := Lib.hid hvr
  clear hvr ho hk
  have c0 := HV6.out.b3.cell 0
  have cz := HV6.out.b3.lt
  simp only [List.getElem?_cons_zero] at c0
  go_wp2_with fail
  rw [← HQ.out]
  exact ⟨O, _, rfl, HO6.out, by rw [HVR.out.len, List.length_replicate], fun i => HVR.out.all i, HB6.out⟩

open Classical in
noncomputable def upB (st : List Sx) (mc : Int) (i : Nat) : Bool := decide (UpR st mc i)
open Classical in
theorem upB_of {st : List Sx} {mc : Int} {O : List Bool} {k : Nat} {b : Bool} (h : ∀ i, mkd O i ↔ UpR st mc i) (hk : O[k]? = some b) : upB st mc k = b := by
  unfold upB
  cases b with
  | true => exact decide_eq_true ((h k).1 hk)
  | false => exact decide_eq_false (fun hu => by have := (h k).2 hu; unfold mkd at this; rw [hk] at this; cases this)
/-- The machines upstream, in order. -/
noncomputable def upL (st : List Sx) (mc : Int) (n : Nat) : List Int := ((List.range n).filter (upB st mc)).map (fun i : Nat => (i : Int))
theorem upL_succ (st : List Sx) (mc : Int) (k : Nat) : upL st mc (k + 1) = if upB st mc k then upL st mc k ++ [(k : Int)] else upL st mc k := by
  unfold upL
  rw [List.range_succ, List.filter_append, List.map_append, List.filter_cons, List.filter_nil]
  cases h : upB st mc k <;> simp
theorem upL_len (st : List Sx) (mc : Int) (k : Nat) : (upL st mc k).length ≤ k := by
  unfold upL
  rw [List.length_map]
  exact Nat.le_trans (List.length_filter_le _ _) (by simp)
/-- An error, and a new list of numbers if there is none. -/
def InE (w : World) (E : Int) (l : List Int) (e : Ending) (w' : World) : Prop := ∃ v, e = .returned (.tuple #[v, .int .i64 E]) ∧ Own encI 1 3 w' w.heap.size v (if E ≠ 0 then [] else l) ∧ Below w.heap.size w w'
theorem InE.no {w w' : World} {E : Int} {l : List Int} (h : E ≠ 0) (hb : Below w.heap.size w w') : InE w E l (.returned (.tuple #[.slice none 0 0, .int .i64 E])) w' := ⟨_, rfl, by rw [if_pos h]; exact Own.nil _ _ _ _ _, hb⟩
theorem InE.yes {w w' : World} {l : List Int} {v : Value} (h : Own encI 1 3 w' w.heap.size v l) (hb : Below w.heap.size w w') : InE w 0 l (.returned (.tuple #[v, .int .i64 0])) w' := ⟨_, rfl, by rw [if_neg (by simp)]; exact h, hb⟩
def upE (p : Pl) (st : List Sx) (mc : Int) : Int := if ckState p st ≠ 0 then ckState p st else if inN p.ms.length mc then 0 else 10
theorem infoI : (Tryz.prog.info? 3).map (fun i => (i.zero, i.size, i.bytes)) = some (some (.int .i64 0), 1, 8) := by kernel_rfl

set_option maxRecDepth 100000 in
set_option maxHeartbeats 1000000 in
theorem upstream38 (w : World) (v1 v2 u : Value) (p : Pl) (st : List Sx) (mc : Int) (hw : WdR w) (hv : PlR w w.heap.size v1 v2 p) (hu : Sl Sx.enc 3 w w.heap.size u st) (hs : SzR st) : Calls Tryz.prog 38 #[.agg #[v1, v2], u, .int .i64 mc] w (InE w (upE p st mc) (upL st mc st.length)) := by
  have HP := Lib.hid (fun (w1 : World) (hb : Below w.heap.size w w1) => checkState35 w1 _ _ u p st (hw.later hb) (hv.later hb) (hu.later hb) hs)
  have HUP := Lib.hid (fun (w1 : World) (hb : Below w.heap.size w w1) => upstream108 w1 u st mc (hu.later hb))
  obtain ⟨a1, n1, a2, n2, rfl, rfl⟩ := hv.agg
  obtain ⟨a3, n3, rfl, _, _⟩ := id hu
  clear hw hv hu hs
  have HB := Lib.hid ((Below.refl w.heap.size w).alloc (Nat.le_refl _) (.cells #[.slice a1 p.ms.length n1, .slice a2 p.arcs.length n2] 25))
  have HX := Lib.hid (Box.new w #[.slice a1 p.ms.length n1, .slice a2 p.arcs.length n2] 25)
  have HOK := Lib.hid (fun h : ckState p st = 0 => ckState_ok h)
  obtain ⟨E, hE⟩ : ∃ E, upE p st mc = E := ⟨_, rfl⟩
  rw [hE]
  unfold upE at hE
  have HE := Lib.hid hE
  clear hE
  obtain ⟨cp, hcp⟩ : ∃ c, ckState p st = c := ⟨_, rfl⟩
  rw [hcp] at HP HE HOK
  clear hcp
  obtain ⟨n, hn⟩ : ∃ n, p.ms.length = n := ⟨_, rfl⟩
  obtain ⟨m, hm⟩ : ∃ m, p.arcs.length = m := ⟨_, rfl⟩
  obtain ⟨sn, hsn⟩ : ∃ m, st.length = m := ⟨_, rfl⟩
  rw [hn] at HB HX HP HE ⊢
  rw [hm] at HB HX HP ⊢
  rw [hsn] at HP HUP ⊢
  have HN := Lib.hid hn
  have HSN := Lib.hid hsn
  clear hn hm hsn
  obtain ⟨Q, hQ⟩ : ∃ Q, InE w E (upL st mc sn) = Q := ⟨_, rfl⟩
  rw [hQ]
  have HQ := Lib.hid hQ
  clear hQ
  go_enter Tryz.func38, Tryz.ntmps38
  go_wp2_with fail
  refine (HP.out _ HB.out).mono ?_
  rintro e w2 ⟨rfl, hb2⟩
  have HB2 := Lib.hid (HB.out.trans (hb2.mono HB.out.size))
  have HX2 := Lib.hid (HX.out.later hb2)
  obtain ⟨x0, x1, xf, xz⟩ := HX2.out.v2
  clear hb2
  by_cases hc0 : cp = 0
  rotate_left
  · have k0 : (cp != 0) = true := by simpa using hc0
    rw [if_pos hc0] at HE
    have HC0 := Lib.hid hc0
    clear hc0
    go_wp2_with fail
    rw [← HQ.out, ← HE.out]
    exact InE.no HC0.out HB2.out
  subst hc0
  rw [if_neg (by simp)] at HE
  obtain ⟨hok1, hok2, _, _⟩ := HOK.out rfl
  have HN64 := Lib.hid (show n ≤ 64 by rw [← HN.out]; exact hok1.le)
  have HSEQ := Lib.hid (show sn = n by rw [← HSN.out, hok2, HN.out])
  have hs64 : sn ≤ 64 := by have := HN64.out; have := HSEQ.out; omega
  clear hok1 hok2 HOK
  have HB3 := Lib.hid (HB2.out.alloc HB2.out.size (.cells #[.int .i64 mc] 3))
  have HX3 := Lib.hid (HX2.out.alloc (.cells #[.int .i64 mc] 3))
  have HU79 := Lib.hid (unknown79 a1 n n1 (.slice a2 m n2) _ [mc] _ (Sl.lit encI_len [mc] w2 #[.int .i64 mc] 3 1 rfl rfl (by simp)))
  obtain ⟨qm, hqm⟩ : ∃ q, inN n mc = q := ⟨_, rfl⟩
  have HUE := Lib.hid (show unkE n [mc] = if qm then 0 else 10 by unfold unkE; simp only [List.any_cons, List.any_nil, Bool.or_false, hqm]; cases qm <;> rfl)
  rw [HUE.out] at HU79
  rw [hqm] at HE
  clear hqm
  go_wp2_with fail
  refine HU79.out.mono ?_
  rintro e w4 ⟨rfl, hb4⟩
  have HB4 := Lib.hid (HB3.out.trans (hb4.mono HB3.out.size))
  clear hb4 x0 x1 xf xz
  cases qm with
  | false =>
    have HE2 := Lib.hid (show E = 10 by rw [← HE.out]; rfl)
    go_wp2_with fail
    rw [← HQ.out, HE2.out]
    exact InE.no (by decide) HB4.out
  | true =>
  have HE2 := Lib.hid (show E = 0 by rw [← HE.out]; rfl)
  go_wp2_with fail
  refine (HUP.out _ HB4.out (by rw [HSEQ.out]; have := HN64.out; omega)).mono ?_
  rintro e w5 ⟨O, g, rfl, ho, hol, hor, hb5⟩
  have HB5 := Lib.hid (HB4.out.trans (hb5.mono HB4.out.size))
  have HO5 := Lib.hid ho
  have HOL := Lib.hid hol
  have HOR := Lib.hid hor
  have hgz := ho.ltN.2
  clear hb5 ho hol hor
  have HT : Hid (Tryz.prog.underlying 26 = some (.slice 3)) := Lib.hid Tryz.underlying26
  have HI := Lib.hid infoI
  go_wp2_with fail
  go_loopw [30, 10] (fun i v wr => ∃ k : Nat, k ≤ sn ∧ i = .int .i64 k ∧ Own encI 1 3 wr w5.heap.size v (upL st mc k) ∧ Below w5.heap.size w5 wr) (fun i _ _ => sn - (intOf i).toNat)
  case atStart => exact ⟨0, by omega, rfl, Own.nil _ _ _ _ _, Below.refl _ _⟩
  case round =>
    obtain ⟨k, hk, rfl, hown, hbe⟩ := hrel
    have HOV := Lib.hid hown
    have HBE := Lib.hid hbe
    clear hown hbe
    by_cases hlt : k < sn
    rotate_left
    · obtain rfl : sn = k := by omega
      go_wp2_with fail
      rw [← HQ.out, HE2.out]
      exact InE.yes (HOV.out.lower HB5.out.size) (HB5.out.trans (HBE.out.mono HB5.out.size))
    have hkO : k < O.length := by rw [HOL.out]; exact hlt
    have hat := HO5.out.atN HOL.out encB_len k hkO
    obtain ⟨ok, hok⟩ : ∃ b, O[k] = b := ⟨_, rfl⟩
    rw [hok] at hat
    have o0 := (hat.below HBE.out hgz).c1
    rw [Nat.mul_one] at o0
    have HUB := Lib.hid (upB_of HOR.out (show O[k]? = some ok by rw [List.getElem?_eq_getElem hkO, hok]))
    have hgz2 : g < wr.heap.size := Nat.lt_of_lt_of_le hgz HBE.out.size
    have HUS := Lib.hid (upL_succ st mc k)
    rw [HUB.out] at HUS
    have HUL := Lib.hid (upL_len st mc k)
    clear hat hok hkO
    cases ok with
    | false =>
      go_wp2_with fail
      go_roundw
      case rel => exact ⟨k + 1, by omega, by go_num, by rw [HUS.out, if_neg (by simp)]; exact HOV.out, HBE.out⟩
      case measure => simp [intOf]; omega
    | true =>
      have HLK : Hid ((upL st mc k).length ≤ 1000000) := Lib.hid (by have := HUL.out; have := HN64.out; have := HSEQ.out; omega)
      go_wp2_with (at_builtin; refine wpList_push encI 1 8 26 3 _ HT.out HI.out rfl (by decide) (by decide) encI_len encI_one _ (k : Int) w5.heap.size wr _ rfl _ HOV.out HBE.out.size HLK.out rfl _ _ rfl rfl rfl ?_; intro v' w' hown' hg'; obtain ⟨a', cap', rfl⟩ := hown'.shape; rw [List.length_append, List.length_singleton] at hown'; have HOW := Lib.hid hown'; have HGR := Lib.hid (grown_below HBE.out hg' HBE.out.size (HOV.out.lt') (Nat.le_refl _)); clear hown' hg')
      go_roundw
      case rel => exact ⟨k + 1, by omega, by go_num, by rw [HUS.out, if_pos rfl]; exact HOW.out, HGR.out⟩
      case measure => simp [intOf]; omega
end Go.Proofs.YtahpdkkpnkhnhaaGreatDoor

/- A map to bools that a call makes, as the list of its keys that hold true. -/
namespace Go.Proofs.YtahpdkkpnkhnhaaGreatDoor
open Go Go.Proofs Go.RowKit Go.Maps

/-- Block b is a map in which just the keys of L hold true; key x is the literal f x. -/
def SetM {κ : Type} [DecidableEq κ] (f : κ → Lit) (P : Program) (k e : TypeId) (w : World) (b : Nat) (L : List κ) : Prop :=
  ∃ D : DataW Unit, w.ownsMap P k (plainElem P e) b L.length D ∧ IsMap D ∧ ∀ x, D.atKey (f x) (.lit (.bool false)) = .lit (.bool (decide (x ∈ L)))

section
variable {κ : Type} [DecidableEq κ] {f : κ → Lit} {P : Program} {k e : TypeId} {w w' : World} {b : Nat} {L : List κ}
theorem SetM.kept {row : Option Nat} (h : SetM f P k e w b L) (hg : w.grownBy w' row) (hne : some b ≠ row) : SetM f P k e w' b L :=
  let ⟨D, h1, h2⟩ := h; ⟨D, h1.kept hg hne, h2⟩
theorem SetM.later (h : SetM f P k e w b L) (hb : Below w.heap.size w w') : SetM f P k e w' b L :=
  h.kept (row := none) ⟨hb.os, hb.tape, hb.output, hb.size, fun k hk _ => hb.block k hk⟩ (by simp)
theorem SetM.alloc (h : SetM f P k e w b L) (o : Obj) : SetM f P k e (w.alloc o) b L := h.later ((Below.refl _ _).alloc (Nat.le_refl _) _)
theorem SetM.lt (h : SetM f P k e w b L) : b < w.heap.size := let ⟨_, h1, _⟩ := h; h1.lt
theorem SetM.made (f : κ → Lit) (P : Program) (k e : TypeId) (w : World) : SetM f P k e (w.alloc (.map #[] 0)) w.heap.size [] :=
  ⟨.map [], World.ownsMap_made w P k _, ⟨[], rfl⟩, fun kl => by simp [DataW.atKey]⟩

theorem SetM.look {t : TypeId} (h : SetM f P k e w b L) (K : Keyed P k) (ht : P.underlying t = some (.map k e)) (he : P.underlying e = some .bool) (hz : (zeroValue e).run P w = .ok (.bool false) w) {key : Value} {x : κ} (hkey : keyOf P k key = some (f x)) :
    (Instr.lookup t (.map (some b)) key false).run P w = .ok (.bool (decide (x ∈ L))) w := by
  obtain ⟨D, h1, h2, h3⟩ := h
  obtain ⟨v, ps, hrun, hv⟩ := h1.lookup K ht hz (plainElem_bool (H := Unit) he false) hkey
  rw [h3 x] at hv
  have : v = .bool (decide (x ∈ L)) := by
    unfold plainElem at hv
    rw [he] at hv
    cases v <;> simp at hv
    rw [hv.1]
  rw [← this]; exact hrun

theorem wpList_look_set {t : TypeId} {ops : Array Oper} {rest : List Oper} {o : Oper} {a : Act} {Q : Exit → Act → World → Prop} (h : SetM f P k e w b L) (K : Keyed P k) (ht : P.underlying t = some (.map k e)) (he : P.underlying e = some .bool) (hz : (zeroValue e).run P w = .ok (.bool false) w)
    {key : Value} {x : κ} (hkey : keyOf P k key = some (f x)) (hg : o.guard = none) (m y : Operand) (hop : o.op = Op.lookup t m y false) (hm : a.eval m = .map (some b)) (hx : a.eval y = key)
    (hK : wpList P ops Q rest (a.put o.dst (.bool (decide (x ∈ L)))) w) : wpList P ops Q (o :: rest) a w := by
  refine wpList_plain hg fun K' hK' => ?_
  have hrun := h.look K ht he hz hkey
  unfold Oper.wp
  simp [execOp, hop, hm, hx, hrun, Result.andThen]
  exact hK' _ _ (by simpa using hK)

theorem wpList_put_set {t : TypeId} {ops : Array Oper} {rest : List Oper} {o : Oper} {a : Act} {Q : Exit → Act → World → Prop} (hf : ∀ x y, f x = f y → x = y) (hkl : ∀ x, WideAt.IsKeyLit (f x)) (h : SetM f P k e w b L) (K : Keyed P k) (ht : P.underlying t = some (.map k e)) (he : P.underlying e = some .bool)
    {key : Value} {x : κ} (hkey : keyOf P k key = some (f x)) (hn : L.length < maxLen) (hg : o.guard = none) (m y v : Operand) (hop : o.op = Op.mapUpdate t m y v) (hm : a.eval m = .map (some b)) (hx : a.eval y = key) (hv : a.eval v = .bool true)
    (hK : ∀ w', SetM f P k e w' b (x :: L) → w.grownBy w' (some b) → wpList P ops Q rest (a.put o.dst undef) w') : wpList P ops Q (o :: rest) a w := by
  obtain ⟨D, h1, h2, h3⟩ := h
  refine wpList_mapUpdate_own w hg m y v t hop k e K ht _ b L.length D hm h1 hn key (.bool true) (f x) hx hv hkey _ [] (plainElem_bool (H := Unit) he true) fun w' ho hgr => hK w' ⟨_, ho, ho.isMap, fun z => ?_⟩ hgr
  by_cases hk : z = x
  · subst hk
    rw [atKey_put_same h2 (hkl z)]
    simp
  · rw [atKey_put_other (fun h => hk (hf _ _ h)), h3 z]
    simp [hk]
end

/-- Keys that are strings, keys that are integers. -/
def strLit (s : List UInt8) : Lit := .string s
def intLit (n : Int) : Lit := .int .i64 n
theorem strLit_inj (x y : List UInt8) (h : strLit x = strLit y) : x = y := by unfold strLit at h; simpa using h
theorem intLit_inj (x y : Int) (h : intLit x = intLit y) : x = y := by unfold intLit at h; simpa using h
end Go.Proofs.YtahpdkkpnkhnhaaGreatDoor

/- Walks: the machines that a task uses, in a map. -/
namespace Go.Proofs.YtahpdkkpnkhnhaaGreatDoor
open Go Go.Proofs Go.RowKit Go.Shelf Go.Maps

def pairD (a b : Int) : DataW Unit := .agg [.lit (.int .i64 a), .lit (.int .i64 b)]
/-- How a busy reads. -/
def busyR (v : Value) : Option (DataW Unit × List MemPlace) :=
  match v with
  | .agg cs => (match cs.toList with
    | [.int .i64 a, .int .i64 b] => some (pairD a b, [])
    | _ => none)
  | _ => none
theorem busyR_mk (a b : Int) : busyR (.agg #[.int .i64 a, .int .i64 b]) = some (pairD a b, []) := rfl
theorem busyR_inv {v : Value} {y : DataW Unit × List MemPlace} (h : busyR v = some y) : ∃ a b, v = .agg #[.int .i64 a, .int .i64 b] ∧ y = (pairD a b, []) := by
  unfold busyR at h
  split at h
  · rename_i cs
    split at h
    · rename_i a b e
      cases h
      refine ⟨a, b, ?_, rfl⟩
      rw [← Array.toList_inj.1 (show #[Value.int .i64 a, Value.int .i64 b].toList = cs.toList from e.symm)]
    · cases h
  · cases h
theorem pairD_inj {a b c d : Int} (h : pairD a b = pairD c d) : a = c ∧ b = d := by
  unfold pairD at h; simpa using h
/-- Block b is a map from integers to pairs that says F. -/
def MapF (w : World) (b n : Nat) (F : Int → Option (Int × Int)) : Prop :=
  ∃ D : DataW Unit, w.ownsMap Tryz.prog 3 busyR b n D ∧ IsMap D ∧ ∀ m : Int, has D (intLit m) = (F m).isSome ∧ ∀ zd, D.atKey (intLit m) zd = match F m with | some v => pairD v.1 v.2 | none => zd
theorem MapF.kept {w w' : World} {b n : Nat} {F : Int → Option (Int × Int)} {row : Option Nat} (h : MapF w b n F) (hg : w.grownBy w' row) (hne : some b ≠ row) : MapF w' b n F :=
  let ⟨D, h1, h2⟩ := h; ⟨D, h1.kept hg hne, h2⟩
theorem MapF.later {w w' : World} {b n : Nat} {F : Int → Option (Int × Int)} (h : MapF w b n F) (hb : Below w.heap.size w w') : MapF w' b n F :=
  h.kept (row := none) ⟨hb.os, hb.tape, hb.output, hb.size, fun k hk _ => hb.block k hk⟩ (by simp)
theorem MapF.lt {w : World} {b n : Nat} {F : Int → Option (Int × Int)} (h : MapF w b n F) : b < w.heap.size := let ⟨_, h1, _⟩ := h; h1.lt
theorem MapF.made (w : World) : MapF (w.alloc (.map #[] 0)) w.heap.size 0 (fun _ => none) :=
  ⟨.map [], World.ownsMap_made w Tryz.prog 3 _, ⟨[], rfl⟩, fun m => ⟨rfl, fun zd => by simp [DataW.atKey]⟩⟩
theorem wpList_put_F {w : World} {b n : Nat} {F : Int → Option (Int × Int)} {ops : Array Oper} {rest : List Oper} {o : Oper} {a : Act} {Q : Exit → Act → World → Prop} (h : MapF w b n F) (hn : n < maxLen) (x c d : Int) (hx : (Lit.int .i64 x).wf = true)
    (hg : o.guard = none) (m y v : Operand) (hop : o.op = Op.mapUpdate 161 m y v) (hm : a.eval m = .map (some b)) (hxx : a.eval y = .int .i64 x) (hv : a.eval v = .agg #[.int .i64 c, .int .i64 d])
    (hK : ∀ w', MapF w' b (n + 1) (fun z => if z = x then some (c, d) else F z) → w.grownBy w' (some b) → wpList Tryz.prog ops Q rest (a.put o.dst undef) w') : wpList Tryz.prog ops Q (o :: rest) a w := by
  obtain ⟨D, h1, h2, h3⟩ := h
  refine wpList_mapUpdate_own w hg m y v 161 hop 3 159 (int_keyed Tryz.underlying3) Tryz.underlying161 busyR b n D hm h1 hn (.int .i64 x) (.agg #[.int .i64 c, .int .i64 d]) (.int .i64 x) hxx hv (keyOf_int_mk Tryz.underlying3 hx) _ [] (busyR_mk c d)
    fun w' ho hgr => hK w' ⟨_, ho, h2.put _ _, fun z => ?_⟩ hgr
  by_cases hk : z = x
  · subst hk
    dsimp only
    rw [if_pos rfl]
    exact ⟨has_put_same h2 (by simp [WideAt.IsKeyLit]) _, fun zd => atKey_put_same h2 (by simp [WideAt.IsKeyLit]) _ _⟩
  · dsimp only
    rw [if_neg hk]
    have hne : intLit z ≠ Lit.int .i64 x := fun h => hk (intLit_inj _ _ h)
    exact ⟨(has_put_other hne _).trans (h3 z).1, fun zd => (atKey_put_other hne _ _).trans ((h3 z).2 zd)⟩

/-- How long after its start, and for how long, a task uses machine m. -/
def useF (p : Pl) (run : Int) : Int → List Int → Int → Option (Int × Int)
  | _, [], _ => none
  | h, x :: r, m => if m = x then some (h, run + tAt p x) else useF p run (h + tAt p x) r m
theorem useF_none (p : Pl) (run : Int) (l : List Int) (m : Int) (h0 : m ∉ l) : ∀ h, useF p run h l m = none := by
  induction l with
  | nil => intro h; rfl
  | cons x r ih =>
    intro h
    rw [useF, if_neg (fun e => h0 (by rw [e]; simp))]
    exact ih (fun h => h0 (by simp [h])) _
theorem useF_snoc (p : Pl) (run x m : Int) (l : List Int) (hx : x ∉ l) : ∀ h, useF p run h (l ++ [x]) m = if m = x then some (h + tSum p l, run + tAt p x) else useF p run h l m := by
  induction l with
  | nil => intro h; simp only [List.nil_append, useF, tSum, Int.add_zero]
  | cons y r ih =>
    intro h
    rw [List.cons_append, useF, useF, tSum]
    have hyx : x ≠ y := fun e => hx (by rw [e]; simp)
    by_cases e : m = y
    · rw [if_pos e, if_neg (by rw [e]; exact fun h => hyx h.symm), if_pos e]
    · rw [if_neg e, if_neg e, ih (fun h => hx (by simp [h])), Int.add_assoc]
theorem tSum_snoc (p : Pl) (l : List Int) (x : Int) : tSum p (l ++ [x]) = tSum p l + tAt p x := by
  induction l with
  | nil => simp [tSum]
  | cons y r ih => rw [List.cons_append, tSum, tSum, ih]; omega
theorem wf64 : ∀ x : Nat, x < 64 → (Lit.int .i64 (x : Int)).wf = true := by decide
def UsesPost (w : World) (F : Int → Option (Int × Int)) (n : Nat) (e : Ending) (w' : World) : Prop := ∃ b, e = .returned (.map (some b)) ∧ MapF w' b n F ∧ w.heap.size ≤ b ∧ Below w.heap.size w w'

set_option maxRecDepth 100000 in
set_option maxHeartbeats 1000000 in
theorem uses127 (w : World) (v1 v2 u : Value) (gr : ByteArray) (run : Int) (p : Pl) (l : List Int) (hv : PlR w w.heap.size v1 v2 p) (hu : Sl encI 1 w w.heap.size u l) (hp : OkP p) (hin : ∀ x ∈ l, inN p.ms.length x = true) (hnd : l.Nodup) (hrun : 0 ≤ run ∧ run ≤ 100000) :
    Calls Tryz.prog 127 #[.agg #[v1, v2], .agg #[u, .string gr, .int .i64 run]] w (UsesPost w (useF p run 0 l) l.length) := by
  obtain ⟨⟨a1, n1, rfl, hl1, hA1⟩, ⟨a2, n2, rfl, hl2, hA2⟩⟩ := hv
  obtain ⟨a, c, rfl, hlen, hA⟩ := hu
  have HA1 := Lib.hid hA1
  have HA := Lib.hid hA
  have HIN := Lib.hid hin
  have HT := Lib.hid hp.times
  have HND := Lib.hid hnd
  have HP64 := Lib.hid hp.le
  clear hA1 hA2 hA hl2 hin hp hnd
  obtain ⟨h11, h12⟩ := hl1
  obtain ⟨hl, hlc⟩ := hlen
  obtain ⟨hr0, hr1⟩ := hrun
  obtain ⟨n, hn⟩ : ∃ n, p.ms.length = n := ⟨_, rfl⟩
  obtain ⟨m, hm⟩ : ∃ m, p.arcs.length = m := ⟨_, rfl⟩
  obtain ⟨ln, hln⟩ : ∃ m, l.length = m := ⟨_, rfl⟩
  rw [hn] at h11 h12 HIN HP64 ⊢
  rw [hm]
  rw [hln] at hl hlc ⊢
  have HN := Lib.hid hn
  have HLN := Lib.hid hln
  clear hn hm hln
  have HB := Lib.hid (((Below.refl w.heap.size w).alloc (Nat.le_refl _) (.cells #[.slice a1 n n1, .slice a2 m n2] 25)).alloc (by simp) (.cells #[.slice a ln c, .string gr, .int .i64 run] 114))
  have HX := Lib.hid ((Box.new w #[.slice a1 n n1, .slice a2 m n2] 25).alloc (.cells #[.slice a ln c, .string gr, .int .i64 run] 114))
  have HY := Lib.hid (Box.newAt (w.alloc (.cells #[.slice a1 n n1, .slice a2 m n2] 25)) #[.slice a ln c, .string gr, .int .i64 run] 114 (by simp : _ = w.heap.size + 1))
  obtain ⟨Q, hQ⟩ : ∃ Q, UsesPost w (useF p run 0 l) ln = Q := ⟨_, rfl⟩
  rw [hQ]
  have HQ := Lib.hid hQ
  clear hQ
  have hmm := @run_makeMap Tryz.prog
  go_enter Tryz.func127, Tryz.ntmps127
  go_wp2_with fail
  clear hmm
  go_loopw [13, 6] (fun i hh wr => ∃ k : Nat, k ≤ ln ∧ i = .int .i64 k ∧ hh = .int .i64 (tSum p (l.take k)) ∧ 0 ≤ tSum p (l.take k) ∧ tSum p (l.take k) ≤ 100000 * k ∧ Below w.heap.size w wr ∧ Box wr w.heap.size 25 [.slice a1 n n1, .slice a2 m n2] ∧ Box wr (w.heap.size + 1) 114 [.slice a ln c, .string gr, .int .i64 run] ∧ MapF wr (w.heap.size + 1 + 1) k (useF p run 0 (l.take k))) (fun i _ _ => ln - (intOf i).toNat)
  case atStart => exact ⟨0, by omega, rfl, rfl, by simp [tSum], by simp [tSum], HB.out.alloc HB.out.size _, HX.out.alloc _, HY.out.alloc _, by
    have h := MapF.made ((w.alloc (.cells #[.slice a1 n n1, .slice a2 m n2] 25)).alloc (.cells #[.slice a ln c, .string gr, .int .i64 run] 114))
    simp only [World.size_alloc] at h
    exact h⟩
  case round =>
    clear HB HX HY
    obtain ⟨k, hk, rfl, rfl, hs0, hs1, hbe, hx, hy, hmap⟩ := hrel
    have HBE := Lib.hid hbe
    have HXE := Lib.hid hx
    have HYE := Lib.hid hy
    have HME := Lib.hid hmap
    clear hbe hx hy hmap
    by_cases hlt : k < ln
    rotate_left
    · obtain rfl : ln = k := by omega
      have HTK := Lib.hid (show l.take ln = l by rw [← HLN.out]; exact List.take_length)
      go_wp2_with fail
      rw [← HQ.out]
      exact ⟨_, rfl, by have := HME.out; rwa [HTK.out] at this, by omega, HBE.out⟩
    have hkl : k < l.length := by rw [HLN.out]; exact hlt
    obtain ⟨b, off, rfl, hbb, hcells⟩ := HA.out (by omega)
    have c0 := ((hcells k hkl).below HBE.out hbb).c1
    rw [Nat.mul_one] at c0
    have hbz : b < wr.heap.size := Nat.lt_of_lt_of_le hbb HBE.out.size
    obtain ⟨x, hy, hxn⟩ := inN_nat (HIN.out l[k] (List.getElem_mem hkl))
    have HTK := Lib.hid (take_snoc l k hkl)
    have HNOT := Lib.hid ((nodup_take l k hkl).1 (HND.out.sublist (List.take_sublist _ _))).2
    rw [hy] at c0 HTK HNOT
    have hxl : x < p.ms.length := by rw [HN.out]; exact hxn
    obtain ⟨b1, off1, rfl, hbb1, hcells1⟩ := HA1.out (by omega)
    obtain ⟨m0, m1⟩ := ((hcells1 x hxl).below HBE.out hbb1).c2
    have HCM := Lib.hid (hcells1 x hxl)
    have hb1z : b1 < wr.heap.size := Nat.lt_of_lt_of_le hbb1 HBE.out.size
    obtain ⟨ht0, ht1⟩ := HT.out _ (List.getElem_mem hxl)
    have HTX := Lib.hid (tAt_nat hxl)
    clear hcells hcells1 hy hkl
    generalize p.ms[x] = mx at *
    clear hxl
    obtain ⟨sm, t⟩ := mx
    dsimp only at m0 m1 ht0 ht1 HTX
    have HSN := Lib.hid (fun z => useF_snoc p run x z (l.take k) (fun h => by have := HNOT.out; rw [List.contains_iff_mem.2 h] at this; cases this) 0)
    have HTS := Lib.hid (tSum_snoc p (l.take k) x)
    rw [← HTK.out] at HTS HSN
    rw [HTX.out] at HTS HSN
    generalize tSum p (l.take k) = s at *
    have x0 := HXE.out.cell 0
    have xz := HXE.out.lt
    have xf := HXE.out.frozen
    have y0 := HYE.out.cell 0
    have y2 := HYE.out.cell 2
    have yz := HYE.out.lt
    simp only [List.getElem?_cons_zero, List.getElem?_cons_succ] at x0 y0 y2
    have e1 : IntKind.i64.wrap (run + t) = run + t := IntWalk.i64_in _ (by omega)
    have HWF := Lib.hid (wf64 x (by have := HP64.out; omega))
    go_wp2_with fail
    refine wp_region_head_drew 13 (by kernel_rfl) (by kernel_rfl) ?_
    simp only [List.take_succ_cons, List.take_zero, List.drop_succ_cons, List.drop_zero]
    repeat go_big_quiet_step (fail)
    refine wpQuiet_nil ?_
    rintro _ ⟨nq, rfl⟩
    go_wp2_with (at_mapUpdate; refine wpList_put_F (HME.out.later (below_drewN (Below.refl _ _) nq)) (by unfold maxLen; omega) (x : Int) s (run + t) HWF.out rfl _ _ _ rfl rfl rfl rfl ?_; intro w3 hm3 hg3; have HM3 := Lib.hid hm3; have HX3 := Lib.hid ((HXE.out.later (below_drewN (Below.refl _ _) nq)).grown hg3 (by simp; omega)); have HY3 := Lib.hid ((HYE.out.later (below_drewN (Below.refl _ _) nq)).grown hg3 (by simp)); have HB3 := Lib.hid ((below_drewN HBE.out nq).grown hg3 (below_drewN HBE.out nq).size (fun k e => by cases e; omega)); clear hm3 hg3; have p0 := HX3.out.cell 0; have pz := HX3.out.lt; simp only [List.getElem?_cons_zero] at p0; obtain ⟨r0, r1⟩ := (HCM.out.below HB3.out hbb1).c2; dsimp only at r0 r1; have hb1z3 := Nat.lt_of_lt_of_le hbb1 HB3.out.size)
    go_roundw
    case rel => exact ⟨k + 1, by omega, by go_num, by rw [HTS.out], by rw [HTS.out]; omega, by rw [HTS.out]; omega, HB3.out, HX3.out, HY3.out, by
      have h := HM3.out
      have e : (fun z => if z = (x : Int) then some (s, run + t) else useF p run 0 (l.take k) z) = useF p run 0 (l.take (k + 1)) := funext fun z => by rw [HSN.out z, Int.zero_add]
      rwa [e] at h⟩
    case measure => simp [intOf]; omega
end Go.Proofs.YtahpdkkpnkhnhaaGreatDoor
