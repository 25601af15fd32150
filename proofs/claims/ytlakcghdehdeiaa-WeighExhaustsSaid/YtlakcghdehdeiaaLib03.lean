/- Lemmas on the way to the laws (part 3): L M N S U -/
import Derived.Test.YtlakcghdehdeiaaLib02
import Derived.Test.YtlakcghdehdeiaaLib01
set_option linter.unusedVariables false
set_option linter.unusedSimpArgs false

/- Walks: names. -/
namespace Go.Proofs.Ytlakcghdehdeiaa
open Go Go.Proofs Go.RowKit

/-- A letter, a digit, a hyphen, an underscore, a point. -/
def okC (n : Int) : Bool := (decide (97 ≤ n) && decide (n ≤ 122)) || (decide (65 ≤ n) && decide (n ≤ 90)) || (decide (48 ≤ n) && decide (n ≤ 57)) || n == 45 || n == 95 || n == 46
theorem okC_true {n : Int} (h : (97 ≤ n ∧ n ≤ 122) ∨ (65 ≤ n ∧ n ≤ 90) ∨ (48 ≤ n ∧ n ≤ 57) ∨ n = 45 ∨ n = 95 ∨ n = 46) : okC n = true := by
  simp only [okC, Bool.or_eq_true, Bool.and_eq_true, decide_eq_true_eq, beq_iff_eq]; omega
theorem okC_false {n : Int} (h : ¬((97 ≤ n ∧ n ≤ 122) ∨ (65 ≤ n ∧ n ≤ 90) ∨ (48 ≤ n ∧ n ≤ 57) ∨ n = 45 ∨ n = 95 ∨ n = 46)) : okC n = false := by
  rw [Bool.eq_false_iff]; intro h2; apply h
  simp only [okC, Bool.or_eq_true, Bool.and_eq_true, decide_eq_true_eq, beq_iff_eq] at h2; omega
def okB (c : UInt8) : Bool := okC (c.toNat : Int)
def isName (s : ByteArray) : Bool := decide (1 ≤ s.size) && decide (s.size ≤ 24) && s.data.toList.all okB
theorem name_all_drop (s : ByteArray) (k : Nat) (h : k < s.size) : (s.data.toList.drop k).all okB = (okB s[k] && (s.data.toList.drop (k + 1)).all okB) := by
  rw [List.drop_eq_getElem_cons (by simpa using h)]
  rfl
set_option maxHeartbeats 1000000 in
theorem isName89 (s : ByteArray) (w : World) (hs : s.size ≤ 9223372036854775807) : Calls Try.prog 89 #[.string s] w fun e w' => e = .returned (.bool (isName s)) ∧ w = w' := by
  obtain ⟨R, hR⟩ : ∃ R, isName s = R := ⟨_, rfl⟩
  rw [hR]
  have HR := Lib.hid hR
  clear hR
  go_enter Try.func89, Try.ntmps89
  by_cases h0 : s.size < 1
  · go_wp2_with fail
    go_ret
    exact ⟨ret_bool (by rw [← HR.out]; unfold isName; simp; omega), rfl⟩
  by_cases h1 : 24 < s.size
  · go_wp2_with fail
    go_ret
    exact ⟨ret_bool (by rw [← HR.out]; unfold isName; simp; omega), rfl⟩
  go_wp2_with fail
  have HR1 : Hid (s.data.toList.all okB = R) := by
    have := HR.out
    unfold isName at this
    rw [decide_eq_true (by omega), decide_eq_true (by omega)] at this
    exact this
  go_loop [3] (fun i => ∃ k : Nat, k ≤ s.size ∧ i = .int .i64 k ∧ (s.data.toList.drop k).all okB = R) (fun i => s.size - (intOf i).toNat)
  case atStart => exact ⟨0, by omega, rfl, HR1.out⟩
  case round =>
    obtain ⟨k, hk, rfl, hrel⟩ := hrel
    clear HR1
    have HL := Lib.hid hrel
    clear hrel
    by_cases hlt : k < s.size
    · have hd := Lib.hid (name_all_drop s k hlt)
      have hc : s[k].toNat < 256 := s[k].toNat_lt
      by_cases hok : okB s[k] = true
      · have hok' : (97 ≤ (s[k].toNat : Int) ∧ (s[k].toNat : Int) ≤ 122) ∨ (65 ≤ (s[k].toNat : Int) ∧ (s[k].toNat : Int) ≤ 90) ∨ (48 ≤ (s[k].toNat : Int) ∧ (s[k].toNat : Int) ≤ 57) ∨ (s[k].toNat : Int) = 45 ∨ (s[k].toNat : Int) = 95 ∨ (s[k].toNat : Int) = 46 := by
          simp only [okB, okC, Bool.or_eq_true, Bool.and_eq_true, decide_eq_true_eq, beq_iff_eq] at hok; omega
        have HN : Hid ((s.data.toList.drop (k + 1)).all okB = R) := by have h := HL.out; rw [hd.out, hok, Bool.true_and] at h; exact h
        clear hok
        rcases hok' with ⟨h2, h3⟩ | ⟨h2, h3⟩ | ⟨h2, h3⟩ | h2 | h2 | h2
        · go_wp2_with fail
          go_round
          case rel => exact ⟨k + 1, by omega, by go_num, HN.out⟩
          case measure => simp [intOf]; omega
        · go_wp2_with fail
          go_round
          case rel => exact ⟨k + 1, by omega, by go_num, HN.out⟩
          case measure => simp [intOf]; omega
        · go_wp2_with fail
          go_round
          case rel => exact ⟨k + 1, by omega, by go_num, HN.out⟩
          case measure => simp [intOf]; omega
        · go_wp2_with fail
          go_round
          case rel => exact ⟨k + 1, by omega, by go_num, HN.out⟩
          case measure => simp [intOf]; omega
        · go_wp2_with fail
          go_round
          case rel => exact ⟨k + 1, by omega, by go_num, HN.out⟩
          case measure => simp [intOf]; omega
        · go_wp2_with fail
          go_round
          case rel => exact ⟨k + 1, by omega, by go_num, HN.out⟩
          case measure => simp [intOf]; omega
      · have hok' : (123 ≤ (s[k].toNat : Int)) ∨ (91 ≤ (s[k].toNat : Int) ∧ (s[k].toNat : Int) ≤ 94) ∨ (58 ≤ (s[k].toNat : Int) ∧ (s[k].toNat : Int) ≤ 64) ∨ (47 ≤ (s[k].toNat : Int) ∧ (s[k].toNat : Int) ≤ 47) ∨ (96 ≤ (s[k].toNat : Int) ∧ (s[k].toNat : Int) ≤ 96) ∨ ((s[k].toNat : Int) ≤ 44) := by
          simp only [okB, okC, Bool.or_eq_true, Bool.and_eq_true, decide_eq_true_eq, beq_iff_eq] at hok; omega
        have hok := (Bool.not_eq_true _).mp hok
        have HOK := Lib.hid hok
        clear hok
        have e1 : ((s[k].toNat : Int) == 45) = false := beq_eq_false_iff_ne.2 (by omega)
        have e2 : ((s[k].toNat : Int) == 95) = false := beq_eq_false_iff_ne.2 (by omega)
        have e3 : ((s[k].toNat : Int) == 46) = false := beq_eq_false_iff_ne.2 (by omega)
        have HF : Hid (false = R) := by have h := HL.out; rw [hd.out, HOK.out, Bool.false_and] at h; exact h
        rcases hok' with h2 | ⟨h2, h3⟩ | ⟨h2, h3⟩ | ⟨h2, h3⟩ | ⟨h2, h3⟩ | h2
        all_goals go_wp2_with fail
        all_goals first | (go_ret; exact ⟨ret_bool HF.out, rfl⟩) | (exfalso; simp only [Bool.not_eq_false', decide_eq_true_eq, Bool.not_eq_eq_eq_not, Bool.not_false] at *; omega)
    · obtain rfl : s.size = k := by omega
      go_wp2_with fail
      go_ret
      exact ⟨ret_bool (by rw [← HL.out, List.drop_of_length_le (by simp)]; rfl), rfl⟩
end Go.Proofs.Ytlakcghdehdeiaa

/- Walks: names, by the program. -/
namespace Go.Proofs.Ytlakcghdehdeiaa
open Go Go.Proofs Go.RowKit

theorem below_iter (w : World) (s : ByteArray) (p : Nat) : Below w.heap.size w (w.iter s p) := (Below.refl _ _).alloc (Nat.le_refl _) _
set_option maxHeartbeats 1000000 in
theorem isName69 (s : ByteArray) (w : World) (hs : s.size ≤ 9223372036854775807) : Calls Try.prog 69 #[.string s] w (Ret (.bool (isName s)) w) := by
  obtain ⟨R, hR⟩ : ∃ R, isName s = R := ⟨_, rfl⟩
  rw [hR]
  have HR := Lib.hid hR
  clear hR
  go_enter Try.func69, Try.ntmps69
  go_wp2_with fail
  go_loopw [4] (fun _ wr => ∃ k : Nat, k ≤ s.size ∧ wr = w.iter s k ∧ s.data.toList.all okB = (s.data.toList.drop k).all okB) (fun _ wr => s.size - wr.iterPos w.heap.size)
  case atStart => exact ⟨0, by omega, rfl, rfl⟩
  case round =>
    obtain ⟨k, hk, rfl, hrel⟩ := hrel
    have HL := Lib.hid hrel
    clear hrel
    by_cases hlt : k < s.size
    · have hd := Lib.hid (name_all_drop s k hlt)
      by_cases hok : okB s[k] = true
      · have HN : Hid (s.data.toList.all okB = (s.data.toList.drop (k + 1)).all okB) := by have h := HL.out; rw [hd.out, hok, Bool.true_and] at h; exact h
        have hok' : (97 ≤ (s[k].toNat : Int) ∧ (s[k].toNat : Int) ≤ 122) ∨ (65 ≤ (s[k].toNat : Int) ∧ (s[k].toNat : Int) ≤ 90) ∨ (48 ≤ (s[k].toNat : Int) ∧ (s[k].toNat : Int) ≤ 57) ∨ (s[k].toNat : Int) = 45 ∨ (s[k].toNat : Int) = 95 ∨ (s[k].toNat : Int) = 46 := by
          simp only [okB, okC, Bool.or_eq_true, Bool.and_eq_true, decide_eq_true_eq, beq_iff_eq] at hok; omega
        clear hok
        have hnx := fun ty => run_next_ascii (P := Try.prog) w s k ty hlt (by omega)
        generalize (s[k].toNat : Int) = c at *
        rcases hok' with ⟨h2, h3⟩ | ⟨h2, h3⟩ | ⟨h2, h3⟩ | h2 | h2 | h2
        all_goals go_wp2_with fail
        all_goals go_roundw
        all_goals first | exact ⟨k + 1, by omega, rfl, HN.out⟩ | (simp only [World.iterPos_iter]; omega)
      · have HF : Hid (s.data.toList.all okB = false) := by have h := HL.out; rw [hd.out, (Bool.not_eq_true _).mp hok, Bool.false_and] at h; exact h
        have hbad : ∃ (c : Int) (p : Nat), (123 ≤ c ∨ (91 ≤ c ∧ c ≤ 94) ∨ (58 ≤ c ∧ c ≤ 64) ∨ c = 47 ∨ c = 96 ∨ c ≤ 44) ∧ ∀ ty, (Instr.next (.pointer (some ⟨w.heap.size, 0, none⟩)) true ty).run Try.prog (w.iter s k) = .ok (.tuple #[.bool true, .int .i64 k, .int .i32 c]) (w.iter s p) := by
          by_cases ha : s[k].toNat < 128
          · refine ⟨(s[k].toNat : Int), k + 1, ?_, fun ty => run_next_ascii (P := Try.prog) w s k ty hlt ha⟩
            simp only [okB, okC, Bool.or_eq_true, Bool.and_eq_true, decide_eq_true_eq, beq_iff_eq] at hok
            omega
          · exact ⟨_, _, .inl (by have := (decode_high s k hlt (by omega)).1; omega), fun ty => run_next_any (P := Try.prog) w s k ty hlt⟩
        clear hok
        obtain ⟨c, p, hc, hnx⟩ := hbad
        have HRF : Hid (R = false) := by have h := HR.out; unfold isName at h; rw [HF.out, Bool.and_false] at h; exact h.symm
        rcases hc with h2 | ⟨h2, h3⟩ | ⟨h2, h3⟩ | h2 | h2 | h2
        all_goals go_wp2_with fail
        all_goals first | (go_ret; exact Ret.mk (congrArg Value.bool HRF.out.symm) (below_iter _ _ _)) | (exfalso; simp only [Bool.not_eq_false', decide_eq_true_eq, bne_eq_false_iff_eq] at *; omega)
    · obtain rfl : s.size = k := by omega
      have HA : Hid (s.data.toList.all okB = true) := by have h := HL.out; rw [List.drop_of_length_le (by simp)] at h; exact h
      have hnx := fun ty => run_next_end (P := Try.prog) w s s.size ty hlt
      go_wp2_with fail
      all_goals
        go_ret
        rw [← HR.out]
        refine Ret.mk (congrArg Value.bool ?_) (below_iter _ _ _)
        unfold isName
        rw [HA.out, Bool.and_true, Bool.eq_iff_iff]
        simp only [Bool.and_eq_true, decide_eq_true_eq, Bool.false_eq_true, false_iff]
        omega
end Go.Proofs.Ytlakcghdehdeiaa

/- Books: how they are read; the errors of a book, by the reference. -/
namespace Go.Proofs.Ytlakcghdehdeiaa
open Go Go.Proofs Go.RowKit

structure Tk where
  id : ByteArray
  fr : Int
  to : Int
  m : Rg
def Tk.enc (t : Tk) : List Value := [.string t.id, .int .i64 t.fr, .int .i64 t.to, .int .i64 t.m.lo, .int .i64 t.m.hi]
theorem Tk.enc_len (t : Tk) : t.enc.length = 5 := rfl
structure Bk where
  st : List Rg
  ts : List Tk
/-- A book as the two slices it consists of. -/
structure BkR (w : World) (B : Nat) (v1 v2 : Value) (b : Bk) : Prop where
  st : Sl Rg.enc 2 w B v1 b.st
  ts : Sl Tk.enc 5 w B v2 b.ts
  ids : ∀ t ∈ b.ts, t.id.size ≤ 9223372036854775807
theorem BkR.later {w w' : World} {v1 v2 : Value} {b : Bk} (h : BkR w w.heap.size v1 v2 b) (hb : Below w.heap.size w w') : BkR w' w'.heap.size v1 v2 b := ⟨h.st.later hb, h.ts.later hb, h.ids⟩

def badPl (n : Nat) (p : Int) : Bool := decide (p < -1) || decide ((n : Int) ≤ p)
def ckTk (b : Bk) (i : Nat) (t : Tk) : Int :=
  if isName t.id = false then 8 else if (b.ts.take i).any (fun x => x.id.toList == t.id.toList) then 9 else if badPl b.st.length t.fr || badPl b.st.length t.to then 10 else if t.fr = t.to then 1 else ckMass t.m

set_option maxHeartbeats 1000000 in
theorem ckTk67 (v1 v2 : Value) (b : Bk) (i : Nat) (t : Tk) (w : World) (hv : BkR w w.heap.size v1 v2 b) (hi : b.ts[i]? = some t) :
    Calls Try.prog 67 #[.agg #[v1, v2], .int .i64 i] w (Ret (.int .i64 (ckTk b i t)) w) := by
  obtain ⟨⟨a1, c1, rfl, hl1, hA1⟩, ⟨a2, c2, rfl, hl2, hA2⟩, hids⟩ := hv
  obtain ⟨hil, hit⟩ := List.getElem?_eq_some_iff.1 hi
  have hsz := hids t (List.mem_of_getElem? hi)
  obtain ⟨bb, off, rfl, hbb, hcells⟩ := hA2 (by omega)
  obtain ⟨k0, k1, k2, k3, k4⟩ := (hcells i hil).c5
  rw [hit] at k0 k1 k2 k3 k4
  have HC := Lib.hid hcells
  clear hcells
  obtain ⟨R, hR⟩ : ∃ R, ckTk b i t = R := ⟨_, rfl⟩
  rw [hR]
  have HR := Lib.hid hR
  clear hR
  clear hA1 hA2 hids hit hi
  have hN := isName89 t.id
  obtain ⟨x, hx⟩ : ∃ x, isName t.id = x := ⟨_, rfl⟩
  rw [hx] at hN
  have HX := Lib.hid hx
  clear hx
  have HN := Lib.hid hN
  clear hN
  obtain ⟨tid, tfr, tto, tlo, thi⟩ := t
  dsimp only at *
  go_enter Try.func67, Try.ntmps67
  cases x
  · go_wp2_with (go_at_call 89; refine (HN.out _ hsz).mono ?_; rintro e w' ⟨rfl, rfl⟩)
    go_ret
    refine Ret.mk (by rw [← HR.out]; unfold ckTk; rw [if_pos HX.out]; rfl) ?_
    repeat (first | exact Below.refl _ _ | exact Below.refl _ _ | refine Below.setCell ?_ (by first | (dsimp only; omega) | (simp; done) | (simp; omega)) _ | refine Below.alloc ?_ (by first | omega | (simp; done) | (simp; omega)) _ | refine Below.drew ?_)
  go_wp2_with (go_at_call 89; refine (HN.out _ hsz).mono ?_; rintro e w' ⟨rfl, rfl⟩)
  have W2 : Below w.heap.size w ((w.alloc (.cells #[.slice a1 b.st.length c1, .slice (some ⟨bb, off, none⟩) b.ts.length c2] 38)).alloc (.cells #[.string tid, .int .i64 tfr, .int .i64 tto, .int .i64 tlo, .int .i64 thi] 53)) := ((Below.refl _ _).alloc (Nat.le_refl _) _).alloc (by simp) _
  have HW2 := Lib.hid W2
  clear W2
  go_loopw [6] (fun j wr => ∃ k : Nat, k ≤ i ∧ j = .int .i64 k ∧ Below w.heap.size w wr ∧ Box wr w.heap.size 38 [.slice a1 b.st.length c1, .slice (some ⟨bb, off, none⟩) b.ts.length c2] ∧
      Box wr (w.heap.size + 1) 53 [.string tid, .int .i64 tfr, .int .i64 tto, .int .i64 tlo, .int .i64 thi] ∧ (b.ts.take k).any (fun x => x.id.toList == tid.toList) = false) (fun j _ => i - (intOf j).toNat)
  case atStart =>
    refine ⟨0, by omega, rfl, HW2.out, (Box.newAt _ _ _ rfl).alloc _, Box.newAt _ _ _ (by simp), by simp⟩
  case round =>
    obtain ⟨k, hk, rfl, hbe, hx0, hx1, hany⟩ := hrel
    have HY := Lib.hid hany
    clear hany
    by_cases hlt : k < i
    · have hkl : k < b.ts.length := by omega
      obtain ⟨c0, -, -, -, -⟩ := ((HC.out k hkl).below hbe hbb).c5
      have hz := hbe.size
      have hbz : bb < wr.heap.size := by omega
      have d0 := hx0.cell 0
      have d1 := hx0.cell 1
      have dz := hx0.lt
      have e0 := hx1.cell 0
      have ez := hx1.lt
      simp only [List.getElem?_cons_zero, List.getElem?_cons_succ] at d0 d1 e0
      have hst := any_take_snoc b.ts (fun x => x.id.toList == tid.toList) k _ (List.getElem?_eq_getElem hkl)
      rw [HY.out, Bool.false_or] at hst
      have hany2 := fun (h : (b.ts[k].id.toList == tid.toList) = true) => any_of_get (b.ts.take i) (fun x => x.id.toList == tid.toList) k b.ts[k] (by rw [List.getElem?_take, if_pos hlt]; exact List.getElem?_eq_getElem hkl) h
      have HST := Lib.hid hst
      clear hst
      have HA2 := Lib.hid hany2
      clear hany2
      generalize b.ts[k] = t' at *
      obtain ⟨y, hy⟩ : ∃ y, (t'.id.toList == tid.toList) = y := ⟨_, rfl⟩
      rw [hy] at HST HA2
      cases y
      · go_wp2_with fail
        refine wp_region_later (by kernel_rfl) (by kernel_rfl) ?_
        repeat go_big_quiet_step (fail)
        refine wpQuiet_nil ?_
        rintro w2 ⟨⟨_, hb2⟩, rfl⟩
        go_wp2_with fail
        go_roundw
        case rel => exact ⟨k + 1, by omega, by go_num, hbe.trans (hb2.mono hbe.size), hx0.later hb2, hx1.later hb2, HST.out⟩
        case measure => simp [intOf]; omega
      · go_wp2_with fail
        refine wp_region_later (by kernel_rfl) (by kernel_rfl) ?_
        repeat go_big_quiet_step (fail)
        refine wpQuiet_nil ?_
        rintro w2 ⟨⟨_, hb2⟩, rfl⟩
        go_wp2_with fail
        go_ret
        refine Ret.mk ?_ (hbe.trans (hb2.mono hbe.size))
        rw [← HR.out]
        unfold ckTk
        rw [HX.out, if_neg (by decide), if_pos (HA2.out trivial)]
        rfl
    · obtain rfl : k = i := by omega
      clear HC
      have d0 := hx0.cell 0
      have d1 := hx0.cell 1
      have df := hx0.frozen
      have dz := hx0.lt
      have e0 := hx1.cell 0
      have e1 := hx1.cell 1
      have e2 := hx1.cell 2
      have e3 := hx1.cell 3
      have e4 := hx1.cell 4
      have ez := hx1.lt
      simp only [List.getElem?_cons_zero, List.getElem?_cons_succ] at d0 d1 e0 e1 e2 e3 e4
      have HR2 : Hid ((if badPl b.st.length tfr || badPl b.st.length tto then 10 else if tfr = tto then 1 else ckMass ⟨tlo, thi⟩) = R) := by
        have h := HR.out
        unfold ckTk at h
        rw [HX.out, if_neg (by decide), if_neg (by rw [HY.out]; decide)] at h
        exact h
      clear HR HX HY HN
      by_cases p1 : tfr < -1
      · go_wp2_with fail
        go_ret
        refine Ret.mk ?_ hbe
        rw [← HR2.out]; simp [badPl, p1]
      by_cases p2 : (b.st.length : Int) ≤ tfr
      · go_wp2_with fail
        go_ret
        refine Ret.mk ?_ hbe
        rw [← HR2.out]; simp [badPl, p2]
      by_cases p3 : tto < -1
      · go_wp2_with fail
        go_ret
        refine Ret.mk ?_ hbe
        rw [← HR2.out]; simp [badPl, p3]
      by_cases p4 : (b.st.length : Int) ≤ tto
      · go_wp2_with fail
        go_ret
        refine Ret.mk ?_ hbe
        rw [← HR2.out]; simp [badPl, p4]
      have HR3 : Hid ((if tfr = tto then 1 else ckMass ⟨tlo, thi⟩) = R) := by
        have h := HR2.out
        rw [if_neg (by simp [badPl]; omega)] at h
        exact h
      by_cases p5 : tfr = tto
      · go_wp2_with fail
        go_ret
        refine Ret.mk ?_ hbe
        rw [← HR3.out, if_pos p5]; rfl
      have HR4 : Hid (ckMass ⟨tlo, thi⟩ = R) := by have h := HR3.out; rw [if_neg p5] at h; exact h
      go_wp2_with (go_at_call 55; refine (ckMass55 ⟨_, _⟩ _).mono ?_; rw [HR4.out]; rintro e w3 ⟨rfl, hb3⟩)
      go_ret
      exact Ret.mk rfl (hbe.trans (hb3.mono hbe.size))

def ckTksL (b : Bk) : Nat → List Tk → Int
  | _, [] => 0
  | i, t :: l => if ckTk b i t = 0 then ckTksL b (i + 1) l else ckTk b i t
theorem ckTksL_drop (b : Bk) (k : Nat) (h : k < b.ts.length) : ckTksL b k (b.ts.drop k) = if ckTk b k b.ts[k] = 0 then ckTksL b (k + 1) (b.ts.drop (k + 1)) else ckTk b k b.ts[k] := by
  rw [List.drop_eq_getElem_cons h]; rfl
def ckRgs : List Rg → Int
  | [] => 0
  | r :: l => if ckRange r = 0 then ckRgs l else ckRange r
theorem ckRgs_drop (l : List Rg) (k : Nat) (h : k < l.length) : ckRgs (l.drop k) = if ckRange l[k] = 0 then ckRgs (l.drop (k + 1)) else ckRange l[k] := by
  rw [List.drop_eq_getElem_cons h]; rfl
def ckBook (b : Bk) : Int := if 32 < b.st.length then 5 else if ckRgs b.st ≠ 0 then ckRgs b.st else if 128 < b.ts.length then 5 else ckTksL b 0 b.ts
set_option maxHeartbeats 1000000 in
theorem ckBook24 (v1 v2 : Value) (b : Bk) (w : World) (hv : BkR w w.heap.size v1 v2 b) :
    Calls Try.prog 24 #[.agg #[v1, v2]] w (Ret (.int .i64 (ckBook b)) w) := by
  have H67 := Lib.hid (fun (w' : World) (hb : Below w.heap.size w w') i t (hi : b.ts[i]? = some t) => ckTk67 v1 v2 b i t w' (hv.later hb) hi)
  obtain ⟨⟨a1, c1, rfl, hl1, hA1⟩, ⟨a2, c2, rfl, hl2, hA2⟩, hids⟩ := hv
  have HA1 := Lib.hid hA1
  clear hA1
  clear hA2 hids
  obtain ⟨R, hR⟩ : ∃ R, ckBook b = R := ⟨_, rfl⟩
  rw [hR]
  have HR := Lib.hid hR
  clear hR
  have W1 : Below w.heap.size w (w.alloc (.cells #[.slice a1 b.st.length c1, .slice a2 b.ts.length c2] 38)) := (Below.refl _ _).alloc (Nat.le_refl _) _
  have HW1 := Lib.hid W1
  clear W1
  go_enter Try.func24, Try.ntmps24
  by_cases h1 : 32 < b.st.length
  · go_wp2_with fail
    go_ret
    exact Ret.mk (by rw [← HR.out]; unfold ckBook; rw [if_pos h1]; rfl) HW1.out
  go_wp2_with fail
  obtain ⟨S, hS⟩ : ∃ S, ckRgs b.st = S := ⟨_, rfl⟩
  have HR1 : Hid ((if S ≠ 0 then S else if 128 < b.ts.length then 5 else ckTksL b 0 b.ts) = R) := by
    have h := HR.out
    unfold ckBook at h
    rw [if_neg h1, hS] at h
    exact h
  have HS := Lib.hid hS
  clear hS
  clear HR
  go_loopw [3] (fun j wr => ∃ k : Nat, k ≤ b.st.length ∧ j = .int .i64 k ∧ Below w.heap.size w wr ∧ Box wr w.heap.size 38 [.slice a1 b.st.length c1, .slice a2 b.ts.length c2] ∧ ckRgs (b.st.drop k) = S) (fun j _ => b.st.length - (intOf j).toNat)
  case atStart => exact ⟨0, by omega, rfl, HW1.out, Box.newAt _ _ _ rfl, HS.out⟩
  case round =>
    obtain ⟨k, hk, rfl, hbe, hx0, hrel⟩ := hrel
    have HL := Lib.hid hrel
    clear hrel
    clear HS
    have d0 := hx0.cell 0
    have d1 := hx0.cell 1
    have dz := hx0.lt
    simp only [List.getElem?_cons_zero, List.getElem?_cons_succ] at d0 d1
    by_cases hlt : k < b.st.length
    · obtain ⟨bb, off, rfl, hbb, hcells⟩ := HA1.out (by omega)
      obtain ⟨e0, e1⟩ := ((hcells k hlt).below hbe hbb).c2
      clear hcells HA1
      have hd := Lib.hid (ckRgs_drop b.st k hlt)
      generalize b.st[k] = x at *
      have hcall := ckRange20 x
      obtain ⟨n, hn⟩ : ∃ n, ckRange x = n := ⟨_, rfl⟩
      rw [hn] at hd hcall
      have HC := Lib.hid hcall
      clear hcall
      clear hn
      by_cases hn0 : n = 0
      · go_wp2_with (go_at_call 20; refine (HC.out _).mono ?_; rintro e w3 ⟨rfl, hb3⟩)
        go_roundw
        case rel => exact ⟨k + 1, by omega, by go_num, hbe.trans (hb3.mono hbe.size), hx0.later hb3, by rw [← HL.out, hd.out, if_pos hn0]⟩
        case measure => simp [intOf]; omega
      · go_wp2_with (go_at_call 20; refine (HC.out _).mono ?_; rintro e w3 ⟨rfl, hb3⟩)
        go_ret
        refine Ret.mk ?_ (hbe.trans (hb3.mono hbe.size))
        have h2 := HL.out
        rw [hd.out, if_neg hn0] at h2
        have h3 := HR1.out
        rw [← h2, if_pos hn0] at h3
        rw [← h3]; rfl
    · obtain rfl : b.st.length = k := by omega
      have hS0 : S = 0 := by have h := HL.out; rw [List.drop_length] at h; exact h.symm
      have HR2 : Hid ((if 128 < b.ts.length then 5 else ckTksL b 0 b.ts) = R) := by have h := HR1.out; rw [if_neg (by simp [hS0])] at h; exact h
      clear HR1 HL hS0
      by_cases h2 : 128 < b.ts.length
      · go_wp2_with fail
        go_ret
        exact Ret.mk (by rw [← HR2.out, if_pos h2]; rfl) hbe
      have HR3 : Hid (ckTksL b 0 b.ts = R) := by have h := HR2.out; rw [if_neg h2] at h; exact h
      clear HR2
      go_wp2_with fail
      clear d0 d1
      go_loopw [5] (fun j wr => ∃ k : Nat, k ≤ b.ts.length ∧ j = .int .i64 k ∧ Below w.heap.size w wr ∧ Box wr w.heap.size 38 [.slice a1 b.st.length c1, .slice a2 b.ts.length c2] ∧ ckTksL b k (b.ts.drop k) = R) (fun j _ => b.ts.length - (intOf j).toNat)
      case atStart => exact ⟨0, by omega, rfl, hbe, hx0, HR3.out⟩
      case round =>
        clear HR3 hbe hx0 dz
        obtain ⟨k, hk, rfl, hbe, hx0, hrel⟩ := hrel
        have HL := Lib.hid hrel
        clear hrel
        have d0 := hx0.cell 0
        have d1 := hx0.cell 1
        have dz := hx0.lt
        simp only [List.getElem?_cons_zero, List.getElem?_cons_succ] at d0 d1
        by_cases hlt : k < b.ts.length
        · have hd := Lib.hid (ckTksL_drop b k hlt)
          have hcall := H67.out wr hbe k b.ts[k] (List.getElem?_eq_getElem hlt)
          obtain ⟨n, hn⟩ : ∃ n, ckTk b k b.ts[k] = n := ⟨_, rfl⟩
          rw [hn] at hd hcall
          have HC := Lib.hid hcall
          clear hcall
          clear hn
          by_cases hn0 : n = 0
          · go_wp2_with (go_at_call 67; refine HC.out.mono ?_; rintro e w3 ⟨rfl, hb3⟩)
            go_roundw
            case rel => exact ⟨k + 1, by omega, by go_num, hbe.trans (hb3.mono hbe.size), hx0.later hb3, by rw [← HL.out, hd.out, if_pos hn0]⟩
            case measure => simp [intOf]; omega
          · go_wp2_with (go_at_call 67; refine HC.out.mono ?_; rintro e w3 ⟨rfl, hb3⟩)
            go_ret
            refine Ret.mk ?_ (hbe.trans (hb3.mono hbe.size))
            rw [← HL.out, hd.out, if_neg hn0]; rfl
        · obtain rfl : b.ts.length = k := by omega
          go_wp2_with fail
          go_ret
          exact Ret.mk (by rw [← HL.out, List.drop_length]; rfl) hbe
end Go.Proofs.Ytlakcghdehdeiaa

/- Walks: errors of numbers and of books, by the program. -/
namespace Go.Proofs.Ytlakcghdehdeiaa
open Go Go.Proofs Go.RowKit Go.Maps

theorem intLit_key (x : Int) : WideAt.IsKeyLit (intLit x) := trivial
theorem strLit_key (x : List UInt8) : WideAt.IsKeyLit (strLit x) := trivial
theorem lawStr : Keyed Try.prog 9 := string_keyed Try.underlying9
theorem lawInt : Keyed Try.prog 3 := int_keyed Try.underlying3
def dupE (l : List Int) : Int := if l.Nodup then 0 else 9
theorem dupE_snoc (l : List Int) (k : Nat) (h : k < l.length) : dupE (l.take (k + 1)) = if l[k] ∈ (l.take k).reverse then 9 else dupE (l.take k) := by
  unfold dupE
  by_cases h1 : l[k] ∈ l.take k
  · rw [if_neg (fun h2 => ((nodup_snoc l k h).1 h2).2 h1), if_pos (by simpa using h1)]
  · rw [if_neg (show ¬ l[k] ∈ (l.take k).reverse by simpa using h1)]
    by_cases h2 : (l.take k).Nodup
    · rw [if_pos ((nodup_snoc l k h).2 ⟨h2, h1⟩), if_pos h2]
    · rw [if_neg (fun h3 => h2 ((nodup_snoc l k h).1 h3).1), if_neg h2]
set_option maxRecDepth 100000 in
set_option maxHeartbeats 1000000 in
theorem numbers71 (v : Value) (l : List Int) (n : Int) (w : World) (hv : Sl encI 1 w w.heap.size v l) (hn : n ≤ 1000000000) : Calls Try.prog 71 #[v, .int .i64 n] w (Ret (.int .i64 (ckNums l n)) w) := by
  obtain ⟨a, c, rfl, hlen, hA⟩ := hv
  have HA := Lib.hid hA
  clear hA
  obtain ⟨R, hR⟩ : ∃ R, ckNums l n = R := ⟨_, rfl⟩
  rw [hR]
  have HR := Lib.hid hR
  clear hR
  have hmm := @run_makeMap Try.prog
  go_enter Try.func71, Try.ntmps71
  go_wp2_with fail
  clear hmm
  go_loopw [12, 6] (fun i e wr => ∃ k : Nat, k ≤ l.length ∧ i = .int .i64 k ∧ e = .int .i64 (dupE (l.take k)) ∧ Below w.heap.size w wr ∧ SetM intLit Try.prog 3 4 wr w.heap.size (l.take k).reverse ∧ (l.take k).any (outB n) = false) (fun i _ _ => l.length - (intOf i).toNat)
  case atStart => exact ⟨0, by omega, rfl, rfl, (Below.refl _ _).alloc (Nat.le_refl _) _, SetM.made _ _ _ _ _, by simp⟩
  case round =>
    obtain ⟨k, hk, rfl, rfl, hbe, hset, hany⟩ := hrel
    have HN := Lib.hid hany
    clear hany
    by_cases hlt : k < l.length
    · obtain ⟨b, off, rfl, hbb, hcells⟩ := HA.out (by omega)
      have c0 := ((hcells k hlt).below hbe hbb).c1
      rw [Nat.mul_one] at c0
      clear hcells HA
      have hd := Lib.hid (any_take_snoc l (outB n) k _ (List.getElem?_eq_getElem hlt))
      have hm := Lib.hid (List.getElem_mem hlt)
      have hde := Lib.hid (dupE_snoc l k hlt)
      have hts := Lib.hid (take_snoc l k hlt)
      have hlk : (l.take k).reverse.length < maxLen := by have := List.length_take_le k l; simp [maxLen]; omega
      generalize l[k] = y at *
      by_cases h2 : y < 0
      · go_wp2_with fail
        go_ret
        exact Ret.mk (by rw [← HR.out, ckNums_10 (List.any_eq_true.2 ⟨y, hm.out, by simp [outB, h2]⟩)]; rfl) hbe
      · by_cases h3 : n ≤ y
        · go_wp2_with fail
          go_ret
          exact Ret.mk (by rw [← HR.out, ckNums_10 (List.any_eq_true.2 ⟨y, hm.out, by simp [outB, h3]⟩)]; rfl) hbe
        · have e := Lib.hid (show outB n y = false by simp [outB]; omega)
          have hkey : keyOf Try.prog 3 (.int .i64 y) = some (intLit y) := keyOf_int_mk Try.underlying3 (WalkArith.wf_i64 (by omega))
          have HK := Lib.hid hkey
          clear hkey
          have HLK := Lib.hid hlk
          clear hlk
          generalize hD : dupE (l.take k) = d at *
          generalize hLL : (l.take k).reverse = L at *
          have HD := Lib.hid hD
          clear hD
          have HLL := Lib.hid hLL
          clear hLL
          have HS := Lib.hid hset
          clear hset
          by_cases h4 : y ∈ L
          all_goals
            go_wp2_with (first | (at_lookup; refine wpList_look_set (f := intLit) HS.out lawInt Try.underlying119 Try.underlying4 (Try.zeroValue4 _) HK.out rfl _ _ rfl rfl rfl ?_) | (at_mapUpdate; refine wpList_put_set intLit_inj intLit_key HS.out lawInt Try.underlying119 Try.underlying4 HK.out HLK.out rfl _ _ _ rfl rfl rfl rfl ?_; intro w3 hset3 hg3))
            go_roundw
          case rel =>
            refine ⟨k + 1, by omega, by go_num, ?_, hbe.grown hg3 hbe.size (fun j hj => by cases hj; exact Nat.le_refl _), ?_, by rw [hd.out, HN.out, e.out]; rfl⟩
            · rw [hde.out, if_pos h4]
            · rw [hts.out, List.reverse_append, HLL.out]; exact hset3
          case measure => simp [intOf]; omega
          case rel =>
            refine ⟨k + 1, by omega, by go_num, ?_, hbe.grown hg3 hbe.size (fun j hj => by cases hj; exact Nat.le_refl _), ?_, by rw [hd.out, HN.out, e.out]; rfl⟩
            · rw [hde.out, if_neg h4]
            · rw [hts.out, List.reverse_append, HLL.out]; exact hset3
          case measure => simp [intOf]; omega
    · obtain rfl : l.length = k := by omega
      have HO : Hid (l.any (outB n) = false) := by have := HN.out; rw [List.take_length] at this; exact this
      clear HN
      rw [List.take_length] at *
      have HR2 : Hid (dupE l = R) := by
        show dupE l = R
        rw [← HR.out]
        unfold ckNums
        rw [if_neg (by rw [HO.out]; decide)]
        rfl
      generalize dupE l = d at *
      clear hset
      go_wp2_with fail
      go_ret
      exact Ret.mk (by rw [← HR2.out]; rfl) hbe
end Go.Proofs.Ytlakcghdehdeiaa

/- Walks: the error of a book, by the program. -/
namespace Go.Proofs.Ytlakcghdehdeiaa
open Go Go.Proofs Go.RowKit Go.Maps

set_option maxHeartbeats 400000 in
theorem place68 (p : Int) (B : Nat) (a : Option Addr) (n c : Nat) (w : World) (hc : w.cell? ⟨B, 0, none⟩ = some (.slice a n c)) : Calls Try.prog 68 #[.int .i64 p, .pointer (some ⟨B, 0, none⟩)] w fun e w' => e = .returned (.bool (!badPl n p)) ∧ w = w' := by
  by_cases h1 : p < -1
  · go_enter Try.func68, Try.ntmps68
    go_wp2_with fail
    go_ret
    exact ⟨ret_bool (by simp [badPl, h1]), rfl⟩
  by_cases h2 : (n : Int) ≤ p
  · go_enter Try.func68, Try.ntmps68
    go_wp2_with fail
    go_ret
    exact ⟨ret_bool (by simp [badPl, h2]), rfl⟩
  · go_enter Try.func68, Try.ntmps68
    go_wp2_with fail
    go_ret
    exact ⟨ret_bool (by simp [badPl]; omega), rfl⟩

def idsOf (l : List Tk) : List (List UInt8) := (l.map fun t => t.id.data.toList).reverse
theorem idsOf_snoc (l : List Tk) (k : Nat) (h : k < l.length) : idsOf (l.take (k + 1)) = l[k].id.data.toList :: idsOf (l.take k) := by
  unfold idsOf; rw [take_snoc l k h, List.map_append, List.reverse_append]; rfl
theorem keyStr {s : ByteArray} (hs : s.size ≤ maxLen) : keyOf Try.prog 9 (.string s) = some (strLit s.data.toList) := by
  simp [keyOf, Try.underlying9, mapKey, hs, strLit]
theorem idsOf_any (l : List Tk) (t : Tk) : l.any (fun x => x.id.toList == t.id.toList) = decide (t.id.data.toList ∈ idsOf l) := by
  rw [Bool.eq_iff_iff]
  simp only [idsOf, List.any_eq_true, beq_iff_eq, ByteArray.toList_eq, decide_eq_true_eq, List.mem_reverse, List.mem_map]

set_option maxRecDepth 100000 in
set_option maxHeartbeats 1000000 in
theorem ckBook25 (v1 v2 : Value) (b : Bk) (w : World) (hv : BkR w w.heap.size v1 v2 b) :
    Calls Try.prog 25 #[.agg #[v1, v2]] w (Ret (.int .i64 (ckBook b)) w) := by
  obtain ⟨⟨a1, c1, rfl, hl1, hA1⟩, ⟨a2, c2, rfl, hl2, hA2⟩, hids⟩ := hv
  have HA1 := Lib.hid hA1
  clear hA1
  have HA2 := Lib.hid hA2
  clear hA2
  have HIDS := Lib.hid hids
  clear hids
  obtain ⟨R, hR⟩ : ∃ R, ckBook b = R := ⟨_, rfl⟩
  rw [hR]
  have HR := Lib.hid hR
  clear hR
  have W1 : Below w.heap.size w (w.alloc (.cells #[.slice a1 b.st.length c1, .slice a2 b.ts.length c2] 38)) := (Below.refl _ _).alloc (Nat.le_refl _) _
  have HW1 := Lib.hid W1
  clear W1
  go_enter Try.func25, Try.ntmps25
  by_cases h1 : 32 < b.st.length
  · go_wp2_with fail
    go_ret
    exact Ret.mk (by rw [← HR.out]; unfold ckBook; rw [if_pos h1]; rfl) HW1.out
  go_wp2_with fail
  obtain ⟨S, hS⟩ : ∃ S, ckRgs b.st = S := ⟨_, rfl⟩
  have HR1 : Hid ((if S ≠ 0 then S else if 128 < b.ts.length then 5 else ckTksL b 0 b.ts) = R) := by
    have h := HR.out
    unfold ckBook at h
    rw [if_neg h1, hS] at h
    exact h
  have HS := Lib.hid hS
  clear hS
  clear HR
  go_loopw [18] (fun j wr => ∃ k : Nat, k ≤ b.st.length ∧ j = .int .i64 k ∧ Below w.heap.size w wr ∧ Box wr w.heap.size 38 [.slice a1 b.st.length c1, .slice a2 b.ts.length c2] ∧ ckRgs (b.st.drop k) = S) (fun j _ => b.st.length - (intOf j).toNat)
  case atStart => exact ⟨0, by omega, rfl, HW1.out, Box.newAt _ _ _ rfl, HS.out⟩
  case round =>
    obtain ⟨k, hk, rfl, hbe, hx0, hrel⟩ := hrel
    have HL := Lib.hid hrel
    clear hrel
    clear HS
    have d0 := hx0.cell 0
    have d1 := hx0.cell 1
    have dz := hx0.lt
    simp only [List.getElem?_cons_zero, List.getElem?_cons_succ] at d0 d1
    by_cases hlt : k < b.st.length
    · obtain ⟨bb, off, rfl, hbb, hcells⟩ := HA1.out (by omega)
      obtain ⟨e0, e1⟩ := ((hcells k hlt).below hbe hbb).c2
      clear hcells HA1
      have hd := Lib.hid (ckRgs_drop b.st k hlt)
      generalize b.st[k] = x at *
      have hcall := ckRange54 x
      obtain ⟨n, hn⟩ : ∃ n, ckRange x = n := ⟨_, rfl⟩
      rw [hn] at hd hcall
      have HC := Lib.hid hcall
      clear hcall
      clear hn
      have hbx := hbe.alloc hbe.size (.cells #[.int .i64 x.lo, .int .i64 x.hi] 24)
      have hx0' := hx0.alloc (.cells #[.int .i64 x.lo, .int .i64 x.hi] 24)
      have HBX := Lib.hid hbx
      clear hbx
      have HX0 := Lib.hid hx0'
      clear hx0'
      by_cases hn0 : n = 0
      · go_wp2_with (go_at_call 54; refine (HC.out _).mono ?_; rintro e w3 ⟨rfl, hb3⟩)
        go_roundw
        case rel => exact ⟨k + 1, by omega, by go_num, HBX.out.trans (hb3.mono HBX.out.size), HX0.out.later hb3, by rw [← HL.out, hd.out, if_pos hn0]⟩
        case measure => simp [intOf]; omega
      · go_wp2_with (go_at_call 54; refine (HC.out _).mono ?_; rintro e w3 ⟨rfl, hb3⟩)
        go_ret
        refine Ret.mk ?_ (HBX.out.trans (hb3.mono HBX.out.size))
        have h2 := HL.out
        rw [hd.out, if_neg hn0] at h2
        have h3 := HR1.out
        rw [← h2, if_pos hn0] at h3
        rw [← h3]; rfl
    · obtain rfl : b.st.length = k := by omega
      have hS0 : S = 0 := by have h := HL.out; rw [List.drop_length] at h; exact h.symm
      have HR2 : Hid ((if 128 < b.ts.length then 5 else ckTksL b 0 b.ts) = R) := by have h := HR1.out; rw [if_neg (by simp [hS0])] at h; exact h
      clear HR1 HL hS0
      by_cases h2 : 128 < b.ts.length
      · go_wp2_with fail
        go_ret
        exact Ret.mk (by rw [← HR2.out, if_pos h2]; rfl) hbe
      have HR3 : Hid (ckTksL b 0 b.ts = R) := by have h := HR2.out; rw [if_neg h2] at h; exact h
      clear HR2
      have hmm := @run_makeMap Try.prog
      go_wp2_with fail
      clear d0 d1 hmm
      go_loopw [37] (fun j w2 => ∃ k : Nat, k ≤ b.ts.length ∧ j = .int .i64 k ∧ Below w.heap.size w w2 ∧ Box w2 w.heap.size 38 [.slice a1 b.st.length c1, .slice a2 b.ts.length c2] ∧ SetM strLit Try.prog 9 4 w2 wr.heap.size (idsOf (b.ts.take k)) ∧ ckTksL b k (b.ts.drop k) = R) (fun j _ => b.ts.length - (intOf j).toNat)
      case atStart => exact ⟨0, by omega, rfl, hbe.alloc hbe.size _, hx0.alloc _, SetM.made _ _ _ _ _, HR3.out⟩
      case round =>
        have hz0 := hbe.size
        clear HR3 hbe hx0
        obtain ⟨k, hk, rfl, hbe, hx0, hset, hrel⟩ := hrel
        have HL := Lib.hid hrel
        clear hrel
        have d0 := hx0.cell 0
        have d1 := hx0.cell 1
        have dz2 := hx0.lt
        have sz := hset.lt
        simp only [List.getElem?_cons_zero, List.getElem?_cons_succ] at d0 d1
        by_cases hlt : k < b.ts.length
        · obtain ⟨bb, off, rfl, hbb, hcells⟩ := HA2.out (by omega)
          obtain ⟨e0, e1, e2, e3, e4⟩ := ((hcells k hlt).below hbe hbb).c5
          clear hcells HA2
          have hd := Lib.hid (ckTksL_drop b k hlt)
          have hsn := Lib.hid (idsOf_snoc b.ts k hlt)
          have hsz := HIDS.out b.ts[k] (List.getElem_mem hlt)
          have hany := Lib.hid (idsOf_any (b.ts.take k) b.ts[k])
          have hlk : (idsOf (b.ts.take k)).length < maxLen := by have := List.length_take_le k b.ts; simp [maxLen, idsOf]; omega
          have HLK := Lib.hid hlk
          clear hlk
          generalize b.ts[k] = t at *
          obtain ⟨tid, tfr, tto, tlo, thi⟩ := t
          dsimp only at *
          have hkey : keyOf Try.prog 9 (.string tid) = some (strLit tid.data.toList) := keyStr (by simpa [maxLen] using hsz)
          have HK := Lib.hid hkey
          clear hkey
          generalize hLL : idsOf (b.ts.take k) = L at *
          have HLL := Lib.hid hLL
          clear hLL
          have HSET := Lib.hid hset
          clear hset
          obtain ⟨nm, hnm⟩ : ∃ x, isName tid = x := ⟨_, rfl⟩
          have HN := Lib.hid (isName69 tid)
          rw [hnm] at HN
          obtain ⟨R2, hR2⟩ : ∃ n, ckTk b k ⟨tid, tfr, tto, ⟨tlo, thi⟩⟩ = n := ⟨_, rfl⟩
          rw [hR2] at hd
          have HR2 := Lib.hid hR2
          clear hR2
          have HNM := Lib.hid hnm
          clear hnm
          have HSZ := Lib.hid hsz
          have HBX := Lib.hid (hbe.alloc hbe.size (.cells #[.string tid, .int .i64 tfr, .int .i64 tto, .int .i64 tlo, .int .i64 thi] 53))
          have HX0 := Lib.hid (hx0.alloc (.cells #[.string tid, .int .i64 tfr, .int .i64 tto, .int .i64 tlo, .int .i64 thi] 53))
          have HSA := Lib.hid (HSET.out.alloc (.cells #[.string tid, .int .i64 tfr, .int .i64 tto, .int .i64 tlo, .int .i64 thi] 53))
          have HEND : Hid (R2 ≠ 0 → R2 = R) := Lib.hid (fun h => by have h2 := HL.out; rw [hd.out, if_neg h] at h2; exact h2)
          cases nm
          · go_wp2_with (go_at_call 69; refine (HN.out _ HSZ.out).mono ?_; rintro e w3 ⟨rfl, hb3⟩)
            go_ret
            have h8 : 8 = R2 := by rw [← HR2.out]; unfold ckTk; rw [if_pos HNM.out]
            refine Ret.mk ?_ (HBX.out.trans (hb3.mono HBX.out.size))
            rw [← HEND.out (by omega), ← h8]; rfl
          have HY := Lib.hid (Box.new wr #[.string tid, .int .i64 tfr, .int .i64 tto, .int .i64 tlo, .int .i64 thi] 53)
          by_cases hm : tid.data.toList ∈ L
          · go_wp2_with (first | (go_at_call 69; refine (HN.out _ HSZ.out).mono ?_; rintro e w3 ⟨rfl, hb3⟩; have hset3 := Lib.hid (HSA.out.later hb3); have y0 := (HY.out.later hb3).cell 0; simp only [List.getElem?_cons_zero] at y0) | (at_lookup; refine wpList_look_set (f := strLit) hset3.out lawStr Try.underlying87 Try.underlying4 (Try.zeroValue4 _) HK.out rfl _ _ rfl rfl rfl ?_))
            go_ret
            have h9 : 9 = R2 := by rw [← HR2.out]; unfold ckTk; rw [if_neg (by rw [HNM.out]; decide), hany.out, if_pos (by simpa using hm)]
            refine Ret.mk ?_ (HBX.out.trans (hb3.mono HBX.out.size))
            rw [← HEND.out (by omega), ← h9]; rfl
          have HR3 : Hid ((if badPl b.st.length tfr || badPl b.st.length tto then 10 else if tfr = tto then 1 else ckMass ⟨tlo, thi⟩) = R2) := by
            have h := HR2.out
            unfold ckTk at h
            rw [if_neg (by rw [HNM.out]; decide), hany.out, if_neg (by simpa using hm)] at h
            exact h
          obtain ⟨p1, hp1⟩ : ∃ x, badPl b.st.length tfr = x := ⟨_, rfl⟩
          obtain ⟨p2, hp2⟩ : ∃ x, badPl b.st.length tto = x := ⟨_, rfl⟩
          rw [hp1, hp2] at HR3
          cases p1
          cases p2
          by_cases hft : tfr = tto
          · obtain rfl := hft
            go_wp2_with (first | (go_at_call 69; refine (HN.out _ HSZ.out).mono ?_; rintro e w3 ⟨rfl, hb3⟩; have hset3 := Lib.hid (HSA.out.later hb3); have x0 := (HX0.out.later hb3).cell 0; have y0 := (HY.out.later hb3).cell 0; have y1 := (HY.out.later hb3).cell 1; have y2 := (HY.out.later hb3).cell 2; have y3 := (HY.out.later hb3).cell 3; have y4 := (HY.out.later hb3).cell 4; simp only [List.getElem?_cons_zero, List.getElem?_cons_succ] at x0 y0 y1 y2 y3 y4) | (at_lookup; refine wpList_look_set (f := strLit) hset3.out lawStr Try.underlying87 Try.underlying4 (Try.zeroValue4 _) HK.out rfl _ _ rfl rfl rfl ?_) | (go_at_call 68; refine (place68 _ _ _ _ _ _ x0).mono ?_; rintro e w4 ⟨rfl, rfl⟩))
            go_ret
            have h1 : 1 = R2 := by rw [← HR3.out]; simp
            refine Ret.mk ?_ (HBX.out.trans (hb3.mono HBX.out.size))
            rw [← HEND.out (by omega), ← h1]; rfl
          · obtain ⟨n, hn⟩ : ∃ n, ckMass ⟨tlo, thi⟩ = n := ⟨_, rfl⟩
            have HM := Lib.hid (ckMass70 ⟨tlo, thi⟩)
            rw [hn] at HM HR3
            have HRn : Hid (n = R2) := by rw [← HR3.out, if_neg (by decide), if_neg hft]; exact Lib.hid rfl
            by_cases hn0 : n = 0
            · go_wp2_with (first | (go_at_call 69; refine (HN.out _ HSZ.out).mono ?_; rintro e w3 ⟨rfl, hb3⟩; have hset3 := Lib.hid (HSA.out.later hb3); have x0 := (HX0.out.later hb3).cell 0; have y0 := (HY.out.later hb3).cell 0; have y1 := (HY.out.later hb3).cell 1; have y2 := (HY.out.later hb3).cell 2; have y3 := (HY.out.later hb3).cell 3; have y4 := (HY.out.later hb3).cell 4; simp only [List.getElem?_cons_zero, List.getElem?_cons_succ] at x0 y0 y1 y2 y3 y4) | (at_lookup; refine wpList_look_set (f := strLit) hset3.out lawStr Try.underlying87 Try.underlying4 (Try.zeroValue4 _) HK.out rfl _ _ rfl rfl rfl ?_) | (go_at_call 68; refine (place68 _ _ _ _ _ _ x0).mono ?_; rintro e w4 ⟨rfl, rfl⟩) | (go_at_call 70; refine (HM.out _).mono ?_; rintro e w5 ⟨rfl, hb5⟩; have hset5 := Lib.hid (hset3.out.later hb5); have z0 := ((HY.out.later hb3).later hb5).cell 0; simp only [List.getElem?_cons_zero] at z0) | (at_mapUpdate; refine wpList_put_set strLit_inj strLit_key hset5.out lawStr Try.underlying87 Try.underlying4 HK.out HLK.out rfl _ _ _ rfl rfl rfl rfl ?_; intro w6 hset6 hg6))
              go_roundw
              case rel =>
                have b5 := (HBX.out.trans (hb3.mono HBX.out.size)).trans (hb5.mono (HBX.out.trans (hb3.mono HBX.out.size)).size)
                refine ⟨k + 1, by omega, by go_num, b5.grown hg6 b5.size (fun j hj => by cases hj; omega), ((HX0.out.later hb3).later hb5).kept hg6 (by simp; omega), ?_, ?_⟩
                · rw [hsn.out]; exact hset6
                · have h2 := HL.out
                  rw [hd.out, if_pos (by rw [← HRn.out]; exact hn0)] at h2
                  exact h2
              case measure => simp [intOf]; omega
            · go_wp2_with (first | (go_at_call 69; refine (HN.out _ HSZ.out).mono ?_; rintro e w3 ⟨rfl, hb3⟩; have hset3 := Lib.hid (HSA.out.later hb3); have x0 := (HX0.out.later hb3).cell 0; have y0 := (HY.out.later hb3).cell 0; have y1 := (HY.out.later hb3).cell 1; have y2 := (HY.out.later hb3).cell 2; have y3 := (HY.out.later hb3).cell 3; have y4 := (HY.out.later hb3).cell 4; simp only [List.getElem?_cons_zero, List.getElem?_cons_succ] at x0 y0 y1 y2 y3 y4) | (at_lookup; refine wpList_look_set (f := strLit) hset3.out lawStr Try.underlying87 Try.underlying4 (Try.zeroValue4 _) HK.out rfl _ _ rfl rfl rfl ?_) | (go_at_call 68; refine (place68 _ _ _ _ _ _ x0).mono ?_; rintro e w4 ⟨rfl, rfl⟩) | (go_at_call 70; refine (HM.out _).mono ?_; rintro e w5 ⟨rfl, hb5⟩; have hset5 := Lib.hid (hset3.out.later hb5); have z0 := ((HY.out.later hb3).later hb5).cell 0; simp only [List.getElem?_cons_zero] at z0))
              go_ret
              refine Ret.mk ?_ ((HBX.out.trans (hb3.mono HBX.out.size)).trans (hb5.mono (HBX.out.trans (hb3.mono HBX.out.size)).size))
              rw [← HEND.out (by rw [← HRn.out]; exact hn0), ← HRn.out]; rfl
          · go_wp2_with (first | (go_at_call 69; refine (HN.out _ HSZ.out).mono ?_; rintro e w3 ⟨rfl, hb3⟩; have hset3 := Lib.hid (HSA.out.later hb3); have x0 := (HX0.out.later hb3).cell 0; have y0 := (HY.out.later hb3).cell 0; have y1 := (HY.out.later hb3).cell 1; have y2 := (HY.out.later hb3).cell 2; have y3 := (HY.out.later hb3).cell 3; have y4 := (HY.out.later hb3).cell 4; simp only [List.getElem?_cons_zero, List.getElem?_cons_succ] at x0 y0 y1 y2 y3 y4) | (at_lookup; refine wpList_look_set (f := strLit) hset3.out lawStr Try.underlying87 Try.underlying4 (Try.zeroValue4 _) HK.out rfl _ _ rfl rfl rfl ?_) | (go_at_call 68; refine (place68 _ _ _ _ _ _ x0).mono ?_; rintro e w4 ⟨rfl, rfl⟩))
            go_ret
            have h10 : 10 = R2 := by rw [← HR3.out]; simp
            refine Ret.mk ?_ (HBX.out.trans (hb3.mono HBX.out.size))
            rw [← HEND.out (by omega), ← h10]; rfl
          · go_wp2_with (first | (go_at_call 69; refine (HN.out _ HSZ.out).mono ?_; rintro e w3 ⟨rfl, hb3⟩; have hset3 := Lib.hid (HSA.out.later hb3); have x0 := (HX0.out.later hb3).cell 0; have y0 := (HY.out.later hb3).cell 0; have y1 := (HY.out.later hb3).cell 1; have y2 := (HY.out.later hb3).cell 2; have y3 := (HY.out.later hb3).cell 3; have y4 := (HY.out.later hb3).cell 4; simp only [List.getElem?_cons_zero, List.getElem?_cons_succ] at x0 y0 y1 y2 y3 y4) | (at_lookup; refine wpList_look_set (f := strLit) hset3.out lawStr Try.underlying87 Try.underlying4 (Try.zeroValue4 _) HK.out rfl _ _ rfl rfl rfl ?_) | (go_at_call 68; refine (place68 _ _ _ _ _ _ x0).mono ?_; rintro e w4 ⟨rfl, rfl⟩))
            go_ret
            have h10 : 10 = R2 := by rw [← HR3.out]; simp
            refine Ret.mk ?_ (HBX.out.trans (hb3.mono HBX.out.size))
            rw [← HEND.out (by omega), ← h10]; rfl
        · obtain rfl : b.ts.length = k := by omega
          go_wp2_with fail
          go_ret
          have h2 := HL.out
          rw [List.drop_length] at h2
          exact Ret.mk (by rw [← h2]; rfl) hbe
end Go.Proofs.Ytlakcghdehdeiaa
