/- Lemmas on the way to the law TopOneGrain (part 12): NGi Xb YBf -/
import Derived.Test.YtpafjhjpchdcdaaGreatDoorTopOneGrainP11
import Derived.Shelf.Strings.SlTrimAscii
import Derived.Test.YtpafjhjpchdcdaaGreatDoorTopOneGrainP08
import Derived.Test.YtpafjhjpchdcdaaGreatDoorTopOneGrainP10
set_option linter.unusedVariables false
set_option linter.unusedSimpArgs false

/- Walks: measure.Check at whole numbers. -/
namespace Go.Proofs.YtpafjhjpchdcdaaGreatDoor.Nu
open Go Go.Proofs Go.RowKit Go.Proofs.YtpafjhjpchdcdaaGreatDoor
theorem tx_toList (l : List UInt8) : (tx l).toList = l := by rw [Lib.toList_data, tx_list]
theorem tx_beq (l m : List UInt8) : ((tx l).toList == m) = decide (l = m) := by
  rw [tx_toList]
  by_cases h : l = m
  · subst h; simp
  · rw [decide_eq_false h]; simpa using h
theorem trim144 (w : World) (l : List UInt8) (hl : l.length < 1000000000) (h : ∀ c ∈ l, isDig c) : Calls Tryz.prog 148 #[.string (tx l), .string ⟨#[48, 49, 50, 51, 52, 53, 54, 55, 56, 57]⟩] w (Ret (.string ⟨#[]⟩) w) := by
  have h1 := Any.strings_Trim_laid Tryz.lays160 (by kernel_rfl) (tx l) ⟨#[48, 49, 50, 51, 52, 53, 54, 55, 56, 57]⟩ w (by rw [tx_size]; omega) (by decide) (ascii_of_all (by decide))
  rw [tx_list, show (⟨#[48, 49, 50, 51, 52, 53, 54, 55, 56, 57]⟩ : ByteArray).data.toList = digT from rfl, trimS_dig h] at h1
  exact h1
set_option maxRecDepth 100000 in
set_option maxHeartbeats 1000000 in
theorem digits116 (w : World) (l : List UInt8) (h0 : l ≠ []) (hl : l.length < 1000000000) (h : ∀ c ∈ l, isDig c) : Calls Tryz.prog 118 #[.string (tx l)] w (Ret (.bool true) w) := by
  have HT := Lib.hid (fun (w1 : World) => trim144 w1 l hl h)
  have d0 : ((tx l).toList == []) = false := by rw [tx_beq, decide_eq_false h0]
  generalize tx l = X at *
  clear h h0 hl
  go_enter Tryz.func118, Tryz.ntmps118
  go_wp2_with fail
  refine (HT.out _).mono ?_
  rintro e4 w4 ⟨rfl, hb⟩
  have HB := Lib.hid hb
  clear hb
  go_wp2_with fail
  go_ret
  exact ⟨rfl, HB.out⟩
set_option maxRecDepth 100000 in
set_option maxHeartbeats 1000000 in
theorem plain88 (w : World) (n : Nat) (hn : n < 10 ^ 18) : Calls Tryz.prog 103 #[.string (tx (Lib.decDigits n))] w (Ret (.bool true) w) := by
  have hl : (Lib.decDigits n).length ≤ 18 := (dec_len_le (by decide)).2 hn
  have HT := Lib.hid (fun (w1 : World) => digits116 w1 _ (dec_ne n) (by omega) (dec_dig n))
  have hlt : 0 < (Lib.decDigits n).length := dec_pos_len n
  have hi : ∀ (w : World), (Instr.index 9 (.string (tx (Lib.decDigits n))) (.int .i64 0)).run Tryz.prog w = .ok (.int .u8 ((Lib.decDigits n)[0].toNat : Int)) w := fun w => run_idx (P := Tryz.prog) (t := 9) Tryz.underlying9 _ 0 hlt w
  have hway : (((tx (Lib.decDigits n)).toList == [48]) = true) ∨ (((tx (Lib.decDigits n)).toList == [48]) = false ∧ (((Lib.decDigits n)[0].toNat : Int) == 48) = false) := by
    rw [tx_beq]
    by_cases h : n = 0
    · subst h; exact .inl (decide_eq_true dec_zero)
    · refine .inr ⟨decide_eq_false fun e => h (dec_inj (by rw [e, dec_zero])), beq_eq_false_iff_ne.2 fun e => ?_⟩
      have h1 := dec_head (n := n) (by omega)
      rw [List.head?_eq_getElem?, List.getElem?_eq_getElem hlt] at h1
      exact h1 (congrArg some (UInt8.toNat_inj.1 (by rw [show (48 : UInt8).toNat = 48 from rfl]; omega)))
  generalize ((Lib.decDigits n)[0].toNat : Int) = c at *
  have hsz : (tx (Lib.decDigits n)).size = (Lib.decDigits n).length := tx_size _
  generalize tx (Lib.decDigits n) = X at *
  generalize (Lib.decDigits n).length = m at *
  clear hn
  rcases hway with d0 | ⟨d0, d1⟩
  · clear hi
    go_enter Tryz.func103, Tryz.ntmps103
    go_wp2_with fail
    refine (HT.out _).mono ?_
    rintro e4 w4 ⟨rfl, hb⟩
    have HB := Lib.hid hb
    clear hb
    go_wp2_with fail
    go_ret
    exact ⟨rfl, HB.out⟩
  · have d2 : (c != 48) = true := by rw [bne, d1]; rfl
    go_enter Tryz.func103, Tryz.ntmps103
    go_wp2_with fail
    refine (HT.out _).mono ?_
    rintro e4 w4 ⟨rfl, hb⟩
    have HB := Lib.hid hb
    clear hb
    go_wp2_with fail
    go_ret
    exact ⟨rfl, HB.out⟩
set_option maxRecDepth 100000 in
set_option maxHeartbeats 4000000 in
theorem check64 (w : World) (hw : TbR w) (z : Int) (hz : z.natAbs < 10 ^ 18) : Calls Tryz.prog 90 #[.string (txz z)] w (Ret (.int .i64 0) w) := by
  have HC := Lib.hid (cut86z w hw z (sm_size hz))
  have HTP := Lib.hid (fun (w1 : World) => (by
    have h := Tryz.strings_TrimPrefix (txz z) ⟨#[45]⟩ w1
    rw [txz_list, show (⟨#[45]⟩ : ByteArray).data.toList = [45] from rfl, trimPrefix_itoa] at h
    exact h.mono (fun e w' h => ⟨h.1, h.2.symm⟩) : Calls Tryz.prog 102 #[.string (txz z), .string ⟨#[45]⟩] w1 fun e w' => e = .returned (.string (tx (Lib.decDigits z.natAbs))) ∧ w1 = w'))
  have HP := Lib.hid (fun (w1 : World) => plain88 w1 z.natAbs hz)
  have d0 : ((txz z).toList == [45, 48]) = false := by
    unfold txz
    rw [tx_beq]
    refine decide_eq_false fun e => ?_
    by_cases h : z < 0
    · rw [itoa_ng h] at e
      injection e with _ e
      have : z.natAbs = 0 := dec_inj (by rw [e, dec_zero])
      omega
    · exact itoa_head_nn (z := z) (by omega) (by rw [e]; rfl)
  have hl : (Lib.decDigits z.natAbs).length ≤ 18 := (dec_len_le (by decide)).2 hz
  have hsz : (tx (Lib.decDigits z.natAbs)).size = (Lib.decDigits z.natAbs).length := tx_size _
  have hsz2 : (⟨#[]⟩ : ByteArray).size = 0 := rfl
  generalize tx (Lib.decDigits z.natAbs) = D at *
  generalize (Lib.decDigits z.natAbs).length = m at *
  generalize txz z = X at *
  have d1 : decide (600 < m) = false := decide_eq_false (by omega)
  have d2 : decide ((600 : Int) < (m : Int)) = false := decide_eq_false (by omega)
  clear hz hw
  go_enter Tryz.func90, Tryz.ntmps90
  go_wp2_with fail
  refine HC.out.mono ?_
  rintro e3 w3 ⟨rfl, hb⟩
  have HB3 := Lib.hid hb
  clear hb
  go_wp2_with fail
  refine (HTP.out _).mono ?_
  rintro e4 w4 ⟨rfl, rfl⟩
  go_wp2_with fail
  refine (HP.out _).mono ?_
  rintro e5 w5 ⟨rfl, hb⟩
  have HB5 := Lib.hid (HB3.out.trans (hb.mono HB3.out.size))
  clear hb
  go_wp2_with fail
  go_ret
  exact ⟨rfl, HB5.out⟩
end Go.Proofs.YtpafjhjpchdcdaaGreatDoor.Nu
/- Walks: the shares of a layer: lot a alone. -/
namespace Go.Proofs.YtpafjhjpchdcdaaGreatDoor.Nu
open Go Go.Proofs Go.RowKit Go.Proofs.YtpafjhjpchdcdaaGreatDoor
theorem _root_.Go.Proofs.YtpafjhjpchdcdaaGreatDoor.Box.w5 {w : World} {b : Nat} {e : TypeId} {x y z s t : Value} (h : Box w b e [x, y, z, s, t]) : w.cell? ⟨b, 0, none⟩ = some x ∧ w.cell? ⟨b, 1, none⟩ = some y ∧ w.cell? ⟨b, 2, none⟩ = some z ∧ w.cell? ⟨b, 3, none⟩ = some s ∧ w.cell? ⟨b, 4, none⟩ = some t ∧ (∀ o, w.frozen? ⟨b, o, none⟩ = false) ∧ b < w.heap.size :=
  ⟨h.cell 0, h.cell 1, h.cell 2, h.cell 3, h.cell 4, h.frozen, h.lt⟩
theorem alloc_below (w : World) (o : Obj) : Below w.heap.size w (w.alloc o) := (Below.refl _ _).alloc (Nat.le_refl _) o
def encSh (p : ByteArray × ByteArray) : List Value := [.string p.1, .string p.2]
theorem encSh_len (p : ByteArray × ByteArray) : (encSh p).length = 2 := rfl
theorem encSh_one (p : ByteArray × ByteArray) : ∀ u ∈ encSh p, u.oneCell' = true := by intro u hu; simp [encSh] at hu; rcases hu with rfl | rfl <;> rfl
def sh1 : List (ByteArray × ByteArray) := [(⟨#[97]⟩, ⟨#[49]⟩)]
abbrev ShR (w : World) (B : Nat) (v : Value) : Prop := Sl encSh 2 w B v sh1
theorem txz_one : txz 1 = ⟨#[49]⟩ := by unfold txz; rw [itoa_nn (by decide)]; show tx (Lib.decDigits 1) = _; rw [dec_small (by decide)]; rfl
set_option maxRecDepth 100000 in
set_option maxHeartbeats 1000000 in
theorem sf89 (w : World) (a : Int) : Calls Tryz.prog 89 #[.int .i64 a] w (Ret (.agg #[.int .i64 a, .slice none 0 0, .int .i64 1, .slice none 0 0]) w) := by
  have HO := Lib.hid (fun (w1 : World) (n : Int) => of94 n w1)
  have HW := Lib.hid (fun (w1 : World) (n : Int) => swhole69 w1 n)
  have HB := Lib.hid ((Below.refl w.heap.size w).alloc (Nat.le_refl _) (.cells #[.int .i64 0, .slice none 0 0, .int .i64 0, .slice none 0 0] 137))
  have HZ := Lib.hid (Box.new w #[.int .i64 0, .slice none 0 0, .int .i64 0, .slice none 0 0] 137)
  obtain ⟨z0, z1, z2, z3, zf, zz⟩ := HZ.out.w4
  go_enter Tryz.func89, Tryz.ntmps89
  go_wp2_with fail
  refine (HO.out _ _).mono ?_
  rintro e4 w4 ⟨rfl, hb⟩
  replace HB := Lib.hid (HB.out.trans (hb.mono HB.out.size))
  replace HZ := Lib.hid (HZ.out.later hb)
  clear hb z0 z1 z2 z3 zf zz
  obtain ⟨z0, z1, z2, z3, zf, zz⟩ := HZ.out.w4
  go_wp2_with fail
  refine (HW.out _ _).mono ?_
  rintro e4 w5 ⟨rfl, hb⟩
  replace HB := Lib.hid (HB.out.trans (hb.mono HB.out.size))
  replace HZ := Lib.hid (HZ.out.later hb)
  clear hb z0 z1 z2 z3 zf zz
  obtain ⟨z0, z1, z2, z3, zf, zz⟩ := HZ.out.w4
  go_wp2_with fail
  refine bodyPost_ret (v := .agg #[.int .i64 a, .slice none 0 0, .int .i64 1, .slice none 0 0]) (by simp [results, Tryz.results89, go_sem, *]) rfl ?_
  refine Ret.mk rfl ?_
  repeat (first | exact HB.out | exact Below.refl _ _ | refine Below.setCell ?_ (by first | (dsimp only; omega) | (simp; done) | (simp; omega)) _ | refine Below.alloc ?_ (by first | omega | (simp; done) | (simp; omega)) _ | refine Below.drew ?_)
set_option maxRecDepth 100000 in
set_option maxHeartbeats 1000000 in
theorem ssign92 (w : World) (a : Int) (ha : a.natAbs < 1000000) : Calls Tryz.prog 92 #[.agg #[.int .i64 a, .slice none 0 0, .int .i64 1, .slice none 0 0]] w (Ret (.int .i64 a.sign) w) := by
  have HO := Lib.hid (fun (w1 : World) => sign100 w1 (.agg #[.int .i64 a, .slice none 0 0]) a (.inl ⟨rfl, by omega, by omega⟩))
  have HB := Lib.hid ((Below.refl w.heap.size w).alloc (Nat.le_refl _) (.cells #[.int .i64 a, .slice none 0 0, .int .i64 1, .slice none 0 0] 137))
  have HX := Lib.hid (Box.new w #[.int .i64 a, .slice none 0 0, .int .i64 1, .slice none 0 0] 137)
  obtain ⟨x0, x1, x2, x3, xf, xz⟩ := HX.out.w4
  go_enter Tryz.func92, Tryz.ntmps92
  go_wp2_with fail
  refine (HO.out _).mono ?_
  rintro e4 w4 ⟨rfl, hb⟩
  replace HB := Lib.hid (HB.out.trans (hb.mono HB.out.size))
  clear hb
  go_wp2_with fail
  go_ret
  exact ⟨rfl, HB.out⟩
set_option maxRecDepth 100000 in
set_option maxHeartbeats 1000000 in
theorem ssame94 (w : World) (a b : Int) (h1 : Sm a) (h2 : Sm b) : Calls Tryz.prog 94 #[.agg #[.int .i64 a, .slice none 0 0, .int .i64 1, .slice none 0 0], .agg #[.int .i64 b, .slice none 0 0, .int .i64 1, .slice none 0 0]] w (Ret (.bool (cmpZ a b == 0)) w) := by
  have HO := Lib.hid (fun (w1 : World) => scmp54 w1 a b h1 h2)
  clear h1 h2
  have HB_0 := Lib.hid ((Below.refl w.heap.size w).alloc (Nat.le_refl _) (.cells #[.int .i64 a, .slice none 0 0, .int .i64 1, .slice none 0 0] 137))
  have HB := Lib.hid (HB_0.out.alloc HB_0.out.size (.cells #[.int .i64 b, .slice none 0 0, .int .i64 1, .slice none 0 0] 137))
  have HX := Lib.hid ((Box.new w #[.int .i64 a, .slice none 0 0, .int .i64 1, .slice none 0 0] 137).alloc (.cells #[.int .i64 b, .slice none 0 0, .int .i64 1, .slice none 0 0] 137))
  have HY := Lib.hid (Box.newAt (w.alloc (.cells #[.int .i64 a, .slice none 0 0, .int .i64 1, .slice none 0 0] 137)) #[.int .i64 b, .slice none 0 0, .int .i64 1, .slice none 0 0] 137 (n := w.heap.size + 1) (by simp))
  obtain ⟨x0, x1, x2, x3, xf, xz⟩ := HX.out.w4
  obtain ⟨y0, y1, y2, y3, yf, yz⟩ := HY.out.w4
  clear HB_0
  go_enter Tryz.func94, Tryz.ntmps94
  go_wp2_with fail
  refine (HO.out _).mono ?_
  rintro e4 w4 ⟨rfl, hb⟩
  replace HB := Lib.hid (HB.out.trans (hb.mono HB.out.size))
  clear hb
  go_wp2_with fail
  go_ret
  exact ⟨rfl, HB.out⟩
set_option maxRecDepth 100000 in
set_option maxHeartbeats 1000000 in
theorem checkShares73 (w : World) (hw : TbR w) (v : Value) (hv : ShR w w.heap.size v) : Calls Tryz.prog 73 #[v] w (Ret (.int .i64 0) w) := by
  have HTB := Lib.hid (fun (w1 : World) (hb : Below w.heap.size w w1) => hw.later hb)
  have HV := Lib.hid hv
  have HF0 := Lib.hid (fun (w1 : World) => sf89 w1 0)
  have HF1 := Lib.hid (fun (w1 : World) => sf89 w1 1)
  have HNM := Lib.hid (fun (w1 : World) => (by
    have h := isName141 ⟨#[97]⟩ w1 (by decide)
    rwa [show isName ⟨#[97]⟩ = true from by decide] at h : Calls Tryz.prog 62 #[.string ⟨#[97]⟩] w1 (Ret (.bool true) w1)))
  have HCK := Lib.hid (fun (w1 : World) (hb : Below w.heap.size w w1) => (by
    have h := check64 w1 (hw.later hb) 1 (by decide)
    rwa [txz_one] at h : Calls Tryz.prog 90 #[.string ⟨#[49]⟩] w1 (Ret (.int .i64 0) w1)))
  have HFR := Lib.hid (fun (w1 : World) (hb : Below w.heap.size w w1) => (by
    have h := sfrom65 w1 (hw.later hb) 1 (by decide)
    rwa [txz_one] at h : Calls Tryz.prog 91 #[.string ⟨#[49]⟩] w1 (Ret (.agg #[.int .i64 1, .slice none 0 0, .int .i64 1, .slice none 0 0]) w1)))
  have HSG := Lib.hid (fun (w1 : World) => ssign92 w1 1 (by decide))
  have HAD := Lib.hid (fun (w1 : World) => (sadd43 w1 0 1 ⟨by decide, by decide⟩ : Calls Tryz.prog 93 #[.agg #[.int .i64 0, .slice none 0 0, .int .i64 1, .slice none 0 0], .agg #[.int .i64 1, .slice none 0 0, .int .i64 1, .slice none 0 0]] w1 (Ret (.agg #[.int .i64 1, .slice none 0 0, .int .i64 1, .slice none 0 0]) w1)))
  have HSM := Lib.hid (fun (w1 : World) => (ssame94 w1 1 1 ⟨by decide, by decide⟩ ⟨by decide, by decide⟩ : Calls Tryz.prog 94 #[.agg #[.int .i64 1, .slice none 0 0, .int .i64 1, .slice none 0 0], .agg #[.int .i64 1, .slice none 0 0, .int .i64 1, .slice none 0 0]] w1 (Ret (.bool true) w1)))
  obtain ⟨a, c, rfl, hl, hA⟩ := hv
  obtain ⟨b, o, rfl, hbb, hc⟩ := hA (by decide)
  have hat := hc 0 (by decide)
  have HAT := Lib.hid (show At w b o [.string ⟨#[97]⟩, .string ⟨#[49]⟩] from hat)
  have HBB := Lib.hid hbb
  clear hat hc hA hl hw HV hbb
  simp only [show sh1.length = 1 from rfl]
  go_enter Tryz.func73, Tryz.ntmps73
  go_wp2_with fail
  refine (HF0.out _).mono ?_
  rintro e4 w4 ⟨rfl, hb⟩
  have HX := Lib.hid (Box.new w4 #[.int .i64 0, .slice none 0 0, .int .i64 1, .slice none 0 0] 137)
  have HB := Lib.hid (hb.alloc hb.size (.cells #[.int .i64 0, .slice none 0 0, .int .i64 1, .slice none 0 0] 137))
  have HPS := Lib.hid (show w.heap.size ≤ w4.heap.size from hb.size)
  clear hb
  go_wp2_with fail
  generalize w4.alloc (.cells #[.int .i64 0, .slice none 0 0, .int .i64 1, .slice none 0 0] 137) = w5 at *
  generalize w4.heap.size = p at *
  go_loopw [17] (fun i wr => ∃ k : Nat, k ≤ 1 ∧ i = .int .i64 (k : Int) ∧ Below w.heap.size w wr ∧ Box wr p 137 [.int .i64 (k : Int), .slice none 0 0, .int .i64 1, .slice none 0 0]) (fun i _ => 1 - (intOf i).toNat)
  case atStart => exact ⟨0, by omega, rfl, HB.out, HX.out⟩
  case round =>
    obtain ⟨k, hk, rfl, hbe, hbx⟩ := hrel
    clear HB HX
    have HB := Lib.hid hbe
    have HX := Lib.hid hbx
    clear hbe hbx
    rcases (show k = 0 ∨ k = 1 by omega) with rfl | rfl
    · obtain ⟨c0, c1⟩ := (HAT.out.below HB.out HBB.out).c2
      have hbz : b < wr.heap.size := Nat.lt_of_lt_of_le HBB.out HB.out.size
      go_wp2_with fail
      have HY := Lib.hid (Box.new wr #[.string ⟨#[97]⟩, .string ⟨#[49]⟩] 46)
      have hba := alloc_below wr (.cells #[.string ⟨#[97]⟩, .string ⟨#[49]⟩] 46)
      replace HB := Lib.hid (HB.out.trans (hba.mono HB.out.size))
      replace HX := Lib.hid (HX.out.later hba)
      clear hba c0 c1 hbz
      obtain ⟨W6, hW6⟩ : ∃ W, wr.alloc (.cells #[.string ⟨#[97]⟩, .string ⟨#[49]⟩] 46) = W := ⟨_, rfl⟩
      rw [hW6] at HB HX HY
      obtain ⟨y0, y1, yf, yz⟩ := HY.out.v2
      go_wp2_with fail
      refine (HNM.out _).mono ?_
      rintro e6 w6 ⟨rfl, hb⟩
      replace HX := Lib.hid (HX.out.later hb)
      replace HB := Lib.hid (HB.out.trans (hb.mono HB.out.size))
      replace HY := Lib.hid (HY.out.later hb)
      clear hb y0 y1 yf yz
      obtain ⟨y0, y1, yf, yz⟩ := HY.out.v2
      go_wp2_with fail
      refine wp_region_later (by kernel_rfl) (by kernel_rfl) ?_
      repeat go_big_quiet_step (fail)
      refine wpQuiet_nil ?_
      rintro w7 ⟨⟨_, hb⟩, rfl⟩
      replace HX := Lib.hid (HX.out.later hb)
      replace HB := Lib.hid (HB.out.trans (hb.mono HB.out.size))
      replace HY := Lib.hid (HY.out.later hb)
      clear hb y0 y1 yf yz
      obtain ⟨y0, y1, yf, yz⟩ := HY.out.v2
      go_wp2_with fail
      refine (HCK.out _ HB.out).mono ?_
      rintro e8 w8 ⟨rfl, hb⟩
      replace HX := Lib.hid (HX.out.later hb)
      replace HB := Lib.hid (HB.out.trans (hb.mono HB.out.size))
      replace HY := Lib.hid (HY.out.later hb)
      clear hb y0 y1 yf yz
      obtain ⟨y0, y1, yf, yz⟩ := HY.out.v2
      go_wp2_with fail
      refine (HFR.out _ HB.out).mono ?_
      rintro e9 w9 ⟨rfl, hb⟩
      clear y0 y1 yf yz hW6 HY
      have hba := hb.trans ((alloc_below w9 (.cells #[.int .i64 1, .slice none 0 0, .int .i64 1, .slice none 0 0] 137)).mono hb.size)
      have HZ := Lib.hid (Box.new w9 #[.int .i64 1, .slice none 0 0, .int .i64 1, .slice none 0 0] 137)
      replace HX := Lib.hid (HX.out.later hba)
      replace HB := Lib.hid (HB.out.trans (hba.mono HB.out.size))
      have HNE := Lib.hid (show p ≠ w9.heap.size from by have := HX.out.lt; intro e; subst e; have h1 := HX.out; have h2 := HZ.out; unfold Box at h1 h2; rw [h1] at h2; simp at h2)
      clear hb hba
      obtain ⟨z0, z1, z2, z3, zf, zz⟩ := HZ.out.w4
      go_wp2_with fail
      refine (HSG.out _).mono ?_
      rintro e10 w10 ⟨rfl, hb⟩
      replace HX := Lib.hid (HX.out.later hb)
      replace HB := Lib.hid (HB.out.trans (hb.mono HB.out.size))
      replace HZ := Lib.hid (HZ.out.later hb)
      clear z0 z1 z2 z3 zf zz hb
      obtain ⟨q, hq⟩ : ∃ q, w9.heap.size = q := ⟨_, rfl⟩
      rw [hq] at HZ HNE ⊢
      clear hq
      obtain ⟨z0, z1, z2, z3, zf, zz⟩ := HZ.out.w4
      obtain ⟨x0, x1, x2, x3, xf, xz⟩ := HX.out.w4
      go_wp2_with fail
      refine (HAD.out _).mono ?_
      rintro e11 w11 ⟨rfl, hb⟩
      replace HX := Lib.hid (HX.out.later hb)
      replace HB := Lib.hid (HB.out.trans (hb.mono HB.out.size))
      clear z0 z1 z2 z3 zf zz hb x0 x1 x2 x3 xf xz HZ
      obtain ⟨x0, x1, x2, x3, xf, xz⟩ := HX.out.w4
      go_wp2_with fail
      go_roundw
      case rel => exact ⟨1, by omega, by go_num, (((HB.out.setCell (p := ⟨p, 0, none⟩) HPS.out _).setCell (p := ⟨p, 1, none⟩) HPS.out _).setCell (p := ⟨p, 2, none⟩) HPS.out _).setCell (p := ⟨p, 3, none⟩) HPS.out _, (((HX.out.set 0 (.int .i64 1)).set 1 (.slice none 0 0)).set 2 (.int .i64 1)).set 3 (.slice none 0 0)⟩
      case measure => simp [intOf]
    · obtain ⟨x0, x1, x2, x3, xf, xz⟩ := HX.out.w4
      go_wp2_with fail
      refine wp_region_later (by kernel_rfl) (by kernel_rfl) ?_
      repeat go_big_quiet_step ((first | (go_at_call 89; exact Calls.later (HF1.out _)) | (go_at_call 94; exact Calls.later (HSM.out _))))
      refine wpQuiet_nil ?_
      rintro w12 ⟨⟨_, hb⟩, rfl⟩
      replace HB := Lib.hid (HB.out.trans (hb.mono HB.out.size))
      clear hb
      go_wp2_with fail
      go_ret
      exact ⟨rfl, HB.out⟩
end Go.Proofs.YtpafjhjpchdcdaaGreatDoor.Nu
/- Walks: a path stopped. -/
namespace Go.Proofs.YtpafjhjpchdcdaaGreatDoor
open Go Go.Proofs Go.RowKit Go.Shelf
section
variable {α : Type} {f : α → List Value} {sz : Nat} {e : TypeId} {w : World} {base g n cap : Nat} {L : List α} {x : Nat} {a b : α}
theorem Own.ltN {l : List α} (h : Own f sz e w base (.slice (some ⟨g, 0, none⟩) n cap) l) : base ≤ g ∧ g < w.heap.size := World.ownsRow.lt h g rfl
theorem Own.setS (h : Own f sz e w base (.slice (some ⟨g, 0, none⟩) n cap) (L.set x a)) (hn : L.length = n) (hf : ∀ x, (f x).length = sz) (hx : x < n) (j : Nat) (hj : j < sz) (u : Value) (b : α) (hy : f b = (f a).set j u) :
    Own f sz e (w.setCell ⟨g, x * sz + j, none⟩ u) base (.slice (some ⟨g, 0, none⟩) n cap) (L.set x b) := by
  have h1 := h.setN (by simpa using hn) hf x (by simp; omega) j hj u b (by simpa using hy)
  rwa [List.set_set] at h1
theorem Own.atS (h : Own f sz e w base (.slice (some ⟨g, 0, none⟩) n cap) (L.set x a)) (hn : L.length = n) (hf : ∀ x, (f x).length = sz) (hx : x < n) : At w g (x * sz) (f a) := by
  have h1 := h.atN (by simpa using hn) hf x (by simp; omega)
  simpa using h1
theorem Own.frozenS (h : Own f sz e w base (.slice (some ⟨g, 0, none⟩) n cap) (L.set x a)) (hn : L.length = n) (o : Nat) : w.frozen? ⟨g, o, none⟩ = false := h.frozenN (by simpa using hn) o
end
def stopV (p : Pl) (l : List Int) (cl : Bool) (k : Nat) (s : Sx) : Sx :=
  ⟨if cvB (kdA p (l.getD k 0)) then false else s.runs, if k + 1 < l.length then -1 else s.feeds, if cvB (kdA p (l.getD k 0)) && cl then ⟨#[]⟩ else s.grain⟩
def stopTo (p : Pl) (l : List Int) (cl : Bool) (st : List Sx) : Nat → List Sx
  | 0 => st
  | k + 1 => (stopTo p l cl st k).set (l.getD k 0).toNat (stopV p l cl k ((stopTo p l cl st k).getD (l.getD k 0).toNat s0))
theorem stopTo_len (p : Pl) (l : List Int) (cl : Bool) (st : List Sx) (k : Nat) : (stopTo p l cl st k).length = st.length := by
  induction k with
  | zero => rfl
  | succ k ih => rw [stopTo, List.length_set, ih]
theorem stopTo_succ (p : Pl) (l : List Int) (cl : Bool) (st : List Sx) (k x : Nat) (hk : l.getD k 0 = (x : Int)) : stopTo p l cl st (k + 1) = (stopTo p l cl st k).set x (stopV p l cl k ((stopTo p l cl st k).getD x s0)) := by
  rw [stopTo, hk, Int.toNat_natCast]
theorem set_self (L : List Sx) (x : Nat) (h : x < L.length) : L.set x (L.getD x s0) = L := by rw [stGet h]; exact List.set_getElem_self h
def StatePost (w : World) (st : List Sx) (e : Ending) (w' : World) : Prop := ∃ v, e = .returned v ∧ Own Sx.enc 3 58 w' w.heap.size v st ∧ Below w.heap.size w w'
set_option maxRecDepth 100000 in
set_option maxHeartbeats 1000000 in
theorem stopped110 (w : World) (v1 v2 u y : Value) (cl : Bool) (p : Pl) (st : List Sx) (l : List Int) (hw : WdR w) (hv : PlR w w.heap.size v1 v2 p) (hu : Sl Sx.enc 3 w w.heap.size u st) (hx : Sl encI 1 w w.heap.size y l) (hin : ∀ y ∈ l, inN p.ms.length y = true) (hln : st.length = p.ms.length) (hpos : 0 < p.ms.length) : Calls Tryz.prog 41 #[.agg #[v1, v2], u, y, .bool cl] w (StatePost w (stopTo p l cl st l.length)) := by
  have HCV := Lib.hid (fun s t (w1 : World) (hb : Below w.heap.size w w1) => conveys84 s t w1 (hw.later hb))
  have HCL := Lib.hid (fun (w1 : World) (hb : Below w.heap.size w w1) => clone95 w1 u st (hu.later hb))
  obtain ⟨⟨a1, n1, rfl, hl1, hA1⟩, ⟨a2, n2, rfl, hl2, hA2⟩⟩ := hv
  obtain ⟨a, c, rfl, hlen, hA⟩ := hx
  have HA1 := Lib.hid hA1
  have HA := Lib.hid hA
  have HIN := Lib.hid hin
  clear hA1 hA2 hA hl2 hin hw hu
  obtain ⟨h11, h12⟩ := hl1
  obtain ⟨hl, hlc⟩ := hlen
  have HB := Lib.hid ((Below.refl w.heap.size w).alloc (Nat.le_refl _) (.cells #[.slice a1 p.ms.length n1, .slice a2 p.arcs.length n2] 25))
  have HX := Lib.hid (Box.new w #[.slice a1 p.ms.length n1, .slice a2 p.arcs.length n2] 25)
  obtain ⟨n, hn⟩ : ∃ n, p.ms.length = n := ⟨_, rfl⟩
  obtain ⟨m, hm⟩ : ∃ m, p.arcs.length = m := ⟨_, rfl⟩
  obtain ⟨ln, hll⟩ : ∃ m, l.length = m := ⟨_, rfl⟩
  rw [hn] at HB HX h11 h12 HIN hln hpos ⊢
  rw [hm] at HB HX ⊢
  rw [hll] at hl hlc ⊢
  have HN := Lib.hid hn
  have HLN := Lib.hid hll
  have HST := Lib.hid (fun k => (stopTo_len p l cl st k).trans hln)
  obtain ⟨Q, hQ⟩ : ∃ Q, StatePost w (stopTo p l cl st ln) = Q := ⟨_, rfl⟩
  rw [hQ]
  have HQ : Hid (∀ (v : Value) (w' : World), Own Sx.enc 3 58 w' w.heap.size v (stopTo p l cl st ln) → Below w.heap.size w w' → Q (.returned v) w') := Lib.hid (fun v w' h1 h2 => by rw [← hQ]; exact ⟨v, rfl, h1, h2⟩)
  clear hQ hn hm hll
  go_enter Tryz.func41, Tryz.ntmps41
  go_wp2_with fail
  refine (HCL.out _ HB.out).mono ?_
  rintro e w2 ⟨v, rfl, hown, hb2⟩
  have HB2 := Lib.hid (HB.out.trans (hb2.mono HB.out.size))
  have HX2 := Lib.hid (HX.out.later hb2)
  obtain ⟨g, cap, hvv, hg1, hg2⟩ := hown.form (by rw [hln]; omega)
  rw [hln] at hvv
  subst hvv
  have HO2 := Lib.hid hown
  have hgw : w.heap.size < g := by simp at hg1; omega
  clear hb2 hown hg1 hg2 hln
  go_wp2_with fail
  go_loopw [16] (fun j wr => ∃ k : Nat, k ≤ ln ∧ j = .int .i64 k ∧ Below w.heap.size w wr ∧ Box wr w.heap.size 25 [.slice a1 n n1, .slice a2 m n2] ∧ Own Sx.enc 3 58 wr (w.heap.size + 1) (.slice (some ⟨g, 0, none⟩) n cap) (stopTo p l cl st k)) (fun j _ => ln - (intOf j).toNat)
  case atStart => exact ⟨0, by omega, rfl, HB2.out, HX2.out, by have := HO2.out; simp only [World.size_alloc] at this; exact this⟩
  case round =>
    clear HB HX HB2 HX2 HO2
    obtain ⟨k, hk, rfl, hbe, hx, hown⟩ := hrel
    have HBE := Lib.hid hbe
    have HXE := Lib.hid hx
    have HOE := Lib.hid hown
    clear hbe hx hown
    by_cases hlt : k < ln
    rotate_left
    · obtain rfl : ln = k := by omega
      go_wp2_with fail
      exact HQ.out _ _ (HOE.out.lower (show w.heap.size ≤ w.heap.size + 1 by omega)) HBE.out
    have hkl : k < l.length := by rw [HLN.out]; exact hlt
    obtain ⟨b, off, rfl, hbb, hcells⟩ := HA.out (by omega)
    have c0 := ((hcells k hkl).below HBE.out hbb).c1
    rw [Nat.mul_one] at c0
    have hbz : b < wr.heap.size := Nat.lt_of_lt_of_le hbb HBE.out.size
    obtain ⟨x, hy, hxn⟩ := inN_nat (HIN.out l[k] (List.getElem_mem hkl))
    rw [hy] at c0
    have HLK := Lib.hid (show l.getD k 0 = (x : Int) by rw [getD_at l k hkl, hy])
    have hxl : x < p.ms.length := by rw [HN.out]; exact hxn
    obtain ⟨b1, off1, rfl, hbb1, hcells1⟩ := HA1.out (by omega)
    have HCM := Lib.hid (hcells1 x hxl)
    have HKD := Lib.hid (kdA_nat hxl)
    have HSU := Lib.hid (stopTo_succ p l cl st k x HLK.out)
    have HLL := Lib.hid (HST.out k)
    have HSE := Lib.hid (set_self (stopTo p l cl st k) x (by rw [HLL.out]; exact hxn))
    clear hcells hcells1 hy hkl
    generalize stopTo p l cl st k = L at *
    rw [← HSE.out] at HOE
    unfold stopV at HSU
    rw [HLK.out, HKD.out, HLN.out] at HSU
    generalize p.ms[x] = mx at *
    generalize L.getD x s0 = sx at *
    clear hxl HSE HKD HLK
    obtain ⟨sm, tm⟩ := mx
    obtain ⟨rn, fd, gr⟩ := sx
    dsimp only at HSU
    have HK84 := Lib.hid (HCV.out sm tm)
    obtain ⟨qc, hqc⟩ : ∃ q, cvB sm = q := ⟨_, rfl⟩
    rw [hqc] at HK84 HSU
    clear hqc HCV
    obtain ⟨x0, x1, xf, xz⟩ := HXE.out.v2
    obtain ⟨o0, o1, o2⟩ := (HOE.out.atS HLL.out Sx.enc_len hxn).c3
    have ofz := HOE.out.frozenS HLL.out
    have oz := HOE.out.ltN.2
    obtain ⟨m0, m1⟩ := (HCM.out.below HBE.out hbb1).c2
    have hb1z := Nat.lt_of_lt_of_le hbb1 HBE.out.size
    dsimp only at o0 o1 o2 m0 m1
    by_cases hlast : k + 1 < ln
    · have d0 : decide ((k : Int) < (ln : Int) - 1) = true := decide_eq_true (by omega)
      rw [if_pos hlast] at HSU
      have HLA := Lib.hid hlast
      clear hlast
      have HB4 := Lib.hid (HBE.out.setCell (p := ⟨g, x * 3 + 1, none⟩) (by dsimp only; omega) (.int .i64 (-1)))
      have HX4 := Lib.hid (HXE.out.other (a := ⟨g, x * 3 + 1, none⟩) (.int .i64 (-1)) (by dsimp only; omega))
      have HO4 := Lib.hid (HOE.out.setS HLL.out Sx.enc_len hxn 1 (by omega) (.int .i64 (-1)) ⟨rn, -1, gr⟩ rfl)
      go_wp2_with fail
      refine (HK84.out _ HB4.out).mono ?_
      rintro e5 w5 ⟨rfl, hb⟩
      have HB5 := Lib.hid (HB4.out.trans (hb.mono HB4.out.size))
      have HX5 := Lib.hid (HX4.out.later hb)
      have HO5 := Lib.hid (HO4.out.later hb)
      clear hb x0 x1 xf xz o0 o1 o2 ofz oz m0 m1 hb1z
      obtain ⟨x0, x1, xf, xz⟩ := HX5.out.v2
      obtain ⟨o0, o1, o2⟩ := (HO5.out.atS HLL.out Sx.enc_len hxn).c3
      have ofz := HO5.out.frozenS HLL.out
      have oz := HO5.out.ltN.2
      obtain ⟨m0, m1⟩ := (HCM.out.below HB5.out hbb1).c2
      have hb1z := Nat.lt_of_lt_of_le hbb1 HB5.out.size
      dsimp only at o0 o1 o2 m0 m1
      cases qc with
      | false =>
        go_wp2_with fail
        go_roundw
        case rel => exact ⟨k + 1, by omega, by go_num, HB5.out, HX5.out, by rw [HSU.out]; exact HO5.out⟩
        case measure => simp [intOf]; omega
      | true =>
      cases cl with
      | false =>
        have HB6 := Lib.hid (HB5.out.setCell (p := ⟨g, x * 3 + 0, none⟩) (by dsimp only; omega) (.bool false))
        have HX6 := Lib.hid (HX5.out.other (a := ⟨g, x * 3 + 0, none⟩) (.bool false) (by dsimp only; omega))
        have HO6 := Lib.hid (HO5.out.setS HLL.out Sx.enc_len hxn 0 (by omega) (.bool false) ⟨false, -1, gr⟩ rfl)
        go_wp2_with fail
        go_roundw
        case rel => exact ⟨k + 1, by omega, by go_num, HB6.out, HX6.out, by rw [HSU.out]; exact HO6.out⟩
        case measure => simp [intOf]; omega
      | true =>
      have HB6 := Lib.hid (HB5.out.setCell (p := ⟨g, x * 3 + 0, none⟩) (by dsimp only; omega) (.bool false))
      have HX6 := Lib.hid (HX5.out.other (a := ⟨g, x * 3 + 0, none⟩) (.bool false) (by dsimp only; omega))
      have HO6 := Lib.hid (HO5.out.setS HLL.out Sx.enc_len hxn 0 (by omega) (.bool false) ⟨false, -1, gr⟩ rfl)
      have HB7 := Lib.hid (HB6.out.setCell (p := ⟨g, x * 3 + 2, none⟩) (by dsimp only; omega) (.string ⟨#[]⟩))
      have HX7 := Lib.hid (HX6.out.other (a := ⟨g, x * 3 + 2, none⟩) (.string ⟨#[]⟩) (by dsimp only; omega))
      have HO7 := Lib.hid (HO6.out.setS HLL.out Sx.enc_len hxn 2 (by omega) (.string ⟨#[]⟩) ⟨false, -1, ⟨#[]⟩⟩ rfl)
      go_wp2_with fail
      go_roundw
      case rel => exact ⟨k + 1, by omega, by go_num, HB7.out, HX7.out, by rw [HSU.out]; exact HO7.out⟩
      case measure => simp [intOf]; omega
    · have d0 : decide ((k : Int) < (ln : Int) - 1) = false := decide_eq_false (by omega)
      rw [if_neg hlast] at HSU
      have HLA := Lib.hid hlast
      clear hlast
      go_wp2_with fail
      refine (HK84.out _ HBE.out).mono ?_
      rintro e5 w5 ⟨rfl, hb⟩
      have HB5 := Lib.hid (HBE.out.trans (hb.mono HBE.out.size))
      have HX5 := Lib.hid (HXE.out.later hb)
      have HO5 := Lib.hid (HOE.out.later hb)
      clear hb x0 x1 xf xz o0 o1 o2 ofz oz m0 m1 hb1z
      obtain ⟨x0, x1, xf, xz⟩ := HX5.out.v2
      obtain ⟨o0, o1, o2⟩ := (HO5.out.atS HLL.out Sx.enc_len hxn).c3
      have ofz := HO5.out.frozenS HLL.out
      have oz := HO5.out.ltN.2
      obtain ⟨m0, m1⟩ := (HCM.out.below HB5.out hbb1).c2
      have hb1z := Nat.lt_of_lt_of_le hbb1 HB5.out.size
      dsimp only at o0 o1 o2 m0 m1
      cases qc with
      | false =>
        go_wp2_with fail
        go_roundw
        case rel => exact ⟨k + 1, by omega, by go_num, HB5.out, HX5.out, by rw [HSU.out]; exact HO5.out⟩
        case measure => simp [intOf]; omega
      | true =>
      cases cl with
      | false =>
        have HB6 := Lib.hid (HB5.out.setCell (p := ⟨g, x * 3 + 0, none⟩) (by dsimp only; omega) (.bool false))
        have HX6 := Lib.hid (HX5.out.other (a := ⟨g, x * 3 + 0, none⟩) (.bool false) (by dsimp only; omega))
        have HO6 := Lib.hid (HO5.out.setS HLL.out Sx.enc_len hxn 0 (by omega) (.bool false) ⟨false, fd, gr⟩ rfl)
        go_wp2_with fail
        go_roundw
        case rel => exact ⟨k + 1, by omega, by go_num, HB6.out, HX6.out, by rw [HSU.out]; exact HO6.out⟩
        case measure => simp [intOf]; omega
      | true =>
      have HB6 := Lib.hid (HB5.out.setCell (p := ⟨g, x * 3 + 0, none⟩) (by dsimp only; omega) (.bool false))
      have HX6 := Lib.hid (HX5.out.other (a := ⟨g, x * 3 + 0, none⟩) (.bool false) (by dsimp only; omega))
      have HO6 := Lib.hid (HO5.out.setS HLL.out Sx.enc_len hxn 0 (by omega) (.bool false) ⟨false, fd, gr⟩ rfl)
      have HB7 := Lib.hid (HB6.out.setCell (p := ⟨g, x * 3 + 2, none⟩) (by dsimp only; omega) (.string ⟨#[]⟩))
      have HX7 := Lib.hid (HX6.out.other (a := ⟨g, x * 3 + 2, none⟩) (.string ⟨#[]⟩) (by dsimp only; omega))
      have HO7 := Lib.hid (HO6.out.setS HLL.out Sx.enc_len hxn 2 (by omega) (.string ⟨#[]⟩) ⟨false, fd, ⟨#[]⟩⟩ rfl)
      go_wp2_with fail
      go_roundw
      case rel => exact ⟨k + 1, by omega, by go_num, HB7.out, HX7.out, by rw [HSU.out]; exact HO7.out⟩
      case measure => simp [intOf]; omega
end Go.Proofs.YtpafjhjpchdcdaaGreatDoor
