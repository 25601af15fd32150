/- Lemmas on the way to the law TopChanges (part 22): Fb Fc Fh Gh Ha Gi -/
import Derived.Test.YtflchbejjofppaaGreatDoorTopChangesP21
import Derived.Test.YtflchbejjofppaaGreatDoorTopChangesP20
import Derived.Lib.AppendIntMem
import Derived.Test.YtflchbejjofppaaGreatDoorTopChangesP16
import Derived.Shelf.Strings.SlTrimAscii
set_option linter.unusedVariables false
set_option linter.unusedSimpArgs false

/- Walks: num.Make. -/
namespace Go.Proofs
theorem YtflchbejjofppaaGreatDoor.Box.v4 {w : World} {b : Nat} {e : TypeId} {x y z u : Value} (h : YtflchbejjofppaaGreatDoor.Box w b e [x, y, z, u]) : w.cell? ⟨b, 0, none⟩ = some x ∧ w.cell? ⟨b, 1, none⟩ = some y ∧ w.cell? ⟨b, 2, none⟩ = some z ∧ w.cell? ⟨b, 3, none⟩ = some u ∧ (∀ o, w.frozen? ⟨b, o, none⟩ = false) ∧ b < w.heap.size :=
  ⟨h.cell 0, h.cell 1, h.cell 2, h.cell 3, h.frozen, h.lt⟩
end Go.Proofs
namespace Go.Proofs.YtflchbejjofppaaGreatDoor.Nu
open Go Go.Proofs Go.RowKit Go.Proofs.YtflchbejjofppaaGreatDoor
def FrR (w : World) (v : Value) (q : Rat) : Prop := ∃ (s1 : Int) (a1 : Option Addr) (n1 c1 : Nat) (s2 : Int) (a2 : Option Addr) (n2 c2 : Nat), v = .agg #[.int .i64 s1, .slice a1 n1 c1, .int .i64 s2, .slice a2 n2 c2] ∧ IntR w (.agg #[.int .i64 s1, .slice a1 n1 c1]) q.num ∧ IntR w (.agg #[.int .i64 s2, .slice a2 n2 c2]) (q.den : Int)
theorem FrR.later {w w' : World} {v : Value} {q : Rat} (h : FrR w v q) (hb : Below w.heap.size w w') : FrR w' v q := by
  obtain ⟨s1, a1, n1, c1, s2, a2, n2, c2, e, h1, h2⟩ := h
  exact ⟨s1, a1, n1, c1, s2, a2, n2, c2, e, h1.later hb, h2.later hb⟩
def RetF (w : World) (q : Rat) (e : Ending) (w' : World) : Prop := ∃ v, e = .returned v ∧ FrR w' v q ∧ Below w.heap.size w w'
theorem RetF.mk {w w' : World} {q : Rat} {v v' : Value} (h : v = v') (h1 : FrR w' v' q) (hb : Below w.heap.size w w') : RetF w q (.returned v) w' := ⟨v, rfl, h ▸ h1, hb⟩
theorem mk_num {z1 z2 : Int} (h0 : 0 < z2) : (mkRat z1 z2.natAbs).num = z1 / ((Nat.gcd z1.natAbs z2.natAbs : Nat) : Int) ∧ ((mkRat z1 z2.natAbs).den : Int) = z2 / ((Nat.gcd z1.natAbs z2.natAbs : Nat) : Int) := by
  have h : z2.natAbs ≠ 0 := by omega
  rw [← Rat.normalize_eq_mkRat h, Rat.normalize_eq]
  refine ⟨rfl, ?_⟩
  show ((z2.natAbs / Nat.gcd z1.natAbs z2.natAbs : Nat) : Int) = _
  rw [Int.natCast_ediv, show (z2.natAbs : Int) = z2 by omega]
end Go.Proofs.YtflchbejjofppaaGreatDoor.Nu
/- Walks: num.Whole, (num.Frac).Neg, IsWhole. -/
namespace Go.Proofs.YtflchbejjofppaaGreatDoor.Nu
open Go Go.Proofs Go.RowKit Go.Proofs.YtflchbejjofppaaGreatDoor
inductive Kd where
  | is (x : Value)
  | int (z : Int)
  | frac (q : Rat)
def Kd.R : Kd → Value → World → Prop
  | .is x, v, _ => v = x
  | .int z, v, w => IntR w v z
  | .frac q, v, w => FrR w v q
theorem Kd.later {k : Kd} {v : Value} {w w' : World} (h : k.R v w) (hb : Below w.heap.size w w') : k.R v w' := by
  cases k with
  | is x => exact h
  | int z => exact IntR.later h hb
  | frac q => exact FrR.later h hb
end Go.Proofs.YtflchbejjofppaaGreatDoor.Nu
/- Walks: (num.Int).Bits. -/
namespace Go.Proofs.YtflchbejjofppaaGreatDoor.Nu
open Go Go.Proofs Go.RowKit Go.Proofs.YtflchbejjofppaaGreatDoor
def nbits (m : Nat) : Nat := if m = 0 then 0 else m.log2 + 1
theorem nbits_words {l : List Nat} {p y b : Nat} (hd : Dg (2 ^ 64) l) (hp : l.length = p + 1) (hy : l[p]'(by omega) = y) (h1 : 1 ≤ b) (h2 : 2 ^ (b - 1) ≤ y) (h3 : y < 2 ^ b) : nbits (val (2 ^ 64) l) = 64 * p + b := by
  have e := val_split (2 ^ 64) l p (by omega)
  rw [val_drop _ _ _ (by omega), hy, show p + 1 = l.length by omega, List.drop_length] at e
  have e0 : val (2 ^ 64) ([] : List Nat) = 0 := rfl
  rw [e0, Nat.mul_zero, Nat.add_zero] at e
  have e1 := val_lt (hd.take p)
  rw [List.length_take, Nat.min_eq_left (by omega)] at e1
  have hP : 0 < (2 ^ 64) ^ p := Nat.pow_pos (by decide)
  have p1 : 2 ^ (64 * p + (b - 1)) = (2 ^ 64) ^ p * 2 ^ (b - 1) := by rw [Nat.pow_add, Nat.pow_mul]
  have p2 : 2 ^ (64 * p + b) = (2 ^ 64) ^ p * 2 ^ b := by rw [Nat.pow_add, Nat.pow_mul]
  have m1 : (2 ^ 64) ^ p * 2 ^ (b - 1) ≤ (2 ^ 64) ^ p * y := Nat.mul_le_mul_left _ h2
  have m2 : (2 ^ 64) ^ p * (y + 1) ≤ (2 ^ 64) ^ p * 2 ^ b := Nat.mul_le_mul_left _ h3
  rw [Nat.mul_add] at m2
  have hpb : 0 < 2 ^ (b - 1) := Nat.pow_pos (by decide)
  have m3 : 0 < (2 ^ 64) ^ p * 2 ^ (b - 1) := Nat.mul_pos hP hpb
  have hne : val (2 ^ 64) l ≠ 0 := by omega
  unfold nbits
  rw [if_neg hne]
  have h := (Nat.log2_eq_iff (k := 64 * p + (b - 1)) hne).2 ⟨by rw [p1]; omega, by rw [show 64 * p + (b - 1) + 1 = 64 * p + b by omega, p2]; omega⟩
  omega
set_option maxRecDepth 100000 in
set_option maxHeartbeats 4000000 in
theorem bits122 (w : World) (v : Value) (z : Int) (h : IntR w v z) (hw : Wds 1000000 z) : Calls Tryz.prog 122 #[v] w (Ret (.int .i64 ((nbits z.natAbs : Nat) : Int)) w) := by
  obtain ⟨s1, a1, n1, c1, rfl, _, hs1, hs1', hf1⟩ := h.form
  have HP1 := Lib.hid (fun (w1 : World) (hb : Below w.heap.size w w1) => parts95 w1 _ z (h.later hb))
  have HB := Lib.hid ((Below.refl w.heap.size w).alloc (Nat.le_refl _) (.cells #[.int .i64 s1, .slice a1 n1 c1] 81))
  have HX := Lib.hid (Box.new w #[.int .i64 s1, .slice a1 n1 c1] 81)
  obtain ⟨x0, x1, xf, xz⟩ := HX.out.v2
  have HW := Lib.hid hw.abs
  obtain ⟨nb, hnb⟩ : ∃ x, nbits z.natAbs = x := ⟨_, rfl⟩
  have HNB := Lib.hid hnb
  obtain ⟨sg, hsg⟩ : ∃ p, decide (z < 0) = p := ⟨_, rfl⟩
  unfold PartsP at HP1
  rw [hsg] at HP1
  rw [hnb]
  clear h hw hf1 hs1 hs1' hnb hsg
  go_enter Tryz.func122, Tryz.ntmps122
  go_wp2_with fail
  refine (HP1.out _ HB.out).mono ?_
  rintro e4 w4 ⟨a4, n4, c4, l4, rfl, hw4, hn4, hb⟩
  have HB4 := Lib.hid (HB.out.trans (hb.mono HB.out.size))
  have hl4 := hw4.len HW.out
  have hve := hw4.eq
  have hdg := hw4.dg
  have htr := hw4.tr
  obtain ⟨a', c', e, hl, hl', hA⟩ := hw4.sc
  injection e with e1 e2 e3
  subst e1 e3
  clear e2 hb x0 x1 xf xz hw4
  by_cases h0 : n4 = 0
  · subst h0
    have hnz : nb = 0 := by
      have e : l4 = [] := List.eq_nil_of_length_eq_zero hn4.symm
      rw [e] at hve
      have h1 : z.natAbs = 0 := hve.symm
      rw [← HNB.out, h1]; rfl
    subst hnz
    clear hn4 hl4 hve hdg htr hl hl' hA
    go_wp2_with fail
    go_ret
    exact ⟨rfl, HB4.out⟩
  · obtain ⟨p, rfl⟩ : ∃ p, n4 = p + 1 := ⟨n4 - 1, by omega⟩
    have hpl : p < l4.length := by omega
    obtain ⟨b4, o4, rfl, hbb, hcells⟩ := hA (by omega)
    obtain ⟨y, hy⟩ : ∃ y, l4[p] = y := ⟨_, rfl⟩
    have g0 := (hcells p hpl).c1
    rw [Nat.mul_one, hy] at g0
    have hyB : y < 2 ^ 64 := hy ▸ hdg.get p hpl
    have hy0 : y ≠ 0 := by
      have := htr.last (by omega)
      simp only [← hn4, Nat.add_sub_cancel] at this
      rwa [hy] at this
    obtain ⟨b1, b2, b3⟩ := Lib.bitLenAux_bounds 64 y hyB hy0
    have hbl := Lib.bitLenAux 64 y
    have hlb : Lib.bitLen y ≤ 64 := by
      rcases Nat.lt_or_ge 64 (Lib.bitLen y) with h | h
      · have h5 : 2 ^ 64 ≤ 2 ^ (Lib.bitLen y - 1) := Nat.pow_le_pow_right (by decide) (by omega)
        have h6 : 2 ^ (Lib.bitLen y - 1) ≤ y := b2
        omega
      · exact h
    have hnw := nbits_words hdg hn4.symm hy b1 b2 b3
    rw [hve, HNB.out] at hnw
    have HL := Lib.hid ((Tryz.bits_Len64 (y : Int) w4 (by omega) (by omega)).mono (fun e w' h => (⟨by rw [h.1]; rfl, h.2⟩ : e = .returned (.int .i64 ((Lib.bitLenAux 64 y : Nat) : Int)) ∧ w' = w4)))
    have hlb2 : Lib.bitLenAux 64 y ≤ 64 := hlb
    obtain ⟨bl, hbl2⟩ : ∃ x, Lib.bitLenAux 64 y = x := ⟨_, rfl⟩
    rw [hbl2] at HL hnw hlb2
    have k1 : IntKind.i64.wrap (p : Int) = (p : Int) := IntWalk.i64_in _ (by omega)
    have k1' : IntKind.i64.wrap ((p : Int) + 1 - 1) = (p : Int) := by rw [Int.add_sub_cancel]; exact k1
    have k2 : IntKind.i64.wrap (64 * (p : Int)) = ((64 * p : Nat) : Int) := by rw [IntWalk.i64_in _ (by omega)]; omega
    have k3 : IntKind.i64.wrap (((64 * p : Nat) : Int) + (bl : Int)) = (nb : Int) := by rw [IntWalk.i64_in _ (by omega)]; omega
    have k3' : IntKind.i64.wrap (64 * (p : Int) + (bl : Int)) = (nb : Int) := by rw [IntWalk.i64_in _ (by omega)]; omega
    have d1 : (((p + 1 : Nat) : Int) == 0) = false := beq_eq_false_iff_ne.2 (by omega)
    have hpn : p < p + 1 := Nat.lt_succ_self p
    clear hn4 hl4 hve hdg htr hl hA hcells hy hyB hy0 b1 b2 b3 hbl hlb hbl2 h0 hpl hnw
    go_wp2_with fail
    refine HL.out.mono ?_
    rintro e6 w6 ⟨rfl, rfl⟩
    go_wp2_with fail
    go_ret
    exact ⟨rfl, HB4.out⟩
end Go.Proofs.YtflchbejjofppaaGreatDoor.Nu
/- Walks: whole numbers as texts, and texts as whole fractions. -/
namespace Go.Proofs.YtflchbejjofppaaGreatDoor.Nu
open Go Go.Proofs Go.RowKit Go.Proofs.YtflchbejjofppaaGreatDoor
theorem tab_later {P : Program} {nm : String} {k : IntKind} {zs : List Int} {w w' : World} (h : Lib.TabIs P w nm k zs) (hb : Below w.heap.size w w') : Lib.TabIs P w' nm k zs := by
  unfold Lib.TabIs World.var? at h ⊢
  cases hg : P.globalNamed nm with
  | none => rw [hg] at h; cases h
  | some g =>
    rw [hg] at h
    simp only [Option.bind_some] at h ⊢
    have hlt : g < w.heap.size := by
      rcases Nat.lt_or_ge g w.heap.size with h1 | h1
      · exact h1
      · rw [Array.getElem?_eq_none h1] at h; cases h
    rw [hb.block g hlt]
    exact h
structure TbR (w : World) : Prop where
  tab : Lib.TabIs Tryz.prog w "internal/strconv.uint64pow10" .u64 Lib.pow10Tab
  mx : ∃ m : Int, w.cell? ⟨0, 0, none⟩ = some (.int .i64 m)
theorem TbR.later {w w' : World} (h : TbR w) (hb : Below w.heap.size w w') : TbR w' :=
  ⟨tab_later h.tab hb, by obtain ⟨m, hm⟩ := h.mx; exact ⟨m, (hb.cell (p := ⟨0, 0, none⟩) (World.block_lt_of_cell? _ _ hm)).trans hm⟩⟩
theorem itoa123 (w : World) (hw : TbR w) (z : Int) (h1 : -9223372036854775808 ≤ z) (h2 : z ≤ 9223372036854775807) : Calls Tryz.prog 123 #[.int .i64 z] w (Ret (.string (txz z)) w) :=
  (Tryz.strconv_Itoa z h1 h2 w hw.tab).mono fun _ _ h => ⟨h.1, by obtain ⟨k, os, rfl⟩ := h.2; exact Lib.below_grow _ _ (Nat.le_refl _) k os⟩
theorem cut86z (w : World) (hw : TbR w) (z : Int) (hz : (txz z).size < 4294967281) : Calls Tryz.prog 86 #[.string (txz z), .string ⟨#[47]⟩] w (Ret (.tuple #[.string (txz z), .string ⟨#[]⟩, .bool false]) w) := by
  obtain ⟨m, hm⟩ := hw.mx
  have h := Tryz.strings_Cut (txz z) ⟨#[47]⟩ m w hz hm
  rw [txz_list, show (⟨#[47]⟩ : ByteArray).data.toList = [47] from rfl, cut_itoa] at h
  exact h.mono fun _ _ h => ⟨h.1, by obtain ⟨n, rfl⟩ := h.2; exact below_drewN (Below.refl _ _) n⟩
theorem sm_size {z : Int} (hz : z.natAbs < 10 ^ 18) : (txz z).size < 4294967281 := by
  rw [txz_size]; have := itoa_len_le (k := 18) (by decide) hz; omega
set_option maxRecDepth 100000 in
set_option maxHeartbeats 1000000 in
theorem sstring93 (w : World) (hw : TbR w) (z : Int) (hz : Sm z) : Calls Tryz.prog 93 #[.agg #[.int .i64 z, .slice none 0 0]] w (Ret (.string (txz z)) w) := by
  have hq := fun (w : World) (a : Option Addr) (n c : Nat) => Lib.run_eql_slice_nil w 79 157 a n c 0 0 Tryz.underlying79
  have HI := Lib.hid (fun (w1 : World) (hb : Below w.heap.size w w1) => itoa123 w1 (hw.later hb) z (by have := hz.lo; omega) (by have := hz.hi; omega))
  generalize txz z = X at *
  clear hz hw
  have HB := Lib.hid ((Below.refl w.heap.size w).alloc (Nat.le_refl _) (.cells #[.int .i64 z, .slice none 0 0] 81))
  have HX := Lib.hid (Box.new w #[.int .i64 z, .slice none 0 0] 81)
  obtain ⟨x0, x1, xf, xz⟩ := HX.out.v2
  go_enter Tryz.func93, Tryz.ntmps93
  go_wp2_with fail
  refine (HI.out _ HB.out).mono ?_
  rintro e4 w4 ⟨rfl, hb⟩
  replace HB := Lib.hid (HB.out.trans (hb.mono HB.out.size))
  clear hb
  go_wp2_with fail
  go_ret
  exact ⟨rfl, HB.out⟩
set_option maxRecDepth 100000 in
set_option maxHeartbeats 1000000 in
theorem stext67 (w : World) (hw : TbR w) (z : Int) (hz : Sm z) : Calls Tryz.prog 67 #[.agg #[.int .i64 z, .slice none 0 0, .int .i64 1, .slice none 0 0]] w (Ret (.string (txz z)) w) := by
  have HI := Lib.hid (fun (w1 : World) (hb : Below w.heap.size w w1) => sstring93 w1 (hw.later hb) z hz)
  have HW := Lib.hid (fun (w1 : World) => sisWhole68 w1 z)
  generalize txz z = X at *
  clear hz hw
  have HB := Lib.hid ((Below.refl w.heap.size w).alloc (Nat.le_refl _) (.cells #[.int .i64 z, .slice none 0 0, .int .i64 1, .slice none 0 0] 83))
  have HX := Lib.hid (Box.new w #[.int .i64 z, .slice none 0 0, .int .i64 1, .slice none 0 0] 83)
  obtain ⟨x0, x1, x2, x3, xf, xz⟩ := HX.out.w4
  go_enter Tryz.func67, Tryz.ntmps67
  go_wp2_with fail
  refine (HW.out _).mono ?_
  rintro e3 w3 ⟨rfl, hb⟩
  replace HB := Lib.hid (HB.out.trans (hb.mono HB.out.size))
  replace HX := Lib.hid (HX.out.later hb)
  clear hb x0 x1 x2 x3 xf xz
  obtain ⟨x0, x1, x2, x3, xf, xz⟩ := HX.out.w4
  go_wp2_with fail
  refine (HI.out _ HB.out).mono ?_
  rintro e4 w4 ⟨rfl, hb⟩
  replace HB := Lib.hid (HB.out.trans (hb.mono HB.out.size))
  clear hb
  go_wp2_with fail
  go_ret
  exact ⟨rfl, HB.out⟩
set_option maxRecDepth 100000 in
set_option maxHeartbeats 1000000 in
theorem slong92 (w : World) (z : Int) (hz : Sm z) : Calls Tryz.prog 92 #[.agg #[.int .i64 z, .slice none 0 0]] w (Ret (.bool false) w) := by
  have HI := Lib.hid (fun (w1 : World) => bits122 w1 _ z (IntR.small w1 (by have := hz.lo; omega) (by have := hz.hi; omega)) ((Wds.small (by have := hz.lo; omega) (by have := hz.hi; omega)).mono (by decide)))
  have hn : nbits z.natAbs ≤ 64 := by
    unfold nbits
    split
    · omega
    · rename_i h0
      have := (Nat.log2_lt h0 (k := 64)).2 (by have := hz.lo; have := hz.hi; omega)
      omega
  generalize nbits z.natAbs = n at *
  clear hz
  have d0 : decide (1800 < n) = false := decide_eq_false (by omega)
  have d1 : decide (1800 < (n : Int)) = false := decide_eq_false (by omega)
  have HB := Lib.hid ((Below.refl w.heap.size w).alloc (Nat.le_refl _) (.cells #[.int .i64 z, .slice none 0 0] 81))
  have HX := Lib.hid (Box.new w #[.int .i64 z, .slice none 0 0] 81)
  obtain ⟨x0, x1, xf, xz⟩ := HX.out.v2
  go_enter Tryz.func92, Tryz.ntmps92
  go_wp2_with fail
  refine (HI.out _).mono ?_
  rintro e4 w4 ⟨rfl, hb⟩
  replace HB := Lib.hid (HB.out.trans (hb.mono HB.out.size))
  clear hb
  go_wp2_with fail
  go_ret
  exact ⟨rfl, HB.out⟩
set_option maxRecDepth 100000 in
set_option maxHeartbeats 1000000 in
theorem slarge66 (w : World) (z : Int) (hz : Sm z) : Calls Tryz.prog 66 #[.agg #[.int .i64 z, .slice none 0 0, .int .i64 1, .slice none 0 0]] w (Ret (.bool false) w) := by
  have HI := Lib.hid (fun (w1 : World) => slong92 w1 z hz)
  have HO := Lib.hid (fun (w1 : World) => slong92 w1 1 ⟨by omega, by omega⟩)
  clear hz
  have HB := Lib.hid ((Below.refl w.heap.size w).alloc (Nat.le_refl _) (.cells #[.int .i64 z, .slice none 0 0, .int .i64 1, .slice none 0 0] 83))
  have HX := Lib.hid (Box.new w #[.int .i64 z, .slice none 0 0, .int .i64 1, .slice none 0 0] 83)
  obtain ⟨x0, x1, x2, x3, xf, xz⟩ := HX.out.w4
  go_enter Tryz.func66, Tryz.ntmps66
  go_wp2_with fail
  refine (HI.out _).mono ?_
  rintro e3 w3 ⟨rfl, hb⟩
  replace HB := Lib.hid (HB.out.trans (hb.mono HB.out.size))
  replace HX := Lib.hid (HX.out.later hb)
  clear hb x0 x1 x2 x3 xf xz
  obtain ⟨x0, x1, x2, x3, xf, xz⟩ := HX.out.w4
  go_wp2_with fail
  refine (HO.out _).mono ?_
  rintro e4 w4 ⟨rfl, hb⟩
  replace HB := Lib.hid (HB.out.trans (hb.mono HB.out.size))
  clear hb
  go_wp2_with fail
  go_ret
  exact ⟨rfl, HB.out⟩
set_option maxRecDepth 100000 in
set_option maxHeartbeats 1000000 in
theorem sfrom65 (w : World) (hw : TbR w) (z : Int) (hz : z.natAbs < 10 ^ 18) : Calls Tryz.prog 65 #[.string (txz z)] w (Ret (.agg #[.int .i64 z, .slice none 0 0, .int .i64 1, .slice none 0 0]) w) := by
  have HC := Lib.hid (fun (w1 : World) (hb : Below w.heap.size w w1) => cut86z w1 (hw.later hb) z (sm_size hz))
  have HR := Lib.hid (fun (w1 : World) => sread90 w1 z hz)
  have HV := Lib.hid (fun (w1 : World) => swhole69 w1 z)
  generalize txz z = X at *
  clear hz hw
  have HB := Lib.hid ((Below.refl w.heap.size w).alloc (Nat.le_refl _) (.cells #[.int .i64 0, .slice none 0 0, .int .i64 0, .slice none 0 0] 83))
  have HZ := Lib.hid (Box.new w #[.int .i64 0, .slice none 0 0, .int .i64 0, .slice none 0 0] 83)
  obtain ⟨z0, z1, z2, z3, zf, zz⟩ := HZ.out.w4
  go_enter Tryz.func65, Tryz.ntmps65
  go_wp2_with fail
  refine (HC.out _ HB.out).mono ?_
  rintro e3 w3 ⟨rfl, hb⟩
  replace HB := Lib.hid (HB.out.trans (hb.mono HB.out.size))
  replace HZ := Lib.hid (HZ.out.later hb)
  clear hb z0 z1 z2 z3 zf zz
  obtain ⟨z0, z1, z2, z3, zf, zz⟩ := HZ.out.w4
  go_wp2_with fail
  refine (HR.out _).mono ?_
  rintro e4 w4 ⟨rfl, hb⟩
  replace HB := Lib.hid (HB.out.trans (hb.mono HB.out.size))
  replace HZ := Lib.hid (HZ.out.later hb)
  clear hb z0 z1 z2 z3 zf zz
  obtain ⟨z0, z1, z2, z3, zf, zz⟩ := HZ.out.w4
  go_wp2_with fail
  refine (HV.out _).mono ?_
  rintro e5 w5 ⟨rfl, hb⟩
  replace HB := Lib.hid (HB.out.trans (hb.mono HB.out.size))
  replace HZ := Lib.hid (HZ.out.later hb)
  clear hb z0 z1 z2 z3 zf zz
  obtain ⟨z0, z1, z2, z3, zf, zz⟩ := HZ.out.w4
  go_wp2_with fail
  refine bodyPost_ret (v := .agg #[.int .i64 z, .slice none 0 0, .int .i64 1, .slice none 0 0]) (by simp [results, Tryz.results65, go_sem, *]) rfl ?_
  refine Ret.mk rfl ?_
  repeat (first | exact HB.out | exact Below.refl _ _ | refine Below.setCell ?_ (by first | (dsimp only; omega) | (simp; done) | (simp; omega)) _ | refine Below.alloc ?_ (by first | omega | (simp; done) | (simp; omega)) _ | refine Below.drew ?_)
end Go.Proofs.YtflchbejjofppaaGreatDoor.Nu
/- Walks: texts, byte by byte (the reference's slash, value, Digits). -/
namespace Go.Proofs.YtflchbejjofppaaGreatDoor.Nu
open Go Go.Proofs Go.RowKit Go.Proofs.YtflchbejjofppaaGreatDoor
theorem tx_get (l : List UInt8) (k : Nat) (h : k < (tx l).size) : (tx l)[k] = l[k]'(by rwa [tx_size] at h) := by
  show (tx l).data[k] = _
  simp [tx]
theorem run_idx {P : Program} {t : TypeId} (h : P.underlying t = some .string) (l : List UInt8) (k : Nat) (hk : k < l.length) (w : World) : (Instr.index t (.string (tx l)) (.int .i64 (k : Int))).run P w = .ok (.int .u8 (l[k].toNat : Int)) w := by
  rw [run_index_string w t (tx l) .i64 (k : Int) h, dif_pos ⟨by omega, by rw [tx_size]; omega⟩]
  simp only [Int.toNat_natCast]
  rw [tx_get]
theorem tx_extract (l : List UInt8) (a b : Nat) : (tx l).extract a b = tx ((l.take b).drop a) := by
  apply ByteArray.ext
  simp [tx, List.extract_eq_take_drop, List.drop_take]
theorem tx_app (a b : List UInt8) : tx a ++ tx b = tx (a ++ b) := by
  apply ByteArray.ext
  simp [tx]
set_option maxRecDepth 100000 in
set_option maxHeartbeats 1000000 in
theorem slash74 (w : World) (l : List UInt8) (hl : l.length ≤ 1000000000) : Calls Tryz.prog 74 #[.string (tx l)] w fun e w' => e = .returned (.int .i64 ((slashL l : Nat) : Int)) ∧ w = w' := by
  have HI := Lib.hid (fun (k : Nat) (hk : k < l.length) (w : World) => run_idx (P := Tryz.prog) (t := 9) Tryz.underlying9 l k hk w)
  have HF := Lib.hid (fun (k : Nat) (hk : k < l.length) (h1 : ∀ c ∈ l.take k, c ≠ 47) (h2 : l[k] = 47) => (show slashL l = k by
    unfold slashL
    rw [List.findIdx_eq hk]
    refine ⟨by simpa using h2, fun j hj => ?_⟩
    have := h1 l[j] (by rw [List.mem_take_iff_getElem]; exact ⟨j, by omega, rfl⟩)
    simpa using this))
  have HE := Lib.hid (fun (h1 : ∀ c ∈ l.take l.length, c ≠ 47) => (show slashL l = l.length from slash_no (fun h => h1 47 (by rw [List.take_length]; exact h) rfl)))
  have HT := Lib.hid (fun (k : Nat) (hk : k < l.length) => List.take_succ_eq_append_getElem hk)
  have hsz := tx_size l
  obtain ⟨X, hX⟩ : ∃ X, tx l = X := ⟨_, rfl⟩
  obtain ⟨n, hn⟩ : ∃ n, l.length = n := ⟨_, rfl⟩
  have HN := Lib.hid hn
  rw [hX] at HI hsz ⊢
  rw [hn] at hsz hl
  clear hX hn
  go_enter Tryz.func74, Tryz.ntmps74
  go_wp2_with fail
  go_loop [3] (fun i => ∃ k : Nat, k ≤ n ∧ i = .int .i64 k ∧ ∀ c ∈ l.take k, c ≠ 47) (fun i => n - (intOf i).toNat)
  case atStart => exact ⟨0, by omega, rfl, by simp⟩
  case round =>
    obtain ⟨k, hk, rfl, hz⟩ := hrel
    have HZ := Lib.hid hz
    clear hz
    by_cases hlt : k < n
    · have hkl : k < l.length := by rw [HN.out]; exact hlt
      have hi := HI.out k hkl
      have HF1 := Lib.hid (HF.out k hkl HZ.out)
      have HT1 := Lib.hid (HT.out k hkl)
      generalize l[k] = c at *
      by_cases hc : c = 47
      · subst hc
        have HS := Lib.hid (HF1.out rfl)
        go_wp2_with fail
        go_ret
        exact ⟨by rw [HS.out]; rfl, rfl⟩
      · have d0 : ((c.toNat : Int) == 47) = false := beq_eq_false_iff_ne.2 (fun e => hc (UInt8.toNat_inj.1 (by rw [show (47 : UInt8).toNat = 47 from rfl]; omega)))
        have HC := Lib.hid hc
        clear hc
        go_wp2_with fail
        go_round
        case rel => exact ⟨k + 1, by omega, by go_num, by
          rw [HT1.out]; intro x hx; rcases List.mem_append.1 hx with h | h
          · exact HZ.out x h
          · rw [List.mem_singleton.1 h]; exact HC.out⟩
        case measure => simp [intOf]; omega
    · obtain rfl : k = n := by omega
      have HS := Lib.hid (HE.out (by rw [HN.out]; exact HZ.out))
      rw [HN.out] at HS
      go_wp2_with fail
      go_ret
      exact ⟨by rw [HS.out]; rfl, rfl⟩
set_option maxRecDepth 100000 in
set_option maxHeartbeats 1000000 in
theorem digits106 (w : World) (l : List UInt8) (hl : l.length ≤ 1000000000) (hd : ∀ c ∈ l, isDig c) : Calls Tryz.prog 106 #[.string (tx l)] w fun e w' => e = .returned (.bool true) ∧ w = w' := by
  have HI := Lib.hid (fun (k : Nat) (hk : k < l.length) (w : World) => run_idx (P := Tryz.prog) (t := 9) Tryz.underlying9 l k hk w)
  have HD := Lib.hid (fun (k : Nat) (hk : k < l.length) => hd _ (List.getElem_mem hk))
  have hsz := tx_size l
  obtain ⟨X, hX⟩ : ∃ X, tx l = X := ⟨_, rfl⟩
  obtain ⟨n, hn⟩ : ∃ n, l.length = n := ⟨_, rfl⟩
  have HN := Lib.hid hn
  rw [hX] at HI hsz ⊢
  rw [hn] at hsz hl
  clear hX hn hd
  go_enter Tryz.func106, Tryz.ntmps106
  go_wp2_with fail
  go_loop [3] (fun i => ∃ k : Nat, k ≤ n ∧ i = .int .i64 k) (fun i => n - (intOf i).toNat)
  case atStart => exact ⟨0, by omega, rfl⟩
  case round =>
    obtain ⟨k, hk, rfl⟩ := hrel
    by_cases hlt : k < n
    · have hkl : k < l.length := by rw [HN.out]; exact hlt
      have hi := HI.out k hkl
      obtain ⟨h1, h2⟩ := HD.out k hkl
      generalize l[k] = c at *
      generalize c.toNat = m at *
      have d0 : decide ((m : Int) < 48) = false := decide_eq_false (by omega)
      have d1 : decide ((57 : Int) < (m : Int)) = false := decide_eq_false (by omega)
      have d2 : decide (m < 48) = false := decide_eq_false (by omega)
      have d3 : decide (57 < m) = false := decide_eq_false (by omega)
      go_wp2_with fail
      go_round
      case rel => exact ⟨k + 1, by omega, by go_num⟩
      case measure => simp [intOf]; omega
    · go_wp2_with fail
      go_ret
      exact ⟨rfl, rfl⟩
set_option maxRecDepth 100000 in
set_option maxHeartbeats 1000000 in
theorem value132 (w : World) (l : List UInt8) (hl : l.length ≤ 18) (hd : ∀ c ∈ l, isDig c) : Calls Tryz.prog 132 #[.string (tx l)] w fun e w' => e = .returned (.int .i64 ((dval l : Nat) : Int)) ∧ w = w' := by
  have HI := Lib.hid (fun (k : Nat) (hk : k < l.length) (w : World) => run_idx (P := Tryz.prog) (t := 9) Tryz.underlying9 l k hk w)
  have HD := Lib.hid (fun (k : Nat) (hk : k < l.length) => hd _ (List.getElem_mem hk))
  have HV := Lib.hid (fun (k : Nat) (hk : k < l.length) => (show dval (l.take (k + 1)) = 10 * dval (l.take k) + (l[k].toNat - 48) by rw [List.take_succ_eq_append_getElem hk, dval_snoc]))
  have HB := Lib.hid (fun (k : Nat) (hk : k ≤ 17) => (show dval (l.take k) < 10 ^ 17 by
    have h := dval_lt (l := l.take k) (fun c hc => hd c (List.mem_of_mem_take hc))
    exact Nat.lt_of_lt_of_le h (Nat.pow_le_pow_right (by decide) (by rw [List.length_take]; omega))))
  have HE := Lib.hid (show dval (l.take l.length) = dval l by rw [List.take_length])
  have hsz := tx_size l
  obtain ⟨X, hX⟩ : ∃ X, tx l = X := ⟨_, rfl⟩
  obtain ⟨n, hn⟩ : ∃ n, l.length = n := ⟨_, rfl⟩
  have HN := Lib.hid hn
  rw [hX] at HI hsz ⊢
  rw [hn] at hsz hl HE
  clear hX hn hd
  go_enter Tryz.func132, Tryz.ntmps132
  go_wp2_with fail
  go_loop [3, 4] (fun a i => ∃ k : Nat, k ≤ n ∧ i = .int .i64 k ∧ a = .int .i64 ((dval (l.take k) : Nat) : Int)) (fun _ i => n - (intOf i).toNat)
  case atStart => exact ⟨0, by omega, rfl, rfl⟩
  case round =>
    obtain ⟨k, hk, rfl, rfl⟩ := hrel
    by_cases hlt : k < n
    · have hkl : k < l.length := by rw [HN.out]; exact hlt
      have hv := HB.out k (by omega)
      have e18 : (10 : Nat) ^ 17 = 100000000000000000 := by decide
      rw [e18] at hv
      have hi := HI.out k hkl
      obtain ⟨h1, h2⟩ := HD.out k hkl
      have HV1 := Lib.hid (HV.out k hkl)
      generalize l[k] = c at *
      generalize c.toNat = m at *
      obtain ⟨v, hvv⟩ : ∃ v, dval (l.take k) = v := ⟨_, rfl⟩
      rw [hvv] at HV1 hv ⊢
      clear hvv e18
      have k1 : IntKind.i64.wrap (10 * (v : Int)) = 10 * (v : Int) := IntWalk.i64_in _ (by omega)
      have k2 : IntKind.i64.wrap (m : Int) = m := IntWalk.i64_in _ (by omega)
      have k3 : IntKind.i64.wrap (10 * (v : Int) + m) = 10 * (v : Int) + m := IntWalk.i64_in _ (by omega)
      have k4 : IntKind.i64.wrap (10 * (v : Int) + m - 48) = 10 * (v : Int) + m - 48 := IntWalk.i64_in _ (by omega)
      have HG := Lib.hid (show 10 * (v : Int) + m - 48 = ((10 * v + (m - 48) : Nat) : Int) by omega)
      go_wp2_with fail
      go_round
      case rel => exact ⟨k + 1, by omega, by go_num, by rw [HV1.out, HG.out]⟩
      case measure => simp [intOf]; omega
    · obtain rfl : k = n := by omega
      go_wp2_with fail
      go_ret
      exact ⟨by rw [← HE.out]; rfl, rfl⟩
end Go.Proofs.YtflchbejjofppaaGreatDoor.Nu
/- Walks: measure.Check at whole numbers. -/
namespace Go.Proofs.YtflchbejjofppaaGreatDoor.Nu
open Go Go.Proofs Go.RowKit Go.Proofs.YtflchbejjofppaaGreatDoor
theorem tx_toList (l : List UInt8) : (tx l).toList = l := by rw [Lib.toList_data, tx_list]
theorem tx_beq (l m : List UInt8) : ((tx l).toList == m) = decide (l = m) := by
  rw [tx_toList]
  by_cases h : l = m
  · subst h; simp
  · rw [decide_eq_false h]; simpa using h
theorem trim144 (w : World) (l : List UInt8) (hl : l.length < 1000000000) (h : ∀ c ∈ l, isDig c) : Calls Tryz.prog 144 #[.string (tx l), .string ⟨#[48, 49, 50, 51, 52, 53, 54, 55, 56, 57]⟩] w (Ret (.string ⟨#[]⟩) w) := by
  have h1 := Any.strings_Trim_laid Tryz.lays160 (by kernel_rfl) (tx l) ⟨#[48, 49, 50, 51, 52, 53, 54, 55, 56, 57]⟩ w (by rw [tx_size]; omega) (by decide) (ascii_of_all (by decide))
  rw [tx_list, show (⟨#[48, 49, 50, 51, 52, 53, 54, 55, 56, 57]⟩ : ByteArray).data.toList = digT from rfl, trimS_dig h] at h1
  exact h1
set_option maxRecDepth 100000 in
set_option maxHeartbeats 1000000 in
theorem digits116 (w : World) (l : List UInt8) (h0 : l ≠ []) (hl : l.length < 1000000000) (h : ∀ c ∈ l, isDig c) : Calls Tryz.prog 116 #[.string (tx l)] w (Ret (.bool true) w) := by
  have HT := Lib.hid (fun (w1 : World) => trim144 w1 l hl h)
  have d0 : ((tx l).toList == []) = false := by rw [tx_beq, decide_eq_false h0]
  generalize tx l = X at *
  clear h h0 hl
  go_enter Tryz.func116, Tryz.ntmps116
  go_wp2_with fail
  refine (HT.out _).mono ?_
  rintro e4 w4 ⟨rfl, hb⟩
  have HB := Lib.hid hb
  clear hb
  go_wp2_with fail
  go_ret
  exact ⟨rfl, HB.out⟩
set_option maxRecDepth 100000 in
set_option maxHeartbeats 1000000 in
theorem plain88 (w : World) (n : Nat) (hn : n < 10 ^ 18) : Calls Tryz.prog 88 #[.string (tx (Lib.decDigits n))] w (Ret (.bool true) w) := by
  have hl : (Lib.decDigits n).length ≤ 18 := (dec_len_le (by decide)).2 hn
  have HT := Lib.hid (fun (w1 : World) => digits116 w1 _ (dec_ne n) (by omega) (dec_dig n))
  have hlt : 0 < (Lib.decDigits n).length := dec_pos_len n
  have hi : ∀ (w : World), (Instr.index 9 (.string (tx (Lib.decDigits n))) (.int .i64 0)).run Tryz.prog w = .ok (.int .u8 ((Lib.decDigits n)[0].toNat : Int)) w := fun w => run_idx (P := Tryz.prog) (t := 9) Tryz.underlying9 _ 0 hlt w
  have hway : (((tx (Lib.decDigits n)).toList == [48]) = true) ∨ (((tx (Lib.decDigits n)).toList == [48]) = false ∧ (((Lib.decDigits n)[0].toNat : Int) == 48) = false) := by
    rw [tx_beq]
    by_cases h : n = 0
    · subst h; exact .inl (decide_eq_true dec_zero)
    · refine .inr ⟨decide_eq_false fun e => h (dec_inj (by rw [e, dec_zero])), beq_eq_false_iff_ne.2 fun e => ?_⟩
      have h1 := dec_head (n := n) (by omega)
      rw [List.head?_eq_getElem?, List.getElem?_eq_getElem hlt] at h1
      exact h1 (congrArg some (UInt8.toNat_inj.1 (by rw [show (48 : UInt8).toNat = 48 from rfl]; omega)))
  generalize ((Lib.decDigits n)[0].toNat : Int) = c at *
  have hsz : (tx (Lib.decDigits n)).size = (Lib.decDigits n).length := tx_size _
  generalize tx (Lib.decDigits n) = X at *
  generalize (Lib.decDigits n).length = m at *
  clear hn
  rcases hway with d0 | ⟨d0, d1⟩
  · clear hi
    go_enter Tryz.func88, Tryz.ntmps88
    go_wp2_with fail
    refine (HT.out _).mono ?_
    rintro e4 w4 ⟨rfl, hb⟩
    have HB := Lib.hid hb
    clear hb
    go_wp2_with fail
    go_ret
    exact ⟨rfl, HB.out⟩
  · have d2 : (c != 48) = true := by rw [bne, d1]; rfl
    go_enter Tryz.func88, Tryz.ntmps88
    go_wp2_with fail
    refine (HT.out _).mono ?_
    rintro e4 w4 ⟨rfl, hb⟩
    have HB := Lib.hid hb
    clear hb
    go_wp2_with fail
    go_ret
    exact ⟨rfl, HB.out⟩
set_option maxRecDepth 100000 in
set_option maxHeartbeats 4000000 in
theorem check64 (w : World) (hw : TbR w) (z : Int) (hz : z.natAbs < 10 ^ 18) : Calls Tryz.prog 64 #[.string (txz z)] w (Ret (.int .i64 0) w) := by
  have HC := Lib.hid (cut86z w hw z (sm_size hz))
  have HTP := Lib.hid (fun (w1 : World) => (by
    have h := Tryz.strings_TrimPrefix (txz z) ⟨#[45]⟩ w1
    rw [txz_list, show (⟨#[45]⟩ : ByteArray).data.toList = [45] from rfl, trimPrefix_itoa] at h
    exact h.mono (fun e w' h => ⟨h.1, h.2.symm⟩) : Calls Tryz.prog 87 #[.string (txz z), .string ⟨#[45]⟩] w1 fun e w' => e = .returned (.string (tx (Lib.decDigits z.natAbs))) ∧ w1 = w'))
  have HP := Lib.hid (fun (w1 : World) => plain88 w1 z.natAbs hz)
  have d0 : ((txz z).toList == [45, 48]) = false := by
    unfold txz
    rw [tx_beq]
    refine decide_eq_false fun e => ?_
    by_cases h : z < 0
    · rw [itoa_ng h] at e
      injection e with _ e
      have : z.natAbs = 0 := dec_inj (by rw [e, dec_zero])
      omega
    · exact itoa_head_nn (z := z) (by omega) (by rw [e]; rfl)
  have hl : (Lib.decDigits z.natAbs).length ≤ 18 := (dec_len_le (by decide)).2 hz
  have hsz : (tx (Lib.decDigits z.natAbs)).size = (Lib.decDigits z.natAbs).length := tx_size _
  have hsz2 : (⟨#[]⟩ : ByteArray).size = 0 := rfl
  generalize tx (Lib.decDigits z.natAbs) = D at *
  generalize (Lib.decDigits z.natAbs).length = m at *
  generalize txz z = X at *
  have d1 : decide (600 < m) = false := decide_eq_false (by omega)
  have d2 : decide ((600 : Int) < (m : Int)) = false := decide_eq_false (by omega)
  clear hz hw
  go_enter Tryz.func64, Tryz.ntmps64
  go_wp2_with fail
  refine HC.out.mono ?_
  rintro e3 w3 ⟨rfl, hb⟩
  have HB3 := Lib.hid hb
  clear hb
  go_wp2_with fail
  refine (HTP.out _).mono ?_
  rintro e4 w4 ⟨rfl, rfl⟩
  go_wp2_with fail
  refine (HP.out _).mono ?_
  rintro e5 w5 ⟨rfl, hb⟩
  have HB5 := Lib.hid (HB3.out.trans (hb.mono HB3.out.size))
  clear hb
  go_wp2_with fail
  go_ret
  exact ⟨rfl, HB5.out⟩
end Go.Proofs.YtflchbejjofppaaGreatDoor.Nu
