/- Lemmas on the way to the law TopChanges (part 16): Ea Eb ShA Dd De -/
import Derived.Test.YtflchbejjofppaaGreatDoorTopChangesP01
import Derived.Test.YtflchbejjofppaaGreatDoorTopChangesP15
import Derived.Test.YtflchbejjofppaaGreatDoorTopChangesP11
import Derived.IntWalk
import Derived.RegionTactic
import Derived.BigRegion
import Derived.Shelf.Strings.Builder1
import Derived.Shelf.Strings.Builder2
import Derived.Shelf.Strings.Trim
import Derived.Shelf.Small.Utf8
import Derived.Shelf.Small.Bits
import Derived.Shelf.Small.Strs
import Derived.Shelf.Strings.BuilderF
import Derived.Shelf.Strings.BuilderK
import Derived.Shelf.Strconv.Atoi
import Derived.Shelf.Strconv.Itoa0
import Derived.Shelf.Strconv.Itoa1
import Derived.Shelf.LaysM
import Derived.Shelf.Strconv.Itoa2
import Derived.Shelf.Strconv.Itoa3
import Derived.Shelf.Strings.Search1
import Derived.Shelf.Strings.Search2
import Derived.Shelf.Strings.Cut
import Derived.Shelf.Strings.Shaped
import Derived.Shelf.Strings.Prefix
import Derived.Shelf.Unicode.Decode
import Derived.Shelf.Strings.Runes
import Derived.Shelf.Strings.AsciiSet
import Derived.Shelf.Bits.Mul64
import Derived.Shelf.Strings.Repeat
import Derived.Shelf.Unicode.DecodeSlow
import Derived.Shelf.Unicode.DecodeAny
import Derived.Shelf.Unicode.DecodeLast
import Derived.Test.YtflchbejjofppaaGreatDoorProg
import Derived.Lib.ItoaNum
set_option linter.unusedVariables false
set_option linter.unusedSimpArgs false

/- How numbers lie in memory: slices of digits, with their room. -/
namespace Go.Proofs.YtflchbejjofppaaGreatDoor.Nu
open Go Go.Proofs Go.RowKit Go.Proofs.YtflchbejjofppaaGreatDoor
def encW (n : Nat) : List Value := [.int .u64 (n : Int)]
theorem encW_len (n : Nat) : (encW n).length = 1 := rfl
theorem encW_one (x : Nat) : ∀ u ∈ encW x, u.oneCell' = true := by intro u hu; simp [encW] at hu; subst hu; rfl
def encD (n : Nat) : List Value := [.int .i64 (n : Int)]
theorem encD_len (n : Nat) : (encD n).length = 1 := rfl
theorem encD_one (x : Nat) : ∀ u ∈ encD x, u.oneCell' = true := by intro u hu; simp [encD] at hu; subst hu; rfl
def encS (s : ByteArray) : List Value := [.string s]
theorem encS_len (s : ByteArray) : (encS s).length = 1 := rfl
def Sc {α : Type} (f : α → List Value) (sz : Nat) (w : World) (B : Nat) (v : Value) (l : List α) : Prop :=
  ∃ a c, v = .slice a l.length c ∧ l.length ≤ 1000000000 ∧ l.length ≤ c ∧ (0 < l.length → ∃ b off, a = some ⟨b, off, none⟩ ∧ b < B ∧
    ∀ i (h : i < l.length), At w b (off + i * sz) (f l[i]))
section
variable {α : Type} {f : α → List Value} {sz : Nat} {w w' : World} {B B' : Nat} {v : Value} {l : List α}
theorem Sc.below (h : Sc f sz w B v l) (hb : Below B w w') : Sc f sz w' B v l := by
  obtain ⟨a, c, rfl, h1, h2, h⟩ := h
  refine ⟨a, c, rfl, h1, h2, fun h0 => ?_⟩
  obtain ⟨b, off, rfl, hB, hc⟩ := h h0
  exact ⟨b, off, rfl, hB, fun i hi => (hc i hi).below hb hB⟩
theorem Sc.mono (h : Sc f sz w B v l) (hB' : B ≤ B') : Sc f sz w B' v l := by
  obtain ⟨a, c, rfl, h1, h2, h⟩ := h
  refine ⟨a, c, rfl, h1, h2, fun h0 => ?_⟩
  obtain ⟨b, off, rfl, hB, hc⟩ := h h0
  exact ⟨b, off, rfl, by omega, hc⟩
theorem Sc.later (h : Sc f sz w w.heap.size v l) (hb : Below w.heap.size w w') : Sc f sz w' w'.heap.size v l := (h.below hb).mono hb.size
theorem Sc.nil (f : α → List Value) (sz : Nat) (w : World) (B c : Nat) (a : Option Addr) : Sc f sz w B (.slice a 0 c) [] := ⟨a, c, rfl, by simp, Nat.zero_le _, fun h => absurd h (by simp)⟩
theorem Sc.of_own {base : Nat} {e : TypeId} (hf : ∀ x, (f x).length = sz) (hlen : l.length ≤ 1000000000) (h : Own f sz e w base v l) : Sc f sz w w.heap.size v l := by
  rcases h.2 with ⟨rfl, h0⟩ | ⟨g, cap, cur, rfl, _, hg, hcap, _⟩
  · obtain rfl : l = [] := List.eq_nil_of_length_eq_zero h0
    exact Sc.nil f sz w _ 0 none
  · refine ⟨_, cap, rfl, hlen, hcap, fun _ => ⟨g, 0, rfl, (Array.getElem?_eq_some_iff.1 hg).1, fun i hi j u hu => ?_⟩⟩
    have hj : j < sz := by have := (List.getElem?_eq_some_iff.1 hu).1; rwa [hf] at this
    rw [show 0 + i * sz + j = i * sz + j by omega, World.ownsRow.cellAt h (i * sz + j) (by have : (i + 1) * sz ≤ l.length * sz := Nat.mul_le_mul_right _ hi; rw [Nat.succ_mul] at this; omega), flat_get f sz hf l i hi j hj]
    exact hu
theorem Sc.take {a : Option Addr} {n c : Nat} (h : Sc f sz w B (.slice a n c) l) (k : Nat) (hk : k ≤ l.length) : Sc f sz w B (.slice a k c) (l.take k) := by
  obtain ⟨a', c', e, h1, h2, hA⟩ := h
  injection e with e1 e2 e3
  subst e1 e3
  have hl : (l.take k).length = k := by simp; omega
  refine ⟨a, c, by rw [hl], by rw [hl]; omega, by rw [hl]; omega, fun h0 => ?_⟩
  obtain ⟨b, off, e, hb, hc⟩ := hA (by omega)
  refine ⟨b, off, e, hb, fun i hi => ?_⟩
  rw [List.getElem_take]
  exact hc i (by rw [hl] at hi; omega)
theorem Sc.drop {b off n c : Nat} (h : Sc f sz w B (.slice (some ⟨b, off, none⟩) n c) l) (k : Nat) (hk : k ≤ l.length) (h0 : 0 < l.length) : Sc f sz w B (.slice (some ⟨b, off + k * sz, none⟩) (n - k) (c - k)) (l.drop k) := by
  obtain ⟨a', c', e, h1, h2, hA⟩ := h
  injection e with e1 e2 e3
  subst e1 e2 e3
  obtain ⟨b', off', e, hb, hc⟩ := hA h0
  cases e
  refine ⟨_, _, by rw [List.length_drop], by rw [List.length_drop]; omega, by rw [List.length_drop]; omega, fun _ => ⟨b, off + k * sz, rfl, hb, fun i hi => ?_⟩⟩
  rw [List.length_drop] at hi
  rw [List.getElem_drop, show off + k * sz + i * sz = off + (k + i) * sz by rw [Nat.add_mul]; omega]
  exact hc (k + i) (by omega)
theorem Sc.shape (h : Sc f sz w B v l) : ∃ a c, v = .slice a l.length c ∧ l.length ≤ 1000000000 ∧ l.length ≤ c := by
  obtain ⟨a, c, h1, h2, h3, _⟩ := h
  exact ⟨a, c, h1, h2, h3⟩
theorem Sc.at {b off n c : Nat} (h : Sc f sz w B (.slice (some ⟨b, off, none⟩) n c) l) (i : Nat) (hi : i < l.length) : At w b (off + i * sz) (f l[i]) := by
  obtain ⟨a', c', e, h1, h2, hA⟩ := h
  injection e with e1 e2 e3
  subst e1
  obtain ⟨b', off', e, hb, hc⟩ := hA (by omega)
  cases e
  exact hc i hi
theorem Sc.blk {b off n c : Nat} (h : Sc f sz w B (.slice (some ⟨b, off, none⟩) n c) l) (h0 : 0 < l.length) : b < B := by
  obtain ⟨a', c', e, h1, h2, hA⟩ := h
  injection e with e1 e2 e3
  subst e1
  obtain ⟨b', off', e, hb, hc⟩ := hA h0
  cases e
  exact hb
theorem Own.atN {e : TypeId} {base g n cap : Nat} (h : Own f sz e w base (.slice (some ⟨g, 0, none⟩) n cap) l) (hn : l.length = n) (hf : ∀ x, (f x).length = sz) (i : Nat) (hi : i < l.length) : At w g (i * sz) (f l[i]) := by subst hn; exact h.at hf i hi
theorem Own.frozenN {e : TypeId} {base g n cap : Nat} (h : Own f sz e w base (.slice (some ⟨g, 0, none⟩) n cap) l) (hn : l.length = n) (o : Nat) : w.frozen? ⟨g, o, none⟩ = false := by subst hn; exact h.frozen o
theorem Own.setN {e : TypeId} {base g n cap : Nat} (h : Own f sz e w base (.slice (some ⟨g, 0, none⟩) n cap) l) (hn : l.length = n) (hf : ∀ x, (f x).length = sz) (i : Nat) (hi : i < l.length) (j : Nat) (hj : j < sz) (u : Value) (y : α) (hy : f y = (f l[i]).set j u) :
    Own f sz e (w.setCell ⟨g, i * sz + j, none⟩ u) base (.slice (some ⟨g, 0, none⟩) n cap) (l.set i y) := by subst hn; exact h.set hf i hi j hj u y hy
end
theorem mk1 {α : Type} (f : α → List Value) (x0 : α) (z : Value) (hz : f x0 = [z]) (t e : TypeId) (bytes : Nat) {P : Program} (hT : P.underlying t = some (.slice e)) (hI : (P.info? e).map (fun i => (i.zero, i.size, i.bytes)) = some (some z, 1, bytes)) (hzc : z.cells = #[z])
    (hby : bytes ≤ 1000) (base : Nat) (w : World) (n : Nat) (hn : n ≤ 1000000000) (hb : base ≤ w.heap.size)
    {ops : Array Oper} {rest : List Oper} {o : Oper} {a : Act} {Q : Exit → Act → World → Prop} (hg : o.guard = none) (l c : Operand) (hop : o.op = Op.makeSlice t l c) (kl kc : IntKind) (hl : a.eval l = .int kl n) (hc : a.eval c = .int kc n)
    (h : ∀ w', Own f 1 e w' base (.slice (some ⟨w.heap.size, 0, none⟩) n n) (List.replicate n x0) → w.grownBy w' none → wpList P ops Q rest (a.put o.dst (.slice (some ⟨w.heap.size, 0, none⟩) n n)) w') : wpList P ops Q (o :: rest) a w := by
  obtain ⟨i, hi, h0, h1, h2⟩ := info_parts hI
  have hmul : bytes * n ≤ 1000 * 1000000000 := Nat.mul_le_mul hby hn
  refine wpList_make_full w hg l c t hop base e i z 1 hT hi h0 h1 kl kc _ _ n hl hc rfl rfl (by rw [h2]; omega) (by unfold maxLen; omega) hb ?_
  intro w' how hgr
  refine h w' ?_ hgr
  unfold Own
  rw [hzc, Nat.mul_one, toList_madeCells_one] at how
  have : (List.replicate n x0).flatMap f = List.replicate n z := by
    clear how hmul h hl hc hn
    induction n with
    | zero => rfl
    | succ n ih => rw [List.replicate_succ, List.flatMap_cons, ih, hz, List.replicate_succ]; rfl
  rw [this, List.length_replicate]
  exact how
theorem grown_none {w w' : World} (h : w.grownBy w' none) : Below w.heap.size w w' := (Below.refl _ _).grown h (Nat.le_refl _) (fun k hk => by cases hk)
def IntR (w : World) (v : Value) (z : Int) : Prop :=
  (v = .agg #[.int .i64 z, .slice none 0 0] ∧ -9223372036854775808 ≤ z ∧ z ≤ 9223372036854775807) ∨
  (∃ (s : Int) (b off n c : Nat) (l : List Nat), v = .agg #[.int .i64 s, .slice (some ⟨b, off, none⟩) n c] ∧ Sc encW 1 w w.heap.size (.slice (some ⟨b, off, none⟩) n c) l ∧ n = l.length ∧ 0 < n ∧ Dg (2 ^ 64) l ∧ Tr l ∧ 9223372036854775807 < val (2 ^ 64) l ∧
    ((s = 1 ∧ z = (val (2 ^ 64) l : Int)) ∨ (s = -1 ∧ z = -(val (2 ^ 64) l : Int))))
theorem IntR.later {w w' : World} {v : Value} {z : Int} (h : IntR w v z) (hb : Below w.heap.size w w') : IntR w' v z := by
  rcases h with h | ⟨s, b, off, n, c, l, h1, h2, h3⟩
  · exact .inl h
  · exact .inr ⟨s, b, off, n, c, l, h1, h2.later hb, h3⟩
theorem IntR.small (w : World) {z : Int} (h1 : -9223372036854775808 ≤ z) (h2 : z ≤ 9223372036854775807) : IntR w (.agg #[.int .i64 z, .slice none 0 0]) z := .inl ⟨rfl, h1, h2⟩
structure Wds (k : Nat) (z : Int) : Prop where
  lt : z.natAbs < 2 ^ (64 * k)
theorem Wds.mono {k m : Nat} {z : Int} (h : Wds k z) (hkm : k ≤ m) : Wds m z := ⟨Nat.lt_of_lt_of_le h.lt (Nat.pow_le_pow_right (by decide) (by omega))⟩
theorem Wds.neg {k : Nat} {z : Int} (h : Wds k z) : Wds k (-z) := ⟨by rw [Int.natAbs_neg]; exact h.lt⟩
theorem Wds.abs {k : Nat} {z : Int} (h : Wds k z) : Wds k (z.natAbs : Int) := ⟨by rw [Int.natAbs_natCast]; exact h.lt⟩
theorem Wds.small {z : Int} (h1 : -9223372036854775808 ≤ z) (h2 : z ≤ 9223372036854775807) : Wds 1 z := ⟨by omega⟩
theorem Wds.add {i j k : Nat} {a b : Int} (ha : Wds i a) (hb : Wds j b) (h1 : i < k) (h2 : j < k) : Wds k (a + b) := by
  obtain ⟨m, rfl⟩ : ∃ m, k = m + 1 := ⟨k - 1, by omega⟩
  have h1 := (ha.mono (show i ≤ m by omega)).lt
  have h2 := (hb.mono (show j ≤ m by omega)).lt
  refine ⟨?_⟩
  have e : 2 ^ (64 * (m + 1)) = 2 ^ (64 * m) * 2 ^ 64 := by rw [← Nat.pow_add, Nat.mul_add]
  have : (a + b).natAbs ≤ a.natAbs + b.natAbs := Int.natAbs_add_le a b
  have : 2 ^ (64 * m) * 2 ≤ 2 ^ (64 * m) * 2 ^ 64 := Nat.mul_le_mul_left _ (by decide)
  omega
theorem Wds.le {k : Nat} {a b : Int} (h : Wds k b) (hab : a.natAbs ≤ b.natAbs) : Wds k a := ⟨Nat.lt_of_le_of_lt hab h.lt⟩
theorem Wds.len {k : Nat} {l : List Nat} (h : Wds k (val (2 ^ 64) l : Int)) (ht : Tr l) : l.length ≤ k := by
  refine len_le (B := 2 ^ 64) (by decide) ht (n := k) ?_
  have h1 := h.lt
  rw [Int.natAbs_natCast] at h1
  rw [← Nat.pow_mul]
  exact h1
end Go.Proofs.YtflchbejjofppaaGreatDoor.Nu
/- Walks: num.size, num.Of, (num.Int).Small, (num.Int).Sign. -/
namespace Go.Proofs.YtflchbejjofppaaGreatDoor.Nu
open Go Go.Proofs Go.RowKit Go.Proofs.YtflchbejjofppaaGreatDoor
set_option maxRecDepth 100000 in
set_option maxHeartbeats 1000000 in
theorem size104 (n : Int) (h1 : -9223372036854775808 ≤ n) (h2 : n ≤ 9223372036854775807) (w : World) : Calls Tryz.prog 104 #[.int .i64 n] w fun e w' => e = .returned (.int .u64 (n.natAbs : Int)) ∧ w = w' := by
  by_cases h0 : n < 0
  · have d0 : decide (n < 0) = true := decide_eq_true h0
    have hv : IntKind.u64.wrap (IntKind.i64.wrap (-n)) = (n.natAbs : Int) := by
      rcases (show n = -9223372036854775808 ∨ -9223372036854775808 < n by omega) with rfl | h3
      · rfl
      · rw [IntWalk.i64_in _ (by omega), IntWalk.u64_in _ (by omega)]; omega
    generalize (n.natAbs : Int) = N at *
    obtain ⟨m, hm⟩ : ∃ m, IntKind.i64.wrap (-n) = m := ⟨_, rfl⟩
    rw [hm] at hv
    clear h0 h1 h2
    go_enter Tryz.func104, Tryz.ntmps104
    go_wp2_with fail
    go_ret
    exact ⟨rfl, rfl⟩
  · have d0 : decide (n < 0) = false := decide_eq_false h0
    have hv : IntKind.u64.wrap n = (n.natAbs : Int) := by rw [IntWalk.u64_in _ (by omega)]; omega
    generalize (n.natAbs : Int) = N at *
    clear h0 h1 h2
    go_enter Tryz.func104, Tryz.ntmps104
    go_wp2_with fail
    go_ret
    exact ⟨rfl, rfl⟩
set_option maxRecDepth 100000 in
set_option maxHeartbeats 1000000 in
theorem of94 (n : Int) (w : World) : Calls Tryz.prog 94 #[.int .i64 n] w (Ret (.agg #[.int .i64 n, .slice none 0 0]) w) := by
  have HB := Lib.hid ((Below.refl w.heap.size w).alloc (Nat.le_refl _) (.cells #[.int .i64 n, .slice none 0 0] 81))
  go_enter Tryz.func94, Tryz.ntmps94
  go_wp2_with fail
  refine bodyPost_ret (v := .agg #[.int .i64 n, .slice none 0 0]) (by simp [results, Tryz.results94, go_sem, *]) rfl ?_
  exact ⟨rfl, HB.out⟩
end Go.Proofs.YtflchbejjofppaaGreatDoor.Nu
/- The shelf's contracts of library functions, laid at this program. -/
namespace Go.Proofs
open Go.Shelf
def Tryz.lays160_ren : Go.Shelf.Ren := ⟨fun | 160 => 144 | 232 => 167 | 231 => 166 | 227 => 168 | 234 => 170 | 233 => 169 | 236 => 172 | 235 => 171 | 228 => 189 | 271 => 192 | 151 => 191 | 197 => 190 | 120 => 203 | 152 => 202 | 260 => 201 | 137 => 208 | 119 => 209 | 224 => 164 | 225 => 163 | 217 => 162 | 266 => 187 | n => n, fun | 9 => 9 | 4 => 4 | 3 => 3 | 5 => 5 | 117 => 212 | 116 => 211 | 0 => 0 | 124 => 215 | 21 => 21 | 105 => 234 | 46 => 186 | 119 => 254 | 139 => 257 | 138 => 256 | n => n, fun | 3 => 6 | 4 => 7 | n => n⟩
theorem Tryz.lays160 : Go.Proofs.Lays.n160 Tryz.prog Tryz.lays160_ren := {
  mixed := by kernel_rfl
  f119 := Tryz.func209.trans (congrArg some (by kernel_rfl))
  f120 := Tryz.func203.trans (congrArg some (by kernel_rfl))
  f137 := Tryz.func208.trans (congrArg some (by kernel_rfl))
  f151 := Tryz.func191.trans (congrArg some (by kernel_rfl))
  f152 := Tryz.func202.trans (congrArg some (by kernel_rfl))
  f160 := Tryz.func144.trans (congrArg some (by kernel_rfl))
  f197 := Tryz.func190.trans (congrArg some (by kernel_rfl))
  f217 := Tryz.func162.trans (congrArg some (by kernel_rfl))
  f224 := Tryz.func164.trans (congrArg some (by kernel_rfl))
  f225 := Tryz.func163.trans (congrArg some (by kernel_rfl))
  f227 := Tryz.func168.trans (congrArg some (by kernel_rfl))
  f228 := Tryz.func189.trans (congrArg some (by kernel_rfl))
  f231 := Tryz.func166.trans (congrArg some (by kernel_rfl))
  f232 := Tryz.func167.trans (congrArg some (by kernel_rfl))
  f233 := Tryz.func169.trans (congrArg some (by kernel_rfl))
  f234 := Tryz.func170.trans (congrArg some (by kernel_rfl))
  f235 := Tryz.func171.trans (congrArg some (by kernel_rfl))
  f236 := Tryz.func172.trans (congrArg some (by kernel_rfl))
  f260 := Tryz.func201.trans (congrArg some (by kernel_rfl))
  f266 := Tryz.func187.trans (congrArg some (by kernel_rfl))
  f271 := Tryz.func192.trans (congrArg some (by kernel_rfl))
  t0 := Tryz.underlying0
  a0 := Tryz.isAgg0
  z0 := Tryz.sizeOf0
  v0 := Tryz.zeroValue0
  t3 := Tryz.underlying3
  a3 := Tryz.isAgg3
  z3 := Tryz.sizeOf3
  v3 := Tryz.zeroValue3
  t4 := Tryz.underlying4
  a4 := Tryz.isAgg4
  z4 := Tryz.sizeOf4
  v4 := Tryz.zeroValue4
  t5 := Tryz.underlying5
  a5 := Tryz.isAgg5
  z5 := Tryz.sizeOf5
  v5 := Tryz.zeroValue5
  t9 := Tryz.underlying9
  a9 := Tryz.isAgg9
  z9 := Tryz.sizeOf9
  v9 := Tryz.zeroValue9
  t21 := Tryz.underlying21
  a21 := Tryz.isAgg21
  z21 := Tryz.sizeOf21
  v21 := Tryz.zeroValue21
  t46 := Tryz.underlying186
  a46 := Tryz.isAgg186
  z46 := Tryz.sizeOf186
  v46 := Tryz.zeroValue186
  t105 := Tryz.underlying234
  a105 := Tryz.isAgg234
  z105 := Tryz.sizeOf234
  v105 := Tryz.zeroValue234
  t116 := Tryz.underlying211
  a116 := Tryz.isAgg211
  z116 := Tryz.sizeOf211
  t117 := Tryz.underlying212
  a117 := Tryz.isAgg212
  z117 := Tryz.sizeOf212
  v117 := Tryz.zeroValue212
  t119 := Tryz.underlying254
  a119 := Tryz.isAgg254
  z119 := Tryz.sizeOf254
  t124 := Tryz.underlying215
  a124 := Tryz.isAgg215
  z124 := Tryz.sizeOf215
  v124 := Tryz.zeroValue215
  t138 := Tryz.underlying256
  a138 := Tryz.isAgg256
  z138 := Tryz.sizeOf256
  v138 := Tryz.zeroValue256
  t139 := Tryz.underlying257
  a139 := Tryz.isAgg257
  z139 := Tryz.sizeOf257
  v139 := Tryz.zeroValue257
  g3 := by kernel_rfl
  g4 := by kernel_rfl }
def Tryz.lays172_ren : Go.Shelf.Ren := ⟨fun | 172 => 120 | 244 => 145 | 245 => 146 | 247 => 173 | 279 => 174 | 280 => 175 | 281 => 176 | 282 => 177 | 287 => 193 | 316 => 194 | 171 => 123 | 205 => 195 | 321 => 204 | 322 => 205 | 243 => 148 | 246 => 178 | 283 => 179 | 284 => 180 | 285 => 181 | 286 => 182 | 129 => 147 | 317 => 196 | 318 => 197 | 319 => 198 | 320 => 199 | 337 => 206 | 338 => 207 | n => n, fun | 9 => 9 | 3 => 3 | 75 => 171 | 76 => 172 | 4 => 4 | 5 => 5 | 167 => 216 | 37 => 181 | 0 => 0 | 85 => 217 | 2 => 2 | 168 => 219 | 53 => 157 | 175 => 237 | 46 => 186 | 210 => 241 | 127 => 204 | 145 => 252 | 143 => 250 | 21 => 21 | 171 => 223 | 173 => 225 | 212 => 244 | 51 => 227 | 20 => 20 | 213 => 245 | 232 => 259 | 233 => 260 | 80 => 148 | n => n, fun | 15 => 3 | 16 => 4 | 17 => 5 | 18 => 8 | 19 => 9 | n => n⟩
theorem Tryz.lays172 : Go.Proofs.Lays.n172 Tryz.prog Tryz.lays172_ren := {
  mixed := by kernel_rfl
  f129 := Tryz.func147.trans (congrArg some (by kernel_rfl))
  f171 := Tryz.func123.trans (congrArg some (by kernel_rfl))
  f172 := Tryz.func120.trans (congrArg some (by kernel_rfl))
  f205 := Tryz.func195.trans (congrArg some (by kernel_rfl))
  f243 := Tryz.func148.trans (congrArg some (by kernel_rfl))
  f244 := Tryz.func145.trans (congrArg some (by kernel_rfl))
  f245 := Tryz.func146.trans (congrArg some (by kernel_rfl))
  f246 := Tryz.func178.trans (congrArg some (by kernel_rfl))
  f247 := Tryz.func173.trans (congrArg some (by kernel_rfl))
  f279 := Tryz.func174.trans (congrArg some (by kernel_rfl))
  f280 := Tryz.func175.trans (congrArg some (by kernel_rfl))
  f281 := Tryz.func176.trans (congrArg some (by kernel_rfl))
  f282 := Tryz.func177.trans (congrArg some (by kernel_rfl))
  f283 := Tryz.func179.trans (congrArg some (by kernel_rfl))
  f284 := Tryz.func180.trans (congrArg some (by kernel_rfl))
  f285 := Tryz.func181.trans (congrArg some (by kernel_rfl))
  f286 := Tryz.func182.trans (congrArg some (by kernel_rfl))
  f287 := Tryz.func193.trans (congrArg some (by kernel_rfl))
  f316 := Tryz.func194.trans (congrArg some (by kernel_rfl))
  f317 := Tryz.func196.trans (congrArg some (by kernel_rfl))
  f318 := Tryz.func197.trans (congrArg some (by kernel_rfl))
  f319 := Tryz.func198.trans (congrArg some (by kernel_rfl))
  f320 := Tryz.func199.trans (congrArg some (by kernel_rfl))
  f321 := Tryz.func204.trans (congrArg some (by kernel_rfl))
  f322 := Tryz.func205.trans (congrArg some (by kernel_rfl))
  f337 := Tryz.func206.trans (congrArg some (by kernel_rfl))
  f338 := Tryz.func207.trans (congrArg some (by kernel_rfl))
  t0 := Tryz.underlying0
  a0 := Tryz.isAgg0
  z0 := Tryz.sizeOf0
  v0 := Tryz.zeroValue0
  t2 := Tryz.underlying2
  a2 := Tryz.isAgg2
  z2 := Tryz.sizeOf2
  v2 := Tryz.zeroValue2
  t3 := Tryz.underlying3
  a3 := Tryz.isAgg3
  z3 := Tryz.sizeOf3
  v3 := Tryz.zeroValue3
  t4 := Tryz.underlying4
  a4 := Tryz.isAgg4
  z4 := Tryz.sizeOf4
  v4 := Tryz.zeroValue4
  t5 := Tryz.underlying5
  a5 := Tryz.isAgg5
  z5 := Tryz.sizeOf5
  v5 := Tryz.zeroValue5
  t9 := Tryz.underlying9
  a9 := Tryz.isAgg9
  z9 := Tryz.sizeOf9
  v9 := Tryz.zeroValue9
  t20 := Tryz.underlying20
  a20 := Tryz.isAgg20
  z20 := Tryz.sizeOf20
  v20 := Tryz.zeroValue20
  t21 := Tryz.underlying21
  a21 := Tryz.isAgg21
  z21 := Tryz.sizeOf21
  v21 := Tryz.zeroValue21
  t37 := Tryz.underlying181
  a37 := Tryz.isAgg181
  z37 := Tryz.sizeOf181
  v37 := Tryz.zeroValue181
  t46 := Tryz.underlying186
  a46 := Tryz.isAgg186
  z46 := Tryz.sizeOf186
  v46 := Tryz.zeroValue186
  t51 := Tryz.underlying227
  a51 := Tryz.isAgg227
  z51 := Tryz.sizeOf227
  v51 := Tryz.zeroValue227
  t53 := Tryz.underlying157
  a53 := Tryz.isAgg157
  z53 := Tryz.sizeOf157
  v53 := Tryz.zeroValue157
  t75 := Tryz.underlying171
  a75 := Tryz.isAgg171
  z75 := Tryz.sizeOf171
  v75 := Tryz.zeroValue171
  t76 := Tryz.underlying172
  a76 := Tryz.isAgg172
  z76 := Tryz.sizeOf172
  v76 := Tryz.zeroValue172
  t85 := Tryz.underlying217
  a85 := Tryz.isAgg217
  z85 := Tryz.sizeOf217
  v85 := Tryz.zeroValue217
  t127 := Tryz.underlying204
  a127 := Tryz.isAgg204
  z127 := Tryz.sizeOf204
  v127 := Tryz.zeroValue204
  t143 := Tryz.underlying250
  a143 := Tryz.isAgg250
  z143 := Tryz.sizeOf250
  v143 := Tryz.zeroValue250
  t145 := Tryz.underlying252
  a145 := Tryz.isAgg252
  z145 := Tryz.sizeOf252
  v145 := Tryz.zeroValue252
  t167 := Tryz.underlying216
  a167 := Tryz.isAgg216
  z167 := Tryz.sizeOf216
  v167 := Tryz.zeroValue216
  t168 := Tryz.underlying219
  a168 := Tryz.isAgg219
  z168 := Tryz.sizeOf219
  v168 := Tryz.zeroValue219
  t171 := Tryz.underlying223
  a171 := Tryz.isAgg223
  z171 := Tryz.sizeOf223
  v171 := Tryz.zeroValue223
  t173 := Tryz.underlying225
  a173 := Tryz.isAgg225
  z173 := Tryz.sizeOf225
  v173 := Tryz.zeroValue225
  t175 := Tryz.underlying237
  a175 := Tryz.isAgg237
  z175 := Tryz.sizeOf237
  v175 := Tryz.zeroValue237
  t210 := Tryz.underlying241
  a210 := Tryz.isAgg241
  z210 := Tryz.sizeOf241
  v210 := Tryz.zeroValue241
  t212 := Tryz.underlying244
  a212 := Tryz.isAgg244
  z212 := Tryz.sizeOf244
  v212 := Tryz.zeroValue244
  t213 := Tryz.underlying245
  a213 := Tryz.isAgg245
  z213 := Tryz.sizeOf245
  t232 := Tryz.underlying259
  a232 := Tryz.isAgg259
  z232 := Tryz.sizeOf259
  v232 := Tryz.zeroValue259
  t233 := Tryz.underlying260
  a233 := Tryz.isAgg260
  z233 := Tryz.sizeOf260
  v233 := Tryz.zeroValue260
  g15 := by kernel_rfl
  g16 := by kernel_rfl
  g17 := by kernel_rfl
  g18 := by kernel_rfl
  g19 := by kernel_rfl }
open Go.RowKit in
theorem Tryz.strconv_Atoi (s : ByteArray) (n : Int) (hl : s.size ≤ 18) (h : Lib.atoi s.data.toList = some n) (w : World) :
    Calls Tryz.prog 120 #[.string s] w fun e w' => e = .returned (.tuple #[.int .i64 n, .nilIface]) ∧ ∃ t, w' = Lib.bytesWorld w 5 t := Any.strconv_Atoi Tryz.lays172 s n hl h w
def Tryz.lays129_ren : Go.Shelf.Ren := ⟨fun | 129 => 147 | n => n, fun | 53 => 157 | 3 => 3 | 4 => 4 | 46 => 186 | 5 => 5 | 9 => 9 | n => n, fun | n => n⟩
theorem Tryz.lays129 : Go.Proofs.Lays.n129 Tryz.prog Tryz.lays129_ren := {
  mixed := by kernel_rfl
  f129 := Tryz.func147.trans (congrArg some (by kernel_rfl))
  t3 := Tryz.underlying3
  a3 := Tryz.isAgg3
  z3 := Tryz.sizeOf3
  v3 := Tryz.zeroValue3
  t4 := Tryz.underlying4
  a4 := Tryz.isAgg4
  z4 := Tryz.sizeOf4
  v4 := Tryz.zeroValue4
  t5 := Tryz.underlying5
  a5 := Tryz.isAgg5
  z5 := Tryz.sizeOf5
  v5 := Tryz.zeroValue5
  t9 := Tryz.underlying9
  a9 := Tryz.isAgg9
  z9 := Tryz.sizeOf9
  v9 := Tryz.zeroValue9
  t46 := Tryz.underlying186
  a46 := Tryz.isAgg186
  z46 := Tryz.sizeOf186
  v46 := Tryz.zeroValue186
  t53 := Tryz.underlying157
  a53 := Tryz.isAgg157
  z53 := Tryz.sizeOf157
  v53 := Tryz.zeroValue157 }
theorem Tryz.bits_Len64 (x : Int) (w : World) (h0 : 0 ≤ x) (h1 : x ≤ 18446744073709551615) :
    Calls Tryz.prog 147 #[.int .u64 x] w fun e w' => e = .returned (.int .i64 (Lib.bitLen x.toNat)) ∧ w' = w := Any.bits_Len64 Tryz.lays129 x w h0 h1
def Tryz.laysM171_ren : Go.Shelf.Ren := ⟨fun | 171 => 123 | 243 => 148 | 246 => 178 | 283 => 179 | 284 => 180 | 285 => 181 | 286 => 182 | 129 => 147 | 317 => 196 | 318 => 197 | 319 => 198 | 320 => 199 | 337 => 206 | 338 => 207 | n => n, fun | 3 => 3 | 9 => 9 | 2 => 2 | 4 => 4 | 171 => 223 | 0 => 0 | 53 => 157 | 37 => 181 | 5 => 5 | 173 => 225 | 212 => 244 | 51 => 227 | 20 => 20 | 213 => 245 | 46 => 186 | 232 => 259 | 233 => 260 | n => n, fun | 17 => 5 | 18 => 8 | 19 => 9 | n => n⟩
theorem Tryz.laysM171 : Go.Proofs.LaysM.n171 Tryz.prog Tryz.laysM171_ren := {
  mixed := by kernel_rfl
  f129 := Tryz.func147.trans (congrArg some (by kernel_rfl))
  f171 := Tryz.func123.trans (congrArg some (by kernel_rfl))
  f243 := Tryz.func148.trans (congrArg some (by kernel_rfl))
  f246 := Tryz.func178.trans (congrArg some (by kernel_rfl))
  f283 := Tryz.func179.trans (congrArg some (by kernel_rfl))
  f284 := Tryz.func180.trans (congrArg some (by kernel_rfl))
  f285 := Tryz.func181.trans (congrArg some (by kernel_rfl))
  f286 := Tryz.func182.trans (congrArg some (by kernel_rfl))
  f317 := Tryz.func196.trans (congrArg some (by kernel_rfl))
  f318 := Tryz.func197.trans (congrArg some (by kernel_rfl))
  f319 := Tryz.func198.trans (congrArg some (by kernel_rfl))
  f320 := Tryz.func199.trans (congrArg some (by kernel_rfl))
  f337 := Tryz.func206.trans (congrArg some (by kernel_rfl))
  f338 := Tryz.func207.trans (congrArg some (by kernel_rfl))
  t0 := Tryz.underlying0
  a0 := Tryz.isAgg0
  z0 := Tryz.sizeOf0
  v0 := Tryz.zeroValue0
  t2 := Tryz.underlying2
  a2 := Tryz.isAgg2
  z2 := Tryz.sizeOf2
  v2 := Tryz.zeroValue2
  t3 := Tryz.underlying3
  a3 := Tryz.isAgg3
  z3 := Tryz.sizeOf3
  v3 := Tryz.zeroValue3
  t4 := Tryz.underlying4
  a4 := Tryz.isAgg4
  z4 := Tryz.sizeOf4
  v4 := Tryz.zeroValue4
  t5 := Tryz.underlying5
  a5 := Tryz.isAgg5
  z5 := Tryz.sizeOf5
  v5 := Tryz.zeroValue5
  t9 := Tryz.underlying9
  a9 := Tryz.isAgg9
  z9 := Tryz.sizeOf9
  v9 := Tryz.zeroValue9
  t20 := Tryz.underlying20
  a20 := Tryz.isAgg20
  z20 := Tryz.sizeOf20
  v20 := Tryz.zeroValue20
  t37 := Tryz.underlying181
  a37 := Tryz.isAgg181
  z37 := Tryz.sizeOf181
  v37 := Tryz.zeroValue181
  t46 := Tryz.underlying186
  a46 := Tryz.isAgg186
  z46 := Tryz.sizeOf186
  v46 := Tryz.zeroValue186
  t51 := Tryz.underlying227
  a51 := Tryz.isAgg227
  z51 := Tryz.sizeOf227
  v51 := Tryz.zeroValue227
  t53 := Tryz.underlying157
  a53 := Tryz.isAgg157
  z53 := Tryz.sizeOf157
  v53 := Tryz.zeroValue157
  t171 := Tryz.underlying223
  a171 := Tryz.isAgg223
  z171 := Tryz.sizeOf223
  v171 := Tryz.zeroValue223
  t173 := Tryz.underlying225
  a173 := Tryz.isAgg225
  z173 := Tryz.sizeOf225
  v173 := Tryz.zeroValue225
  t212 := Tryz.underlying244
  a212 := Tryz.isAgg244
  z212 := Tryz.sizeOf244
  v212 := Tryz.zeroValue244
  t213 := Tryz.underlying245
  a213 := Tryz.isAgg245
  z213 := Tryz.sizeOf245
  t232 := Tryz.underlying259
  a232 := Tryz.isAgg259
  z232 := Tryz.sizeOf259
  v232 := Tryz.zeroValue259
  t233 := Tryz.underlying260
  a233 := Tryz.isAgg260
  z233 := Tryz.sizeOf260
  v233 := Tryz.zeroValue260
  g17 := by kernel_rfl
  g18 := by kernel_rfl
  g19 := by kernel_rfl
  i0 := by kernel_rfl
  i2 := by kernel_rfl
  i3 := by kernel_rfl
  i4 := by kernel_rfl
  i5 := by kernel_rfl
  i9 := by kernel_rfl
  i20 := by kernel_rfl
  i37 := by kernel_rfl
  i46 := by kernel_rfl
  i51 := by kernel_rfl
  i53 := by kernel_rfl
  i171 := by kernel_rfl
  i173 := by kernel_rfl
  i212 := by kernel_rfl
  i232 := by kernel_rfl
  i233 := by kernel_rfl
  m17 := by kernel_rfl
  m18 := by kernel_rfl
  m19 := by kernel_rfl }
open Go.RowKit Go.Sort Go.Lib in
theorem Tryz.strconv_Itoa (n : Int) (h0 : -9223372036854775808 ≤ n) (h1 : n ≤ 9223372036854775807) (w : World) (htab : Lib.TabIs Tryz.prog w "internal/strconv.uint64pow10" .u64 Lib.pow10Tab) :
    Calls Tryz.prog 123 #[.int .i64 n] w fun e w' => e = .returned (.string ⟨(Lib.itoa n).toArray⟩) ∧ ∃ k os, w' = grow (w.drewN k) os := Any.strconv_Itoa Tryz.laysM171 n h0 h1 w htab
def Tryz.lays145_ren : Go.Shelf.Ren := ⟨fun | 145 => 86 | 220 => 114 | 219 => 142 | 217 => 162 | 225 => 163 | 224 => 164 | 267 => 165 | 266 => 187 | 314 => 188 | n => n, fun | 9 => 9 | 4 => 4 | 59 => 140 | 3 => 3 | 5 => 5 | 46 => 186 | 146 => 228 | 51 => 227 | n => n, fun | 1 => 0 | n => n⟩
theorem Tryz.lays145 : Go.Proofs.Lays.n145 Tryz.prog Tryz.lays145_ren := {
  mixed := by kernel_rfl
  f145 := Tryz.func86.trans (congrArg some (by kernel_rfl))
  f217 := Tryz.func162.trans (congrArg some (by kernel_rfl))
  f219 := Tryz.func142.trans (congrArg some (by kernel_rfl))
  f220 := Tryz.func114.trans (congrArg some (by kernel_rfl))
  f224 := Tryz.func164.trans (congrArg some (by kernel_rfl))
  f225 := Tryz.func163.trans (congrArg some (by kernel_rfl))
  f266 := Tryz.func187.trans (congrArg some (by kernel_rfl))
  f267 := Tryz.func165.trans (congrArg some (by kernel_rfl))
  f314 := Tryz.func188.trans (congrArg some (by kernel_rfl))
  t3 := Tryz.underlying3
  a3 := Tryz.isAgg3
  z3 := Tryz.sizeOf3
  v3 := Tryz.zeroValue3
  t4 := Tryz.underlying4
  a4 := Tryz.isAgg4
  z4 := Tryz.sizeOf4
  v4 := Tryz.zeroValue4
  t5 := Tryz.underlying5
  a5 := Tryz.isAgg5
  z5 := Tryz.sizeOf5
  v5 := Tryz.zeroValue5
  t9 := Tryz.underlying9
  a9 := Tryz.isAgg9
  z9 := Tryz.sizeOf9
  v9 := Tryz.zeroValue9
  t46 := Tryz.underlying186
  a46 := Tryz.isAgg186
  z46 := Tryz.sizeOf186
  v46 := Tryz.zeroValue186
  t51 := Tryz.underlying227
  a51 := Tryz.isAgg227
  z51 := Tryz.sizeOf227
  v51 := Tryz.zeroValue227
  t59 := Tryz.underlying140
  a59 := Tryz.isAgg140
  z59 := Tryz.sizeOf140
  v59 := Tryz.zeroValue140
  t146 := Tryz.underlying228
  a146 := Tryz.isAgg228
  z146 := Tryz.sizeOf228
  v146 := Tryz.zeroValue228
  g1 := by kernel_rfl }
open Go.RowKit Go.Lib in
theorem Tryz.strings_Cut (s sep : ByteArray) (m : Int) (w : World) (hs : s.size < 4294967281) (hm : w.cell? ⟨0, 0, none⟩ = some (.int .i64 m)) :
    Calls Tryz.prog 86 #[.string s, .string sep] w fun e w' => e = .returned (.tuple #[.string ⟨(Lib.cut s.data.toList sep.data.toList).1.toArray⟩, .string ⟨(Lib.cut s.data.toList sep.data.toList).2.1.toArray⟩, .bool (Lib.cut s.data.toList sep.data.toList).2.2]) ∧ ∃ n, w' = w.drewN n := Any.strings_Cut Tryz.lays145 s sep m w hs hm
def Tryz.laysM145_ren : Go.Shelf.Ren := ⟨fun | 145 => 86 | 220 => 114 | 219 => 142 | 217 => 162 | 225 => 163 | 224 => 164 | 267 => 165 | 266 => 187 | 314 => 188 | n => n, fun | 9 => 9 | 4 => 4 | 59 => 140 | 3 => 3 | 5 => 5 | 46 => 186 | 146 => 228 | 51 => 227 | n => n, fun | 1 => 0 | n => n⟩
theorem Tryz.laysM145 : Go.Proofs.LaysM.n145 Tryz.prog Tryz.laysM145_ren := {
  mixed := by kernel_rfl
  f145 := Tryz.func86.trans (congrArg some (by kernel_rfl))
  f217 := Tryz.func162.trans (congrArg some (by kernel_rfl))
  f219 := Tryz.func142.trans (congrArg some (by kernel_rfl))
  f220 := Tryz.func114.trans (congrArg some (by kernel_rfl))
  f224 := Tryz.func164.trans (congrArg some (by kernel_rfl))
  f225 := Tryz.func163.trans (congrArg some (by kernel_rfl))
  f266 := Tryz.func187.trans (congrArg some (by kernel_rfl))
  f267 := Tryz.func165.trans (congrArg some (by kernel_rfl))
  f314 := Tryz.func188.trans (congrArg some (by kernel_rfl))
  t3 := Tryz.underlying3
  a3 := Tryz.isAgg3
  z3 := Tryz.sizeOf3
  v3 := Tryz.zeroValue3
  t4 := Tryz.underlying4
  a4 := Tryz.isAgg4
  z4 := Tryz.sizeOf4
  v4 := Tryz.zeroValue4
  t5 := Tryz.underlying5
  a5 := Tryz.isAgg5
  z5 := Tryz.sizeOf5
  v5 := Tryz.zeroValue5
  t9 := Tryz.underlying9
  a9 := Tryz.isAgg9
  z9 := Tryz.sizeOf9
  v9 := Tryz.zeroValue9
  t46 := Tryz.underlying186
  a46 := Tryz.isAgg186
  z46 := Tryz.sizeOf186
  v46 := Tryz.zeroValue186
  t51 := Tryz.underlying227
  a51 := Tryz.isAgg227
  z51 := Tryz.sizeOf227
  v51 := Tryz.zeroValue227
  t59 := Tryz.underlying140
  a59 := Tryz.isAgg140
  z59 := Tryz.sizeOf140
  v59 := Tryz.zeroValue140
  t146 := Tryz.underlying228
  a146 := Tryz.isAgg228
  z146 := Tryz.sizeOf228
  v146 := Tryz.zeroValue228
  g1 := by kernel_rfl
  i3 := by kernel_rfl
  i4 := by kernel_rfl
  i5 := by kernel_rfl
  i9 := by kernel_rfl
  i46 := by kernel_rfl
  i51 := by kernel_rfl
  i59 := by kernel_rfl
  i146 := by kernel_rfl
  m1 := by kernel_rfl
  s1_3 := fun w h => Go.Proofs.cell_of_shapedOpen_int (zero := #[.int .i64 0]) (t := 3) h (of_decide_eq_true (by kernel_rfl)) (by kernel_rfl) rfl (by kernel_rfl) (by kernel_rfl) Tryz.underlying3 }
def Tryz.lays99_ren : Go.Shelf.Ren := ⟨fun | 99 => 119 | 206 => 143 | n => n, fun | 9 => 9 | 4 => 4 | 3 => 3 | n => n, fun | n => n⟩
theorem Tryz.lays99 : Go.Proofs.Lays.n99 Tryz.prog Tryz.lays99_ren := {
  mixed := by kernel_rfl
  f99 := Tryz.func119.trans (congrArg some (by kernel_rfl))
  f206 := Tryz.func143.trans (congrArg some (by kernel_rfl))
  t3 := Tryz.underlying3
  a3 := Tryz.isAgg3
  z3 := Tryz.sizeOf3
  v3 := Tryz.zeroValue3
  t4 := Tryz.underlying4
  a4 := Tryz.isAgg4
  z4 := Tryz.sizeOf4
  v4 := Tryz.zeroValue4
  t9 := Tryz.underlying9
  a9 := Tryz.isAgg9
  z9 := Tryz.sizeOf9
  v9 := Tryz.zeroValue9 }
open Go.RowKit Go.Lib in
theorem Tryz.strings_HasPrefix (s p : ByteArray) (w : World) :
    Calls Tryz.prog 119 #[.string s, .string p] w fun e w' => e = .returned (.bool (Lib.hasPrefix s.data.toList p.data.toList)) ∧ w' = w := Any.strings_HasPrefix Tryz.lays99 s p w
def Tryz.lays101_ren : Go.Shelf.Ren := ⟨fun | 101 => 87 | 208 => 115 | 206 => 143 | n => n, fun | 9 => 9 | 4 => 4 | 3 => 3 | n => n, fun | n => n⟩
theorem Tryz.lays101 : Go.Proofs.Lays.n101 Tryz.prog Tryz.lays101_ren := {
  mixed := by kernel_rfl
  f101 := Tryz.func87.trans (congrArg some (by kernel_rfl))
  f206 := Tryz.func143.trans (congrArg some (by kernel_rfl))
  f208 := Tryz.func115.trans (congrArg some (by kernel_rfl))
  t3 := Tryz.underlying3
  a3 := Tryz.isAgg3
  z3 := Tryz.sizeOf3
  v3 := Tryz.zeroValue3
  t4 := Tryz.underlying4
  a4 := Tryz.isAgg4
  z4 := Tryz.sizeOf4
  v4 := Tryz.zeroValue4
  t9 := Tryz.underlying9
  a9 := Tryz.isAgg9
  z9 := Tryz.sizeOf9
  v9 := Tryz.zeroValue9 }
open Go.RowKit Go.Lib in
theorem Tryz.strings_TrimPrefix (s p : ByteArray) (w : World) :
    Calls Tryz.prog 87 #[.string s, .string p] w fun e w' => e = .returned (.string ⟨(Lib.trimPrefix s.data.toList p.data.toList).toArray⟩) ∧ w' = w := Any.strings_TrimPrefix Tryz.lays101 s p w
def Tryz.lays264_ren : Go.Shelf.Ren := ⟨fun | 264 => 103 | n => n, fun | 53 => 157 | 46 => 186 | n => n, fun | n => n⟩
theorem Tryz.lays264 : Go.Proofs.Lays.n264 Tryz.prog Tryz.lays264_ren := {
  mixed := by kernel_rfl
  f264 := Tryz.func103.trans (congrArg some (by kernel_rfl))
  t46 := Tryz.underlying186
  a46 := Tryz.isAgg186
  z46 := Tryz.sizeOf186
  v46 := Tryz.zeroValue186
  t53 := Tryz.underlying157
  a53 := Tryz.isAgg157
  z53 := Tryz.sizeOf157
  v53 := Tryz.zeroValue157 }
open Go.RowKit Go.Lib in
theorem Tryz.bits_Mul64 (x y : Nat) (hx : x < 18446744073709551616) (hy : y < 18446744073709551616) (w : World) :
    Calls Tryz.prog 103 #[.int .u64 x, .int .u64 y] w fun e w' => e = .returned (.tuple #[.int .u64 ((x * y / 18446744073709551616 : Nat) : Int), .int .u64 ((x * y % 18446744073709551616 : Nat) : Int)]) ∧ w' = w := Any.bits_Mul64 Tryz.lays264 x y hx hy w
end Go.Proofs
/- Plain: decimal numerals. -/
namespace Go.Proofs.YtflchbejjofppaaGreatDoor
open Go.Lib
def isDig (c : UInt8) : Prop := 48 ≤ c.toNat ∧ c.toNat ≤ 57
instance (c : UInt8) : Decidable (isDig c) := by unfold isDig; infer_instance
theorem hd_app {α : Type} {a b : List α} (h : a ≠ []) : (a ++ b).head? = a.head? := by cases a with | nil => exact absurd rfl h | cons x a => rfl
theorem dgc {d : Nat} (h : d < 10) : (UInt8.ofNat (48 + d)).toNat = 48 + d := by
  rw [UInt8.toNat_ofNat']; omega
theorem dec_small {n : Nat} (h : n < 10) : decDigits n = [UInt8.ofNat (48 + n)] := by rw [decDigits, dif_pos h]
theorem dec_big {n : Nat} (h : ¬ n < 10) : decDigits n = decDigits (n / 10) ++ [UInt8.ofNat (48 + n % 10)] := by rw [decDigits, dif_neg h]
theorem dec_ne (n : Nat) : decDigits n ≠ [] := by
  by_cases h : n < 10
  · rw [dec_small h]; simp
  · rw [dec_big h]; simp
def padL : Nat → Nat → List UInt8
  | 0, _ => []
  | k + 1, n => padL k (n / 10) ++ [UInt8.ofNat (48 + n % 10)]
theorem padL_len (k n : Nat) : (padL k n).length = k := by
  induction k generalizing n with
  | zero => rfl
  | succ k ih => simp [padL, ih]
theorem dec_split : ∀ (k a b : Nat), 0 < a → b < 10 ^ k → decDigits (a * 10 ^ k + b) = decDigits a ++ padL k b := by
  intro k
  induction k with
  | zero => intro a b ha hb; simp at hb; subst hb; simp [padL]
  | succ k ih =>
    intro a b ha hb
    rw [Nat.pow_succ] at hb
    have hp : 1 ≤ 10 ^ k := Nat.one_le_pow _ _ (by decide)
    have e1 : a * 10 ^ (k + 1) = 10 * (a * 10 ^ k) := by rw [Nat.pow_succ, ← Nat.mul_assoc, Nat.mul_comm]
    have h1 : 1 * 1 ≤ a * 10 ^ k := Nat.mul_le_mul ha hp
    rw [dec_big (by omega), e1, show (10 * (a * 10 ^ k) + b) / 10 = a * 10 ^ k + b / 10 by omega, ih a (b / 10) ha (by omega), show (10 * (a * 10 ^ k) + b) % 10 = b % 10 by omega, padL, List.append_assoc]
theorem padL_dec : ∀ (k n : Nat), n < 10 ^ k → 0 < k → padL k n = List.replicate (k - (decDigits n).length) 48 ++ decDigits n := by
  intro k
  induction k with
  | zero => intro n _ h; omega
  | succ k ih =>
    intro n hn _
    rw [Nat.pow_succ] at hn
    by_cases h : n < 10
    · rw [dec_small h, padL, show n / 10 = 0 by omega, show n % 10 = n by omega]
      simp only [List.length_singleton, Nat.add_sub_cancel]
      congr 1
      clear ih hn h
      induction k with
      | zero => rfl
      | succ k ih => rw [padL, ih (by omega), List.replicate_succ']; rfl
    · have hk : 0 < k := by
        rcases Nat.eq_zero_or_pos k with rfl | h0
        · simp at hn; omega
        · exact h0
      rw [dec_big h, padL, ih (n / 10) (by omega) hk, List.length_append, List.length_singleton, List.append_assoc, show k + 1 - ((decDigits (n / 10)).length + 1) = k - (decDigits (n / 10)).length by omega]
def dval (l : List UInt8) : Nat := l.foldl (fun n c => 10 * n + (c.toNat - 48)) 0
theorem dval_from (l : List UInt8) : ∀ a, l.foldl (fun n c => 10 * n + (c.toNat - 48)) a = a * 10 ^ l.length + dval l := by
  induction l with
  | nil => intro a; simp [dval]
  | cons c l ih =>
    intro a
    unfold dval
    rw [List.foldl_cons, List.foldl_cons, ih, ih, List.length_cons, Nat.pow_succ]
    grind
theorem dval_app (a b : List UInt8) : dval (a ++ b) = dval a * 10 ^ b.length + dval b := by
  rw [← dval_from b (dval a)]
  exact List.foldl_append
theorem dval_one (c : UInt8) : dval [c] = c.toNat - 48 := by simp [dval]
theorem dval_snoc (l : List UInt8) (c : UInt8) : dval (l ++ [c]) = 10 * dval l + (c.toNat - 48) := by rw [dval_app, dval_one, List.length_singleton]; omega
theorem dval_dec (n : Nat) : dval (decDigits n) = n := by
  induction n using Nat.strongRecOn with
  | _ n ih =>
    by_cases h : n < 10
    · rw [dec_small h, dval_one, dgc h]; omega
    · rw [dec_big h, dval_snoc, ih (n / 10) (by omega), dgc (by omega)]; omega
theorem dec_inj {a b : Nat} (h : decDigits a = decDigits b) : a = b := by rw [← dval_dec a, h, dval_dec]
theorem dec_dig (n : Nat) : ∀ c ∈ decDigits n, isDig c := by
  induction n using Nat.strongRecOn with
  | _ n ih =>
    intro c hc
    by_cases h : n < 10
    · rw [dec_small h, List.mem_singleton] at hc
      subst hc
      unfold isDig; rw [dgc h]; omega
    · rw [dec_big h] at hc
      rcases List.mem_append.1 hc with hc | hc
      · exact ih (n / 10) (by omega) c hc
      · rw [List.mem_singleton] at hc
        subst hc
        unfold isDig; rw [dgc (by omega)]; omega
theorem dec_head {n : Nat} (hn : 0 < n) : (decDigits n).head? ≠ some 48 := by
  induction n using Nat.strongRecOn with
  | _ n ih =>
    by_cases h : n < 10
    · rw [dec_small h]
      intro e
      injection e with e
      have := dgc h
      rw [e] at this
      simp at this
      omega
    · rw [dec_big h, hd_app (dec_ne _)]
      exact ih (n / 10) (by omega) (by omega)
theorem dec_zero : decDigits 0 = [48] := by rw [dec_small (by omega)]; rfl
theorem dval_lt {l : List UInt8} (h : ∀ c ∈ l, isDig c) : dval l < 10 ^ l.length := by
  induction hn : l.length generalizing l with
  | zero => rw [List.eq_nil_of_length_eq_zero hn]; decide
  | succ n ih =>
    have hne : l ≠ [] := by intro e; rw [e] at hn; cases hn
    obtain ⟨l', c, rfl⟩ : ∃ l' c, l = l' ++ [c] := ⟨l.dropLast, l.getLast hne, (List.dropLast_concat_getLast hne).symm⟩
    have h1 := ih (l := l') (fun x hx => h x (by simp [hx])) (by simpa using hn)
    obtain ⟨h2, h3⟩ := h c (by simp)
    rw [dval_snoc, Nat.pow_succ]
    omega
theorem dec_len_le {n k : Nat} (hk : 0 < k) : (decDigits n).length ≤ k ↔ n < 10 ^ k := by
  constructor
  · intro h
    have h1 := dval_lt (dec_dig n)
    rw [dval_dec] at h1
    exact Nat.lt_of_lt_of_le h1 (Nat.pow_le_pow_right (by decide) h)
  · intro h
    have e := padL_dec k n h hk
    have := congrArg List.length e
    rw [padL_len, List.length_append, List.length_replicate] at this
    omega
theorem dec_pos_len (n : Nat) : 0 < (decDigits n).length := List.length_pos_iff.2 (dec_ne n)
def ratL (q : Rat) : List UInt8 := itoa q.num ++ (if q.den = 1 then [] else 47 :: decDigits q.den)
theorem itoa_nn {n : Int} (h : 0 ≤ n) : itoa n = decDigits n.toNat := by unfold itoa; rw [if_neg (by omega)]
theorem itoa_ng {n : Int} (h : n < 0) : itoa n = 45 :: decDigits n.natAbs := by unfold itoa; rw [if_pos h]
end Go.Proofs.YtflchbejjofppaaGreatDoor
/- Plain: rational numbers and their texts. -/
namespace Go.Proofs.YtflchbejjofppaaGreatDoor
open Go.Lib
theorem itoa_inj {a b : Int} (h : itoa a = itoa b) : a = b := by
  have hm : ∀ n : Nat, ∀ l : List UInt8, decDigits n ≠ 45 :: l := fun n l e => by
    have := dec_dig n 45 (by rw [e]; exact List.mem_cons_self)
    exact absurd this (by decide)
  by_cases ha : a < 0 <;> by_cases hb : b < 0
  · rw [itoa_ng ha, itoa_ng hb] at h
    injection h with _ h
    have := dec_inj h
    omega
  · rw [itoa_ng ha, itoa_nn (by omega)] at h
    exact absurd h.symm (hm _ _)
  · rw [itoa_nn (by omega), itoa_ng hb] at h
    exact absurd h (hm _ _)
  · rw [itoa_nn (by omega), itoa_nn (by omega)] at h
    have := dec_inj h
    omega
theorem itoa_slash (n : Int) : (47 : UInt8) ∉ itoa n := by
  intro h
  have hd : ∀ m : Nat, (47 : UInt8) ∉ decDigits m := fun m hm => absurd (dec_dig m 47 hm) (by decide)
  by_cases hn : n < 0
  · rw [itoa_ng hn] at h
    rcases List.mem_cons.1 h with h | h
    · exact absurd h (by decide)
    · exact hd _ h
  · rw [itoa_nn (by omega)] at h
    exact hd _ h
def slashL (l : List UInt8) : Nat := l.findIdx (· == 47)
theorem slash_no {l : List UInt8} (h : (47 : UInt8) ∉ l) : slashL l = l.length := by
  unfold slashL
  rw [List.findIdx_eq_length]
  intro x hx
  exact beq_eq_false_iff_ne.2 (fun e => h (e ▸ hx))
theorem slash_app {a b : List UInt8} (h : (47 : UInt8) ∉ a) : slashL (a ++ 47 :: b) = a.length := by
  have h1 := slash_no h
  unfold slashL at h1 ⊢
  rw [List.findIdx_append, h1, if_neg (by omega), List.findIdx_cons]
  simp
theorem slash_rat (q : Rat) : slashL (ratL q) = (itoa q.num).length := by
  unfold ratL
  by_cases h : q.den = 1
  · rw [if_pos h, List.append_nil, slash_no (itoa_slash _)]
  · rw [if_neg h, slash_app (itoa_slash _)]
theorem ratL_inj {p q : Rat} (h : ratL p = ratL q) : p = q := by
  have hs := congrArg slashL h
  rw [slash_rat, slash_rat] at hs
  unfold ratL at h
  have h1 := congrArg (List.take (itoa p.num).length) h
  rw [List.take_append_of_le_length (Nat.le_refl _), List.take_of_length_le (Nat.le_refl _), hs, List.take_append_of_le_length (Nat.le_refl _), List.take_of_length_le (Nat.le_refl _)] at h1
  have hn := itoa_inj h1
  rw [h1] at h
  have h2 := List.append_cancel_left h
  have hd : p.den = q.den := by
    by_cases hp : p.den = 1 <;> by_cases hq : q.den = 1
    · omega
    · rw [if_pos hp, if_neg hq] at h2; cases h2
    · rw [if_neg hp, if_pos hq] at h2; cases h2
    · rw [if_neg hp, if_neg hq] at h2
      injection h2 with _ h2
      exact dec_inj h2
  exact Rat.ext hn hd
theorem ratL_int (n : Int) : ratL (n : Rat) = itoa n := by
  unfold ratL; rw [Rat.num_intCast, Rat.den_intCast, if_pos rfl, List.append_nil]
theorem itoa_ne (n : Int) : itoa n ≠ [] := by
  by_cases hn : n < 0
  · rw [itoa_ng hn]; simp
  · rw [itoa_nn (by omega)]; exact dec_ne _
theorem ratL_ne (q : Rat) : ratL q ≠ [] := by unfold ratL; simp [itoa_ne]
theorem ratL_neg {q : Rat} (h : q < 0) : ratL q = 45 :: ratL (-q) := by
  have hn : q.num < 0 := by
    have := Rat.num_nonneg (q := q)
    grind
  unfold ratL
  rw [itoa_ng hn, Rat.neg_num, Rat.neg_den, itoa_nn (by omega), List.cons_append, show (-q.num).toNat = q.num.natAbs by omega]
theorem ratL_head {q : Rat} (h : 0 ≤ q) : (ratL q).head? ≠ some 45 := by
  have hn : 0 ≤ q.num := (Rat.num_nonneg (q := q)).2 h
  unfold ratL
  rw [itoa_nn hn, hd_app (dec_ne _)]
  intro e
  have := dec_dig q.num.toNat 45 (List.mem_of_mem_head? e)
  exact absurd this (by decide)
theorem ratL_zero : ratL 0 = [48] := by
  have := ratL_int 0
  rw [show ((0 : Int) : Rat) = 0 from rfl] at this
  rw [this, itoa_nn (by omega)]; exact dec_zero
theorem ratL_eq_zero {q : Rat} : ratL q = [48] ↔ q = 0 := ⟨fun h => ratL_inj (by rw [h, ratL_zero]), fun h => by rw [h, ratL_zero]⟩
end Go.Proofs.YtflchbejjofppaaGreatDoor
