/- Lemmas on the way to the law TopOneGrain (part 11): NGg NEc NEd NEe NDg NEp NEx NRp NFb NFc NGh NHa -/
import Derived.Test.YtpafjhjpchdcdaaGreatDoorTopOneGrainP10
import Derived.Lib.SmallJoins
import Derived.Test.YtpafjhjpchdcdaaGreatDoorTopOneGrainP09
import Derived.Test.YtpafjhjpchdcdaaGreatDoorTopOneGrainP08
import Derived.Shelf.Spec.BitsCarry
import Derived.Lib.EndianBits
import Derived.Lib.AppendIntMem
set_option linter.unusedVariables false
set_option linter.unusedSimpArgs false

/- Walks: num.Read at short numerals. -/
namespace Go.Proofs.YtpafjhjpchdcdaaGreatDoor.Nu
open Go Go.Proofs Go.RowKit Go.Proofs.YtpafjhjpchdcdaaGreatDoor
def slen : Value → Nat
  | .string s => s.size
  | _ => 0
set_option maxRecDepth 100000 in
set_option maxHeartbeats 4000000 in
theorem sread90 (w : World) (z : Int) (hz : z.natAbs < 10 ^ 18) : Calls Tryz.prog 105 #[.string (txz z)] w (Ret (.agg #[.int .i64 z, .slice none 0 0]) w) := by
  have HO := Lib.hid (fun (w1 : World) (n : Int) => of94 n w1)
  have HPF := Lib.hid (fun (w1 : World) => (by
    have h := Tryz.strings_HasPrefix (txz z) ⟨#[45]⟩ w1
    rw [txz_list, show (⟨#[45]⟩ : ByteArray).data.toList = [45] from rfl, hasPrefix_itoa] at h
    exact h.mono (fun e w' h => ⟨h.1, h.2.symm⟩) : Calls Tryz.prog 121 #[.string (txz z), .string ⟨#[45]⟩] w1 fun e w' => e = .returned (.bool (decide (z < 0))) ∧ w1 = w'))
  have HTP := Lib.hid (fun (w1 : World) => (by
    have h := Tryz.strings_TrimPrefix (txz z) ⟨#[45]⟩ w1
    rw [txz_list, show (⟨#[45]⟩ : ByteArray).data.toList = [45] from rfl, trimPrefix_itoa] at h
    exact h.mono (fun e w' h => ⟨h.1, h.2.symm⟩) : Calls Tryz.prog 102 #[.string (txz z), .string ⟨#[45]⟩] w1 fun e w' => e = .returned (.string (tx (Lib.decDigits z.natAbs))) ∧ w1 = w'))
  have hlen : (Lib.decDigits z.natAbs).length ≤ 18 := (dec_len_le (by decide)).2 hz
  have hlen0 := dec_pos_len z.natAbs
  have HAT := Lib.hid (fun (w1 : World) => (by
    have h := Tryz.strconv_Atoi (tx (Lib.decDigits z.natAbs)) (z.natAbs : Int) (by rw [tx_size]; exact hlen) (by rw [tx_list, atoi_dig (dec_dig _) (dec_ne _), dval_dec]) w1
    exact h.mono (fun e w' h => ⟨h.1, by obtain ⟨t, rfl⟩ := h.2; exact Go.Joins.below_bytesWorld _ _ _ _ (Nat.le_refl _)⟩) : Calls Tryz.prog 122 #[.string (tx (Lib.decDigits z.natAbs))] w1 (Ret (.tuple #[.int .i64 (z.natAbs : Int), .nilIface]) w1)))
  have HPW := Lib.hid (fun (w1 : World) (n : Nat) (h : n ≤ 18) => spow121 w1 n h)
  have hsz : (tx (Lib.decDigits z.natAbs)).size = (Lib.decDigits z.natAbs).length := tx_size _
  have HFIN := Lib.hid (show (decide (z < 0) = true → z = -(z.natAbs : Int)) ∧ (decide (z < 0) = false → z = (z.natAbs : Int)) by
    refine ⟨fun h => ?_, fun h => ?_⟩
    · have := of_decide_eq_true h; omega
    · have := of_decide_eq_false h; omega)
  have HSM := Lib.hid (show Sm (z.natAbs : Int) from ⟨by omega, by have : (10 : Nat) ^ 18 = 1000000000000000000 := by decide
                                                                   omega⟩)
  obtain ⟨D, hD⟩ : ∃ D, tx (Lib.decDigits z.natAbs) = D := ⟨_, rfl⟩
  obtain ⟨n, hn⟩ : ∃ n, (Lib.decDigits z.natAbs).length = n := ⟨_, rfl⟩
  obtain ⟨m, hm⟩ : ∃ m : Int, (z.natAbs : Int) = m := ⟨_, rfl⟩
  obtain ⟨p, hp⟩ : ∃ p, decide (z < 0) = p := ⟨_, rfl⟩
  obtain ⟨X, hX⟩ : ∃ X, txz z = X := ⟨_, rfl⟩
  rw [hp, hX] at HPF
  rw [hX, hD] at HTP
  rw [hn] at hlen hlen0 hsz
  rw [hD] at hsz HAT
  rw [hm] at HAT HFIN HSM
  rw [hp] at HFIN
  rw [hX]
  have HX1 : D.extract 0 n = D := by rw [← hsz]; exact ByteArray.extract_zero_size
  have HX2 : D.extract n n = ⟨#[]⟩ := ByteArray.ext (by simp)
  have HMM := Lib.hid (fun (w1 : World) => (by
    have h := smul72 w1 0 (10 ^ n) ⟨by omega, by omega⟩ (pow_sm hlen) (by rw [Int.zero_mul]; exact ⟨by omega, by omega⟩)
    rwa [Int.zero_mul] at h : Calls Tryz.prog 111 #[.agg #[.int .i64 0, .slice none 0 0], .agg #[.int .i64 (10 ^ n), .slice none 0 0]] w1 (Ret (.agg #[.int .i64 0, .slice none 0 0]) w1)))
  have HAA := Lib.hid (fun (w1 : World) => (by
    have h := sadd70 w1 0 m (by rw [Int.zero_add]; exact HSM.out)
    rwa [Int.zero_add] at h : Calls Tryz.prog 109 #[.agg #[.int .i64 0, .slice none 0 0], .agg #[.int .i64 m, .slice none 0 0]] w1 (Ret (.agg #[.int .i64 m, .slice none 0 0]) w1)))
  have HNG := Lib.hid (fun (w1 : World) => sneg101 w1 m HSM.out)
  have HPN := Lib.hid (fun (w1 : World) => HPW.out w1 n hlen)
  obtain ⟨P, hP⟩ : ∃ P : Int, 10 ^ n = P := ⟨_, rfl⟩
  rw [hP] at HMM HPN
  clear hP hm hp hX hn hD hz HPW HSM
  have HB_0 := Lib.hid ((Below.refl w.heap.size w).alloc (Nat.le_refl _) (.cells #[.int .i64 0, .slice none 0 0] 135))
  have HB := Lib.hid (HB_0.out.alloc HB_0.out.size (.cells #[.int .i64 0, .slice none 0 0] 135))
  have HX := Lib.hid ((Box.new w #[.int .i64 0, .slice none 0 0] 135).alloc (.cells #[.int .i64 0, .slice none 0 0] 135))
  have HY := Lib.hid (Box.newAt (w.alloc (.cells #[.int .i64 0, .slice none 0 0] 135)) #[.int .i64 0, .slice none 0 0] 135 (n := w.heap.size + 1) (by simp))
  obtain ⟨x0, x1, xf, xz⟩ := HX.out.v2
  obtain ⟨y0, y1, yf, yz⟩ := HY.out.v2
  clear HB_0
  go_enter Tryz.func105, Tryz.ntmps105
  go_wp2_with fail
  refine (HPF.out _).mono ?_
  rintro e4 w4 ⟨rfl, rfl⟩
  go_wp2_with fail
  refine (HTP.out _).mono ?_
  rintro e5 w5 ⟨rfl, rfl⟩
  go_wp2_with fail
  go_loopw [0] (fun s wr => Below w.heap.size w wr ∧ Box wr w.heap.size 135 [.int .i64 0, .slice none 0 0] ∧ ((s = .string D ∧ Box wr (w.heap.size + 1) 135 [.int .i64 0, .slice none 0 0]) ∨ (s = .string ⟨#[]⟩ ∧ Box wr (w.heap.size + 1) 135 [.int .i64 m, .slice none 0 0]))) (fun s _ => slen s)
  case atStart => exact ⟨HB.out, HX.out, .inl ⟨rfl, HY.out⟩⟩
  case round =>
    obtain ⟨hbe, hbx, hway⟩ := hrel
    clear HX HY HB x0 x1 xf xz y0 y1 yf yz
    have HX := Lib.hid hbx
    have HB := Lib.hid hbe
    clear hbx hbe
    obtain ⟨x0, x1, xf, xz⟩ := HX.out.v2
    rcases hway with ⟨rfl, hy⟩ | ⟨rfl, hy⟩
    · have HY := Lib.hid hy
      clear hy
      obtain ⟨y0, y1, yf, yz⟩ := HY.out.v2
      have d0 : decide (0 < n) = true := decide_eq_true hlen0
      have d1 : min (18 : Int) (n : Int) = n := Int.min_eq_right (by omega)
      go_wp2_with fail
      refine (HAT.out _).mono ?_
      rintro e6 w6 ⟨rfl, hb⟩
      replace HB := Lib.hid (HB.out.trans (hb.mono HB.out.size))
      replace HX := Lib.hid (HX.out.later hb)
      replace HY := Lib.hid (HY.out.later hb)
      clear hb x0 x1 xf xz y0 y1 yf yz
      obtain ⟨x0, x1, xf, xz⟩ := HX.out.v2
      obtain ⟨y0, y1, yf, yz⟩ := HY.out.v2
      go_wp2_with fail
      refine wp_region_head_later 8 (by kernel_rfl) (by kernel_rfl) ?_
      simp only [List.take_succ_cons, List.take_zero, List.drop_succ_cons, List.drop_zero]
      repeat go_big_quiet_step ((first | (go_at_call 100; exact Calls.later (HO.out _ _)) | (go_at_call 123; exact Calls.later (HPN.out _)) | (go_at_call 111; exact Calls.later (HMM.out _)) | (go_at_call 109; exact Calls.later (HAA.out _))))
      refine wpQuiet_nil ?_
      rintro w2 ⟨⟨_, hb2⟩, rfl⟩
      replace HB := Lib.hid (HB.out.trans (hb2.mono HB.out.size))
      replace HX := Lib.hid (HX.out.later hb2)
      replace HY := Lib.hid (HY.out.later hb2)
      clear hb2 x0 x1 xf xz y0 y1 yf yz
      obtain ⟨x0, x1, xf, xz⟩ := HX.out.v2
      obtain ⟨y0, y1, yf, yz⟩ := HY.out.v2
      go_wp2_with fail
      go_roundw
      case rel =>
        refine ⟨?_, (HX.out.other (a := ⟨w.heap.size + 1, 0, none⟩) (.int .i64 m) (by simp)).other (a := ⟨w.heap.size + 1, 1, none⟩) (.slice none 0 0) (by simp), .inr ⟨rfl, (HY.out.set 0 (.int .i64 m)).set 1 (.slice none 0 0)⟩⟩
        repeat (first | with_reducible exact HB.out | with_reducible exact Below.refl _ _ | refine Below.setCell ?_ (by first | (dsimp only; omega) | (simp; done) | (simp; omega)) _ | refine Below.alloc ?_ (by first | omega | (simp; done) | (simp; omega)) _ | refine Below.drew ?_)
      case measure => simp [slen]; omega
    · have HY := Lib.hid hy
      clear hy
      obtain ⟨y0, y1, yf, yz⟩ := HY.out.v2
      cases p with
      | true =>
        have HZ := Lib.hid (HFIN.out.1 rfl)
        go_wp2_with fail
        refine (HNG.out _).mono ?_
        rintro e6 w6 ⟨rfl, hb⟩
        replace HB := Lib.hid (HB.out.trans (hb.mono HB.out.size))
        replace HX := Lib.hid (HX.out.later hb)
        replace HY := Lib.hid (HY.out.later hb)
        clear hb x0 x1 xf xz y0 y1 yf yz
        obtain ⟨x0, x1, xf, xz⟩ := HX.out.v2
        obtain ⟨y0, y1, yf, yz⟩ := HY.out.v2
        go_wp2_with fail
        refine bodyPost_ret (v := .agg #[.int .i64 (-m), .slice none 0 0]) (by simp [results, Tryz.results105, go_sem, *]) rfl ?_
        refine Ret.mk (by rw [HZ.out]) ?_
        repeat (first | with_reducible exact HB.out | with_reducible exact Below.refl _ _ | refine Below.setCell ?_ (by first | (dsimp only; omega) | (simp; done) | (simp; omega)) _ | refine Below.alloc ?_ (by first | omega | (simp; done) | (simp; omega)) _ | refine Below.drew ?_)
      | false =>
        have HZ := Lib.hid (HFIN.out.2 rfl)
        go_wp2_with fail
        refine bodyPost_ret (v := .agg #[.int .i64 m, .slice none 0 0]) (by simp [results, Tryz.results105, go_sem, *]) rfl ?_
        refine Ret.mk (by rw [HZ.out]) ?_
        repeat (first | with_reducible exact HB.out | with_reducible exact Below.refl _ _ | refine Below.setCell ?_ (by first | (dsimp only; omega) | (simp; done) | (simp; omega)) _ | refine Below.alloc ?_ (by first | omega | (simp; done) | (simp; omega)) _ | refine Below.drew ?_)
end Go.Proofs.YtpafjhjpchdcdaaGreatDoor.Nu
/- Walks: (num.Int).parts, num.made. -/
namespace Go.Proofs.YtpafjhjpchdcdaaGreatDoor.Nu
open Go Go.Proofs Go.RowKit Go.Proofs.YtpafjhjpchdcdaaGreatDoor
structure WlR (w : World) (v : Value) (l : List Nat) (m : Nat) : Prop where
  sc : Sc encW 1 w w.heap.size v l
  dg : Dg (2 ^ 64) l
  tr : Tr l
  eq : val (2 ^ 64) l = m
theorem WlR.later {w w' : World} {v : Value} {l : List Nat} {m : Nat} (h : WlR w v l m) (hb : Below w.heap.size w w') : WlR w' v l m := ⟨h.sc.later hb, h.dg, h.tr, h.eq⟩
theorem WlR.len {w : World} {v : Value} {l : List Nat} {m k : Nat} (h : WlR w v l m) (hm : Wds k (m : Int)) : l.length ≤ k := by
  refine Wds.len (k := k) ?_ h.tr
  rw [h.eq]; exact hm
end Go.Proofs.YtpafjhjpchdcdaaGreatDoor.Nu
/- Walks: num.made. -/
namespace Go.Proofs.YtpafjhjpchdcdaaGreatDoor.Nu
open Go Go.Proofs Go.RowKit Go.Proofs.YtpafjhjpchdcdaaGreatDoor
def RetI (w : World) (z : Int) (e : Ending) (w' : World) : Prop := ∃ v, e = .returned v ∧ IntR w' v z ∧ Below w.heap.size w w'
theorem RetI.mk {w w' : World} {z : Int} {v v' : Value} (h : v = v') (h1 : IntR w' v' z) (hb : Below w.heap.size w w') : RetI w z (.returned v) w' := ⟨v, rfl, h ▸ h1, hb⟩
end Go.Proofs.YtpafjhjpchdcdaaGreatDoor.Nu
/- Walks: (num.Int).Sign, Neg, Abs. -/
namespace Go.Proofs.YtpafjhjpchdcdaaGreatDoor.Nu
open Go Go.Proofs Go.RowKit Go.Proofs.YtpafjhjpchdcdaaGreatDoor
theorem IntR.form {w : World} {v : Value} {z : Int} (h : IntR w v z) : ∃ s a n c, v = .agg #[.int .i64 s, .slice a n c] ∧ s.sign = z.sign ∧ -9223372036854775808 ≤ s ∧ s ≤ 9223372036854775807 ∧ ((a = none ∧ s = z ∧ n = 0 ∧ c = 0) ∨ a.isNone = false) := by
  rcases h with ⟨rfl, h1, h2⟩ | ⟨s, b, off, n, c, l, rfl, hsc, hn, hn0, hdg, htr, hbig, hs⟩
  · exact ⟨z, none, 0, 0, rfl, rfl, h1, h2, .inl ⟨rfl, rfl, rfl, rfl⟩⟩
  · refine ⟨s, _, n, c, rfl, ?_, ?_, ?_, .inr rfl⟩
    · rcases hs with ⟨h1, h2⟩ | ⟨h1, h2⟩
      · rw [h1, h2, Int.sign_eq_one_of_pos (by omega : (0 : Int) < (val (2 ^ 64) l : Int))]; rfl
      · rw [h1, h2, Int.sign_eq_neg_one_of_neg (by omega : -(val (2 ^ 64) l : Int) < 0)]; rfl
    · rcases hs with ⟨h1, _⟩ | ⟨h1, _⟩ <;> omega
    · rcases hs with ⟨h1, _⟩ | ⟨h1, _⟩ <;> omega
theorem At.box {w : World} {b o k : Nat} {x : Nat} {e : TypeId} {vs : List Value} (h : At w b o (encW x)) (hB : Box w k e vs) (hv : ∀ y, Value.int .u64 y ∉ vs) (j : Nat) (u : Value) : At (w.setCell ⟨k, j, none⟩ u) b o (encW x) := by
  have hne : b ≠ k := fun e => by
    subst e
    have h1 := h.c1
    rw [hB.cell] at h1
    exact hv _ (List.mem_of_getElem? h1)
  intro q y hq
  rw [World.cell?_setCell_other _ _ _ _ (by intro e; injection e with e1; exact absurd e1 (by omega))]
  exact h q y hq
theorem Sc.box {w : World} {B : Nat} {v : Value} {l : List Nat} (h : Sc encW 1 w B v l) {k : Nat} {e : TypeId} {vs : List Value} (hB : Box w k e vs) (hv : ∀ y, Value.int .u64 y ∉ vs) (j : Nat) (u : Value) : Sc encW 1 (w.setCell ⟨k, j, none⟩ u) B v l := by
  obtain ⟨a, c, rfl, h1, h2, h⟩ := h
  refine ⟨a, c, rfl, h1, h2, fun h0 => ?_⟩
  obtain ⟨b, off, rfl, hb, hc⟩ := h h0
  exact ⟨b, off, rfl, hb, fun i hi => At.box (hc i hi) hB hv j u⟩
theorem IntR.box {w : World} {v : Value} {z : Int} (h : IntR w v z) {k : Nat} {e : TypeId} {vs : List Value} (hB : Box w k e vs) (hv : ∀ y, Value.int .u64 y ∉ vs) (j : Nat) (u : Value) : IntR (w.setCell ⟨k, j, none⟩ u) v z := by
  rcases h with h | ⟨s, b, off, n, c, l, h1, h2, h3⟩
  · exact .inl h
  · exact .inr ⟨s, b, off, n, c, l, h1, by simpa using h2.box hB hv j u, h3⟩
theorem IntR.put {w : World} {v : Value} {z : Int} (h : IntR w v z) {k : Nat} {e : TypeId} {s : Int} {a : Option Addr} {n c : Nat} (hB : Box w k e [.int .i64 s, .slice a n c]) (s1 : Int) (v2 : Value) : IntR ((w.setCell ⟨k, 0, none⟩ (.int .i64 s1)).setCell ⟨k, 1, none⟩ v2) v z :=
  (h.box hB (by simp) 0 _).box (hB.set 0 (.int .i64 s1)) (by simp) 1 _
set_option maxRecDepth 100000 in
set_option maxHeartbeats 1000000 in
theorem sign100 (w : World) (v : Value) (z : Int) (h : IntR w v z) : Calls Tryz.prog 107 #[v] w (Ret (.int .i64 z.sign) w) := by
  obtain ⟨s, a, n, c, rfl, hs, _, _, _⟩ := h.form
  rw [← hs]
  clear h hs
  have HB := Lib.hid ((Below.refl w.heap.size w).alloc (Nat.le_refl _) (.cells #[.int .i64 s, .slice a n c] 135))
  have HX := Lib.hid (Box.new w #[.int .i64 s, .slice a n c] 135)
  obtain ⟨x0, x1, xf, xz⟩ := HX.out.v2
  rcases Int.lt_trichotomy s 0 with h0 | h0 | h0
  · have h1 : s < 1 := by omega
    have h2 : s ≤ -1 := by omega
    rw [Int.sign_eq_neg_one_of_neg h0]
    clear h0
    go_enter Tryz.func107, Tryz.ntmps107
    go_wp2_with fail
    go_ret
    first | exact ⟨rfl, HB.out⟩ | exact ⟨by show Ending.returned (Value.int .i64 (max (-1) (min 1 s))) = _; rw [show max (-1) (min 1 s) = -1 by omega], HB.out⟩
  · subst h0
    go_enter Tryz.func107, Tryz.ntmps107
    go_wp2_with fail
    go_ret
    exact ⟨rfl, HB.out⟩
  · have h1 : ¬ s < 1 := by omega
    rw [Int.sign_eq_one_of_pos h0]
    clear h0
    go_enter Tryz.func107, Tryz.ntmps107
    go_wp2_with fail
    go_ret
    first | exact ⟨rfl, HB.out⟩ | exact ⟨by show Ending.returned (Value.int .i64 (max (-1) (min 1 s))) = _; rw [show max (-1) (min 1 s) = 1 by omega], HB.out⟩
end Go.Proofs.YtpafjhjpchdcdaaGreatDoor.Nu
/- Plain: the quotient of two words by one, by halves. -/
namespace Go.Proofs.YtpafjhjpchdcdaaGreatDoor
structure HfC (T u Y v1 v0 : Nat) : Prop where
  hy : Y = v1 * 4294967296 + v0
  hv0 : v0 < 4294967296
  hv1 : 2147483648 ≤ v1
  hv1' : v1 < 4294967296
  hlt : T < Y
  hu : u < 4294967296
theorem HfC.done {T u Y v1 v0 t r : Nat} (hc : HfC T u Y v1 v0) (top : t * v1 + r = T) (ge : T * 4294967296 + u < (t + 1) * Y) (he : 4294967296 ≤ r ∨ t * v0 ≤ r * 4294967296 + u) : t = (T * 4294967296 + u) / Y ∧ t * Y ≤ T * 4294967296 + u ∧ t < 4294967296 := by
  have hlt := hc.hlt
  have hy := hc.hy
  have hv0 := hc.hv0
  have htB : 4294967296 ≤ r → t ≤ 4294967296 := fun hr => by
    rcases Nat.lt_or_ge 4294967296 t with h | h
    · have : 4294967297 * v1 ≤ t * v1 := Nat.mul_le_mul_right _ h
      omega
    · exact h
  have h1 := div2_done (B := 4294967296) (T := T) (u2 := u) (v1 := v1) (v2 := v0) top (by rw [← hy]; exact ge) hv0 (by
    rcases he with he | he
    · exact .inl ⟨he, htB he⟩
    · exact .inr he)
  rw [← hy] at h1
  refine ⟨h1.1, h1.2, ?_⟩
  rw [h1.1]
  apply Nat.div_lt_of_lt_mul
  have := hc.hu
  have : 4294967296 * (T + 1) ≤ 4294967296 * Y := Nat.mul_le_mul_left _ hlt
  rw [Nat.mul_comm Y]
  omega
end Go.Proofs.YtpafjhjpchdcdaaGreatDoor
/- Walks: num.step. -/
namespace Go.Proofs.YtpafjhjpchdcdaaGreatDoor.Nu
open Go Go.Proofs Go.RowKit Go.Proofs.YtpafjhjpchdcdaaGreatDoor
structure SbI (W0 : List Nat) (u v u' : List Nat) (k t cy bw i : Nat) : Prop where
  len : u'.length = u.length
  tk : u'.take k = u.take k
  dg : Dg (2 ^ 64) u'
  b1 : bw ≤ 1
  cB : cy < 2 ^ 64
  sm : SmI (2 ^ 64) W0 v (u'.drop k) t (cy + bw) i
theorem SbI.un {W0 u v u' : List Nat} {k t cy bw : Nat} (h : SbI W0 u v u' k t cy bw v.length) (hW : Win (2 ^ 64) W0 v) (hw : v.length < (u'.drop k).length) : (u'.drop k)[v.length] = W0[v.length]'hW.len := by
  have h1 := h.sm.rest
  rw [List.drop_eq_getElem_cons hw, List.drop_eq_getElem_cons hW.len] at h1
  injection h1
structure AbS (u u2 v u3 : List Nat) (k c i : Nat) : Prop where
  len : u3.length = u.length
  tk : u3.take k = u.take k
  dg : Dg (2 ^ 64) u3
  ab : AbI (2 ^ 64) (u2.drop k) v (u3.drop k) c i
theorem AbS.un {u v u' u3 : List Nat} {k c x : Nat} (h3 : AbS u (u'.set (k + v.length) x) v u3 k c v.length) (hw2 : k + v.length < u'.length) : u3[k + v.length]? = some x := by
  have h1 := congrArg (fun l : List Nat => l[0]?) h3.ab.rest
  simp only [List.getElem?_drop, Nat.add_zero] at h1
  rw [h1, List.getElem?_set_self hw2]
end Go.Proofs.YtpafjhjpchdcdaaGreatDoor.Nu
/- Walks: (num.Int).DivMod, both small. -/
namespace Go.Proofs.YtpafjhjpchdcdaaGreatDoor.Nu
open Go Go.Proofs Go.RowKit Go.Proofs.YtpafjhjpchdcdaaGreatDoor
def RetD (w : World) (z1 z2 : Int) (e : Ending) (w' : World) : Prop := ∃ u v, e = .returned (.tuple #[u, v]) ∧ IntR w' u z1 ∧ IntR w' v z2 ∧ Below w.heap.size w w'
theorem RetD.mk {w w' : World} {z1 z2 : Int} {u v x : Value} (h : x = .tuple #[u, v]) (h1 : IntR w' u z1) (h2 : IntR w' v z2) (hb : Below w.heap.size w w') : RetD w z1 z2 (.returned x) w' := ⟨u, v, by rw [h], h1, h2, hb⟩
end Go.Proofs.YtpafjhjpchdcdaaGreatDoor.Nu
/- A region that draws its order, each head operation told by a relation of its yield and the world. -/
namespace Go
open Go.RowKit
section
def Region.relB (ops : Array Oper) (n : Nat) : Bool :=
  Region.noSelect ops && decide (n < ops.size) && Region.sinkB .any ops n && Region.chainB .any ops n && Region.seqB .any ops (ops.size - n) n (Region.marked ops.size n) &&
  ((List.range n).all fun i => match ops[i]? with | some o => o.after.all fun e => !Region.binds .any e || decide (e.on < i) | none => true) &&
  ((List.range n).all fun i => (List.range n).all fun j => Region.flowPair ops i j) &&
  ((List.range n).all fun i => match ops[i]? with | some o => o.guard.isNone && o.dst.isSome | none => true)
def putsN (vs : Nat → Value) : Nat → Act → List Oper → Act
  | _, a, [] => a
  | k, a, o :: os => putsN vs (k + 1) (a.put o.dst (vs k)) os
theorem putsN_other (vs : Nat → Value) (t : Tmp) : ∀ (os : List Oper) (k : Nat) (a : Act), (∀ o ∈ os, o.dst ≠ some t) → (putsN vs k a os).tmps[t]? = a.tmps[t]?
  | [], _, _, _ => rfl
  | o :: os, k, a, h => by
    rw [putsN, putsN_other vs t os (k + 1) _ (fun o' ho' => h o' (List.mem_cons_of_mem _ ho')), put_get, if_neg (h o (by simp))]
theorem putsN_defers (vs : Nat → Value) : ∀ (os : List Oper) (k : Nat) (a : Act), (putsN vs k a os).defers = a.defers
  | [], _, _ => rfl
  | o :: os, k, a => by rw [putsN, putsN_defers vs os, put_defers]
theorem putsN_at (vs : Nat → Value) (t : Tmp) : ∀ (os : List Oper) (k : Nat) (a : Act) (j : Nat) (o : Oper), os.Pairwise (fun o o' => ∀ t, o.dst = some t → o'.dst ≠ some t) → os[j]? = some o → o.dst = some t →
    (putsN vs k a os).tmps[t]? = a.tmps[t]?.map (fun _ => vs (k + j))
  | [], _, _, j, _, _, h, _ => by simp at h
  | o1 :: os, k, a, 0, o, hp, h, hd => by
    obtain ⟨hp1, hp2⟩ := List.pairwise_cons.1 hp
    have e : o1 = o := by simpa using h
    subst e
    rw [putsN, putsN_other vs t os (k + 1) _ (fun o' ho' => hp1 o' ho' t hd), put_get, if_pos hd]; rfl
  | o1 :: os, k, a, j + 1, o, hp, h, hd => by
    obtain ⟨hp1, hp2⟩ := List.pairwise_cons.1 hp
    have h' : os[j]? = some o := by simpa using h
    rw [putsN, putsN_at vs t os (k + 1) _ j o hp2 h' hd, put_get, if_neg (fun e => hp1 o (List.mem_of_getElem? h') t e hd), show k + 1 + j = k + (j + 1) by omega]
structure RelFlow (ops : Array Oper) (n : Nat) (W : World) (a0 : Act) (R : Nat → Value → World → Prop) (vs : Nat → Value) (listed : Array Bool) (a : Act) (w : World) : Prop where
  inv : HeadInv .any ops n listed
  later : Below W.heap.size W w
  size : a.tmps.size = a0.tmps.size
  defers : a.defers = a0.defers
  slot : ∀ j o t, j < n → ops[j]? = some o → o.dst = some t → a.tmps[t]? = if listed.getD j false = true then a0.tmps[t]?.map (fun _ => vs j) else a0.tmps[t]?
  other : ∀ t, (∀ j o, j < n → ops[j]? = some o → o.dst ≠ some t) → a.tmps[t]? = a0.tmps[t]?
  rel : ∀ j, j < n → listed.getD j false = true → R j (vs j) w
def RelPost (W : World) (a0 : Act) (o : Oper) (Ri : Value → World → Prop) (e : Exit) (a : Act) (w : World) : Prop := e = .normal ∧ a.defers = a0.defers ∧ ∃ t v, o.dst = some t ∧ a.tmps[t]? = some v ∧ Below W.heap.size W w ∧ Ri v w
theorem RelPost.out {W : World} {a0 : Act} {o : Oper} {Ri : Value → World → Prop} : ¬ LetsOut (RelPost W a0 o Ri) := fun ⟨_, _, h⟩ => by cases h.1
theorem rel_op {P : Program} {Q : Exit → Act → World → Prop} {ops : Array Oper} {o : Oper} {i : Nat} (hi : ops[i]? = some o) (hg : o.guard = none) {t : Tmp} (hd : o.dst = some t) {Ri : Value → World → Prop} {a a' : Act} {w : World} {K : Act → World → Prop} (he : execOp a'.eval o = execOp a.eval o)
    (h : wpList P ops (RelPost w a' o Ri) [o] a' w) (hK : ∀ v w', Below w.heap.size w w' → Ri v w' → K (a.put o.dst v) w') : wpOp P ops Q i K a w := by
  have hwant : ∀ x, Region.wanted o x = true := fun x => by simp [Region.wanted, hg]
  unfold wpOp
  simp only [hi]
  rw [if_pos (hwant _)]
  unfold wpList at h
  rw [if_pos (hwant _)] at h
  rcases h with h | h
  rotate_left
  · exact absurd h.2 RelPost.out
  refine .inl ?_
  have hpost : ∀ v w', RelPost w a' o Ri .normal (a'.put o.dst v) w' → K (a.put o.dst v) w' := fun v w' hp => by
    obtain ⟨_, _, t', v', hd', hv', hb, hR⟩ := hp
    rw [hd] at hd'
    injection hd' with hd'
    subst hd'
    rw [put_get, if_pos hd] at hv'
    have e : v = v' := by
      cases hx : a'.tmps[t]? with
      | none => rw [hx] at hv'; cases hv'
      | some y => rw [hx] at hv'; injection hv'
    subst e
    exact hK v w' hb hR
  unfold Oper.wp at h ⊢
  rw [he] at h
  generalize (execOp a.eval o).run P w = r at *
  cases r with
  | ok x w' =>
    cases x with
    | value v => exact hpost v w' h
    | skip => exact hpost undef w' h
    | defer d =>
      exfalso
      obtain ⟨_, hdf, _⟩ := h
      rw [put_defers] at hdf
      have := congrArg List.length hdf
      simp at this
    | enter f args =>
      refine Calls.mono h ?_
      intro e w'' he
      cases e with
      | returned v => exact hpost v w'' he
      | panicked chain => cases he.1
      | outgrown => exact absurd he RelPost.out
    | row row args => exact Rows.mono h (fun v w'' he => hpost v w'' he)
    | _ => exact h.elim
  | halt x w' =>
    cases x with
    | panic v => cases h.1
    | _ => exact h.elim
variable {P : Program} {l : List Oper} {n : Nat} {W : World} {a0 : Act} {R : Nat → Value → World → Prop} {Q : Exit → Act → World → Prop}
theorem rel_run (hB : Region.relB l.toArray n = true)
    (hst : ∀ j v w w', R j v w → Below w.heap.size w w' → R j v w')
    (hq : ∀ i o, i < n → l[i]? = some o → ∀ (vs : Nat → Value) (w : World), Below W.heap.size W w → (∀ j, j < i → Region.blindTo l.toArray i j = false → R j (vs j) w) → wpList P l.toArray (RelPost w (putsN vs 0 a0 (l.take i)) o (R i)) [o] (putsN vs 0 a0 (l.take i)) w)
    (ht : ∀ (vs : Nat → Value) (w : World), Below W.heap.size W w → (∀ j, j < n → R j (vs j) w) → wpList P l.toArray Q (l.drop n) (putsN vs 0 a0 (l.take n)) w) :
    ∀ (f : Nat) (U : List Nat) (vs : Nat → Value) (listed : Array Bool) (a : Act) (w : World), U.length = f → U.Nodup → (∀ i, i ∈ U ↔ i < n ∧ listed.getD i false = false) →
      RelFlow l.toArray n W a0 R vs listed a w → wpAny P .any l.toArray Q (f + (l.toArray.size - n)) listed a w := by
  simp only [Region.relB, Bool.and_eq_true, decide_eq_true_eq, List.all_eq_true, List.mem_range] at hB
  obtain ⟨⟨⟨⟨⟨⟨⟨hsel, hn⟩, hsink⟩, hchain⟩, hseq⟩, hedge⟩, hpair⟩, hguard⟩ := hB
  have hn' : n ≤ l.length := by have h := hn; rw [List.size_toArray] at h; omega
  have hsz : l.toArray.size = l.length := by simp
  have hget : ∀ i : Nat, l.toArray[i]? = l[i]? := fun i => by simp
  have hselect := Region.noSelect_spec hsel
  have hpw : ∀ m, m ≤ n → (l.take m).Pairwise (fun o o' => ∀ t, o.dst = some t → o'.dst ≠ some t) := fun m hm => by
    rw [List.pairwise_iff_getElem]
    intro i j hi hj hij t ht
    rw [List.length_take] at hi hj
    rw [List.getElem_take] at ht ⊢
    exact Region.flowPair_dst (hpair i (by omega) j (by omega)) (by rw [hget]; exact List.getElem?_eq_getElem (by omega)) (by rw [hget]; exact List.getElem?_eq_getElem (by omega)) (fun e => by subst e; omega) ht
  have hputAt : ∀ (vs : Nat → Value) m, m ≤ n → ∀ j o t, j < m → l.toArray[j]? = some o → o.dst = some t → (putsN vs 0 a0 (l.take m)).tmps[t]? = a0.tmps[t]?.map (fun _ => vs j) := fun vs m hm j o t hj ho hd => by
    rw [putsN_at vs t (l.take m) 0 a0 j o (hpw m hm) (by rw [List.getElem?_take, if_pos hj, ← hget]; exact ho) hd, Nat.zero_add]
  have hputO : ∀ (vs : Nat → Value) m, m ≤ n → ∀ t, (∀ j o, j < n → l.toArray[j]? = some o → o.dst ≠ some t) → (putsN vs 0 a0 (l.take m)).tmps[t]? = a0.tmps[t]? := fun vs m hm t h =>
    putsN_other vs t _ 0 a0 fun o ho => by
      obtain ⟨q, hq'⟩ := List.mem_iff_getElem?.1 ho
      rw [List.getElem?_take] at hq'
      split at hq'
      · exact h q o (by omega) (by rw [hget]; exact hq')
      · cases hq'
  intro f
  induction f with
  | zero =>
    intro U vs listed a w hU _ hUm hF
    obtain rfl : U = [] := List.eq_nil_of_length_eq_zero hU
    have hall : ∀ i, i < n → listed.getD i false = true := fun i hi => by
      cases h : listed.getD i false with
      | true => rfl
      | false => have := (hUm i).2 ⟨hi, h⟩; simp at this
    have hl : listed = Region.marked l.toArray.size n := by
      apply Array.ext_getElem?
      intro i
      by_cases hi : i < l.toArray.size
      · have hil : i < listed.size := by rw [hF.inv.size]; exact hi
        have e2 : (Region.marked l.toArray.size n)[i]? = some (decide (i < n)) := by
          rw [List.size_toArray] at hi
          unfold Region.marked
          simp [hi]
        rw [e2, Array.getElem?_eq_getElem hil]
        by_cases hin : i < n
        · have := hall i hin
          simp [hil] at this
          simp [this, hin]
        · have := hF.inv.tail i (by omega) hi
          simp [hil] at this
          simp [this, hin]
      · rw [Array.getElem?_eq_none (by rw [hF.inv.size]; omega), Array.getElem?_eq_none (by rw [List.size_toArray] at hi; unfold Region.marked; simp; omega)]
    have ha : a = putsN vs 0 a0 (l.take n) := by
      have htm : a.tmps = (putsN vs 0 a0 (l.take n)).tmps := by
        apply Array.ext_getElem?
        intro t
        by_cases h : ∃ j o, j < n ∧ l.toArray[j]? = some o ∧ o.dst = some t
        · obtain ⟨j, o, h1, h2, h3⟩ := h
          rw [hF.slot j o t h1 h2 h3, if_pos (hall j h1), hputAt vs n (Nat.le_refl _) j o t h1 h2 h3]
        · have h' : ∀ j o, j < n → l.toArray[j]? = some o → o.dst ≠ some t := fun j o h1 h2 h3 => h ⟨j, o, h1, h2, h3⟩
          rw [hF.other t h', hputO vs n (Nat.le_refl _) t h']
      have hd : a.defers = (putsN vs 0 a0 (l.take n)).defers := by rw [putsN_defers, hF.defers]
      cases a; simp only at htm hd; cases hX : putsN vs 0 a0 (l.take n); rw [hX] at htm hd; simp only at htm hd; rw [htm, hd]
    rw [ha]
    have hdl : (l.drop n).length = l.toArray.size - n := by simp
    have := wpAny_of_seq (md := .any) (Q' := Q) (ops := l.toArray) (l.drop n) n listed (putsN vs 0 a0 (l.take n)) w (fun j => by simp [List.getElem?_drop]) (by rw [hdl, hl]; exact hseq) (ht vs w hF.later (fun j hj => hF.rel j hj (hall j hj)))
    rw [hdl] at this
    rwa [Nat.zero_add]
  | succ f ih =>
    intro U vs listed a w hU hnd hUm hF
    obtain ⟨i0, hi0, hleast⟩ := exists_leastM U (fun e => by rw [e] at hU; simp at hU)
    obtain ⟨hi0n, hi0u⟩ := (hUm i0).1 hi0
    have hin : ∀ i, i < n → i < listed.size := fun i hi => by rw [hF.inv.size]; omega
    have hready : i0 ∈ Region.ready .any l.toArray listed := by
      have hlt : i0 < l.toArray.size := by omega
      refine mem_ready.2 ⟨getD_in (hin _ hi0n) hi0u, l.toArray[i0], Array.getElem?_eq_getElem hlt, fun e he hbd => ?_⟩
      have h1 := hedge i0 hi0n
      rw [Array.getElem?_eq_getElem hlt] at h1
      simp only [Array.all_eq_true_iff_forall_mem] at h1
      have h2 := h1 e he
      simp only [hbd, Bool.not_true, Bool.false_or, decide_eq_true_eq] at h2
      cases h : listed.getD e.on false with
      | true => rfl
      | false =>
        have := hleast e.on ((hUm e.on).2 ⟨by omega, h⟩)
        omega
    rw [show f + 1 + (l.toArray.size - n) = (f + (l.toArray.size - n)) + 1 by omega]
    refine ⟨fun h => (by rw [h] at hready; cases hready), fun i hi => ?_⟩
    obtain ⟨hiu, o, ho, hdep⟩ := mem_ready.1 hi
    have hilt : i < n := Nat.lt_of_not_le fun h => tail_waits hsink hchain hn hF.inv _ i0 rfl hi0n (getD_in (hin _ hi0n) hi0u) i h hi
    have hiU : i ∈ U := (hUm i).2 ⟨hilt, getD_both hiu⟩
    have hinv := hF.inv.set hi hilt
    have hlist : ∀ j, (listed.setIfInBounds i true).getD j false = if j = i then true else listed.getD j false := fun j => by
      by_cases h : j = i
      · subst h; rw [if_pos rfl]; simp [hin j hilt]
      · rw [if_neg h, getD_set_ne false (Ne.symm h)]
    have hUm' : ∀ j, j ∈ U.erase i ↔ j < n ∧ (listed.setIfInBounds i true).getD j false = false := fun j => by
      rw [hnd.mem_erase_iff, hUm j, hlist j]
      by_cases h : j = i
      · simp [h]
      · simp [h]
    have hlen' : (U.erase i).length = f := by rw [List.length_erase_of_mem hiU]; omega
    have hnd' := hnd.erase i
    have hseen : ∀ t ∈ o.looksAt l.toArray, ∀ j oj, j < n → l.toArray[j]? = some oj → oj.dst = some t → i ≠ j ∧ j < i ∧ listed.getD j false = true := by
      intro t ht j oj hj hoj hd
      have hne : i ≠ j := fun e => by
        subst e
        rw [ho] at hoj; cases hoj
        exact Region.flowPair_self (hpair i hilt i hilt) ho hd ht
      have h1 := Region.flowPair_looks (hpair i hilt j hj) ho hoj hne hd ht
      obtain ⟨o', ho', e, he, hbd, hon⟩ := Region.waitsFor_spec h1.2
      rw [ho] at ho'; cases ho'
      have := hdep e he hbd
      rw [hon] at this
      exact ⟨hne, h1.1, this⟩
    have hgd := hguard i hilt
    rw [ho] at hgd
    simp only [Bool.and_eq_true, Option.isNone_iff_eq_none] at hgd
    obtain ⟨hg, hds⟩ := hgd
    obtain ⟨t0, hd0⟩ := Option.isSome_iff_exists.1 hds
    have hex : execOp (putsN vs 0 a0 (l.take i)).eval o = execOp a.eval o := (seen_alike (ops := l.toArray) (fun cs bb => hselect i o cs bb ho) fun t htl => by
      by_cases h : ∃ j o, j < n ∧ l.toArray[j]? = some o ∧ o.dst = some t
      · obtain ⟨j, oj, h1, h2, h3⟩ := h
        obtain ⟨k1, k2, k3⟩ := hseen t htl j oj h1 h2 h3
        rw [hputAt vs i (by omega) j oj t k2 h2 h3, hF.slot j oj t h1 h2 h3, if_pos k3]
      · have h' : ∀ j o, j < n → l.toArray[j]? = some o → o.dst ≠ some t := fun j o h1 h2 h3 => h ⟨j, o, h1, h2, h3⟩
        rw [hputO vs i (by omega) t h', hF.other t h']).1
    refine rel_op ho hg hd0 hex (hq i o hilt (by rw [← hget]; exact ho) vs w hF.later (fun j hj hbl => ?_)) (fun v w' hb hR => ?_)
    · refine hF.rel j (by omega) ?_
      have hjl : j < l.toArray.size := by omega
      unfold Region.blindTo at hbl
      rw [ho, Array.getElem?_eq_getElem hjl] at hbl
      simp only at hbl
      split at hbl
      · rename_i d hdj
        have hmem : d ∈ o.looksAt l.toArray := by simpa using hbl
        exact (hseen d hmem j _ (by omega) (Array.getElem?_eq_getElem hjl) hdj).2.2
      · cases hbl
    · refine ih (U.erase i) (fun j => if j = i then v else vs j) _ _ _ hlen' hnd' hUm' ⟨hinv, hF.later.trans (hb.mono hF.later.size), by rw [put_size, hF.size], by rw [put_defers, hF.defers], ?_, ?_, ?_⟩
      · intro j oj t hj hoj hd
        rw [put_get, hlist j]
        by_cases hji : j = i
        · subst hji
          rw [ho] at hoj; cases hoj
          rw [if_pos hd, if_pos rfl, if_pos rfl, if_pos rfl, hF.slot j o t hj ho hd, if_neg (by rw [getD_both hiu]; simp)]
        · have hne : o.dst ≠ some t := fun h => Region.flowPair_dst (hpair i hilt j hj) ho hoj (Ne.symm hji) h hd
          rw [if_neg hne, if_neg hji, if_neg hji, hF.slot j oj t hj hoj hd]
      · intro t h
        rw [put_get, if_neg (h i o hilt ho), hF.other t h]
      · intro j hj hlj
        rw [hlist j] at hlj
        by_cases hji : j = i
        · subst hji
          rw [if_pos rfl]; exact hR
        · rw [if_neg hji] at hlj ⊢
          exact hst j _ _ _ (hF.rel j hj hlj) hb
def relAll (F : Nat → Oper → Prop) : Nat → List Oper → Prop
  | _, [] => True
  | k, o :: os => F k o ∧ relAll F (k + 1) os
theorem relAll.get {F : Nat → Oper → Prop} : ∀ (os : List Oper) (k : Nat), relAll F k os → ∀ i o, os[i]? = some o → F (k + i) o
  | [], _, _, i, o, h => by simp at h
  | o1 :: os, k, h, 0, o, ho => by
    have e : o1 = o := by simpa using ho
    subst e; exact h.1
  | o1 :: os, k, h, i + 1, o, ho => by
    have := relAll.get os (k + 1) h.2 i o (by simpa using ho)
    rwa [show k + 1 + i = k + (i + 1) by omega] at this
theorem wp_region_rel {id : Nat} (n : Nat) (R : Nat → Value → World → Prop) (hm : P.follows .mixedOrders = true) (hB : Region.relB l.toArray n = true)
    (hst : ∀ j v w w', R j v w → Below w.heap.size w w' → R j v w')
    (hq : relAll (fun i o => ∀ (vs : Nat → Value) (w : World), Below W.heap.size W w → (∀ j, j < i → Region.blindTo l.toArray i j = false → R j (vs j) w) → wpList P l.toArray (RelPost w (putsN vs 0 a0 (l.take i)) o (R i)) [o] (putsN vs 0 a0 (l.take i)) w) 0 (l.take n))
    (ht : ∀ (vs : Nat → Value) (w : World), Below W.heap.size W w → (∀ j, j < n → R j (vs j) w) → wpList P l.toArray Q (l.drop n) (putsN vs 0 a0 (l.take n)) w) :
    (Code.region id l.toArray true).wp P Q a0 W := by
  refine wp_region_any hm ?_
  have hB' := hB
  simp only [Region.relB, Bool.and_eq_true, decide_eq_true_eq] at hB'
  have hn := hB'.1.1.1.1.1.1.2
  have inv0 : HeadInv .any l.toArray n (Array.replicate l.toArray.size false) :=
    ⟨by simp, fun j oj _ hl => (by rw [getD_replicate_false] at hl; cases hl), fun t _ ht => getD_in (by simpa using ht) (getD_replicate_false _ _)⟩
  have h := rel_run (W := W) (a0 := a0) (R := R) (Q := Q) hB hst
    (fun i o hi ho => by
      have := relAll.get _ 0 hq i o (by rw [List.getElem?_take, if_pos hi]; exact ho)
      rwa [Nat.zero_add] at this) ht n (List.range n) (fun _ => undef) (Array.replicate l.toArray.size false) a0 { W with drawn := W.drawn + 1 } (by simp) List.nodup_range (fun i => by rw [List.mem_range]; exact ⟨fun h => ⟨h, getD_replicate_false _ _⟩, fun h => h.1⟩)
    ⟨inv0, ⟨rfl, rfl, rfl, Nat.le_refl _, fun _ _ => rfl⟩, rfl, rfl, fun j o t _ _ _ => by rw [getD_replicate_false]; rfl, fun t _ => rfl, fun j _ h => by rw [getD_replicate_false] at h; cases h⟩
  rwa [show n + (l.toArray.size - n) = l.toArray.size by omega] at h
end
end Go
/- Walks: num.Make. -/
namespace Go.Proofs
theorem YtpafjhjpchdcdaaGreatDoor.Box.v4 {w : World} {b : Nat} {e : TypeId} {x y z u : Value} (h : YtpafjhjpchdcdaaGreatDoor.Box w b e [x, y, z, u]) : w.cell? ⟨b, 0, none⟩ = some x ∧ w.cell? ⟨b, 1, none⟩ = some y ∧ w.cell? ⟨b, 2, none⟩ = some z ∧ w.cell? ⟨b, 3, none⟩ = some u ∧ (∀ o, w.frozen? ⟨b, o, none⟩ = false) ∧ b < w.heap.size :=
  ⟨h.cell 0, h.cell 1, h.cell 2, h.cell 3, h.frozen, h.lt⟩
end Go.Proofs
namespace Go.Proofs.YtpafjhjpchdcdaaGreatDoor.Nu
open Go Go.Proofs Go.RowKit Go.Proofs.YtpafjhjpchdcdaaGreatDoor
def FrR (w : World) (v : Value) (q : Rat) : Prop := ∃ (s1 : Int) (a1 : Option Addr) (n1 c1 : Nat) (s2 : Int) (a2 : Option Addr) (n2 c2 : Nat), v = .agg #[.int .i64 s1, .slice a1 n1 c1, .int .i64 s2, .slice a2 n2 c2] ∧ IntR w (.agg #[.int .i64 s1, .slice a1 n1 c1]) q.num ∧ IntR w (.agg #[.int .i64 s2, .slice a2 n2 c2]) (q.den : Int)
theorem FrR.later {w w' : World} {v : Value} {q : Rat} (h : FrR w v q) (hb : Below w.heap.size w w') : FrR w' v q := by
  obtain ⟨s1, a1, n1, c1, s2, a2, n2, c2, e, h1, h2⟩ := h
  exact ⟨s1, a1, n1, c1, s2, a2, n2, c2, e, h1.later hb, h2.later hb⟩
def RetF (w : World) (q : Rat) (e : Ending) (w' : World) : Prop := ∃ v, e = .returned v ∧ FrR w' v q ∧ Below w.heap.size w w'
theorem RetF.mk {w w' : World} {q : Rat} {v v' : Value} (h : v = v') (h1 : FrR w' v' q) (hb : Below w.heap.size w w') : RetF w q (.returned v) w' := ⟨v, rfl, h ▸ h1, hb⟩
end Go.Proofs.YtpafjhjpchdcdaaGreatDoor.Nu
/- Walks: num.Whole, (num.Frac).Neg, IsWhole. -/
namespace Go.Proofs.YtpafjhjpchdcdaaGreatDoor.Nu
open Go Go.Proofs Go.RowKit Go.Proofs.YtpafjhjpchdcdaaGreatDoor
inductive Kd where
  | is (x : Value)
  | int (z : Int)
  | frac (q : Rat)
def Kd.R : Kd → Value → World → Prop
  | .is x, v, _ => v = x
  | .int z, v, w => IntR w v z
  | .frac q, v, w => FrR w v q
theorem Kd.later {k : Kd} {v : Value} {w w' : World} (h : k.R v w) (hb : Below w.heap.size w w') : k.R v w' := by
  cases k with
  | is x => exact h
  | int z => exact IntR.later h hb
  | frac q => exact FrR.later h hb
end Go.Proofs.YtpafjhjpchdcdaaGreatDoor.Nu
/- Walks: whole numbers as texts, and texts as whole fractions. -/
namespace Go.Proofs.YtpafjhjpchdcdaaGreatDoor.Nu
open Go Go.Proofs Go.RowKit Go.Proofs.YtpafjhjpchdcdaaGreatDoor
theorem tab_later {P : Program} {nm : String} {k : IntKind} {zs : List Int} {w w' : World} (h : Lib.TabIs P w nm k zs) (hb : Below w.heap.size w w') : Lib.TabIs P w' nm k zs := by
  unfold Lib.TabIs World.var? at h ⊢
  cases hg : P.globalNamed nm with
  | none => rw [hg] at h; cases h
  | some g =>
    rw [hg] at h
    simp only [Option.bind_some] at h ⊢
    have hlt : g < w.heap.size := by
      rcases Nat.lt_or_ge g w.heap.size with h1 | h1
      · exact h1
      · rw [Array.getElem?_eq_none h1] at h; cases h
    rw [hb.block g hlt]
    exact h
structure TbR (w : World) : Prop where
  tab : Lib.TabIs Tryz.prog w "internal/strconv.uint64pow10" .u64 Lib.pow10Tab
  mx : ∃ m : Int, w.cell? ⟨1, 0, none⟩ = some (.int .i64 m)
theorem TbR.later {w w' : World} (h : TbR w) (hb : Below w.heap.size w w') : TbR w' :=
  ⟨tab_later h.tab hb, by obtain ⟨m, hm⟩ := h.mx; exact ⟨m, (hb.cell (p := ⟨1, 0, none⟩) (World.block_lt_of_cell? _ _ hm)).trans hm⟩⟩
theorem cut86z (w : World) (hw : TbR w) (z : Int) (hz : (txz z).size < 4294967281) : Calls Tryz.prog 101 #[.string (txz z), .string ⟨#[47]⟩] w (Ret (.tuple #[.string (txz z), .string ⟨#[]⟩, .bool false]) w) := by
  obtain ⟨m, hm⟩ := hw.mx
  have h := Tryz.strings_Cut (txz z) ⟨#[47]⟩ m w hz hm
  rw [txz_list, show (⟨#[47]⟩ : ByteArray).data.toList = [47] from rfl, cut_itoa] at h
  exact h.mono fun _ _ h => ⟨h.1, by obtain ⟨n, rfl⟩ := h.2; exact below_drewN (Below.refl _ _) n⟩
theorem sm_size {z : Int} (hz : z.natAbs < 10 ^ 18) : (txz z).size < 4294967281 := by
  rw [txz_size]; have := itoa_len_le (k := 18) (by decide) hz; omega
set_option maxRecDepth 100000 in
set_option maxHeartbeats 1000000 in
theorem sfrom65 (w : World) (hw : TbR w) (z : Int) (hz : z.natAbs < 10 ^ 18) : Calls Tryz.prog 91 #[.string (txz z)] w (Ret (.agg #[.int .i64 z, .slice none 0 0, .int .i64 1, .slice none 0 0]) w) := by
  have HC := Lib.hid (fun (w1 : World) (hb : Below w.heap.size w w1) => cut86z w1 (hw.later hb) z (sm_size hz))
  have HR := Lib.hid (fun (w1 : World) => sread90 w1 z hz)
  have HV := Lib.hid (fun (w1 : World) => swhole69 w1 z)
  generalize txz z = X at *
  clear hz hw
  have HB := Lib.hid ((Below.refl w.heap.size w).alloc (Nat.le_refl _) (.cells #[.int .i64 0, .slice none 0 0, .int .i64 0, .slice none 0 0] 137))
  have HZ := Lib.hid (Box.new w #[.int .i64 0, .slice none 0 0, .int .i64 0, .slice none 0 0] 137)
  obtain ⟨z0, z1, z2, z3, zf, zz⟩ := HZ.out.w4
  go_enter Tryz.func91, Tryz.ntmps91
  go_wp2_with fail
  refine (HC.out _ HB.out).mono ?_
  rintro e3 w3 ⟨rfl, hb⟩
  replace HB := Lib.hid (HB.out.trans (hb.mono HB.out.size))
  replace HZ := Lib.hid (HZ.out.later hb)
  clear hb z0 z1 z2 z3 zf zz
  obtain ⟨z0, z1, z2, z3, zf, zz⟩ := HZ.out.w4
  go_wp2_with fail
  refine (HR.out _).mono ?_
  rintro e4 w4 ⟨rfl, hb⟩
  replace HB := Lib.hid (HB.out.trans (hb.mono HB.out.size))
  replace HZ := Lib.hid (HZ.out.later hb)
  clear hb z0 z1 z2 z3 zf zz
  obtain ⟨z0, z1, z2, z3, zf, zz⟩ := HZ.out.w4
  go_wp2_with fail
  refine (HV.out _).mono ?_
  rintro e5 w5 ⟨rfl, hb⟩
  replace HB := Lib.hid (HB.out.trans (hb.mono HB.out.size))
  replace HZ := Lib.hid (HZ.out.later hb)
  clear hb z0 z1 z2 z3 zf zz
  obtain ⟨z0, z1, z2, z3, zf, zz⟩ := HZ.out.w4
  go_wp2_with fail
  refine bodyPost_ret (v := .agg #[.int .i64 z, .slice none 0 0, .int .i64 1, .slice none 0 0]) (by simp [results, Tryz.results91, go_sem, *]) rfl ?_
  refine Ret.mk rfl ?_
  repeat (first | exact HB.out | exact Below.refl _ _ | refine Below.setCell ?_ (by first | (dsimp only; omega) | (simp; done) | (simp; omega)) _ | refine Below.alloc ?_ (by first | omega | (simp; done) | (simp; omega)) _ | refine Below.drew ?_)
end Go.Proofs.YtpafjhjpchdcdaaGreatDoor.Nu
/- Walks: texts, byte by byte (the reference's slash, value, Digits). -/
namespace Go.Proofs.YtpafjhjpchdcdaaGreatDoor.Nu
open Go Go.Proofs Go.RowKit Go.Proofs.YtpafjhjpchdcdaaGreatDoor
theorem tx_get (l : List UInt8) (k : Nat) (h : k < (tx l).size) : (tx l)[k] = l[k]'(by rwa [tx_size] at h) := by
  show (tx l).data[k] = _
  simp [tx]
theorem run_idx {P : Program} {t : TypeId} (h : P.underlying t = some .string) (l : List UInt8) (k : Nat) (hk : k < l.length) (w : World) : (Instr.index t (.string (tx l)) (.int .i64 (k : Int))).run P w = .ok (.int .u8 (l[k].toNat : Int)) w := by
  rw [run_index_string w t (tx l) .i64 (k : Int) h, dif_pos ⟨by omega, by rw [tx_size]; omega⟩]
  simp only [Int.toNat_natCast]
  rw [tx_get]
end Go.Proofs.YtpafjhjpchdcdaaGreatDoor.Nu
