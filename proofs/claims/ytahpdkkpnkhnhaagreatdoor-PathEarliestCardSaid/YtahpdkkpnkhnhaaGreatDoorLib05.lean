/- Lemmas on the way to the laws (part 5): Ac Ad Ae -/
import Derived.Test.YtahpdkkpnkhnhaaGreatDoorLib04
import Derived.Shelf.Abstract
set_option linter.unusedVariables false
set_option linter.unusedSimpArgs false

/- Walks: machines of a plant; unknown numbers. -/
namespace Go.Proofs.YtahpdkkpnkhnhaaGreatDoor
open Go Go.Proofs Go.RowKit Go.Shelf

structure Mc where
  kind : ByteArray
  time : Int
def Mc.enc (m : Mc) : List Value := [.string m.kind, .int .i64 m.time]
theorem Mc.enc_len (m : Mc) : m.enc.length = 2 := rfl
structure Ar where
  fr : Int
  to : Int
deriving DecidableEq
def Ar.enc (a : Ar) : List Value := [.int .i64 a.fr, .int .i64 a.to]
theorem Ar.enc_len (a : Ar) : a.enc.length = 2 := rfl
structure Pl where
  ms : List Mc
  arcs : List Ar
/-- The plant of these two slices. -/
structure PlR (w : World) (B : Nat) (v1 v2 : Value) (p : Pl) : Prop where
  ms : Sl Mc.enc 2 w B v1 p.ms
  arcs : Sl Ar.enc 2 w B v2 p.arcs
theorem PlR.later {w w' : World} {v1 v2 : Value} {p : Pl} (h : PlR w w.heap.size v1 v2 p) (hb : Below w.heap.size w w') : PlR w' w'.heap.size v1 v2 p := ⟨h.ms.later hb, h.arcs.later hb⟩

/-- Whether a number is that of one of n machines. -/
def inN (n : Nat) (x : Int) : Bool := decide (0 ≤ x) && decide (x < n)
set_option maxRecDepth 100000 in
set_option maxHeartbeats 1000000 in
theorem is101 (a1 : Option Addr) (n c1 : Nat) (v2 : Value) (x : Int) (w : World) : Calls Tryz.prog 101 #[.agg #[.slice a1 n c1, v2], .int .i64 x] w (Ret (.bool (inN n x)) w) := by
  have HB := Lib.hid ((Below.refl w.heap.size w).alloc (Nat.le_refl _) (.cells #[.slice a1 n c1, v2] 25))
  unfold inN
  go_enter Tryz.func101, Tryz.ntmps101
  by_cases h0 : 0 ≤ x
  · have k0 : decide (0 ≤ x) = true := decide_eq_true h0
    rw [k0, Bool.true_and]
    go_wp2_with fail
    go_ret
    exact ⟨rfl, HB.out⟩
  · have k0 : decide (0 ≤ x) = false := decide_eq_false h0
    rw [k0, Bool.false_and]
    go_wp2_with fail
    go_ret
    exact ⟨rfl, HB.out⟩
set_option maxRecDepth 100000 in
set_option maxHeartbeats 1000000 in
theorem outN137 (a1 : Option Addr) (n c1 : Nat) (v2 : Value) (x : Int) (pb : Nat) (w : World) (hx : Box w pb 25 [.slice a1 n c1, v2]) : Calls Tryz.prog 137 (#[.int .i64 x] ++ #[.pointer (some ⟨pb, 0, none⟩)]) w (Ret (.bool (!inN n x)) w) := by
  obtain ⟨x0, x1, xf, xz⟩ := hx.v2
  clear hx
  obtain ⟨R, hR⟩ : ∃ R, inN n x = R := ⟨_, rfl⟩
  have HI := Lib.hid (is101 a1 n c1 v2 x w)
  rw [hR] at HI ⊢
  go_enter Tryz.func137, Tryz.ntmps137
  go_wp2_with fail
  refine HI.out.mono ?_
  rintro e w2 ⟨rfl, hb2⟩
  go_wp2_with fail
  go_ret
  exact ⟨rfl, hb2⟩

/-- What a predicate on integers says, in whatever world behind. -/
def PredI (g : Nat) (lb : Array Value) (w : World) (l : List Int) (p : Int → Bool) : Prop := ∀ w' x, Below w.heap.size w w' → x ∈ l → Calls Tryz.prog g (#[.int .i64 x] ++ lb) w' (Ret (.bool (p x)) w')
theorem PredI.later {g : Nat} {lb : Array Value} {w w' : World} {l : List Int} {p : Int → Bool} (h : PredI g lb w l p) (hb : Below w.heap.size w w') : PredI g lb w' l p := fun w'' x k hx => h w'' x (hb.trans (k.mono hb.size)) hx
set_option maxRecDepth 100000 in
set_option maxHeartbeats 1000000 in
theorem indexF146 (v : Value) (l : List Int) (g : Nat) (lb : Array Value) (p : Int → Bool) (w : World) (eg : ∀ args w, (callFunc g args).run Tryz.prog w = .ok (.enter g args) w) (hv : Sl encI 1 w w.heap.size v l) (hp : PredI g lb w l p) : Calls Tryz.prog 146 #[v, .func (.func g) #[] lb] w fun e w' => (∃ n : Int, e = .returned (.int .i64 n) ∧ (decide (0 ≤ n) = l.any p)) ∧ Below w.heap.size w w' := by
  obtain ⟨a, c, rfl, hlen, hA⟩ := hv
  generalize hR : l.any p = R
  have HA := Lib.hid hA
  clear hA
  have HP := Lib.hid hp
  clear hp
  go_enter Tryz.func146, Tryz.ntmps146
  go_wp2_with fail
  go_loopw [8] (fun i wr => ∃ k : Nat, k ≤ l.length ∧ i = .int .i64 k ∧ (l.drop k).any p = R ∧ Below w.heap.size w wr) (fun i _ => l.length - (intOf i).toNat)
  case atStart => exact ⟨0, by omega, rfl, by simpa using hR, Below.refl _ _⟩
  case round =>
    obtain ⟨k, hk, rfl, hrel, hbe⟩ := hrel
    have HR := Lib.hid hrel
    clear hrel
    clear hR
    by_cases hlt : k < l.length
    · obtain ⟨b, off, rfl, hbb, hcells⟩ := HA.out (by omega)
      have hd := Lib.hid (show (l.drop k).any p = (p l[k] || (l.drop (k + 1)).any p) by rw [List.drop_eq_getElem_cons hlt]; rfl)
      have c0 := ((hcells k hlt).below hbe hbb).c1
      rw [Nat.mul_one] at c0
      have hb := HP.out wr l[k] hbe (List.getElem_mem hlt)
      have hbz : b < wr.heap.size := by have := hbe.size; omega
      clear hcells HA
      generalize l[k] = x at *
      obtain ⟨y, hy⟩ : ∃ y, p x = y := ⟨_, rfl⟩
      rw [hy] at hd hb
      clear hy
      have HB := Lib.hid hb
      clear hb
      have HBE := Lib.hid hbe
      clear hbe
      cases y
      · go_wp2_with (go_at_fn g; refine HB.out.mono ?_; rintro e w' ⟨rfl, hb'⟩)
        go_roundw
        case rel => exact ⟨k + 1, by omega, by go_num, by rw [← HR.out, hd.out]; rfl, HBE.out.trans (hb'.mono HBE.out.size)⟩
        case measure => simp [intOf]; omega
      · go_wp2_with (go_at_fn g; refine HB.out.mono ?_; rintro e w' ⟨rfl, hb'⟩)
        go_ret
        refine ⟨⟨k, rfl, ?_⟩, HBE.out.trans (hb'.mono HBE.out.size)⟩
        rw [← HR.out, hd.out]; simp
    · obtain rfl : l.length = k := by omega
      go_wp2_with fail
      go_ret
      refine ⟨⟨-1, rfl, ?_⟩, hbe⟩
      rw [← HR.out]; simp
set_option maxRecDepth 100000 in
set_option maxHeartbeats 1000000 in
theorem containsF111 (v : Value) (l : List Int) (g : Nat) (lb : Array Value) (p : Int → Bool) (w : World) (eg : ∀ args w, (callFunc g args).run Tryz.prog w = .ok (.enter g args) w) (hv : Sl encI 1 w w.heap.size v l) (hp : PredI g lb w l p) : Calls Tryz.prog 111 #[v, .func (.func g) #[] lb] w (Ret (.bool (l.any p)) w) := by
  have H := Lib.hid (indexF146 v l g lb p w eg hv hp)
  generalize l.any p = R at *
  clear hv hp eg
  go_enter Tryz.func111, Tryz.ntmps111
  go_wp2_with (go_at_call 146; refine H.out.mono ?_; rintro e w' ⟨⟨n, rfl, hn⟩, hb⟩)
  go_ret
  exact ⟨by rw [← hn]; rfl, hb⟩
/-- The error of numbers that are not all those of machines. -/
def unkE (n : Nat) (l : List Int) : Int := if l.any (fun x => !inN n x) then 10 else 0
set_option maxRecDepth 100000 in
set_option maxHeartbeats 1000000 in
theorem unknown79 (a1 : Option Addr) (n c1 : Nat) (v2 u : Value) (l : List Int) (w : World) (hu : Sl encI 1 w w.heap.size u l) : Calls Tryz.prog 79 #[.agg #[.slice a1 n c1, v2], u] w (Ret (.int .i64 (unkE n l)) w) := by
  have hx := Box.new w #[.slice a1 n c1, v2] 25
  have hb : Below w.heap.size w (w.alloc (.cells #[.slice a1 n c1, v2] 25)) := (Below.refl w.heap.size w).alloc (Nat.le_refl _) _
  have HC := Lib.hid (containsF111 u l 137 #[.pointer (some ⟨w.heap.size, 0, none⟩)] (fun x => !inN n x) _ (enters_of Tryz.func137 (by kernel_rfl) rfl) (hu.later hb) (fun w' x hb' _ => outN137 a1 n c1 v2 x w.heap.size w' (hx.later hb')))
  have HB := Lib.hid hb
  unfold unkE
  generalize l.any (fun x => !inN n x) = R at *
  clear hx hb hu
  go_enter Tryz.func79, Tryz.ntmps79
  cases R <;> (go_wp2_with (go_at_call 111; refine HC.out.mono ?_; rintro e w2 ⟨rfl, hb2⟩); go_ret; exact ⟨rfl, HB.out.trans (hb2.mono HB.out.size)⟩)
set_option maxRecDepth 100000 in
set_option maxHeartbeats 1000000 in
theorem unknown88 (a1 : Option Addr) (n c1 : Nat) (v2 u : Value) (l : List Int) (w : World) (hu : Sl encI 1 w w.heap.size u l) : Calls Tryz.prog 88 #[.agg #[.slice a1 n c1, v2], u] w (Ret (.int .i64 (unkE n l)) w) := by
  obtain ⟨a, c, rfl, hlen, hA⟩ := hu
  have HA := Lib.hid hA
  clear hA
  obtain ⟨R, hR⟩ : ∃ R, unkE n l = R := ⟨_, rfl⟩
  rw [hR]
  have HR0 : Hid ((if (l.drop 0).any (fun x => !inN n x) then 10 else 0) = R) := Lib.hid hR
  clear hR
  have HX := Lib.hid (Box.new w #[.slice a1 n c1, v2] 25)
  have HB := Lib.hid ((Below.refl w.heap.size w).alloc (Nat.le_refl _) (.cells #[.slice a1 n c1, v2] 25))
  go_enter Tryz.func88, Tryz.ntmps88
  go_wp2_with fail
  go_loopw [5] (fun i wr => ∃ k : Nat, k ≤ l.length ∧ i = .int .i64 k ∧ Below w.heap.size w wr ∧ Box wr w.heap.size 25 [.slice a1 n c1, v2] ∧ (if (l.drop k).any (fun x => !inN n x) then (10 : Int) else 0) = R) (fun i _ => l.length - (intOf i).toNat)
  case atStart => exact ⟨0, by omega, rfl, HB.out, HX.out, HR0.out⟩
  case round =>
    clear HR0 HX HB
    obtain ⟨k, hk, rfl, hbe, hx, hrel⟩ := hrel
    obtain ⟨x0, x1, xf, xz⟩ := hx.v2
    have HN := Lib.hid hrel
    clear hrel
    by_cases hlt : k < l.length
    · obtain ⟨b, off, rfl, hbb, hcells⟩ := HA.out (by omega)
      have hd := Lib.hid (show (l.drop k).any (fun x => !inN n x) = (!inN n l[k] || (l.drop (k + 1)).any (fun x => !inN n x)) by rw [List.drop_eq_getElem_cons hlt]; rfl)
      have c0 := ((hcells k hlt).below hbe hbb).c1
      rw [Nat.mul_one] at c0
      have hbz : b < wr.heap.size := by have := hbe.size; omega
      clear hcells HA
      generalize l[k] = y at *
      have HBE := Lib.hid hbe
      have HXE := Lib.hid hx
      clear hbe hx
      by_cases h0 : y < 0
      · have hi : inN n y = false := by unfold inN; rw [decide_eq_false (by omega)]; rfl
        have k0 : decide (y < 0) = true := decide_eq_true h0
        have HV := Lib.hid (show R = 10 by rw [← HN.out, hd.out, hi]; rfl)
        clear hi
        go_wp2_with fail
        go_quiet (fail)
        go_wp2_with fail
        go_ret
        exact ⟨by rw [HV.out]; rfl, below_drewN HBE.out _⟩
      · have k0 : decide (y < 0) = false := decide_eq_false h0
        by_cases h1 : (n : Int) ≤ y
        · have hi : inN n y = false := by unfold inN; rw [decide_eq_false (show ¬ y < (n : Int) by omega), Bool.and_false]
          have k1 : decide ((n : Int) ≤ y) = true := decide_eq_true h1
          have HV := Lib.hid (show R = 10 by rw [← HN.out, hd.out, hi]; rfl)
          clear hi
          go_wp2_with fail
          go_quiet (fail)
          go_wp2_with fail
          go_ret
          exact ⟨by rw [HV.out]; rfl, below_drewN HBE.out _⟩
        · have hi : inN n y = true := by unfold inN; rw [decide_eq_true (show 0 ≤ y by omega), decide_eq_true (show y < (n : Int) by omega)]; rfl
          have k1 : decide ((n : Int) ≤ y) = false := decide_eq_false h1
          have HV := Lib.hid (show (if (l.drop (k + 1)).any (fun x => !inN n x) then (10 : Int) else 0) = R by have := HN.out; rw [hd.out, hi] at this; exact this)
          clear hi
          go_wp2_with fail
          go_quiet (fail)
          go_wp2_with fail
          go_roundw
          case rel => exact ⟨k + 1, by omega, by go_num, below_drewN HBE.out _, HXE.out.later (below_drewN (Below.refl _ _) _), HV.out⟩
          case measure => simp [intOf]; omega
    · obtain rfl : l.length = k := by omega
      have HV := Lib.hid (show R = 0 by rw [← HN.out, List.drop_length]; rfl)
      go_wp2_with fail
      go_ret
      exact ⟨by rw [HV.out]; rfl, hbe⟩
end Go.Proofs.YtahpdkkpnkhnhaaGreatDoor

/- Walks: slices.Contains; In; twice. -/
namespace Go.Proofs.YtahpdkkpnkhnhaaGreatDoor
open Go Go.Proofs Go.RowKit Go.Shelf

set_option maxRecDepth 100000 in
set_option maxHeartbeats 1000000 in
theorem index138 (v : Value) (l : List Int) (x : Int) (w : World) (hv : Sl encI 1 w w.heap.size v l) : Calls Tryz.prog 138 #[v, .int .i64 x] w fun e w' => (∃ n : Int, e = .returned (.int .i64 n) ∧ (decide (0 ≤ n) = l.contains x)) ∧ w = w' := by
  obtain ⟨a, c, rfl, hlen, hA⟩ := hv
  obtain ⟨R, hR⟩ : ∃ R, l.contains x = R := ⟨_, rfl⟩
  rw [hR]
  have HA := Lib.hid hA
  clear hA
  go_enter Tryz.func138, Tryz.ntmps138
  go_wp2_with fail
  go_loop [8] (fun i => ∃ k : Nat, k ≤ l.length ∧ i = .int .i64 k ∧ (l.drop k).contains x = R) (fun i => l.length - (intOf i).toNat)
  case atStart => exact ⟨0, by omega, rfl, by simpa using hR⟩
  case round =>
    obtain ⟨k, hk, rfl, hrel⟩ := hrel
    have HR := Lib.hid hrel
    clear hrel
    clear hR
    by_cases hlt : k < l.length
    · obtain ⟨b, off, rfl, hbb, hcells⟩ := HA.out (by omega)
      have hd := Lib.hid (show (l.drop k).contains x = ((x == l[k]) || (l.drop (k + 1)).contains x) by rw [List.drop_eq_getElem_cons hlt, List.contains_cons])
      have c0 := (hcells k hlt).c1
      rw [Nat.mul_one] at c0
      clear hcells HA
      generalize l[k] = z at *
      obtain ⟨y, hy⟩ : ∃ y, (x == z) = y := ⟨_, rfl⟩
      rw [hy] at hd
      cases y
      · go_wp2_with fail
        go_round
        case rel => exact ⟨k + 1, by omega, by go_num, by rw [← HR.out, hd.out]; rfl⟩
        case measure => simp [intOf]; omega
      · go_wp2_with fail
        go_ret
        refine ⟨⟨k, rfl, ?_⟩, rfl⟩
        rw [← HR.out, hd.out]; simp
    · obtain rfl : l.length = k := by omega
      go_wp2_with fail
      go_ret
      refine ⟨⟨-1, rfl, ?_⟩, rfl⟩
      rw [← HR.out]; simp
set_option maxRecDepth 100000 in
set_option maxHeartbeats 1000000 in
theorem contains82 (v : Value) (l : List Int) (x : Int) (w : World) (hv : Sl encI 1 w w.heap.size v l) : Calls Tryz.prog 82 #[v, .int .i64 x] w fun e w' => e = .returned (.bool (l.contains x)) ∧ w = w' := by
  have H := Lib.hid (index138 v l x w hv)
  obtain ⟨R, hR⟩ : ∃ R, l.contains x = R := ⟨_, rfl⟩
  rw [hR] at H ⊢
  clear hv hR
  go_enter Tryz.func82, Tryz.ntmps82
  go_wp2_with (go_at_call 138; refine H.out.mono ?_; rintro e w' ⟨⟨n, rfl, hn⟩, rfl⟩)
  go_ret
  exact ⟨by rw [← hn]; rfl, rfl⟩
set_option maxRecDepth 100000 in
set_option maxHeartbeats 1000000 in
theorem in24 (v : Value) (l : List Int) (x : Int) (w : World) (hv : Sl encI 1 w w.heap.size v l) : Calls Tryz.prog 24 #[v, .int .i64 x] w fun e w' => e = .returned (.bool (l.contains x)) ∧ w = w' := by
  obtain ⟨a, c, rfl, hlen, hA⟩ := hv
  obtain ⟨R, hR⟩ : ∃ R, l.contains x = R := ⟨_, rfl⟩
  rw [hR]
  have HA := Lib.hid hA
  clear hA
  go_enter Tryz.func24, Tryz.ntmps24
  go_wp2_with fail
  go_loop [5] (fun i => ∃ k : Nat, k ≤ l.length ∧ i = .int .i64 k ∧ (l.drop k).contains x = R) (fun i => l.length - (intOf i).toNat)
  case atStart => exact ⟨0, by omega, rfl, by simpa using hR⟩
  case round =>
    obtain ⟨k, hk, rfl, hrel⟩ := hrel
    have HR := Lib.hid hrel
    clear hrel
    clear hR
    by_cases hlt : k < l.length
    · obtain ⟨b, off, rfl, hbb, hcells⟩ := HA.out (by omega)
      have hd := Lib.hid (show (l.drop k).contains x = ((x == l[k]) || (l.drop (k + 1)).contains x) by rw [List.drop_eq_getElem_cons hlt, List.contains_cons])
      have c0 := (hcells k hlt).c1
      rw [Nat.mul_one] at c0
      clear hcells HA
      generalize l[k] = z at *
      have hcm : (x == z) = (z == x) := by rw [Bool.beq_comm]
      rw [hcm] at hd
      clear hcm
      obtain ⟨y, hy⟩ : ∃ y, (z == x) = y := ⟨_, rfl⟩
      rw [hy] at hd
      cases y
      · go_wp2_with fail
        go_round
        case rel => exact ⟨k + 1, by omega, by go_num, by rw [← HR.out, hd.out]; rfl⟩
        case measure => simp [intOf]; omega
      · have HV := Lib.hid (show R = true by rw [← HR.out, hd.out]; rfl)
        go_wp2_with fail
        go_ret
        exact ⟨by rw [HV.out]; rfl, rfl⟩
    · obtain rfl : l.length = k := by omega
      have HV := Lib.hid (show R = false by rw [← HR.out]; simp)
      go_wp2_with fail
      go_ret
      exact ⟨by rw [HV.out]; rfl, rfl⟩
/-- A slice cut behind its first k elements. -/
theorem Sl.take {α : Type} {f : α → List Value} {sz : Nat} {w : World} {B : Nat} {a : Option Addr} {n c : Nat} {l : List α} (h : Sl f sz w B (.slice a n c) l) (k : Nat) (hk : k ≤ l.length) : Sl f sz w B (.slice a k c) (l.take k) := by
  obtain ⟨a', c', e, hlen, hA⟩ := h
  injection e with e1 e2 e3
  subst e1 e3
  have hl : (l.take k).length = k := by simp; omega
  refine ⟨a, c, by rw [hl], by rw [hl]; omega, fun h0 => ?_⟩
  obtain ⟨b, off, e, hb, hc⟩ := hA (by omega)
  refine ⟨b, off, e, hb, fun i hi => ?_⟩
  rw [List.getElem_take]
  exact hc i (by rw [hl] at hi; omega)
/-- A number stands twice in the list. -/
def dupB : List Int → Bool
  | [] => false
  | x :: r => r.contains x || dupB r
theorem nodup_dup (l : List Int) : dupB l = false ↔ l.Nodup := by
  induction l with
  | nil => simp [dupB]
  | cons x r ih => simp only [dupB, Bool.or_eq_false_iff, ih, List.nodup_cons]; simp [List.contains_iff_mem]
theorem nodup_take (l : List Int) (k : Nat) (h : k < l.length) : (l.take (k + 1)).Nodup ↔ (l.take k).Nodup ∧ (l.take k).contains l[k] = false := by
  rw [List.take_succ_eq_append_getElem h, List.nodup_append]
  simp only [List.nodup_cons, List.not_mem_nil, not_false_eq_true, List.nodup_nil, true_and, List.mem_singleton, forall_eq]
  constructor
  · rintro ⟨h1, h2⟩
    refine ⟨h1, ?_⟩
    cases hc : (l.take k).contains l[k] with
    | false => rfl
    | true => exact absurd rfl (h2 _ (List.contains_iff_mem.1 hc))
  · rintro ⟨h1, h2⟩
    refine ⟨h1, fun a ha e => ?_⟩
    subst e
    rw [List.contains_iff_mem.2 ha] at h2
    cases h2
set_option maxRecDepth 100000 in
set_option maxHeartbeats 1000000 in
theorem twice126 (v : Value) (l : List Int) (w : World) (hv : Sl encI 1 w w.heap.size v l) : Calls Tryz.prog 126 #[v] w (Ret (.bool (dupB l)) w) := by
  have HV := Lib.hid hv
  obtain ⟨a, c, rfl, hlen, hA⟩ := hv
  obtain ⟨R, hR⟩ : ∃ R, dupB l = R := ⟨_, rfl⟩
  rw [hR]
  have HRR : Hid (R = false ↔ l.Nodup) := Lib.hid (by rw [← hR]; exact nodup_dup l)
  have HA := Lib.hid hA
  clear hA
  clear hR
  have hlen1 := hlen.1
  have hlen2 := hlen.2
  clear hlen
  go_enter Tryz.func126, Tryz.ntmps126
  go_wp2_with fail
  go_loopw [3] (fun i wr => ∃ k : Nat, k ≤ l.length ∧ i = .int .i64 k ∧ (l.take k).Nodup ∧ Below w.heap.size w wr) (fun i _ => l.length - (intOf i).toNat)
  case atStart => exact ⟨0, by omega, rfl, by simp, Below.refl _ _⟩
  case round =>
    obtain ⟨k, hk, rfl, hnd, hbe⟩ := hrel
    have HN := Lib.hid hnd
    have HBE := Lib.hid hbe
    clear hnd
    by_cases hlt : k < l.length
    · obtain ⟨b, off, rfl, hbb, hcells⟩ := HA.out (by omega)
      have HT := Lib.hid (HV.out.take k hk)
      have HNT := Lib.hid (nodup_take l k hlt)
      have HLL : Hid (¬ (l.take (k + 1)).Nodup → R = true) := Lib.hid (fun h => by
        cases hr : R with
        | true => rfl
        | false => exact absurd ((HRR.out.1 hr).sublist (List.take_sublist _ _)) h)
      have c0 := ((hcells k hlt).below hbe hbb).c1
      rw [Nat.mul_one] at c0
      have hbz : b < wr.heap.size := by have := hbe.size; omega
      have hkc : (k : Int) ≤ c := by omega
      clear hcells HA hbe
      generalize l[k] = x at *
      go_wp2_with fail
      refine wp_region_head_drew 7 (by kernel_rfl) (by kernel_rfl) ?_
      simp only [List.take_succ_cons, List.take_zero, List.drop_succ_cons, List.drop_zero]
      repeat go_big_quiet_step (fail)
      refine wpQuiet_nil ?_
      rintro _ ⟨nq, rfl⟩
      go_wp2_with fail
      refine (in24 _ (l.take k) x _ (HT.out.later (below_drewN HBE.out nq))).mono ?_
      rintro e w2 ⟨rfl, rfl⟩
      obtain ⟨q, hq⟩ : ∃ q, (l.take k).contains x = q := ⟨_, rfl⟩
      rw [hq] at HNT ⊢
      cases q with
      | true =>
        have HR1 := Lib.hid (HLL.out (fun h => by have := (HNT.out.1 h).2; cases this))
        go_wp2_with fail
        go_ret
        exact ⟨by rw [HR1.out]; rfl, below_drewN HBE.out nq⟩
      | false =>
        have HN2 := Lib.hid (HNT.out.2 ⟨HN.out, rfl⟩)
        go_wp2_with fail
        go_roundw
        case rel => exact ⟨k + 1, by omega, by go_num, HN2.out, below_drewN HBE.out nq⟩
        case measure => simp [intOf]; omega
    · obtain rfl : l.length = k := by omega
      have HR1 := Lib.hid (show R = false from HRR.out.2 (by have := HN.out; rwa [List.take_length] at this))
      go_wp2_with fail
      go_ret
      exact ⟨by rw [HR1.out]; rfl, hbe⟩
end Go.Proofs.YtahpdkkpnkhnhaaGreatDoor

/- Walks: arcs in a list; whether an arc leads from a machine to another one. -/
namespace Go.Proofs.YtahpdkkpnkhnhaaGreatDoor
open Go Go.Proofs Go.RowKit Go.Shelf

theorem mem_drop_step (l : List Ar) (x : Ar) (k : Nat) (h : k < l.length) : decide (x ∈ l.drop k) = (decide (x = l[k]) || decide (x ∈ l.drop (k + 1))) := by
  have : x ∈ l.drop k ↔ x = l[k] ∨ x ∈ l.drop (k + 1) := by rw [List.drop_eq_getElem_cons h]; exact List.mem_cons
  rw [Bool.eq_iff_iff]; simp only [decide_eq_true_eq, Bool.or_eq_true]; exact this
@[go_sem] theorem build123 (a b : Int) (w : World) : (Instr.build 123 #[(0, .int .i64 a), (1, .int .i64 b)]).run Tryz.prog w = .ok (.agg #[.int .i64 a, .int .i64 b]) w := run_build w 123 _ _ (by kernel_rfl)
@[go_sem] theorem eq123 (a b c d : Int) (w : World) : (Op.equalIn 10000 123 (.agg #[.int .i64 a, .int .i64 b]) (.agg #[.int .i64 c, .int .i64 d])).run Tryz.prog w = .ok (a == c && b == d) w := by
  have u3 := Tryz.underlying3
  have a3 := Tryz.isAgg3
  have z3 := Tryz.sizeOf3
  rw [show (10000 : Nat) = 9999 + 1 from rfl, Op.equalIn]
  simp only [Sem.run_bind, run_underlying Tryz.underlying123, Result.andThen_ok]
  simp only [Std.Legacy.Range.forIn_eq_forIn_range', Std.Legacy.Range.size, Nat.sub_zero, Nat.add_sub_cancel, Nat.div_one, List.range'_succ, List.range'_zero, List.forIn_cons, List.forIn_nil]
  go_simp
  by_cases h1 : a = c <;> by_cases h2 : b = d <;> simp [h1, h2]
set_option maxRecDepth 100000 in
set_option maxHeartbeats 1000000 in
theorem index144 (v : Value) (l : List Ar) (x : Ar) (w : World) (hv : Sl Ar.enc 2 w w.heap.size v l) : Calls Tryz.prog 144 #[v, .agg #[.int .i64 x.fr, .int .i64 x.to]] w fun e w' => (∃ n : Int, e = .returned (.int .i64 n) ∧ (decide (0 ≤ n) = decide (x ∈ l))) ∧ Below w.heap.size w w' := by
  obtain ⟨a, c, rfl, hlen, hA⟩ := hv
  obtain ⟨R, hR⟩ : ∃ R, decide (x ∈ l) = R := ⟨_, rfl⟩
  rw [hR]
  have HA := Lib.hid hA
  clear hA
  obtain ⟨fr, to⟩ := x
  dsimp only
  have HX := Lib.hid (Box.new w #[.int .i64 fr, .int .i64 to] 123)
  have HB := Lib.hid ((Below.refl w.heap.size w).alloc (Nat.le_refl _) (.cells #[.int .i64 fr, .int .i64 to] 123))
  go_enter Tryz.func144, Tryz.ntmps144
  go_wp2_with fail
  go_loopw [8] (fun i wr => ∃ k : Nat, k ≤ l.length ∧ i = .int .i64 k ∧ decide (⟨fr, to⟩ ∈ l.drop k) = R ∧ Below w.heap.size w wr ∧ Box wr w.heap.size 123 [.int .i64 fr, .int .i64 to]) (fun i _ => l.length - (intOf i).toNat)
  case atStart => exact ⟨0, by omega, rfl, by simpa using hR, HB.out, HX.out⟩
  case round =>
    obtain ⟨k, hk, rfl, hrel, hbe, hx⟩ := hrel
    have HR := Lib.hid hrel
    clear hrel
    clear hR HX HB
    obtain ⟨x0, x1, xf, xz⟩ := hx.v2
    by_cases hlt : k < l.length
    · obtain ⟨b, off, rfl, hbb, hcells⟩ := HA.out (by omega)
      have hd := Lib.hid (mem_drop_step l ⟨fr, to⟩ k hlt)
      obtain ⟨c0, c1⟩ := ((hcells k hlt).below hbe hbb).c2
      have hbz : b < wr.heap.size := by have := hbe.size; omega
      have HBE := Lib.hid hbe
      have HXE := Lib.hid hx
      clear hcells HA hbe hx
      generalize l[k] = z at *
      obtain ⟨zf, zt⟩ := z
      dsimp only at c0 c1
      have HD := Lib.hid (show decide ((⟨fr, to⟩ : Ar) = ⟨zf, zt⟩) = (fr == zf && to == zt) by
        by_cases e1 : fr = zf <;> by_cases e2 : to = zt <;> simp [e1, e2])
      rw [HD.out] at hd
      clear HD
      obtain ⟨q1, hq1⟩ : ∃ q, (fr == zf) = q := ⟨_, rfl⟩
      obtain ⟨q2, hq2⟩ : ∃ q, (to == zt) = q := ⟨_, rfl⟩
      rw [hq1, hq2] at hd
      cases q1 with
      | false =>
        have HV := Lib.hid (show decide (⟨fr, to⟩ ∈ l.drop (k + 1)) = R by rw [← HR.out, hd.out]; rfl)
        go_wp2_with fail
        go_quiet (fail)
        go_wp2_with fail
        go_roundw
        case rel => exact ⟨k + 1, by omega, by go_num, HV.out, below_drewN HBE.out _, HXE.out.later (below_drewN (Below.refl _ _) _)⟩
        case measure => simp [intOf]; omega
      | true =>
        cases q2 with
        | false =>
          have HV := Lib.hid (show decide (⟨fr, to⟩ ∈ l.drop (k + 1)) = R by rw [← HR.out, hd.out]; rfl)
          go_wp2_with fail
          go_quiet (fail)
          go_wp2_with fail
          go_roundw
          case rel => exact ⟨k + 1, by omega, by go_num, HV.out, below_drewN HBE.out _, HXE.out.later (below_drewN (Below.refl _ _) _)⟩
          case measure => simp [intOf]; omega
        | true =>
          have HV := Lib.hid (show R = true by rw [← HR.out, hd.out]; rfl)
          go_wp2_with fail
          go_quiet (fail)
          go_wp2_with fail
          go_ret
          exact ⟨⟨k, rfl, by rw [HV.out]; simp⟩, below_drewN HBE.out _⟩
    · obtain rfl : l.length = k := by omega
      go_wp2_with fail
      go_ret
      refine ⟨⟨-1, rfl, ?_⟩, hbe⟩
      rw [← HR.out]; simp
set_option maxRecDepth 100000 in
set_option maxHeartbeats 1000000 in
theorem contains102 (v : Value) (l : List Ar) (x : Ar) (w : World) (hv : Sl Ar.enc 2 w w.heap.size v l) : Calls Tryz.prog 102 #[v, .agg #[.int .i64 x.fr, .int .i64 x.to]] w (Ret (.bool (decide (x ∈ l))) w) := by
  have hb : Below w.heap.size w (w.alloc (.cells #[.int .i64 x.fr, .int .i64 x.to] 123)) := (Below.refl w.heap.size w).alloc (Nat.le_refl _) _
  have HB := Lib.hid hb
  have H := Lib.hid (index144 v l x _ (hv.later hb))
  obtain ⟨R, hR⟩ : ∃ R, decide (x ∈ l) = R := ⟨_, rfl⟩
  rw [hR] at H ⊢
  clear hv hR hb
  obtain ⟨fr, to⟩ := x
  dsimp only at *
  go_enter Tryz.func102, Tryz.ntmps102
  go_wp2_with (go_at_call 144; refine H.out.mono ?_; rintro e w' ⟨⟨n, rfl, hn⟩, hb'⟩)
  go_ret
  exact ⟨by rw [← hn]; rfl, HB.out.trans (hb'.mono HB.out.size)⟩

set_option maxRecDepth 100000 in
set_option maxHeartbeats 1000000 in
theorem hasArc140 (v1 v2 : Value) (l : List Ar) (x : Ar) (w : World) (hv1 : ∃ a n c, v1 = .slice a n c) (hv : Sl Ar.enc 2 w w.heap.size v2 l) : Calls Tryz.prog 140 #[.agg #[v1, v2], .int .i64 x.fr, .int .i64 x.to] w (Ret (.bool (decide (x ∈ l))) w) := by
  obtain ⟨a1, n1, c1, rfl⟩ := hv1
  obtain ⟨a, c, rfl, hlen, hA⟩ := hv
  obtain ⟨R, hR⟩ : ∃ R, decide (x ∈ l) = R := ⟨_, rfl⟩
  rw [hR]
  have HA := Lib.hid hA
  clear hA
  obtain ⟨fr, to⟩ := x
  dsimp only
  have HX := Lib.hid (Box.new w #[.slice a1 n1 c1, .slice a l.length c] 25)
  have HB := Lib.hid ((Below.refl w.heap.size w).alloc (Nat.le_refl _) (.cells #[.slice a1 n1 c1, .slice a l.length c] 25))
  go_enter Tryz.func140, Tryz.ntmps140
  go_wp2_with fail
  go_loopw [7] (fun i wr => ∃ k : Nat, k ≤ l.length ∧ i = .int .i64 k ∧ decide (⟨fr, to⟩ ∈ l.drop k) = R ∧ Below w.heap.size w wr ∧ Box wr w.heap.size 25 [.slice a1 n1 c1, .slice a l.length c]) (fun i _ => l.length - (intOf i).toNat)
  case atStart => exact ⟨0, by omega, rfl, by simpa using hR, HB.out, HX.out⟩
  case round =>
    obtain ⟨k, hk, rfl, hrel, hbe, hx⟩ := hrel
    have HR := Lib.hid hrel
    clear hrel
    clear hR HX HB
    obtain ⟨x0, x1, xf, xz⟩ := hx.v2
    by_cases hlt : k < l.length
    · obtain ⟨b, off, rfl, hbb, hcells⟩ := HA.out (by omega)
      have hd := Lib.hid (mem_drop_step l ⟨fr, to⟩ k hlt)
      obtain ⟨c0, c1⟩ := ((hcells k hlt).below hbe hbb).c2
      have hbz : b < wr.heap.size := by have := hbe.size; omega
      have HBE := Lib.hid hbe
      have HXE := Lib.hid hx
      clear hcells HA hbe hx
      generalize l[k] = z at *
      obtain ⟨zf, zt⟩ := z
      dsimp only at c0 c1
      have HD := Lib.hid (show decide ((⟨fr, to⟩ : Ar) = ⟨zf, zt⟩) = (zf == fr && zt == to) by
        rw [Bool.eq_iff_iff]; simp; constructor <;> (rintro ⟨h1, h2⟩; exact ⟨h1.symm, h2.symm⟩))
      rw [HD.out] at hd
      clear HD
      obtain ⟨q1, hq1⟩ : ∃ q, (zf == fr) = q := ⟨_, rfl⟩
      obtain ⟨q2, hq2⟩ : ∃ q, (zt == to) = q := ⟨_, rfl⟩
      rw [hq1, hq2] at hd
      cases q1 with
      | false =>
        have HV := Lib.hid (show decide (⟨fr, to⟩ ∈ l.drop (k + 1)) = R by rw [← HR.out, hd.out]; rfl)
        go_wp2_with fail
        go_roundw
        case rel => exact ⟨k + 1, by omega, by go_num, HV.out, HBE.out, HXE.out⟩
        case measure => simp [intOf]; omega
      | true =>
        cases q2 with
        | false =>
          have HV := Lib.hid (show decide (⟨fr, to⟩ ∈ l.drop (k + 1)) = R by rw [← HR.out, hd.out]; rfl)
          go_wp2_with fail
          go_roundw
          case rel => exact ⟨k + 1, by omega, by go_num, HV.out, HBE.out, HXE.out⟩
          case measure => simp [intOf]; omega
        | true =>
          have HV := Lib.hid (show R = true by rw [← HR.out, hd.out]; rfl)
          go_wp2_with fail
          go_ret
          exact ⟨by rw [HV.out]; rfl, HBE.out⟩
    · obtain rfl : l.length = k := by omega
      have HV := Lib.hid (show R = false by rw [← HR.out]; simp)
      go_wp2_with fail
      go_ret
      exact ⟨by rw [HV.out]; rfl, hbe⟩
end Go.Proofs.YtahpdkkpnkhnhaaGreatDoor
