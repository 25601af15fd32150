/- Lemmas on the way to the law TopOneGrain (part 3): YAe YAf -/
import Derived.Test.YtpafjhjpchdcdaaGreatDoorTopOneGrainP02
set_option linter.unusedVariables false
set_option linter.unusedSimpArgs false

/- Walks: arcs in a list; whether an arc leads from a machine to another one. -/
namespace Go.Proofs.YtpafjhjpchdcdaaGreatDoor
open Go Go.Proofs Go.RowKit Go.Shelf
theorem mem_drop_step (l : List Ar) (x : Ar) (k : Nat) (h : k < l.length) : decide (x ∈ l.drop k) = (decide (x = l[k]) || decide (x ∈ l.drop (k + 1))) := by
  have : x ∈ l.drop k ↔ x = l[k] ∨ x ∈ l.drop (k + 1) := by rw [List.drop_eq_getElem_cons h]; exact List.mem_cons
  rw [Bool.eq_iff_iff]; simp only [decide_eq_true_eq, Bool.or_eq_true]; exact this
@[go_sem] theorem build123 (a b : Int) (w : World) : (Instr.build 85 #[(0, .int .i64 a), (1, .int .i64 b)]).run Tryz.prog w = .ok (.agg #[.int .i64 a, .int .i64 b]) w := run_build w 85 _ _ (by kernel_rfl)
@[go_sem] theorem eq123 (a b c d : Int) (w : World) : (Op.equalIn 10000 85 (.agg #[.int .i64 a, .int .i64 b]) (.agg #[.int .i64 c, .int .i64 d])).run Tryz.prog w = .ok (a == c && b == d) w := by
  have u3 := Tryz.underlying3
  have a3 := Tryz.isAgg3
  have z3 := Tryz.sizeOf3
  rw [show (10000 : Nat) = 9999 + 1 from rfl, Op.equalIn]
  simp only [Sem.run_bind, run_underlying Tryz.underlying85, Result.andThen_ok]
  simp only [Std.Legacy.Range.forIn_eq_forIn_range', Std.Legacy.Range.size, Nat.sub_zero, Nat.add_sub_cancel, Nat.div_one, List.range'_succ, List.range'_zero, List.forIn_cons, List.forIn_nil]
  go_simp
  by_cases h1 : a = c <;> by_cases h2 : b = d <;> simp [h1, h2]
set_option maxRecDepth 100000 in
set_option maxHeartbeats 1000000 in
theorem index144 (v : Value) (l : List Ar) (x : Ar) (w : World) (hv : Sl Ar.enc 2 w w.heap.size v l) : Calls Tryz.prog 71 #[v, .agg #[.int .i64 x.fr, .int .i64 x.to]] w fun e w' => (∃ n : Int, e = .returned (.int .i64 n) ∧ (decide (0 ≤ n) = decide (x ∈ l))) ∧ Below w.heap.size w w' := by
  obtain ⟨a, c, rfl, hlen, hA⟩ := hv
  obtain ⟨R, hR⟩ : ∃ R, decide (x ∈ l) = R := ⟨_, rfl⟩
  rw [hR]
  have HA := Lib.hid hA
  clear hA
  obtain ⟨fr, to⟩ := x
  dsimp only
  have HX := Lib.hid (Box.new w #[.int .i64 fr, .int .i64 to] 85)
  have HB := Lib.hid ((Below.refl w.heap.size w).alloc (Nat.le_refl _) (.cells #[.int .i64 fr, .int .i64 to] 85))
  go_enter Tryz.func71, Tryz.ntmps71
  go_wp2_with fail
  go_loopw [8] (fun i wr => ∃ k : Nat, k ≤ l.length ∧ i = .int .i64 k ∧ decide (⟨fr, to⟩ ∈ l.drop k) = R ∧ Below w.heap.size w wr ∧ Box wr w.heap.size 85 [.int .i64 fr, .int .i64 to]) (fun i _ => l.length - (intOf i).toNat)
  case atStart => exact ⟨0, by omega, rfl, by simpa using hR, HB.out, HX.out⟩
  case round =>
    obtain ⟨k, hk, rfl, hrel, hbe, hx⟩ := hrel
    have HR := Lib.hid hrel
    clear hrel
    clear hR HX HB
    obtain ⟨x0, x1, xf, xz⟩ := hx.v2
    by_cases hlt : k < l.length
    · obtain ⟨b, off, rfl, hbb, hcells⟩ := HA.out (by omega)
      have hd := Lib.hid (mem_drop_step l ⟨fr, to⟩ k hlt)
      obtain ⟨c0, c1⟩ := ((hcells k hlt).below hbe hbb).c2
      have hbz : b < wr.heap.size := by have := hbe.size; omega
      have HBE := Lib.hid hbe
      have HXE := Lib.hid hx
      clear hcells HA hbe hx
      generalize l[k] = z at *
      obtain ⟨zf, zt⟩ := z
      dsimp only at c0 c1
      have HD := Lib.hid (show decide ((⟨fr, to⟩ : Ar) = ⟨zf, zt⟩) = (fr == zf && to == zt) by
        by_cases e1 : fr = zf <;> by_cases e2 : to = zt <;> simp [e1, e2])
      rw [HD.out] at hd
      clear HD
      obtain ⟨q1, hq1⟩ : ∃ q, (fr == zf) = q := ⟨_, rfl⟩
      obtain ⟨q2, hq2⟩ : ∃ q, (to == zt) = q := ⟨_, rfl⟩
      rw [hq1, hq2] at hd
      cases q1 with
      | false =>
        have HV := Lib.hid (show decide (⟨fr, to⟩ ∈ l.drop (k + 1)) = R by rw [← HR.out, hd.out]; rfl)
        go_wp2_with fail
        go_quiet (fail)
        go_wp2_with fail
        go_roundw
        case rel => exact ⟨k + 1, by omega, by go_num, HV.out, below_drewN HBE.out _, HXE.out.later (below_drewN (Below.refl _ _) _)⟩
        case measure => simp [intOf]; omega
      | true =>
        cases q2 with
        | false =>
          have HV := Lib.hid (show decide (⟨fr, to⟩ ∈ l.drop (k + 1)) = R by rw [← HR.out, hd.out]; rfl)
          go_wp2_with fail
          go_quiet (fail)
          go_wp2_with fail
          go_roundw
          case rel => exact ⟨k + 1, by omega, by go_num, HV.out, below_drewN HBE.out _, HXE.out.later (below_drewN (Below.refl _ _) _)⟩
          case measure => simp [intOf]; omega
        | true =>
          have HV := Lib.hid (show R = true by rw [← HR.out, hd.out]; rfl)
          go_wp2_with fail
          go_quiet (fail)
          go_wp2_with fail
          go_ret
          exact ⟨⟨k, rfl, by rw [HV.out]; simp⟩, below_drewN HBE.out _⟩
    · obtain rfl : l.length = k := by omega
      go_wp2_with fail
      go_ret
      refine ⟨⟨-1, rfl, ?_⟩, hbe⟩
      rw [← HR.out]; simp
set_option maxRecDepth 100000 in
set_option maxHeartbeats 1000000 in
theorem contains102 (v : Value) (l : List Ar) (x : Ar) (w : World) (hv : Sl Ar.enc 2 w w.heap.size v l) : Calls Tryz.prog 48 #[v, .agg #[.int .i64 x.fr, .int .i64 x.to]] w (Ret (.bool (decide (x ∈ l))) w) := by
  have hb : Below w.heap.size w (w.alloc (.cells #[.int .i64 x.fr, .int .i64 x.to] 85)) := (Below.refl w.heap.size w).alloc (Nat.le_refl _) _
  have HB := Lib.hid hb
  have H := Lib.hid (index144 v l x _ (hv.later hb))
  obtain ⟨R, hR⟩ : ∃ R, decide (x ∈ l) = R := ⟨_, rfl⟩
  rw [hR] at H ⊢
  clear hv hR hb
  obtain ⟨fr, to⟩ := x
  dsimp only at *
  go_enter Tryz.func48, Tryz.ntmps48
  go_wp2_with (go_at_call 71; refine H.out.mono ?_; rintro e w' ⟨⟨n, rfl, hn⟩, hb'⟩)
  go_ret
  exact ⟨by rw [← hn]; rfl, HB.out.trans (hb'.mono HB.out.size)⟩
set_option maxRecDepth 100000 in
set_option maxHeartbeats 1000000 in
theorem hasArc140 (v1 v2 : Value) (l : List Ar) (x : Ar) (w : World) (hv1 : ∃ a n c, v1 = .slice a n c) (hv : Sl Ar.enc 2 w w.heap.size v2 l) : Calls Tryz.prog 50 #[.agg #[v1, v2], .int .i64 x.fr, .int .i64 x.to] w (Ret (.bool (decide (x ∈ l))) w) := by
  obtain ⟨a1, n1, c1, rfl⟩ := hv1
  obtain ⟨a, c, rfl, hlen, hA⟩ := hv
  obtain ⟨R, hR⟩ : ∃ R, decide (x ∈ l) = R := ⟨_, rfl⟩
  rw [hR]
  have HA := Lib.hid hA
  clear hA
  obtain ⟨fr, to⟩ := x
  dsimp only
  have HX := Lib.hid (Box.new w #[.slice a1 n1 c1, .slice a l.length c] 25)
  have HB := Lib.hid ((Below.refl w.heap.size w).alloc (Nat.le_refl _) (.cells #[.slice a1 n1 c1, .slice a l.length c] 25))
  go_enter Tryz.func50, Tryz.ntmps50
  go_wp2_with fail
  go_loopw [7] (fun i wr => ∃ k : Nat, k ≤ l.length ∧ i = .int .i64 k ∧ decide (⟨fr, to⟩ ∈ l.drop k) = R ∧ Below w.heap.size w wr ∧ Box wr w.heap.size 25 [.slice a1 n1 c1, .slice a l.length c]) (fun i _ => l.length - (intOf i).toNat)
  case atStart => exact ⟨0, by omega, rfl, by simpa using hR, HB.out, HX.out⟩
  case round =>
    obtain ⟨k, hk, rfl, hrel, hbe, hx⟩ := hrel
    have HR := Lib.hid hrel
    clear hrel
    clear hR HX HB
    obtain ⟨x0, x1, xf, xz⟩ := hx.v2
    by_cases hlt : k < l.length
    · obtain ⟨b, off, rfl, hbb, hcells⟩ := HA.out (by omega)
      have hd := Lib.hid (mem_drop_step l ⟨fr, to⟩ k hlt)
      obtain ⟨c0, c1⟩ := ((hcells k hlt).below hbe hbb).c2
      have hbz : b < wr.heap.size := by have := hbe.size; omega
      have HBE := Lib.hid hbe
      have HXE := Lib.hid hx
      clear hcells HA hbe hx
      generalize l[k] = z at *
      obtain ⟨zf, zt⟩ := z
      dsimp only at c0 c1
      have HD := Lib.hid (show decide ((⟨fr, to⟩ : Ar) = ⟨zf, zt⟩) = (zf == fr && zt == to) by
        rw [Bool.eq_iff_iff]; simp; constructor <;> (rintro ⟨h1, h2⟩; exact ⟨h1.symm, h2.symm⟩))
      rw [HD.out] at hd
      clear HD
      obtain ⟨q1, hq1⟩ : ∃ q, (zf == fr) = q := ⟨_, rfl⟩
      obtain ⟨q2, hq2⟩ : ∃ q, (zt == to) = q := ⟨_, rfl⟩
      rw [hq1, hq2] at hd
      cases q1 with
      | false =>
        have HV := Lib.hid (show decide (⟨fr, to⟩ ∈ l.drop (k + 1)) = R by rw [← HR.out, hd.out]; rfl)
        go_wp2_with fail
        go_roundw
        case rel => exact ⟨k + 1, by omega, by go_num, HV.out, HBE.out, HXE.out⟩
        case measure => simp [intOf]; omega
      | true =>
        cases q2 with
        | false =>
          have HV := Lib.hid (show decide (⟨fr, to⟩ ∈ l.drop (k + 1)) = R by rw [← HR.out, hd.out]; rfl)
          go_wp2_with fail
          go_roundw
          case rel => exact ⟨k + 1, by omega, by go_num, HV.out, HBE.out, HXE.out⟩
          case measure => simp [intOf]; omega
        | true =>
          have HV := Lib.hid (show R = true by rw [← HR.out, hd.out]; rfl)
          go_wp2_with fail
          go_ret
          exact ⟨by rw [HV.out]; rfl, HBE.out⟩
    · obtain rfl : l.length = k := by omega
      have HV := Lib.hid (show R = false by rw [← HR.out]; simp)
      go_wp2_with fail
      go_ret
      exact ⟨by rw [HV.out]; rfl, hbe⟩
end Go.Proofs.YtpafjhjpchdcdaaGreatDoor
/- Walks: path.CheckPlant. -/
namespace Go.Proofs.YtpafjhjpchdcdaaGreatDoor
open Go Go.Proofs Go.RowKit Go.Shelf
def ckMsL : List Mc → Int
  | [] => 0
  | m :: r => if kn m.kind < 0 then 20 else if m.time < 0 ∨ 100000 < m.time then 3 else ckMsL r
theorem ckMsL_drop (l : List Mc) (k : Nat) (h : k < l.length) : ckMsL (l.drop k) = if kn l[k].kind < 0 then 20 else if l[k].time < 0 ∨ 100000 < l[k].time then 3 else ckMsL (l.drop (k + 1)) := by
  rw [List.drop_eq_getElem_cons h]; rfl
def kAt (p : Pl) (x : Int) : Int := kn (p.ms.getD x.toNat ⟨⟨#[]⟩, 0⟩).kind
theorem kAt_nat {p : Pl} {x : Nat} (h : x < p.ms.length) : kAt p x = kn p.ms[x].kind := by
  unfold kAt
  rw [show ((x : Int)).toNat = x by omega, List.getD_eq_getElem?_getD, List.getElem?_eq_getElem h]; rfl
def ckAr (p : Pl) (k : Nat) (a : Ar) : Int :=
  if inN p.ms.length a.fr = false ∨ inN p.ms.length a.to = false then 10 else if a.fr = a.to ∨ kAt p a.to = 0 ∨ kAt p a.fr = 2 then 1 else if a ∈ p.arcs.take k then 9 else 0
def ckArL (p : Pl) : Nat → List Ar → Int
  | _, [] => 0
  | k, a :: r => if ckAr p k a ≠ 0 then ckAr p k a else ckArL p (k + 1) r
theorem ckArL_drop (p : Pl) (k : Nat) (h : k < p.arcs.length) : ckArL p k (p.arcs.drop k) = if ckAr p k p.arcs[k] ≠ 0 then ckAr p k p.arcs[k] else ckArL p (k + 1) (p.arcs.drop (k + 1)) := by
  rw [List.drop_eq_getElem_cons h]; rfl
def ckPlant (p : Pl) : Int := if p.ms.length = 0 then 2 else if 64 < p.ms.length then 5 else if ckMsL p.ms ≠ 0 then ckMsL p.ms else if 256 < p.arcs.length then 5 else ckArL p 0 p.arcs
theorem inN_nat {n : Nat} {x : Int} (h : inN n x = true) : ∃ k : Nat, x = k ∧ k < n := by
  unfold inN at h
  simp only [Bool.and_eq_true, decide_eq_true_eq] at h
  exact ⟨x.toNat, by omega, by omega⟩
set_option maxRecDepth 100000 in
set_option maxHeartbeats 1000000 in
theorem ckPlant32 (w : World) (v1 v2 : Value) (p : Pl) (hw : WdR w) (hv : PlR w w.heap.size v1 v2 p) : Calls Tryz.prog 16 #[.agg #[v1, v2]] w (Ret (.int .i64 (ckPlant p)) w) := by
  have HWD := Lib.hid (fun (w1 : World) (hb : Below w.heap.size w w1) => hw.later hb)
  have HAR := Lib.hid hv.arcs
  obtain ⟨⟨a1, n1, rfl, hl1, hA1⟩, ⟨a2, n2, rfl, hl2, hA2⟩⟩ := hv
  have HA1 := Lib.hid hA1
  have HA2 := Lib.hid hA2
  clear hA1 hA2 hw
  obtain ⟨h11, h12⟩ := hl1
  obtain ⟨h21, h22⟩ := hl2
  obtain ⟨R, hR⟩ : ∃ R, ckPlant p = R := ⟨_, rfl⟩
  rw [hR]
  unfold ckPlant at hR
  have HR := Lib.hid hR
  clear hR
  have HB := Lib.hid ((Below.refl w.heap.size w).alloc (Nat.le_refl _) (.cells #[.slice a1 p.ms.length n1, .slice a2 p.arcs.length n2] 25))
  have HX := Lib.hid (Box.new w #[.slice a1 p.ms.length n1, .slice a2 p.arcs.length n2] 25)
  obtain ⟨n, hn⟩ : ∃ n, p.ms.length = n := ⟨_, rfl⟩
  obtain ⟨m, hm⟩ : ∃ m, p.arcs.length = m := ⟨_, rfl⟩
  rw [hn] at HR HB HX h11 h12 ⊢
  rw [hm] at HR HB HX h21 h22 ⊢
  have HN := Lib.hid hn
  have HM := Lib.hid hm
  rw [hm] at HAR
  clear hn hm
  go_enter Tryz.func16, Tryz.ntmps16
  by_cases h0 : n = 0
  · subst h0
    have HV := Lib.hid (show R = 2 by rw [← HR.out]; rfl)
    go_wp2_with fail
    go_ret
    exact ⟨by rw [HV.out]; rfl, HB.out⟩
  have k0 : ((n : Int) == 0) = false := by simp; omega
  by_cases h64 : 64 < n
  · have HV := Lib.hid (show R = 5 by rw [← HR.out, if_neg h0, if_pos h64])
    have k1 : decide ((64 : Int) < (n : Int)) = true := decide_eq_true (by omega)
    go_wp2_with fail
    go_ret
    exact ⟨by rw [HV.out]; rfl, HB.out⟩
  have k1 : decide ((64 : Int) < (n : Int)) = false := decide_eq_false (by omega)
  obtain ⟨S, hS⟩ : ∃ S, ckMsL p.ms = S := ⟨_, rfl⟩
  have HR1 := Lib.hid (show (if S ≠ 0 then S else if 256 < m then 5 else ckArL p 0 p.arcs) = R by have h := HR.out; rw [if_neg h0, if_neg h64, hS] at h; exact h)
  have HS := Lib.hid hS
  clear HR hS
  go_wp2_with fail
  go_loopw [18] (fun j wr => ∃ k : Nat, k ≤ n ∧ j = .int .i64 k ∧ Below w.heap.size w wr ∧ Box wr w.heap.size 25 [.slice a1 n n1, .slice a2 m n2] ∧ ckMsL (p.ms.drop k) = S) (fun j _ => n - (intOf j).toNat)
  case atStart => exact ⟨0, by omega, rfl, HB.out, HX.out, HS.out⟩
  case round =>
    clear HB HX HS
    obtain ⟨k, hk, rfl, hbe, hx, hrel⟩ := hrel
    have HL := Lib.hid hrel
    have HBE := Lib.hid hbe
    have HXE := Lib.hid hx
    clear hrel
    obtain ⟨x0, x1, xf, xz⟩ := hx.v2
    by_cases hlt : k < n
    · have hkl : k < p.ms.length := by rw [HN.out]; exact hlt
      obtain ⟨b, off, rfl, hbb, hcells⟩ := HA1.out (by omega)
      obtain ⟨c0, c1⟩ := ((hcells k hkl).below hbe hbb).c2
      have hbz : b < wr.heap.size := by have := hbe.size; omega
      have hd := Lib.hid (ckMsL_drop p.ms k hkl)
      clear hcells hbe hx
      generalize p.ms[k] = mc at *
      obtain ⟨s, t⟩ := mc
      dsimp only at c0 c1
      have hba : Below wr.heap.size wr (wr.alloc (.cells #[.string s, .int .i64 t] 43)) := (Below.refl _ _).alloc (Nat.le_refl _) _
      have HK := Lib.hid (kindOf94 s t _ ((HWD.out wr HBE.out).later hba))
      have HMB := Lib.hid (Box.new wr #[.string s, .int .i64 t] 43)
      have HBA := Lib.hid hba
      obtain ⟨q, hq⟩ : ∃ q, kn s = q := ⟨_, rfl⟩
      rw [hq] at HK
      have HQ := Lib.hid hq
      clear hba hq
      go_wp2_with fail
      refine HK.out.mono ?_
      rintro e w3 ⟨rfl, hb3⟩
      have HB3 := Lib.hid (HBA.out.trans (hb3.mono HBA.out.size))
      obtain ⟨m0, m1, mf, mz⟩ := (HMB.out.later hb3).v2
      clear hb3
      have HS2 := Lib.hid (show (if q < 0 then 20 else if t < 0 ∨ 100000 < t then 3 else ckMsL (p.ms.drop (k + 1))) = S by have h := HL.out; rw [hd.out] at h; (try dsimp only at h); rw [HQ.out] at h; exact h)
      by_cases hq0 : q < 0
      · have d0 : decide (q < 0) = true := decide_eq_true hq0
        have HV := Lib.hid (show R = 20 by have h := HS2.out; rw [if_pos hq0] at h; rw [← HR1.out, ← h]; rfl)
        clear hq0
        go_wp2_with fail
        go_ret
        exact ⟨by rw [HV.out]; rfl, HBE.out.trans (HB3.out.mono HBE.out.size)⟩
      · have d0 : decide (q < 0) = false := decide_eq_false hq0
        by_cases ht : t < 0 ∨ 100000 < t
        · have HV := Lib.hid (show R = 3 by have h := HS2.out; rw [if_neg hq0, if_pos ht] at h; rw [← HR1.out, ← h]; rfl)
          clear hq0
          by_cases ht0 : t < 0
          · have d1 : decide (t < 0) = true := decide_eq_true ht0
            clear ht ht0
            go_wp2_with fail
            go_ret
            exact ⟨by rw [HV.out]; rfl, HBE.out.trans (HB3.out.mono HBE.out.size)⟩
          · have d1 : decide (t < 0) = false := decide_eq_false ht0
            have d2 : decide (100000 < t) = true := decide_eq_true (by omega)
            clear ht ht0
            go_wp2_with fail
            go_ret
            exact ⟨by rw [HV.out]; rfl, HBE.out.trans (HB3.out.mono HBE.out.size)⟩
        · have d1 : decide (t < 0) = false := decide_eq_false (by omega)
          have d2 : decide (100000 < t) = false := decide_eq_false (by omega)
          have HV := Lib.hid (show ckMsL (p.ms.drop (k + 1)) = S by have h := HS2.out; rw [if_neg hq0, if_neg ht] at h; exact h)
          clear hq0 ht
          go_wp2_with fail
          go_roundw
          case rel => exact ⟨k + 1, by omega, by go_num, HBE.out.trans (HB3.out.mono HBE.out.size), HXE.out.later HB3.out, HV.out⟩
          case measure => simp [intOf]; omega
    · obtain rfl : n = k := by omega
      have HS0 := Lib.hid (show S = 0 by rw [← HL.out, ← HN.out, List.drop_length]; rfl)
      clear hbe hx
      by_cases h256 : 256 < m
      · have k2 : decide ((256 : Int) < (m : Int)) = true := decide_eq_true (by omega)
        have HV := Lib.hid (show R = 5 by rw [← HR1.out, HS0.out, if_neg (by simp), if_pos h256])
        go_wp2_with fail
        go_ret
        exact ⟨by rw [HV.out]; rfl, HBE.out⟩
      have k2 : decide ((256 : Int) < (m : Int)) = false := decide_eq_false (by omega)
      have HR2 := Lib.hid (show ckArL p 0 (p.arcs.drop 0) = R by rw [← HR1.out, HS0.out, if_neg (by simp), if_neg h256, List.drop_zero])
      clear HR1 HL HS0
      go_wp2_with fail
      go_loopw [41] (fun j wr => ∃ k : Nat, k ≤ m ∧ j = .int .i64 k ∧ Below w.heap.size w wr ∧ Box wr w.heap.size 25 [.slice a1 n n1, .slice a2 m n2] ∧ ckArL p k (p.arcs.drop k) = R) (fun j _ => m - (intOf j).toNat)
      case atStart => exact ⟨0, by omega, rfl, HBE.out, HXE.out, HR2.out⟩
      case round =>
        clear HBE HXE HR2 x0 x1 xf xz
        obtain ⟨k, hk, rfl, hbe, hx, hrel⟩ := hrel
        have HL := Lib.hid hrel
        have HBE := Lib.hid hbe
        have HXE := Lib.hid hx
        clear hrel
        obtain ⟨x0, x1, xf, xz⟩ := hx.v2
        by_cases hlt : k < m
        · have hkl : k < p.arcs.length := by rw [HM.out]; exact hlt
          obtain ⟨b, off, rfl, hbb, hcells⟩ := HA2.out (by omega)
          obtain ⟨c0, c1⟩ := ((hcells k hkl).below hbe hbb).c2
          have hbz : b < wr.heap.size := by have := hbe.size; omega
          have hd := Lib.hid (ckArL_drop p k hkl)
          have hnp : 0 < p.ms.length := by rw [HN.out]; omega
          obtain ⟨b1, off1, hat, hbb1, hcells1⟩ := HA1.out hnp
          clear hnp
          subst hat
          have HC1 := Lib.hid hcells1
          clear hcells hbe hx hcells1
          generalize p.arcs[k] = ar at *
          obtain ⟨fr, to⟩ := ar
          dsimp only at c0 c1
          have hba : Below wr.heap.size wr (wr.alloc (.cells #[.int .i64 fr, .int .i64 to] 85)) := (Below.refl _ _).alloc (Nat.le_refl _) _
          have HMB := Lib.hid (Box.new wr #[.int .i64 fr, .int .i64 to] 85)
          have HXA := Lib.hid (HXE.out.later hba)
          have HBA := Lib.hid (HBE.out.trans (hba.mono HBE.out.size))
          have HI := Lib.hid (fun (x : Int) (w' : World) => is101 (some ⟨b1, off1, none⟩) n n1 (.slice (some ⟨b, off, none⟩) m n2) x w')
          have HC := Lib.hid (show ckAr p k ⟨fr, to⟩ = if inN n fr = false ∨ inN n to = false then 10 else if fr = to ∨ kAt p to = 0 ∨ kAt p fr = 2 then 1 else if (⟨fr, to⟩ : Ar) ∈ p.arcs.take k then 9 else 0 by unfold ckAr; rw [HN.out])
          clear hba
          obtain ⟨q1, hq1⟩ : ∃ q, inN n fr = q := ⟨_, rfl⟩
          obtain ⟨q2, hq2⟩ : ∃ q, inN n to = q := ⟨_, rfl⟩
          have HQ1 := Lib.hid hq1
          have HQ2 := Lib.hid hq2
          clear hq1 hq2
          go_wp2_with fail
          rw [HQ1.out, HQ2.out] at HC
          refine (HI.out fr _).mono ?_
          rintro e w3 ⟨rfl, hb3⟩
          rw [HQ1.out]
          have HB3 := Lib.hid (HBA.out.trans (hb3.mono HBA.out.size))
          have HM3 := Lib.hid (HMB.out.later hb3)
          have HX3 := Lib.hid (HXA.out.later hb3)
          obtain ⟨m0, m1, mf, mz⟩ := HM3.out.v2
          obtain ⟨x0, x1, xf, xz⟩ := HX3.out.v2
          clear hb3 HMB HXA HBA
          cases q1 with
          | false =>
            have HV := Lib.hid (show R = 10 by rw [← HL.out, hd.out, HC.out]; simp)
            go_wp2_with fail
            go_ret
            exact ⟨by rw [HV.out]; rfl, HB3.out⟩
          | true =>
          go_wp2_with fail
          refine (HI.out to _).mono ?_
          rintro e w4 ⟨rfl, hb4⟩
          rw [HQ2.out]
          have HB4 := Lib.hid (HB3.out.trans (hb4.mono HB3.out.size))
          have HM4 := Lib.hid (HM3.out.later hb4)
          have HX4 := Lib.hid (HX3.out.later hb4)
          clear m0 m1 mf mz x0 x1 xf xz
          obtain ⟨m0, m1, mf, mz⟩ := HM4.out.v2
          obtain ⟨x0, x1, xf, xz⟩ := HX4.out.v2
          clear hb4 HM3 HX3 HB3
          cases q2 with
          | false =>
            have HV := Lib.hid (show R = 10 by rw [← HL.out, hd.out, HC.out]; simp)
            go_wp2_with fail
            go_ret
            exact ⟨by rw [HV.out]; rfl, HB4.out⟩
          | true =>
          have HC2 := Lib.hid (show ckAr p k ⟨fr, to⟩ = if fr = to ∨ kAt p to = 0 ∨ kAt p fr = 2 then 1 else if (⟨fr, to⟩ : Ar) ∈ p.arcs.take k then 9 else 0 by rw [HC.out]; simp)
          clear HC
          by_cases hft : fr = to
          · have d1 : (fr == to) = true := by simp [hft]
            have HV := Lib.hid (show R = 1 by rw [← HL.out, hd.out, HC2.out, if_pos (Or.inl hft)]; simp)
            clear hft
            go_wp2_with fail
            go_ret
            exact ⟨by rw [HV.out]; rfl, HB4.out⟩
          have d1 : (fr == to) = false := by simp [hft]
          obtain ⟨kf, rfl, hkf⟩ := inN_nat HQ1.out
          obtain ⟨kt, rfl, hkt⟩ := inN_nat HQ2.out
          have HN' := Lib.hid HN.out
          have hkf' : kf < p.ms.length := by rw [HN.out]; exact hkf
          have hkt' : kt < p.ms.length := by rw [HN.out]; exact hkt
          have HKT := Lib.hid (kAt_nat hkt')
          have HKF := Lib.hid (kAt_nat hkf')
          obtain ⟨ct0, ct1⟩ := ((HC1.out kt hkt').below HB4.out hbb1).c2
          have HCF := Lib.hid (HC1.out kf hkf')
          generalize p.ms[kt] = mt at *
          generalize p.ms[kf] = mf1 at *
          clear hkf' hkt' HC1
          obtain ⟨st, tt⟩ := mt
          obtain ⟨sf, tf⟩ := mf1
          dsimp only at ct0 ct1
          have hb1z : b1 < w4.heap.size := by have := HB4.out.size; omega
          have HK := Lib.hid (fun s t (w' : World) (hb : Below w.heap.size w w') => kindOf94 s t w' (HWD.out w' hb))
          obtain ⟨q3, hq3⟩ : ∃ q, kn st = q := ⟨_, rfl⟩
          have HQ3 := Lib.hid hq3
          clear hq3
          go_wp2_with fail
          refine (HK.out st tt _ HB4.out).mono ?_
          rintro e w5 ⟨rfl, hb5⟩
          rw [HQ3.out]
          have HB5 := Lib.hid (HB4.out.trans (hb5.mono HB4.out.size))
          have HM5 := Lib.hid (HM4.out.later hb5)
          have HX5 := Lib.hid (HX4.out.later hb5)
          clear m0 m1 mf mz x0 x1 xf xz ct0 ct1 hb1z
          obtain ⟨m0, m1, mf, mz⟩ := HM5.out.v2
          obtain ⟨x0, x1, xf, xz⟩ := HX5.out.v2
          obtain ⟨cf0, cf1⟩ := (HCF.out.below HB5.out hbb1).c2
          dsimp only at cf0 cf1
          have hb1z : b1 < w5.heap.size := by have := HB5.out.size; omega
          clear hb5 HM4 HX4 HB4
          by_cases h30 : q3 = 0
          · subst h30
            have HV := Lib.hid (show R = 1 by rw [← HL.out, hd.out, HC2.out, if_pos (Or.inr (Or.inl (by rw [HKT.out]; exact HQ3.out)))]; simp)
            go_wp2_with fail
            go_ret
            exact ⟨by rw [HV.out]; rfl, HB5.out⟩
          have d3 : (q3 == 0) = false := by simp [h30]
          obtain ⟨q4, hq4⟩ : ∃ q, kn sf = q := ⟨_, rfl⟩
          have HQ4 := Lib.hid hq4
          clear hq4
          go_wp2_with fail
          refine (HK.out sf tf _ HB5.out).mono ?_
          rintro e w6 ⟨rfl, hb6⟩
          rw [HQ4.out]
          have HB6 := Lib.hid (HB5.out.trans (hb6.mono HB5.out.size))
          have HM6 := Lib.hid (HM5.out.later hb6)
          have HX6 := Lib.hid (HX5.out.later hb6)
          clear m0 m1 mf mz x0 x1 xf xz cf0 cf1 hb1z
          obtain ⟨m0, m1, mf, mz⟩ := HM6.out.v2
          obtain ⟨x0, x1, xf, xz⟩ := HX6.out.v2
          clear hb6 HM5 HX5 HB5
          by_cases h42 : q4 = 2
          · subst h42
            have HV := Lib.hid (show R = 1 by rw [← HL.out, hd.out, HC2.out, if_pos (Or.inr (Or.inr (by rw [HKF.out]; exact HQ4.out)))]; simp)
            go_wp2_with fail
            go_ret
            exact ⟨by rw [HV.out]; rfl, HB6.out⟩
          have d4 : (q4 == 2) = false := by simp [h42]
          have HC3 := Lib.hid (show ckAr p k ⟨kf, kt⟩ = if (⟨kf, kt⟩ : Ar) ∈ p.arcs.take k then 9 else 0 by rw [HC2.out, if_neg]; rw [HKT.out, HKF.out, HQ3.out, HQ4.out]; exact fun h => h.elim hft (fun h => h.elim h30 h42))
          clear HC2 HKT HKF HQ3 HQ4 hft h30 h42 HCF
          have hkc : (k : Int) ≤ n2 := by omega
          have HSl := Lib.hid (HAR.out.take k (by rw [HM.out]; omega))
          have HCN := Lib.hid (fun (w' : World) (hb : Below w.heap.size w w') => contains102 _ (p.arcs.take k) ⟨kf, kt⟩ w' (HSl.out.later hb))
          obtain ⟨q5, hq5⟩ : ∃ q, decide ((⟨kf, kt⟩ : Ar) ∈ p.arcs.take k) = q := ⟨_, rfl⟩
          have HQ5 := Lib.hid hq5
          rw [hq5] at HCN
          clear hq5
          go_wp2_with fail
          refine wp_region_head_drew 5 (by kernel_rfl) (by kernel_rfl) ?_
          simp only [List.take_succ_cons, List.take_zero, List.drop_succ_cons, List.drop_zero]
          repeat go_big_quiet_step (fail)
          refine wpQuiet_nil ?_
          rintro _ ⟨nq, rfl⟩
          go_wp2_with fail
          refine (HCN.out _ (below_drewN HB6.out nq)).mono ?_
          rintro e w7 ⟨rfl, hb7⟩
          have HB7 := Lib.hid ((below_drewN HB6.out nq).trans (hb7.mono (below_drewN HB6.out nq).size))
          have HX7 := Lib.hid ((HX6.out.later (below_drewN (Below.refl _ _) nq)).later hb7)
          clear hb7
          obtain ⟨x0, x1, xf, xz⟩ := HX7.out.v2
          cases q5 with
          | true =>
            have HV := Lib.hid (show R = 9 by rw [← HL.out, hd.out, HC3.out, if_pos (of_decide_eq_true HQ5.out)]; simp)
            go_wp2_with fail
            go_ret
            exact ⟨by rw [HV.out]; rfl, HB7.out⟩
          | false =>
            have HV := Lib.hid (show ckArL p (k + 1) (p.arcs.drop (k + 1)) = R by rw [← HL.out, hd.out, HC3.out, if_neg (of_decide_eq_false HQ5.out)]; simp)
            go_wp2_with fail
            go_roundw
            case rel => exact ⟨k + 1, by omega, by go_num, HB7.out, HX7.out, HV.out⟩
            case measure => simp [intOf]; omega
        · obtain rfl : m = k := by omega
          have HV := Lib.hid (show R = 0 by rw [← HL.out, ← HM.out, List.drop_length]; rfl)
          clear hbe hx
          go_wp2_with fail
          go_ret
          exact ⟨by rw [HV.out]; rfl, HBE.out⟩
end Go.Proofs.YtpafjhjpchdcdaaGreatDoor
