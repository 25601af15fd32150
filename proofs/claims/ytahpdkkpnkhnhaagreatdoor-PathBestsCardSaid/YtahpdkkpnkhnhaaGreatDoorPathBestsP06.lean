/- Lemmas on the way to the law PathBests (part 6): Ug Ue Pa Ta Kd Ke -/
import Derived.Test.YtahpdkkpnkhnhaaGreatDoorPathBestsP04
import Derived.Test.YtahpdkkpnkhnhaaGreatDoorPathBestsP05
import Derived.Test.YtahpdkkpnkhnhaaGreatDoorLib27
import Derived.Test.YtahpdkkpnkhnhaaGreatDoorLib28
set_option linter.unusedVariables false
set_option linter.unusedSimpArgs false

/- Walks: Bound of the reference. -/
namespace Go.Proofs.YtahpdkkpnkhnhaaGreatDoor
open Go Go.Proofs Go.RowKit Go.Shelf
theorem tSum_cut {p : Pl} {l : List Int} {k : Nat} (h : k < l.length) : tSum p l = tSum p (l.take k) + tAt p l[k] + tSum p (l.drop (k + 1)) := by
  have e := tSum_append p (l.take k) (l.drop k)
  rw [List.take_append_drop, tSum_drop p l k h] at e
  omega
theorem Sl.dropI {w : World} {B b off n c : Nat} {l : List Int} (h : Sl encI 1 w B (.slice (some ⟨b, off, none⟩) n c) l) (k : Nat) (hk : k < n) (hb : b < B) : Sl encI 1 w B (.slice (if c = k + 1 then some ⟨b, off, none⟩ else some ⟨b, off + (k + 1), none⟩) (n - (k + 1)) (c - (k + 1))) (l.drop (k + 1)) := by
  obtain ⟨a', c', e, hlen, hA⟩ := h
  injection e with e1 e2 e3
  subst e1 e2 e3
  have hl : (l.drop (k + 1)).length = l.length - (k + 1) := by simp
  refine ⟨_, _, by rw [hl], by rw [hl]; omega, fun h0 => ?_⟩
  rw [hl] at h0
  rw [if_neg (by omega)]
  refine ⟨b, off + (k + 1), rfl, hb, fun i hi => ?_⟩
  rw [List.getElem_drop]
  obtain ⟨b', off', e, _, hc⟩ := hA (by omega)
  cases e
  rw [hl] at hi
  have := hc (k + 1 + i) (by omega)
  rw [show off + (k + 1) + i * 1 = off + (k + 1 + i) * 1 by omega]
  exact this
structure BInv (z : Int × Int × Int) (k : Nat) : Prop where
  zero : z.2.1 = 0 → z.1 = -1 ∧ z.2.2 = -1
  pos : z.2.1 ≠ 0 → 0 < z.2.1 ∧ 0 ≤ z.1 ∧ 0 ≤ z.2.2
  bd : bndP k z
theorem BInv.start : BInv (-1, 0, -1) 0 := ⟨fun _ => ⟨rfl, rfl⟩, fun h => absurd rfl h, by unfold bndP; dsimp only; omega⟩
theorem useF_pos {p : Pl} {t : Tk} (hnd : t.path.Nodup) {k : Nat} (hk : k < t.path.length) : useF p t.run 0 t.path t.path[k] = some (tSum p (t.path.take k), t.run + tAt p t.path[k]) := by
  have := useF_at (p := p) (run := t.run) (h := 0) hnd hk
  rw [Int.zero_add] at this
  exact this
theorem bStep_at {p : Pl} {t : Tk} (hnd : t.path.Nodup) {k m : Nat} (hk : k < t.path.length) (hm : t.path[k] = (m : Int)) (z : Int × Int × Int) :
    bStep p m z t = (if z.2.1 = 0 ∨ tSum p (t.path.take k) < z.1 then tSum p (t.path.take k) else z.1, z.2.1 + (t.run + tAt p m), if z.2.1 = 0 ∨ tSum p (t.path.drop (k + 1)) < z.2.2 then tSum p (t.path.drop (k + 1)) else z.2.2) := by
  have h1 := useF_pos (p := p) hnd hk
  rw [hm] at h1
  have h2 := tSum_cut (p := p) hk
  rw [hm] at h2
  unfold bStep
  rw [h1]
  dsimp only
  rw [show tSum p t.path - tSum p (t.path.take k) - tAt p m = tSum p (t.path.drop (k + 1)) by omega]
theorem bStep_not {p : Pl} {t : Tk} {m : Int} (h : m ∉ t.path) (z : Int × Int × Int) : bStep p m z t = z := by
  unfold bStep
  rw [useF_none p t.run t.path m h 0]
theorem BInv.step {p : Pl} {t : Tk} {m k : Nat} {z : Int × Int × Int} (hp : OkP p) (ht : OkT p t) (hr : 1 ≤ t.run) (hnd : t.path.Nodup) (hm : m < p.ms.length) (h : BInv z k) : BInv (bStep p m z t) (k + 1) := by
  have hb := bndP_step (m := m) hp ht hm h.bd
  refine ⟨?_, ?_, hb⟩
  all_goals
    by_cases hin : (m : Int) ∈ t.path
    · obtain ⟨j, hj, e⟩ := List.mem_iff_getElem.1 hin
      rw [bStep_at hnd hj e]
      have h0 := h.bd.2.2.1
      have h1 := tSum_bd hp (l := t.path.take j) (take_in ht.ins j)
      have h2 := tSum_bd hp (l := t.path.drop (j + 1)) (fun x hx => ht.ins x (List.mem_of_mem_drop hx))
      have h3 := (hp.times _ (List.getElem_mem hm)).1
      rw [← tAt_nat hm] at h3
      have h4 := h.pos
      dsimp only
      intro h5
      first
        | (exfalso; omega)
        | (refine ⟨by omega, ?_, ?_⟩ <;> split <;> omega)
    · rw [bStep_not hin]
      first | exact h.zero | exact h.pos
set_option maxRecDepth 100000 in
set_option maxHeartbeats 4000000 in
theorem bound72 (w : World) (v1 v2 u : Value) (p : Pl) (ts : List Tk) (hv : PlR w w.heap.size v1 v2 p) (hu : TasksR w w.heap.size u ts) (hk : TsOk p ts) :
    Calls Tryz.prog 72 #[.agg #[v1, v2], u] w (Ret (.int .i64 (boundTo p ts p.ms.length)) w) := by
  have C23 := Lib.hid (fun (w1 : World) (hb : Below w.heap.size w w1) (q : Value) (l : List Int) (hs : Sl encI 1 w1 w1.heap.size q l) (hin : ∀ x ∈ l, inN p.ms.length x = true) => time23 w1 v1 v2 q p l (hv.later hb) hs hin hk.pk.times)
  have HK := Lib.hid hk
  have h16 := hk.n
  have hn64 := hk.pk.le
  obtain ⟨⟨a1, n1, rfl, ⟨hl1, _⟩, hA1⟩, ⟨a2, n2, rfl, _, _⟩⟩ := hv
  obtain ⟨b1, off1, rfl, hbb1, hat⟩ := hA1 hk.pk.pos
  obtain ⟨uu, cu, rfl, hlu, hlc, hUA⟩ := hu.open_
  have HUA := Lib.hid hUA
  have HCM := Lib.hid (fun (x : Nat) (hx : x < p.ms.length) (w1 : World) (hb1 : Below w.heap.size w w1) => show w1.cell? ⟨b1, off1 + x * 2 + 1, none⟩ = some (.int .i64 (tAt p x)) by rw [tAt_nat hx]; exact ((hat x hx).below hb1 hbb1).c2.2)
  have HTB := Lib.hid (fun (x : Nat) (hx : x < p.ms.length) => show 0 ≤ tAt p x ∧ tAt p x ≤ 100000 by rw [tAt_nat hx]; exact hk.pk.times _ (List.getElem_mem hx))
  have HBST := Lib.hid (fun (k : Nat) (hk' : k < p.ms.length) => show boundTo p ts (k + 1) = bPut (boundTo p ts k) (bMach p ts k) from rfl)
  have HBN : Hid (∀ k, k ≤ p.ms.length → 0 ≤ boundTo p ts k ∧ boundTo p ts k ≤ 40000000) := Lib.hid (by
    intro k
    induction k with
    | zero => intro _; show (0 : Int) ≤ 0 ∧ (0 : Int) ≤ 40000000; omega
    | succ k ih =>
      intro h
      have ih := ih (by omega)
      have hz : ∀ n, n ≤ ts.length → BInv ((ts.take n).foldl (bStep p k) (-1, 0, -1)) n := by
        intro n
        induction n with
        | zero => intro _; exact BInv.start
        | succ n ihn =>
          intro hn
          rw [foldl_snoc _ _ _ _ (by omega)]
          exact (ihn (by omega)).step hk.pk (hk.t _ (List.getElem_mem _)) (hk.r _ (List.getElem_mem _)) (hk.d _ (List.getElem_mem _)) (by omega)
      have hz := (hz ts.length (Nat.le_refl _)).bd
      rw [List.take_length] at hz
      show 0 ≤ bPut _ (ts.foldl (bStep p k) (-1, 0, -1)) ∧ bPut _ (ts.foldl (bStep p k) (-1, 0, -1)) ≤ _
      generalize ts.foldl (bStep p k) (-1, 0, -1) = z at *
      obtain ⟨h1, h2, h3, h4, h5, h6⟩ := hz
      unfold bPut
      split <;> omega)
  have HB := Lib.hid ((Below.refl w.heap.size w).alloc (Nat.le_refl _) (.cells #[.slice (some ⟨b1, off1, none⟩) p.ms.length n1, .slice a2 p.arcs.length n2] 25))
  have HX := Lib.hid (Box.new w #[.slice (some ⟨b1, off1, none⟩) p.ms.length n1, .slice a2 p.arcs.length n2] 25)
  clear hA1 hat hUA hu hk
  obtain ⟨n, hn⟩ : ∃ n, p.ms.length = n := ⟨_, rfl⟩
  obtain ⟨mm, hm⟩ : ∃ n, p.arcs.length = n := ⟨_, rfl⟩
  obtain ⟨nt, hnt⟩ : ∃ n, ts.length = n := ⟨_, rfl⟩
  rw [hn] at C23 HB HX HCM HTB HBST HBN hl1 hn64 ⊢
  rw [hm] at C23 HB HX ⊢
  rw [hnt] at HUA hlu hlc h16 ⊢
  have HN := Lib.hid hn
  have HNT := Lib.hid hnt
  clear hn hm hnt
  obtain ⟨W1, hW1⟩ : ∃ W, w.alloc (.cells #[.slice (some ⟨b1, off1, none⟩) n n1, .slice a2 mm n2] 25) = W := ⟨_, rfl⟩
  rw [hW1] at HB HX
  go_enter Tryz.func72, Tryz.ntmps72
  go_wp2_with fail
  try rw [hW1]
  clear hW1
  go_loopw [5, 6] (fun v i wr => ∃ k : Nat, k ≤ n ∧ i = .int .i64 k ∧ v = .int .i64 (boundTo p ts k) ∧ Below W1.heap.size W1 wr) (fun _ i _ => n - (intOf i).toNat)
  case atStart => exact ⟨0, by omega, rfl, rfl, Below.refl _ _⟩
  case round =>
    obtain ⟨m, hm, rfl, rfl, hbe⟩ := hrel
    have HB1 := Lib.hid hbe
    have HBE := Lib.hid (HB.out.trans (hbe.mono HB.out.size))
    have HX1 := Lib.hid (HX.out.later hbe)
    clear hbe
    obtain ⟨x0, x1, xf, xz⟩ := HX1.out.v2
    by_cases hlt : m < n
    rotate_left
    · obtain rfl : n = m := by omega
      go_wp2_with fail
      go_ret
      exact ⟨rfl, HBE.out⟩
    have HS := Lib.hid (HBST.out m hlt)
    have HBM := Lib.hid (HBN.out m (by omega))
    obtain ⟨bo, hbo⟩ : ∃ x, boundTo p ts m = x := ⟨_, rfl⟩
    rw [hbo] at HS HBM ⊢
    clear hbo
    generalize wr = W2 at *
    go_wp2_with fail
    clear x0 x1 xf xz
    go_loopw [7, 8, 9, 10] (fun h s t i wr => ∃ (k : Nat) (z : Int × Int × Int), k ≤ nt ∧ i = .int .i64 k ∧ h = .int .i64 z.1 ∧ s = .int .i64 z.2.1 ∧ t = .int .i64 z.2.2 ∧ z = (ts.take k).foldl (bStep p m) (-1, 0, -1) ∧ BInv z k ∧ Below W2.heap.size W2 wr) (fun _ _ _ i _ => nt - (intOf i).toNat)
    case atStart => exact ⟨0, (-1, 0, -1), by omega, rfl, rfl, rfl, rfl, rfl, BInv.start, Below.refl _ _⟩
    case round =>
      obtain ⟨i, z, hi, rfl, rfl, rfl, rfl, hz, hbi, hbe⟩ := hrel
      have HZ := Lib.hid hz
      have HBI := Lib.hid hbi
      have HB2 := Lib.hid hbe
      have HB12 := Lib.hid (HB1.out.trans (hbe.mono HB1.out.size))
      have HBF := Lib.hid (HBE.out.trans (hbe.mono HBE.out.size))
      have HX2 := Lib.hid (HX1.out.later hbe)
      clear hz hbi hbe
      by_cases hlti : i < nt
      rotate_left
      · obtain rfl : nt = i := by omega
        have HZF := Lib.hid (show z = bMach p ts m by
          have h := HZ.out
          rw [List.take_of_length_le (by rw [HNT.out]; exact Nat.le_refl _)] at h
          exact h)
        rw [← HZF.out] at HS
        obtain ⟨z1, z2, z3⟩ := z
        have hbi := HBI.out
        obtain ⟨e1, e2, e3⟩ := hbi
        obtain ⟨f1, f2, f3, f4, f5, f6⟩ := e3
        dsimp only at e1 e2 f1 f2 f3 f4 f5 f6 ⊢
        obtain ⟨hb0, hb1⟩ := HBM.out
        by_cases hs0 : z2 = 0
        · obtain ⟨rfl, rfl⟩ := e1 hs0
          have HV := Lib.hid (show boundTo p ts (m + 1) = bo by
            rw [HS.out]; unfold bPut; dsimp only; rw [if_neg (by omega)])
          clear HS HZF HZ HBI e2
          go_wp2_with fail
          go_roundw
          case rel => exact ⟨m + 1, by omega, by go_num, by rw [HV.out], HB12.out⟩
          case measure => simp [intOf]; omega
        · obtain ⟨g1, g2, g3⟩ := e2 hs0
          have d1 : decide ((0 : Int) ≤ z1) = true := decide_eq_true g2
          have k1 : IntKind.i64.wrap (z1 + z2) = z1 + z2 := IntWalk.i64_in _ (by omega)
          have k2 : IntKind.i64.wrap (z1 + z2 + z3) = z1 + z2 + z3 := IntWalk.i64_in _ (by omega)
          obtain ⟨mx, hmx⟩ : ∃ x, (if z1 + z2 + z3 ≤ bo then bo else z1 + z2 + z3) = x := ⟨_, rfl⟩
          obtain ⟨mx2, hmx2⟩ : ∃ x, (if bo ≤ z1 + z2 + z3 then z1 + z2 + z3 else bo) = x := ⟨_, rfl⟩
          obtain ⟨mx3, hmx3⟩ : ∃ x, (if bo < z1 + z2 + z3 then z1 + z2 + z3 else bo) = x := ⟨_, rfl⟩
          have HV := Lib.hid (show boundTo p ts (m + 1) = mx ∧ mx2 = mx ∧ mx3 = mx ∧ max bo (z1 + z2 + z3) = mx by
            rw [HS.out]; unfold bPut; dsimp only; rw [if_pos (by omega)]
            rw [← hmx, ← hmx2, ← hmx3]
            refine ⟨?_, ?_, ?_, ?_⟩ <;> (try split) <;> (try split) <;> omega)
          clear HS HZF HZ HBI e1 e2 hs0
          go_wp2_with fail
          go_roundw
          case rel => exact ⟨m + 1, by omega, by go_num, by rw [HV.out.1]; first | rfl | rw [HV.out.2.1] | rw [HV.out.2.2.1] | rw [HV.out.2.2.2], HB12.out⟩
          case measure => simp [intOf]; omega
      have hit : i < ts.length := by rw [HNT.out]; exact hlti
      obtain ⟨bu, ou, rfl, hbu, hcu⟩ := HUA.out (by omega)
      obtain ⟨au, cw, hq, hsp⟩ := hcu i hlti
      rw [tkGet hit] at hq hsp
      have HZN := Lib.hid (foldl_snoc (bStep p m) (-1, 0, -1) ts i hit)
      rw [← HZ.out] at HZN
      have hokt := HK.out.t _ (List.getElem_mem hit)
      have hrt := HK.out.r _ (List.getElem_mem hit)
      have hdt := HK.out.d _ (List.getElem_mem hit)
      clear hcu
      generalize ts[i] = t at *
      have HQ3 := Lib.hid hq
      have HSP := Lib.hid hsp
      have HBS := Lib.hid (HBI.out.step HK.out.pk hokt hrt hdt (show m < p.ms.length by rw [HN.out]; exact hlt))
      have HSA := Lib.hid (fun (k : Nat) (hk : k < t.path.length) (hm : t.path[k] = (m : Int)) => bStep_at (p := p) hdt hk hm z)
      have HSN := Lib.hid (fun (h : (m : Int) ∉ t.path) => bStep_not (p := p) h z)
      have HND := Lib.hid hdt
      have HIN := Lib.hid hokt.ins
      have hlp := Nat.le_trans hokt.len HK.out.pk.le
      obtain ⟨hr0, hr1⟩ := hokt.run
      have HBDK := Lib.hid (fun k => tSum_tk HK.out.pk hokt.ins k (Nat.le_trans hokt.len HK.out.pk.le))
      have HBDD := Lib.hid (fun k => show 0 ≤ tSum p (t.path.drop k) ∧ tSum p (t.path.drop k) ≤ 6400000 from by
        have h1 := tSum_bd HK.out.pk (l := t.path.drop k) (fun x hx => hokt.ins x (List.mem_of_mem_drop hx))
        have h2 : (t.path.drop k).length ≤ 64 := by rw [List.length_drop]; omega
        omega)
      obtain ⟨np, hnp⟩ : ∃ n, t.path.length = n := ⟨_, rfl⟩
      have HNP := Lib.hid hnp
      rw [hnp] at HQ3 HSP hlp
      obtain ⟨rt, hrt2⟩ : ∃ r, t.run = r := ⟨_, rfl⟩
      rw [hrt2] at HQ3 HSA hr0 hr1 hrt
      generalize t.grain = gr at *
      clear hq hsp hokt hdt hnp hrt2
      go_wp2_with fail
      generalize wr = W3 at *
      go_loopw [7, 8, 9, 11] (fun h s t' j wr => ∃ (k : Nat) (y : Int × Int × Int), k ≤ np ∧ j = .int .i64 k ∧ h = .int .i64 y.1 ∧ s = .int .i64 y.2.1 ∧ t' = .int .i64 y.2.2 ∧ (((m : Int) ∉ t.path.take k ∧ y = z) ∨ ((m : Int) ∈ t.path.take k ∧ y = bStep p m z t)) ∧ Below W3.heap.size W3 wr) (fun _ _ _ j _ => np - (intOf j).toNat)
      case atStart => exact ⟨0, z, by omega, rfl, rfl, rfl, rfl, .inl ⟨by simp, rfl⟩, Below.refl _ _⟩
      case round =>
        obtain ⟨k, y, hk, rfl, rfl, rfl, rfl, hy, hbe⟩ := hrel
        have HY := Lib.hid hy
        have HB3 := Lib.hid hbe
        have HB23 := Lib.hid (HB2.out.trans (hbe.mono HB2.out.size))
        have HBG := Lib.hid (HBF.out.trans (hbe.mono HBF.out.size))
        have HX3 := Lib.hid (HX2.out.later hbe)
        clear hy hbe
        obtain ⟨q0, q1, q2⟩ := (HQ3.out.below HBG.out hbu).c3
        have hbuz : bu < wr.heap.size := Nat.lt_of_lt_of_le hbu HBG.out.size
        obtain ⟨x0, x1, xf, xz⟩ := HX3.out.v2
        by_cases hltk : k < np
        rotate_left
        · obtain rfl : np = k := by omega
          have HYF := Lib.hid (show y = bStep p m z t by
            rcases HY.out with ⟨h1, h2⟩ | ⟨_, h2⟩
            · rw [List.take_of_length_le (by rw [HNP.out]; exact Nat.le_refl _)] at h1
              rw [h2, HSN.out h1]
            · exact h2)
          go_wp2_with fail
          go_roundw
          case rel => exact ⟨i + 1, y, by omega, by go_num, rfl, rfl, rfl, by rw [HZN.out]; exact HYF.out, by rw [HYF.out]; exact HBS.out, HB23.out⟩
          case measure => simp [intOf]; omega
        have hkp : k < t.path.length := by rw [HNP.out]; exact hltk
        obtain ⟨au', cw', e5, hlw, hAu⟩ := id HSP.out
        rw [HNP.out] at e5 hlw
        cases e5
        obtain ⟨ba, oa, rfl, hba, hca⟩ := hAu (by rw [HNP.out]; omega)
        have l0 := ((hca k hkp).below HBG.out hba).c1
        rw [Nat.mul_one] at l0
        have hbaz : ba < wr.heap.size := Nat.lt_of_lt_of_le hba HBG.out.size
        have HTK := Lib.hid (take_snoc t.path k hkp)
        have hxi := HIN.out _ (List.getElem_mem hkp)
        have HSAK := Lib.hid (fun hm => HSA.out k hkp hm)
        have HNDK := Lib.hid (fun (h : t.path[k] = (m : Int)) => show (m : Int) ∉ t.path.take k ∧ (m : Int) ∈ t.path from ⟨fun hm => by
          obtain ⟨j, hj, e⟩ := List.mem_take_iff_getElem.1 hm
          rw [← h] at e
          have := List.pairwise_iff_getElem.1 (List.nodup_iff_pairwise_ne.1 HND.out) j k (by omega) hkp (by omega)
          exact this e, by rw [← h]; exact List.getElem_mem _⟩)
        clear hca hAu
        generalize t.path[k]'hkp = xi at *
        obtain ⟨x, rfl, hxn⟩ := inN_nat hxi
        clear hxi
        by_cases hxm : x = m
        rotate_left
        · have d5 : ((x : Int) != (m : Int)) = true := by simp; omega
          have HY2 : Hid (((m : Int) ∉ t.path.take (k + 1) ∧ y = z) ∨ ((m : Int) ∈ t.path.take (k + 1) ∧ y = bStep p m z t)) := Lib.hid (by
            rcases HY.out with ⟨h1, h2⟩ | h2
            · refine .inl ⟨?_, h2⟩
              rw [HTK.out]
              simp only [List.mem_append, List.mem_singleton]
              rintro (h | h)
              · exact h1 h
              · omega
            · exact .inr ⟨by rw [HTK.out]; exact List.mem_append_left _ h2.1, h2.2⟩)
          go_wp2_with fail
          go_roundw
          case rel => exact ⟨k + 1, y, by omega, by go_num, rfl, rfl, rfl, HY2.out, HB3.out⟩
          case measure => simp [intOf]; omega
        subst hxm
        have d5 : ((x : Int) != (x : Int)) = false := by simp
        obtain ⟨hn1, hn2⟩ := HNDK.out rfl
        obtain rfl : y = z := by
          rcases HY.out with ⟨_, h2⟩ | ⟨h1, _⟩
          · exact h2
          · exact absurd h1 hn1
        have HSV := Lib.hid (HSAK.out rfl)
        have HMT := Lib.hid (show (x : Int) ∈ t.path.take (k + 1) by rw [HTK.out]; simp)
        have HSPr := Lib.hid (HSP.out.later HBG.out)
        have KA := Lib.hid (fun (X : Later wr) => C23.out X.w (HBG.out.trans (X.h.mono HBG.out.size)) _ (t.path.take k) ((HSPr.out.take k (by rw [HNP.out]; omega)).later X.h) (fun x hx => by have := HIN.out x (List.mem_of_mem_take hx); rwa [HN.out] at this))
        have KD := Lib.hid (fun (X : Later wr) => C23.out X.w (HBG.out.trans (X.h.mono HBG.out.size)) _ (t.path.drop (k + 1)) ((HSPr.out.dropI k hltk hbaz).later X.h) (fun x hx => by have := HIN.out x (List.mem_of_mem_drop hx); rwa [HN.out] at this))
        obtain ⟨hsa0, hsa1⟩ := HBDK.out k
        obtain ⟨hsd0, hsd1⟩ := HBDD.out (k + 1)
        obtain ⟨sa, hsa⟩ : ∃ x, tSum p (t.path.take k) = x := ⟨_, rfl⟩
        obtain ⟨sd, hsd⟩ : ∃ x, tSum p (t.path.drop (k + 1)) = x := ⟨_, rfl⟩
        rw [hsa] at KA HSV hsa0 hsa1
        rw [hsd] at KD HSV hsd0 hsd1
        obtain ⟨ht20, ht21⟩ := HTB.out x hlt
        obtain ⟨tm, htm⟩ : ∃ x', tAt p (x : Int) = x' := ⟨_, rfl⟩
        rw [htm] at HSV ht20 ht21
        have HTM := Lib.hid htm
        have w3 : IntKind.i64.wrap ((k : Int) + 1) = ((k + 1 : Nat) : Int) := by rw [IntWalk.i64_in _ (by omega)]; omega
        have h3 : ((k + 1 : Nat) : Int) ≤ (np : Int) := by omega
        have h5 : (k : Int) ≤ (np : Int) := by omega
        have h6 : (np : Int) ≤ (cw : Int) := by omega
        have h7 : k + 1 ≤ cw := by omega
        have h8 : k ≤ cw := by omega
        clear hsa hsd htm hn1 hn2
        go_wp2_with fail
        refine wp_region_later (by kernel_rfl) (by kernel_rfl) ?_
        repeat go_big_quiet_step (fail)
        go_big_quiet_step ((go_at_call 23; exact Calls.later (KA.out _)))
        repeat go_big_quiet_step (fail)
        go_big_quiet_step ((go_at_call 23; exact Calls.later (KD.out _)))
        repeat go_big_quiet_step (fail)
        refine wpQuiet_nil ?_
        rintro w5 ⟨⟨_, hb5⟩, rfl⟩
        generalize (if cw = k + 1 then some (⟨ba, oa, none⟩ : Addr) else some ⟨ba, oa + (k + 1), none⟩) = qa at *
        have HB35 := Lib.hid (HB3.out.trans (hb5.mono HB3.out.size))
        have HBG5 := Lib.hid (HBG.out.trans (hb5.mono HBG.out.size))
        have HX5 := Lib.hid (HX3.out.later hb5)
        clear hb5 q0 q1 q2 hbuz x0 x1 xf xz l0 hbaz
        obtain ⟨q0, q1, q2⟩ := (HQ3.out.below HBG5.out hbu).c3
        have hbuz : bu < w5.heap.size := Nat.lt_of_lt_of_le hbu HBG5.out.size
        obtain ⟨x0, x1, xf, xz⟩ := HX5.out.v2
        have t0 := HCM.out x hlt w5 HBG5.out
        rw [HTM.out] at t0
        have hb1z : b1 < w5.heap.size := Nat.lt_of_lt_of_le hbb1 HBG5.out.size
        have hxn' : (x : Int) < (n : Int) := by omega
        obtain ⟨z1, z2, z3⟩ := y
        obtain ⟨e1, e2, e3⟩ := HBI.out
        obtain ⟨f1, f2, f3, f4, f5, f6⟩ := e3
        dsimp only at e1 e2 f1 f2 f3 f4 f5 f6 HSV ⊢
        have k1 : IntKind.i64.wrap (z2 + rt) = z2 + rt := IntWalk.i64_in _ (by omega)
        have k2 : IntKind.i64.wrap (z2 + rt + tm) = z2 + rt + tm := IntWalk.i64_in _ (by omega)
        have HE := Lib.hid (show ∀ a b : Int, (a = if z2 = 0 ∨ sa < z1 then sa else z1) → (b = if z2 = 0 ∨ sd < z3 then sd else z3) → (a, z2 + rt + tm, b) = bStep p x (z1, z2, z3) t from fun a b ha hb => by rw [HSV.out, ha, hb, show z2 + rt + tm = z2 + (rt + tm) by omega])
        have hz12 : z1 < 0 ↔ z2 = 0 := ⟨fun h => Classical.byContradiction fun h0 => by have := (e2 h0).2.1; omega, fun h => by have := (e1 h).1; omega⟩
        have hz32 : z3 < 0 ↔ z2 = 0 := ⟨fun h => Classical.byContradiction fun h0 => by have := (e2 h0).2.2; omega, fun h => by have := (e1 h).2; omega⟩
        have HZ12 := Lib.hid hz12
        have HZ32 := Lib.hid hz32
        clear e1 e2 hz12 hz32
        by_cases ha : z1 < 0
        · have d1 : decide (z1 < 0) = true := decide_eq_true ha
          by_cases hc : z3 < 0
          · have u1 : decide (z3 < 0) = true := decide_eq_true hc
            go_wp2_with fail
            refine wp_region_later (by kernel_rfl) (by kernel_rfl) ?_
            repeat go_big_quiet_step (fail)
            refine wpQuiet_nil ?_
            rintro w6 ⟨⟨_, hb6⟩, rfl⟩
            have HB36 := Lib.hid (HB35.out.trans (hb6.mono HB35.out.size))
            clear hb6
            go_wp2_with fail
            go_roundw
            case rel => exact ⟨k + 1, (sa, z2 + rt + tm, sd), by omega, by go_num, rfl, rfl, rfl, .inr ⟨HMT.out, HE.out _ _ (by have := HZ12.out; split <;> omega) (by have := HZ32.out; split <;> omega)⟩, HB36.out⟩
            case measure => simp [intOf]; omega
          have u1 : decide (z3 < 0) = false := decide_eq_false hc
          by_cases hd : sd < z3
          · have u2 : decide (sd < z3) = true := decide_eq_true hd
            go_wp2_with fail
            refine wp_region_later (by kernel_rfl) (by kernel_rfl) ?_
            repeat go_big_quiet_step (fail)
            refine wpQuiet_nil ?_
            rintro w6 ⟨⟨_, hb6⟩, rfl⟩
            have HB36 := Lib.hid (HB35.out.trans (hb6.mono HB35.out.size))
            clear hb6
            go_wp2_with fail
            go_roundw
            case rel => exact ⟨k + 1, (sa, z2 + rt + tm, sd), by omega, by go_num, rfl, rfl, rfl, .inr ⟨HMT.out, HE.out _ _ (by have := HZ12.out; split <;> omega) (by have := HZ32.out; split <;> omega)⟩, HB36.out⟩
            case measure => simp [intOf]; omega
          have u2 : decide (sd < z3) = false := decide_eq_false hd
          go_wp2_with fail
          refine wp_region_later (by kernel_rfl) (by kernel_rfl) ?_
          repeat go_big_quiet_step (fail)
          refine wpQuiet_nil ?_
          rintro w6 ⟨⟨_, hb6⟩, rfl⟩
          have HB36 := Lib.hid (HB35.out.trans (hb6.mono HB35.out.size))
          clear hb6
          go_wp2_with fail
          go_roundw
          case rel => exact ⟨k + 1, (sa, z2 + rt + tm, z3), by omega, by go_num, rfl, rfl, rfl, .inr ⟨HMT.out, HE.out _ _ (by have := HZ12.out; split <;> omega) (by have := HZ32.out; split <;> omega)⟩, HB36.out⟩
          case measure => simp [intOf]; omega
        have d1 : decide (z1 < 0) = false := decide_eq_false ha
        by_cases hb : sa < z1
        · have d2 : decide (sa < z1) = true := decide_eq_true hb
          by_cases hc : z3 < 0
          · have u1 : decide (z3 < 0) = true := decide_eq_true hc
            go_wp2_with fail
            refine wp_region_later (by kernel_rfl) (by kernel_rfl) ?_
            repeat go_big_quiet_step (fail)
            refine wpQuiet_nil ?_
            rintro w6 ⟨⟨_, hb6⟩, rfl⟩
            have HB36 := Lib.hid (HB35.out.trans (hb6.mono HB35.out.size))
            clear hb6
            go_wp2_with fail
            go_roundw
            case rel => exact ⟨k + 1, (sa, z2 + rt + tm, sd), by omega, by go_num, rfl, rfl, rfl, .inr ⟨HMT.out, HE.out _ _ (by have := HZ12.out; split <;> omega) (by have := HZ32.out; split <;> omega)⟩, HB36.out⟩
            case measure => simp [intOf]; omega
          have u1 : decide (z3 < 0) = false := decide_eq_false hc
          by_cases hd : sd < z3
          · have u2 : decide (sd < z3) = true := decide_eq_true hd
            go_wp2_with fail
            refine wp_region_later (by kernel_rfl) (by kernel_rfl) ?_
            repeat go_big_quiet_step (fail)
            refine wpQuiet_nil ?_
            rintro w6 ⟨⟨_, hb6⟩, rfl⟩
            have HB36 := Lib.hid (HB35.out.trans (hb6.mono HB35.out.size))
            clear hb6
            go_wp2_with fail
            go_roundw
            case rel => exact ⟨k + 1, (sa, z2 + rt + tm, sd), by omega, by go_num, rfl, rfl, rfl, .inr ⟨HMT.out, HE.out _ _ (by have := HZ12.out; split <;> omega) (by have := HZ32.out; split <;> omega)⟩, HB36.out⟩
            case measure => simp [intOf]; omega
          have u2 : decide (sd < z3) = false := decide_eq_false hd
          go_wp2_with fail
          refine wp_region_later (by kernel_rfl) (by kernel_rfl) ?_
          repeat go_big_quiet_step (fail)
          refine wpQuiet_nil ?_
          rintro w6 ⟨⟨_, hb6⟩, rfl⟩
          have HB36 := Lib.hid (HB35.out.trans (hb6.mono HB35.out.size))
          clear hb6
          go_wp2_with fail
          go_roundw
          case rel => exact ⟨k + 1, (sa, z2 + rt + tm, z3), by omega, by go_num, rfl, rfl, rfl, .inr ⟨HMT.out, HE.out _ _ (by have := HZ12.out; split <;> omega) (by have := HZ32.out; split <;> omega)⟩, HB36.out⟩
          case measure => simp [intOf]; omega
        have d2 : decide (sa < z1) = false := decide_eq_false hb
        by_cases hc : z3 < 0
        · have u1 : decide (z3 < 0) = true := decide_eq_true hc
          go_wp2_with fail
          refine wp_region_later (by kernel_rfl) (by kernel_rfl) ?_
          repeat go_big_quiet_step (fail)
          refine wpQuiet_nil ?_
          rintro w6 ⟨⟨_, hb6⟩, rfl⟩
          have HB36 := Lib.hid (HB35.out.trans (hb6.mono HB35.out.size))
          clear hb6
          go_wp2_with fail
          go_roundw
          case rel => exact ⟨k + 1, (z1, z2 + rt + tm, sd), by omega, by go_num, rfl, rfl, rfl, .inr ⟨HMT.out, HE.out _ _ (by have := HZ12.out; split <;> omega) (by have := HZ32.out; split <;> omega)⟩, HB36.out⟩
          case measure => simp [intOf]; omega
        have u1 : decide (z3 < 0) = false := decide_eq_false hc
        by_cases hd : sd < z3
        · have u2 : decide (sd < z3) = true := decide_eq_true hd
          go_wp2_with fail
          refine wp_region_later (by kernel_rfl) (by kernel_rfl) ?_
          repeat go_big_quiet_step (fail)
          refine wpQuiet_nil ?_
          rintro w6 ⟨⟨_, hb6⟩, rfl⟩
          have HB36 := Lib.hid (HB35.out.trans (hb6.mono HB35.out.size))
          clear hb6
          go_wp2_with fail
          go_roundw
          case rel => exact ⟨k + 1, (z1, z2 + rt + tm, sd), by omega, by go_num, rfl, rfl, rfl, .inr ⟨HMT.out, HE.out _ _ (by have := HZ12.out; split <;> omega) (by have := HZ32.out; split <;> omega)⟩, HB36.out⟩
          case measure => simp [intOf]; omega
        have u2 : decide (sd < z3) = false := decide_eq_false hd
        go_wp2_with fail
        refine wp_region_later (by kernel_rfl) (by kernel_rfl) ?_
        repeat go_big_quiet_step (fail)
        refine wpQuiet_nil ?_
        rintro w6 ⟨⟨_, hb6⟩, rfl⟩
        have HB36 := Lib.hid (HB35.out.trans (hb6.mono HB35.out.size))
        clear hb6
        go_wp2_with fail
        go_roundw
        case rel => exact ⟨k + 1, (z1, z2 + rt + tm, z3), by omega, by go_num, rfl, rfl, rfl, .inr ⟨HMT.out, HE.out _ _ (by have := HZ12.out; split <;> omega) (by have := HZ32.out; split <;> omega)⟩, HB36.out⟩
        case measure => simp [intOf]; omega
end Go.Proofs.YtahpdkkpnkhnhaaGreatDoor
/- Walks: Ordered. -/
namespace Go.Proofs.YtahpdkkpnkhnhaaGreatDoor
open Go Go.Proofs Go.RowKit Go.Shelf
structure TkH where
  a : Option Addr
  c : Nat
  t : Tk
def TkH.enc (h : TkH) : List Value := [.slice h.a h.t.path.length h.c, .string h.t.grain, .int .i64 h.t.run]
theorem TkH.enc_len (h : TkH) : h.enc.length = 3 := rfl
theorem TkH.enc_one (h : TkH) : ∀ u ∈ h.enc, u.oneCell' = true := by
  intro u hu
  simp [TkH.enc] at hu
  rcases hu with rfl | rfl | rfl <;> rfl
def th0 : TkH := ⟨none, 0, tk0⟩
def HeadsR (w : World) (B : Nat) (L : List TkH) : Prop := ∀ h ∈ L, Sl encI 1 w B (.slice h.a h.t.path.length h.c) h.t.path
theorem HeadsR.later {w w' : World} {L : List TkH} (h : HeadsR w w.heap.size L) (hb : Below w.heap.size w w') : HeadsR w' w'.heap.size L := fun x hx => (h x hx).later hb
theorem infoTk : (Tryz.prog.info? 114).map (fun i => (i.zero, i.size, i.bytes)) = some (some (.agg #[.slice none 0 0, .string ⟨#[]⟩, .int .i64 0]), 3, 48) := by kernel_rfl
theorem TasksR.heads {w : World} {B : Nat} {v : Value} {ts : List Tk} (h : TasksR w B v ts) : ∃ L : List TkH, L.map TkH.t = ts ∧ Sl TkH.enc 3 w B v L ∧ HeadsR w B L := by
  obtain ⟨a, c, rfl, hl, hA⟩ := h
  by_cases h0 : 0 < ts.length
  rotate_left
  · have : ts = [] := List.eq_nil_of_length_eq_zero (by omega)
    subst this
    exact ⟨[], rfl, ⟨a, c, rfl, hl, fun h => absurd h (by simp)⟩, fun x hx => by cases hx⟩
  obtain ⟨b, off, rfl, hb, hc⟩ := hA h0
  have hch : ∃ g : Nat → TkH, ∀ i (h : i < ts.length), (g i).t = ts[i] ∧ At w b (off + i * 3) (g i).enc ∧ Sl encI 1 w B (.slice (g i).a (g i).t.path.length (g i).c) (g i).t.path := by
    refine ⟨fun i => if h : i < ts.length then ⟨Classical.choose (hc i h), Classical.choose (Classical.choose_spec (hc i h)), ts[i]⟩ else th0, fun i h => ?_⟩
    simp only [dif_pos h]
    have := Classical.choose_spec (Classical.choose_spec (hc i h))
    exact ⟨by first | trivial | rfl, this.1, this.2⟩
  obtain ⟨g, hg⟩ := hch
  have hlen : ((List.range ts.length).map g).length = ts.length := by simp
  refine ⟨(List.range ts.length).map g, ?_, ⟨some ⟨b, off, none⟩, c, by rw [hlen], by rw [hlen]; exact hl, fun _ => ⟨b, off, rfl, hb, fun i hi => ?_⟩⟩, fun x hx => ?_⟩
  · refine List.ext_getElem (by simp) fun i h1 h2 => ?_
    simp only [List.map_map, List.getElem_map, List.getElem_range, Function.comp]
    exact (hg i h2).1
  · rw [hlen] at hi
    rw [List.getElem_map, List.getElem_range]
    exact (hg i hi).2.1
  · obtain ⟨i, hi, rfl⟩ := List.mem_map.1 hx
    exact (hg i (List.mem_range.1 hi)).2.2
theorem heads_tasks {w : World} {B : Nat} {v : Value} {L : List TkH} (h : Sl TkH.enc 3 w B v L) (hr : HeadsR w B L) : TasksR w B v (L.map TkH.t) := by
  obtain ⟨a, c, rfl, hl, hA⟩ := h
  refine ⟨a, c, by rw [List.length_map], by rw [List.length_map]; exact hl, fun h0 => ?_⟩
  rw [List.length_map] at h0
  obtain ⟨b, off, rfl, hb, hc⟩ := hA h0
  refine ⟨b, off, rfl, hb, fun i hi => ?_⟩
  rw [List.getElem_map]
  rw [List.length_map] at hi
  exact ⟨(L[i]).a, (L[i]).c, hc i hi, hr _ (List.getElem_mem hi)⟩
def ordH (L : List TkH) (o : List Int) : List TkH := o.map fun k => L.getD k.toNat th0
theorem ordH_map (L : List TkH) (o : List Int) : (ordH L o).map TkH.t = ordT (L.map TkH.t) o := by
  unfold ordH ordT
  rw [List.map_map]
  refine List.map_congr_left fun k _ => ?_
  show (L.getD k.toNat th0).t = (L.map TkH.t).getD k.toNat tk0
  rw [List.getD_eq_getElem?_getD, List.getD_eq_getElem?_getD, List.getElem?_map]
  cases L[k.toNat]? <;> rfl
theorem ordH_mem {L : List TkH} {o : List Int} (h : ∀ x ∈ o, 0 ≤ x ∧ x < L.length) : ∀ t ∈ ordH L o, t ∈ L := by
  intro t ht
  obtain ⟨k, hk, rfl⟩ := List.mem_map.1 ht
  have := h k hk
  rw [List.getD_eq_getElem?_getD, List.getElem?_eq_getElem (by omega)]
  exact List.getElem_mem _
theorem ordH_take (L : List TkH) (o : List Int) (k : Nat) (h : k < o.length) (j : Nat) (hj : o[k] = (j : Int)) (hl : j < L.length) : ordH L (o.take (k + 1)) = ordH L (o.take k) ++ [L[j]] := by
  unfold ordH
  rw [List.take_add_one, List.getElem?_eq_getElem h, List.map_append]
  simp only [Option.toList, List.map_cons, List.map_nil, hj, Int.toNat_natCast]
  rw [List.getD_eq_getElem?_getD, List.getElem?_eq_getElem hl, Option.getD_some]
def OrdPost (w : World) (ts : List Tk) (o : List Int) (e : Ending) (w' : World) : Prop := ∃ v, e = .returned v ∧ TasksR w' w'.heap.size v (ordT ts o) ∧ Below w.heap.size w w'
set_option maxRecDepth 100000 in
set_option maxHeartbeats 1000000 in
theorem ordered76 (w : World) (v s : Value) (ts : List Tk) (o : List Int) (hv : TasksR w w.heap.size v ts) (hs : Sl encI 1 w w.heap.size s o) (hin : ∀ x ∈ o, 0 ≤ x ∧ x < ts.length) (hl : o.length ≤ 1000) :
    Calls Tryz.prog 76 #[v, s] w (OrdPost w ts o) := by
  obtain ⟨LH, rfl, hsl, hhr⟩ := hv.heads
  rw [List.length_map] at hin
  obtain ⟨Q, hQ⟩ : ∃ Q, OrdPost w (LH.map TkH.t) o = Q := ⟨_, rfl⟩
  rw [hQ]
  have HQ : Hid (∀ (v : Value) (w' : World), Own TkH.enc 3 114 w' w.heap.size v (ordH LH o) → Below w.heap.size w w' → Q (.returned v) w') := Lib.hid (fun v w' h1 h2 => by
    rw [← hQ]
    have := heads_tasks (h1.toSl TkH.enc_len (by unfold ordH; rw [List.length_map]; omega)) (L := ordH LH o) (fun h hh => (hhr h (ordH_mem hin h hh)).later h2)
    rw [ordH_map] at this
    exact ⟨v, rfl, this, h2⟩)
  clear hQ hv hhr
  have HIN := Lib.hid hin
  obtain ⟨a1, c1, rfl, hl1, hA1⟩ := hsl
  obtain ⟨a2, c2, rfl, hl2, hA2⟩ := hs
  have HA1 := Lib.hid hA1
  have HA2 := Lib.hid hA2
  clear hA1 hA2 hin
  obtain ⟨n, hn⟩ : ∃ n, LH.length = n := ⟨_, rfl⟩
  obtain ⟨m, hm⟩ : ∃ m, o.length = m := ⟨_, rfl⟩
  rw [hn] at hl1 ⊢
  rw [hm] at hl2 hl ⊢
  have HN := Lib.hid hn
  have HM := Lib.hid hm
  clear hn hm
  have HT : Hid (Tryz.prog.underlying 73 = some (.slice 114)) := Lib.hid Tryz.underlying73
  have HI := Lib.hid infoTk
  go_enter Tryz.func76, Tryz.ntmps76
  go_wp2_with fail
  go_loopw [5, 6] (fun v i wr => ∃ k : Nat, k ≤ m ∧ i = .int .i64 k ∧ Own TkH.enc 3 114 wr w.heap.size v (ordH LH (o.take k)) ∧ Below w.heap.size w wr) (fun _ i _ => m - (intOf i).toNat)
  case atStart => exact ⟨0, by omega, rfl, Own.nil _ _ _ _ _, Below.refl _ _⟩
  case round =>
    obtain ⟨k, hk, rfl, hown, hbe⟩ := hrel
    have HOV := Lib.hid hown
    have HBE := Lib.hid hbe
    clear hown hbe
    by_cases hlt : k < m
    rotate_left
    · obtain rfl : m = k := by omega
      have HOF := Lib.hid (show Own TkH.enc 3 114 wr w.heap.size _ (ordH LH o) from by
        have h := HOV.out
        rw [List.take_of_length_le (by rw [HM.out]; omega)] at h
        exact h)
      go_wp2_with fail
      exact HQ.out _ _ HOF.out HBE.out
    have hkl : k < o.length := by rw [HM.out]; exact hlt
    obtain ⟨b2, o2, rfl, hbb2, hc2⟩ := HA2.out (by omega)
    have l0 := ((hc2 k hkl).below HBE.out hbb2).c1
    rw [Nat.mul_one] at l0
    have hb2z : b2 < wr.heap.size := Nat.lt_of_lt_of_le hbb2 HBE.out.size
    obtain ⟨h1, h2⟩ := HIN.out _ (List.getElem_mem hkl)
    obtain ⟨j, hj⟩ : ∃ j : Nat, o[k] = (j : Int) := ⟨o[k].toNat, by omega⟩
    have hjl : j < LH.length := by omega
    have HTK := Lib.hid (ordH_take LH o k hkl j hj hjl)
    rw [hj] at l0
    obtain ⟨b1, o1, rfl, hbb1, hc1⟩ := HA1.out (by omega)
    obtain ⟨q0, q1, q2⟩ := ((hc1 j hjl).below HBE.out hbb1).c3
    have hb1z : b1 < wr.heap.size := Nat.lt_of_lt_of_le hbb1 HBE.out.size
    have HLK : Hid ((ordH LH (o.take k)).length ≤ 1000000) := Lib.hid (by unfold ordH; rw [List.length_map, List.length_take]; omega)
    have hjn : (j : Int) < (n : Int) := by rw [← HN.out]; omega
    clear hc1 hc2 h1 h2 hj
    generalize LH[j] = x at *
    obtain ⟨xa, xc, xt⟩ := x
    dsimp only at q0 q1 q2
    go_wp2_with (at_builtin; refine wpList_push TkH.enc 3 48 73 114 _ HT.out HI.out rfl (by decide) (by decide) TkH.enc_len TkH.enc_one _ (⟨xa, xc, xt⟩ : TkH) w.heap.size wr _ rfl _ HOV.out HBE.out.size HLK.out rfl _ _ rfl rfl rfl ?_; intro v' w' hown' hg'; have HOW := Lib.hid hown'; have HGR := Lib.hid (grown_below HBE.out hg' HBE.out.size (HOV.out.lt') (Nat.le_refl _)); clear hown' hg')
    go_roundw
    case rel => exact ⟨k + 1, by omega, by go_num, by rw [HTK.out]; exact HOW.out, HGR.out⟩
    case measure => simp [intOf]; omega
end Go.Proofs.YtahpdkkpnkhnhaaGreatDoor
/- Plain: times that are improved until they do not change. -/
namespace Go.Proofs.YtahpdkkpnkhnhaaGreatDoor
open Go Go.Proofs Go.RowKit Go.Shelf
def negN (T : List Int) : Nat := T.countP (fun x => decide (x < 0))
structure BfR (p : Pl) (bl : List Int) (to fr : Int) (T : List Int) : Prop where
  len : T.length = p.ms.length
  st : T.getD fr.toNat 0 = tAt p fr
  snd : ∀ x : Nat, x < p.ms.length → 0 ≤ T.getD x 0 → ∃ t, WayT p bl to fr x t ∧ T.getD x 0 = tAt p fr + t - 1
  bd : ∀ x ∈ T, -1 ≤ x ∧ x + 100000 * negN T ≤ 6400000
theorem negN_set : ∀ (T : List Int) (x : Nat) (v : Int), x < T.length → 0 ≤ v → negN (T.set x v) + (if T.getD x 0 < 0 then 1 else 0) = negN T
  | [], x, v, h, _ => by simp at h
  | a :: r, 0, v, _, hv => by
    unfold negN
    simp only [List.set_cons_zero, List.countP_cons, List.getD_cons_zero, decide_eq_true_eq]
    rw [if_neg (by omega)]; omega
  | a :: r, x + 1, v, h, hv => by
    have := negN_set r x v (by simpa using h) hv
    unfold negN at this ⊢
    simp only [List.set_cons_succ, List.countP_cons, List.getD_cons_succ]
    omega
theorem getD_memI {T : List Int} {x : Nat} (h : x < T.length) : T.getD x 0 ∈ T := by
  rw [List.getD_eq_getElem?_getD, List.getElem?_eq_getElem h]; exact List.getElem_mem h
theorem getD_setI (T : List Int) (i x : Nat) (v : Int) (h : i < T.length) : (T.set i v).getD x 0 = if i = x then v else T.getD x 0 := by
  rw [List.getD_eq_getElem?_getD, List.getElem?_set, List.getD_eq_getElem?_getD]
  by_cases e : i = x
  · subst e; simp [h]
  · simp [e]
section
variable {p : Pl} {bl : List Int} {to fr : Int} {T : List Int}
theorem BfR.start (hok : OkP p) (hf : ∃ k : Nat, fr = k ∧ k < p.ms.length) : BfR p bl to fr ((List.replicate p.ms.length (-1)).set fr.toNat (tAt p fr)) := by
  obtain ⟨k, rfl, hk⟩ := hf
  rw [Int.toNat_natCast]
  have ht := hok.times _ (List.getElem_mem hk)
  rw [← tAt_nat hk] at ht
  have hl := hok.le
  have hr : ∀ x : Nat, x < p.ms.length → (List.replicate p.ms.length (-1 : Int)).getD x 0 = -1 := fun x hx => by
    rw [List.getD_eq_getElem?_getD, List.getElem?_replicate, if_pos hx]; rfl
  have hn : negN ((List.replicate p.ms.length (-1 : Int)).set k (tAt p k)) + 1 = p.ms.length := by
    have := negN_set (List.replicate p.ms.length (-1)) k (tAt p k) (by simpa using hk) ht.1
    rw [hr k hk, if_pos (by omega)] at this
    rw [this]; unfold negN
    have hc : (List.replicate p.ms.length (-1 : Int)).countP (fun x => decide (x < 0)) = p.ms.length := by rw [List.countP_replicate]; rfl
    exact hc
  refine ⟨by simp, ?_, fun x hx h0 => ?_, fun x hx => ?_⟩
  · rw [Int.toNat_natCast, getD_setI _ _ _ _ (by simpa using hk), if_pos rfl]
  · rw [getD_setI _ _ _ _ (by simpa using hk)] at h0 ⊢
    by_cases e : k = x
    · subst e
      rw [if_pos rfl]
      exact ⟨1, .start, by omega⟩
    · rw [if_neg e, hr x hx] at h0; omega
  · rcases List.mem_or_eq_of_mem_set hx with h1 | h1
    · have := List.eq_of_mem_replicate h1
      omega
    · omega
def ClsB (p : Pl) (bl : List Int) (to : Int) (T : List Int) (k : Nat) : Prop := ∀ i (h : i < p.arcs.length), i < k → StepR p bl to p.arcs[i].fr p.arcs[i].to → 0 ≤ T.getD p.arcs[i].fr.toNat 0 → 0 ≤ T.getD p.arcs[i].to.toNat 0 ∧ T.getD p.arcs[i].to.toNat 0 ≤ T.getD p.arcs[i].fr.toNat 0 + tAt p p.arcs[i].to
theorem BfR.all (hok : OkP p) (h : BfR p bl to fr T) (hc : ClsB p bl to T p.arcs.length) (hf0 : 0 ≤ tAt p fr) {x t : Int} (hw : WayT p bl to fr x t) : 0 ≤ T.getD x.toNat 0 ∧ T.getD x.toNat 0 ≤ tAt p fr + t - 1 := by
  induction hw with
  | start => rw [h.st]; omega
  | @step m x t _ hs ih =>
    obtain ⟨i, hi, e⟩ := List.mem_iff_getElem.1 hs.1
    have := hc i hi hi
    rw [e] at this
    have := this hs ih.1
    dsimp only at this
    omega
def ShR (p : Pl) (bl : List Int) (fr to v : Int) : Prop :=
  (badR p bl fr to = true → v = -1) ∧ (badR p bl fr to = false → (v = -1 ∧ ∀ t, ¬ WayT p bl to fr to t) ∨ (0 ≤ v ∧ ∃ t, WayT p bl to fr to t ∧ v = tAt p fr + t - 1 ∧ ∀ t', WayT p bl to fr to t' → t ≤ t'))
theorem BfR.done (hok : OkP p) (h : BfR p bl to fr T) (hc : ClsB p bl to T p.arcs.length) (hb : badR p bl fr to = false) (hf : ∃ k : Nat, fr = k ∧ k < p.ms.length) (ht : ∃ k : Nat, to = k ∧ k < p.ms.length) : ShR p bl fr to (T.getD to.toNat 0) := by
  obtain ⟨k, rfl, hk⟩ := hf
  obtain ⟨q, rfl, hq⟩ := ht
  have hlen := h.len
  have hf0 : 0 ≤ tAt p k := by rw [tAt_nat hk]; exact (hok.times _ (List.getElem_mem hk)).1
  refine ⟨fun h1 => by rw [hb] at h1; (cases h1), fun _ => ?_⟩
  rw [Int.toNat_natCast]
  by_cases h0 : 0 ≤ T.getD q 0
  · obtain ⟨t, hw, he⟩ := h.snd q hq h0
    refine .inr ⟨h0, t, hw, he, fun t' hw' => ?_⟩
    have := (h.all hok hc hf0 hw').2
    rw [Int.toNat_natCast] at this
    omega
  · have := (h.bd _ (getD_memI (x := q) (by omega))).1
    refine .inl ⟨by omega, fun t hw => ?_⟩
    have := (h.all hok hc hf0 hw).1
    rw [Int.toNat_natCast] at this
    omega
end
end Go.Proofs.YtahpdkkpnkhnhaaGreatDoor
/- Plain: the search of CheckCut finds a way to a sink exactly if there is one. -/
namespace Go.Proofs.YtahpdkkpnkhnhaaGreatDoor
open Go Go.Proofs Go.RowKit Go.Shelf
def inS (s : List Bool) (m : Int) : Prop := s.getD m.toNat false = true
theorem contains_iff {l : List Int} {x : Int} : l.contains x = true ↔ x ∈ l := by simp
structure SeenR (p : Pl) (cut snk src : List Int) (s s' : List Bool) : Prop where
  len : s'.length = s.length
  le : ∀ x : Int, inS s x → inS s' x
  new : ∀ x : Int, 0 ≤ x → inS s' x → ¬ inS s x → x ∉ snk ∧ ((cvB (kdA p x) = true ∨ x ∈ src) → ∀ y ∈ nextL p x, (cvB (kdA p y) = true ∨ y ∈ snk) → y ∈ cut ∨ inS s' y)
theorem SeenR.refl (p : Pl) (cut snk src : List Int) (s : List Bool) : SeenR p cut snk src s s := ⟨rfl, fun _ h => h, fun _ _ h h' => absurd h h'⟩
theorem SeenR.trans {p : Pl} {cut snk src : List Int} {a b c : List Bool} (h : SeenR p cut snk src a b) (k : SeenR p cut snk src b c) : SeenR p cut snk src a c :=
  ⟨k.len.trans h.len, fun x hx => k.le x (h.le x hx), fun x h0 hx hn => by
    by_cases hb : inS b x
    · obtain ⟨h1, h2⟩ := h.new x h0 hb hn
      refine ⟨h1, fun h3 y hy h4 => ?_⟩
      rcases h2 h3 y hy h4 with h5 | h5
      · exact .inl h5
      · exact .inr (k.le y h5)
    · exact k.new x h0 hx hb⟩
end Go.Proofs.YtahpdkkpnkhnhaaGreatDoor
/- Walks: whether two states are the same, in the reference. -/
namespace Go.Proofs.YtahpdkkpnkhnhaaGreatDoor
open Go Go.Proofs Go.RowKit Go.Shelf
set_option maxRecDepth 100000 in
set_option maxHeartbeats 1000000 in
@[go_sem] theorem eq100 (r1 r2 : Bool) (f1 f2 : Int) (g1 g2 : ByteArray) (w : World) : (Op.equalIn 10000 100 (.agg #[.bool r1, .int .i64 f1, .string g1]) (.agg #[.bool r2, .int .i64 f2, .string g2])).run Tryz.prog w = .ok (r1 == r2 && (f1 == f2 && g1.toList == g2.toList)) w := by
  have u3 := Tryz.underlying3
  have u4 := Tryz.underlying4
  have u9 := Tryz.underlying9
  have a3 := Tryz.isAgg3
  have a4 := Tryz.isAgg4
  have a9 := Tryz.isAgg9
  have z3 := Tryz.sizeOf3
  have z4 := Tryz.sizeOf4
  have z9 := Tryz.sizeOf9
  rw [show (10000 : Nat) = 9999 + 1 from rfl, Op.equalIn]
  simp only [Sem.run_bind, run_underlying Tryz.underlying100, Result.andThen_ok]
  go_simp
  by_cases h1 : r1 = r2 <;> by_cases h2 : f1 = f2 <;> by_cases h3 : g1.toList = g2.toList <;> simp [h1, h2, h3]
end Go.Proofs.YtahpdkkpnkhnhaaGreatDoor
/- Walks: small helpers of the laws on states; whether a machine is fed. -/
namespace Go.Proofs.YtahpdkkpnkhnhaaGreatDoor
open Go Go.Proofs Go.RowKit Go.Shelf
def SlL {α : Type} (f : α → List Value) (sz : Nat) (w : World) (B : Nat) (v : Value) (l : List α) : Prop :=
  ∃ a c, v = .slice a l.length c ∧ (l.length ≤ 9223372036854775807 ∧ l.length ≤ c) ∧ (0 < l.length → ∃ b off, a = some ⟨b, off, none⟩ ∧ b < B ∧
    ∀ i (h : i < l.length), At w b (off + i * sz) (f l[i]))
theorem SlL.later {α : Type} {f : α → List Value} {sz : Nat} {w w' : World} {v : Value} {l : List α} (h : SlL f sz w w.heap.size v l) (hb : Below w.heap.size w w') : SlL f sz w' w'.heap.size v l := by
  obtain ⟨a, c, h1, h2, h3⟩ := h
  refine ⟨a, c, h1, h2, fun h0 => ?_⟩
  obtain ⟨b, off, h4, h5, h6⟩ := h3 h0
  exact ⟨b, off, h4, Nat.lt_of_lt_of_le h5 hb.size, fun i hi => (h6 i hi).below hb h5⟩
end Go.Proofs.YtahpdkkpnkhnhaaGreatDoor
