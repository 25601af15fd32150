/- Lemmas on the way to the law TopOneGrain (part 18): YEd YEe YEf YEg -/
import Derived.Test.YtpafjhjpchdcdaaGreatDoorTopOneGrainP17
import Derived.Laws.Tables
set_option linter.unusedVariables false
set_option linter.unusedSimpArgs false

/- Walks: spread: what can be reached from the source, and by which nodes. -/
namespace Go.Proofs.YtpafjhjpchdcdaaGreatDoor
open Go Go.Proofs Go.RowKit Go.Shelf
def roomV (rm : List Int) (N : Nat) : List Value := rm.map (fun x => .int .i8 x) ++ [.int .i64 N]
theorem roomV_size {rm : List Int} (N : Nat) (hl : rm.length = 16900) : (roomV rm N)[16900]? = some (.int .i64 N) := by
  unfold roomV
  rw [List.getElem?_append_right (by simp [hl])]
  simp [hl]
theorem roomV_get {rm : List Int} (N : Nat) (hl : rm.length = 16900) {i j : Nat} (hi : i < 130) (hj : j < 130) : (roomV rm N)[i * 130 + j]? = some (.int .i8 (matR rm i j)) := by
  have h : i * 130 + j < rm.length := by omega
  unfold roomV matR
  rw [List.getElem?_append_left (by simpa using h), List.getElem?_map, List.getElem?_eq_getElem h, getD_at _ _ h]; rfl
theorem roomV_set {rm : List Int} (N : Nat) (hl : rm.length = 16900) {i j : Nat} (hi : i < 130) (hj : j < 130) (x : Int) : (roomV rm N).set (i * 130 + j) (.int .i8 x) = roomV (rm.set (i * 130 + j) x) N := by
  have h : i * 130 + j < rm.length := by omega
  unfold roomV
  rw [List.set_append_left _ _ (by simpa using h), List.map_set]
structure SpM (w wr : World) (fb N : Nat) (rm : List Int) (gb cb j : Nat) (bf : List Int) (ord : List Nat) (gq : Nat) (vq : Value) : Prop where
  f : Box wr fb 113 (roomV rm N)
  fl : fb < w.heap.size
  b : Own encI 1 3 wr w.heap.size (.slice (some ⟨gb, 0, none⟩) N cb) bf
  q : QuR wr gq vq (ord.drop j)
  ne : gq ≠ gb
  gq0 : w.heap.size ≤ gq
  gb0 : w.heap.size ≤ gb
  bw : Below w.heap.size w wr
  sp : SpR N (matR rm) (N - 2) bf ord
  dn : SpDone N (matR rm) ord j
  jl : j ≤ ord.length
theorem SpM.later {w wr wr' : World} {fb N : Nat} {rm : List Int} {gb cb j : Nat} {bf : List Int} {ord : List Nat} {gq : Nat} {vq : Value} (h : SpM w wr fb N rm gb cb j bf ord gq vq) (hb : Below wr.heap.size wr wr') : SpM w wr' fb N rm gb cb j bf ord gq vq :=
  ⟨h.f.later hb, h.fl, h.b.kept (row := none) ⟨hb.os, hb.tape, hb.output, hb.size, fun k hk _ => hb.block k hk⟩ (.inr (by simp [Value.ownBlock])), h.q.later hb, h.ne, h.gq0, h.gb0, h.bw.trans (hb.mono h.bw.size), h.sp, h.dn, h.jl⟩
theorem SpM.push {w wr w' : World} {fb N : Nat} {rm : List Int} {gb cb j : Nat} {bf : List Int} {ord : List Nat} {gq : Nat} {vq v' : Value} {g' : Nat} (h : SpM w wr fb N rm gb cb j bf ord gq vq) {k cur : Nat} (hk : k < N) (hno : k ∉ ord) (hcur : cur ∈ ord) (hr : 0 < matR rm cur k)
    (hq : QuR w' g' v' (ord.drop j ++ [k])) (hg : ((wr.setCell ⟨gb, k, none⟩ (.int .i64 cur)).alloc (.cells #[.int .i64 k] 3)).grownBy w' (some gq)) (hg' : g' = gq ∨ ((wr.setCell ⟨gb, k, none⟩ (.int .i64 cur)).alloc (.cells #[.int .i64 k] 3)).heap.size ≤ g') :
    SpM w w' fb N rm gb cb j (bf.set k cur) (ord ++ [k]) g' v' := by
  have hfl := h.fl
  have hgb0 := h.gb0
  have hgq0 := h.gq0
  have hsz := h.bw.size
  have hbl := h.sp.len
  have hfz : gb < wr.heap.size := h.b.ltN.2
  have hne := h.ne
  have hS : (wr.setCell ⟨gb, k, none⟩ (.int .i64 cur)).heap.size = wr.heap.size := by simp
  have hO : Own encI 1 3 (wr.setCell ⟨gb, k, none⟩ (.int .i64 cur)) w.heap.size (.slice (some ⟨gb, 0, none⟩) N cb) (bf.set k cur) := by
    have := h.b.setN hbl encI_len k (by rw [hbl]; exact hk) 0 (by omega) (.int .i64 cur) (cur : Int) (by rfl)
    rwa [Nat.mul_one, Nat.add_zero] at this
  have hF : Box (wr.setCell ⟨gb, k, none⟩ (.int .i64 cur)) fb 113 (roomV rm N) := h.f.other _ (by dsimp only; omega)
  have hB : Below w.heap.size w (wr.setCell ⟨gb, k, none⟩ (.int .i64 cur)) := h.bw.setCell (by dsimp only; omega) _
  rw [World.size_alloc, hS] at hg'
  refine ⟨(hF.alloc _).grown hg (by simp; omega), h.fl, (hO.alloc _).kept hg (.inr (by simp [Value.ownBlock]; omega)), ?_, by omega, by omega, h.gb0, (hB.alloc hB.size _).grown hg (by simp; omega) (fun k e => by cases e; omega), h.sp.visit hcur hk hno hr, ?_, by have := h.jl; simp; omega⟩
  · rw [List.drop_append_of_le_length h.jl]; exact hq
  · intro i hi hij x hx hrx
    have hi' : i < ord.length := by have := h.jl; omega
    rw [List.getElem_append_left hi'] at hrx
    exact List.mem_append_left _ (h.dn i hi' hij x hx hrx)
theorem fillI (a : Int) (N k : Nat) (h : k < N) : (List.replicate k a ++ List.replicate (N - k) 0).set k a = List.replicate (k + 1) a ++ List.replicate (N - (k + 1)) 0 := by
  rw [List.set_append_right _ _ (by simp), List.length_replicate, Nat.sub_self, show N - k = (N - (k + 1)) + 1 by omega, List.replicate_succ, List.set_cons_zero, List.replicate_succ', List.append_assoc]
  rfl
theorem drop_get {l : List Nat} {j x : Nat} (h : l[j]? = some x) : l.drop j = x :: l.drop (j + 1) := by
  obtain ⟨hj, e⟩ := List.getElem?_eq_some_iff.1 h
  rw [List.drop_eq_getElem_cons hj, e]
def SpPost (w : World) (N : Nat) (rm : List Int) (e : Ending) (w' : World) : Prop :=
  ∃ g c bf ord, e = .returned (.slice (some ⟨g, 0, none⟩) N c) ∧ Own encI 1 3 w' w.heap.size (.slice (some ⟨g, 0, none⟩) N c) bf ∧ SpR N (matR rm) (N - 2) bf ord ∧ SpDone N (matR rm) ord ord.length ∧ Below w.heap.size w w'
set_option maxRecDepth 100000 in
set_option maxHeartbeats 1000000 in
theorem spread122 (w : World) (fb N : Nat) (rm : List Int) (hl : rm.length = 16900) (hN2 : 2 ≤ N) (hN130 : N ≤ 130) (hf : Box w fb 113 (roomV rm N)) : Calls Tryz.prog 70 #[.pointer (some ⟨fb, 0, none⟩)] w (SpPost w N rm) := by
  obtain ⟨Q, hQ⟩ : ∃ Q, SpPost w N rm = Q := ⟨_, rfl⟩
  rw [hQ]
  have HQ : Hid (∀ g c bf ord w', Own encI 1 3 w' w.heap.size (.slice (some ⟨g, 0, none⟩) N c) bf → SpR N (matR rm) (N - 2) bf ord → SpDone N (matR rm) ord ord.length → Below w.heap.size w w' → Q (.returned (.slice (some ⟨g, 0, none⟩) N c)) w') := Lib.hid (fun g c bf ord w' h1 h2 h3 h4 => by rw [← hQ]; exact ⟨g, c, bf, ord, rfl, h1, h2, h3, h4⟩)
  clear hQ
  have x0 := (hf.cell 16900).trans (roomV_size N hl)
  have xz := hf.lt
  have HF := Lib.hid hf
  have HL := Lib.hid hl
  clear hf hl
  have HW0 := Lib.hid (Below.refl w.heap.size w)
  go_enter Tryz.func70, Tryz.ntmps70
  go_wp2_with (at_make; refine wpList_mk1 encI 0 (.int .i64 0) rfl 34 3 8 Tryz.underlying34 infoI (by rfl) (by omega) w.heap.size _ N (by omega) (by omega) rfl _ _ rfl .i64 .i64 rfl rfl ?_; intro w3 hown hgr; have HO3 := Lib.hid hown; have HG3 := Lib.hid (grown_none_below hgr); clear hown hgr)
  clear x0
  go_loopw [15] (fun i wr => ∃ k : Nat, k ≤ N ∧ i = .int .i64 k ∧ Own encI 1 3 wr w.heap.size (.slice (some ⟨w.heap.size, 0, none⟩) N N) (List.replicate k (-1) ++ List.replicate (N - k) 0) ∧ Box wr fb 113 (roomV rm N) ∧ Below w.heap.size w wr) (fun i _ => N - (intOf i).toNat)
  case atStart => exact ⟨0, by omega, rfl, by simpa using HO3.out, HF.out.later HG3.out, HG3.out⟩
  case round =>
    clear HO3 HG3 HF HW0
    obtain ⟨k, hk, rfl, ho, hf, hb⟩ := hrel
    have HO := Lib.hid ho
    have HF := Lib.hid hf
    have HB := Lib.hid hb
    by_cases hlt : k < N
    · have oz := ho.ltN.2
      have of0 := ho.frozenN (by simp; omega)
      have hat := ho.atN (by simp; omega) encI_len k (by simp; omega)
      have o0 := hat.c1
      rw [Nat.mul_one] at o0
      have HS := Lib.hid (ho.setN (by simp; omega) encI_len k (by simp; omega) 0 (by omega) (.int .i64 (-1)) (-1) (by rfl))
      have HFZ := Lib.hid hf.lt
      clear ho hf hb hat
      go_wp2_with fail
      go_roundw
      case rel => exact ⟨k + 1, by omega, by go_num, by have h := HS.out; rw [fillI (-1) N k hlt, Nat.mul_one, Nat.add_zero] at h; exact h, HF.out.other _ (by have := HB.out.size; have := HFZ.out; dsimp only; omega), HB.out.setCell (by dsimp only; omega) _⟩
      case measure => simp [intOf]; omega
    obtain rfl : N = k := by omega
    obtain ⟨s, hs⟩ : ∃ s, N = s + 2 := ⟨N - 2, by omega⟩
    have k0 : IntKind.i64.wrap ((N : Int) - 2) = (s : Int) := by rw [IntWalk.i64_in _ (by omega)]; omega
    have x0 := (hf.cell 16900).trans (roomV_size N HL.out)
    have xz' := hf.lt
    rw [Nat.sub_self, List.replicate_zero, List.append_nil] at ho
    have oz := ho.ltN.2
    have of0 := ho.frozenN (by simp)
    have o0 := (ho.atN (by simp) encI_len s (by simp; omega)).c1
    rw [Nat.mul_one, List.getElem_replicate] at o0
    have HS := Lib.hid (ho.setN (by simp) encI_len s (by simp; omega) 0 (by omega) (.int .i64 s) (s : Int) (by rfl))
    have hsN : s < N := by omega
    have hsN' : (s : Int) < N := by omega
    have HSS := Lib.hid hs
    clear ho hf hb HO hs
    have HM : Hid (∃ j bf ord gq, SpM w ((wr.setCell ⟨w.heap.size, s, none⟩ (.int .i64 s)).alloc (.cells #[.int .i64 s] 3)) fb N rm w.heap.size N j bf ord gq (.slice (some ⟨wr.heap.size, 0, none⟩) 1 1)) := Lib.hid (by
      have hsz := HB.out.size
      have hO := HS.out
      rw [Nat.mul_one, Nat.add_zero] at hO
      have hB := HB.out.setCell (p := ⟨w.heap.size, s, none⟩) (by dsimp only; omega) (.int .i64 s)
      have hq := QuR.lit (wr.setCell ⟨w.heap.size, s, none⟩ (.int .i64 s)) s
      rw [World.size_setCell] at hq
      exact ⟨0, _, [s], wr.heap.size, (HF.out.other _ (by dsimp only; omega)).alloc _, xz, hO.alloc _, hq, by omega, hsz, Nat.le_refl _, hB.alloc hB.size _, by rw [show N - 2 = s by have := HSS.out; omega]; exact SpR.start _ hsN, fun i hi hij => by omega, by simp⟩)
    clear HS HF HB
    go_wp2_with fail
    go_loopw [6] (fun vq wr => ∃ j bf ord gq, SpM w wr fb N rm w.heap.size N j bf ord gq vq) (fun vq wr => leastN fun m => ∃ j bf ord gq, SpM w wr fb N rm w.heap.size N j bf ord gq vq ∧ N - j = m)
    case atStart => exact HM.out
    case round =>
      clear HM
      obtain ⟨⟨j, bf, ord, gq, hm, hmm⟩, _⟩ := leastN_spec (p := fun m => ∃ j bf ord gq, SpM w wr fb N rm w.heap.size N j bf ord gq _ ∧ N - j = m) (by obtain ⟨j, bf, ord, gq, h⟩ := hrel; exact ⟨_, j, bf, ord, gq, h, rfl⟩)
      have HMM := Lib.hid hmm
      have HM := Lib.hid hm
      clear hmm
      obtain ⟨off, cap, rfl, hcap⟩ := hm.q.form
      obtain ⟨n1, hn1⟩ : ∃ n, (ord.drop j).length = n := ⟨_, rfl⟩
      rw [hn1] at HM HMM hcap ⊢
      have hx0 := (hm.f.cell 16900).trans (roomV_size N HL.out)
      have hxz := hm.f.lt
      by_cases hj : j < ord.length
      rotate_left
      · have h0 : n1 = 0 := by rw [← hn1, List.length_drop]; omega
        subst h0
        have HD : Hid (SpDone N (matR rm) ord ord.length) := Lib.hid (fun i hi _ x hx hr => hm.dn i hi (by omega) x hx hr)
        clear hm hn1
        go_wp2_with fail
        exact HQ.out _ _ _ _ _ HM.out.b HM.out.sp HD.out HM.out.bw
      have h0 : 0 < n1 := by rw [← hn1, List.length_drop]; omega
      obtain ⟨cur, hcur⟩ : ∃ c, ord[j]? = some c := ⟨_, List.getElem?_eq_getElem hj⟩
      have HCM : Hid (cur ∈ ord) := Lib.hid (List.mem_of_getElem? hcur)
      have hcN : cur < N := hm.sp.lt _ HCM.out
      have hjN : j < N := by have := hm.sp.count; omega
      have HCU := Lib.hid hcur
      clear hm hn1 hcur hj hcap
      obtain ⟨U, hU⟩ : ∃ U : World, U = wr := ⟨_, rfl⟩
      subst hU
      go_wp2_with fail
      go_loopw [6, 42] (fun vq i wr => ∃ k : Nat, k ≤ N ∧ i = .int .i64 k ∧ ∃ bf ord gq, SpM w wr fb N rm w.heap.size N j bf ord gq vq ∧ ord[j]? = some cur ∧ ∀ x, x < k → 0 < matR rm cur x → x ∈ ord) (fun _ i _ => N - (intOf i).toNat)
      case atStart => exact ⟨0, by omega, rfl, bf, ord, gq, HM.out, HCU.out, fun x hx => by omega⟩
      case round =>
        clear hx0 hxz HM HCM HCU h0
        obtain ⟨k, hk, rfl, bf2, ord2, g2, hm, hcur, hall⟩ := hrel
        have HM := Lib.hid hm
        have HALL := Lib.hid hall
        have HCU := Lib.hid hcur
        obtain ⟨off2, cap2, rfl, hcap2⟩ := hm.q.form
        have hq := hm.q
        rw [drop_get hcur] at hq hcap2
        rw [show (ord2.drop j).length = (ord2.drop (j + 1)).length + 1 by rw [drop_get hcur]; rfl] at HM hm ⊢
        obtain ⟨n2, hn2⟩ : ∃ n, (ord2.drop (j + 1)).length = n := ⟨_, rfl⟩
        simp only [List.length_cons] at hcap2 hq
        rw [hn2] at HM hm hq hcap2 ⊢
        have HN2 := Lib.hid hn2
        have HQU := Lib.hid hq
        have q0 := hq.head.2.2
        have qz := hq.lt
        clear hn2 hcur hall
        by_cases hlt : k < N
        rotate_left
        · obtain rfl : N = k := by omega
          have HT := Lib.hid hq.tail
          have HD : Hid (SpDone N (matR rm) ord2 (j + 1)) := Lib.hid (by
            intro i hi hij x hx hr
            rcases Nat.lt_succ_iff_lt_or_eq.1 hij with h1 | h1
            · exact HM.out.dn i hi h1 x hx hr
            · subst h1; rw [(List.getElem?_eq_some_iff.1 HCU.out).2] at hr; exact HALL.out x hx hr)
          have HNX : Hid (∀ vq, QuR wr g2 vq (ord2.drop (j + 1)) → SpM w wr fb N rm w.heap.size N (j + 1) bf2 ord2 g2 vq) := Lib.hid (fun vq h => ⟨HM.out.f, HM.out.fl, HM.out.b, h, HM.out.ne, HM.out.gq0, HM.out.gb0, HM.out.bw, HM.out.sp, HD.out, (List.getElem?_eq_some_iff.1 HCU.out).1⟩)
          clear hm hq
          by_cases hc1 : cap2 = 1
          · subst hc1
            have hn0 : n2 = 0 := by omega
            subst hn0
            rw [if_pos rfl, HN2.out] at HT
            go_wp2_with fail
            exact ⟨⟨j + 1, bf2, ord2, g2, HNX.out _ HT.out⟩, leastN_lt (m := N - (j + 1)) ⟨j + 1, bf2, ord2, g2, HNX.out _ HT.out, rfl⟩ (by rw [← HMM.out]; omega)⟩
          · rw [if_neg hc1, HN2.out] at HT
            go_wp2_with fail
            exact ⟨⟨j + 1, bf2, ord2, g2, HNX.out _ HT.out⟩, leastN_lt (m := N - (j + 1)) ⟨j + 1, bf2, ord2, g2, HNX.out _ HT.out, rfl⟩ (by rw [← HMM.out]; omega)⟩
        have hbl := hm.sp.len
        have hcN' : (cur : Int) < 130 := by omega
        have hkN' : (k : Int) < 130 := by omega
        have hr0 := (hm.f.cell (cur * 130 + k)).trans (roomV_get N HL.out (by omega) (by omega))
        have hfz := hm.f.lt
        have hb0 := (hm.b.atN hbl encI_len k (by omega)).c1
        rw [Nat.mul_one, show bf2[k]'(by omega) = bf2.getD k (-1) by rw [List.getD_eq_getElem?_getD, List.getElem?_eq_getElem (by omega)]; rfl] at hb0
        have hbz := hm.b.ltN.2
        have hbf := hm.b.frozenN hbl
        have HMEM := Lib.hid (hm.sp.mem k hlt)
        have HCM : Hid (cur ∈ ord2) := Lib.hid (List.mem_of_getElem? HCU.out)
        have HLAT := Lib.hid (fun nq => hm.later (below_drewN (Below.refl _ _) nq))
        have HCNT := Lib.hid hm.sp.count
        obtain ⟨r, hr⟩ : ∃ r, matR rm cur k = r := ⟨_, rfl⟩
        obtain ⟨bk, hbk⟩ : ∃ b, bf2.getD k (-1) = b := ⟨_, rfl⟩
        rw [hr] at hr0
        rw [hbk] at hb0 HMEM
        have HR := Lib.hid hr
        have h0n : 0 < n2 + 1 := by omega
        clear hm hq hbl hr hbk
        have NEXT : Hid (∀ W' bf3 ord3 g3 vq', SpM w W' fb N rm w.heap.size N j bf3 ord3 g3 vq' → (∀ x ∈ ord2, x ∈ ord3) → ord3[j]? = some cur → (0 < matR rm cur k → k ∈ ord3) → ∃ k', k' ≤ N ∧ (.int .i64 (k + 1) : Value) = .int .i64 (k' : Int) ∧ ∃ bf ord gq, SpM w W' fb N rm w.heap.size N j bf ord gq vq' ∧ ord[j]? = some cur ∧ ∀ x, x < k' → 0 < matR rm cur x → x ∈ ord) := Lib.hid (by
          intro W' bf3 ord3 g3 vq' h1 h2 h3 h4
          refine ⟨k + 1, by omega, by go_num, bf3, ord3, g3, h1, h3, fun x hx hrx => ?_⟩
          rcases Nat.lt_succ_iff_lt_or_eq.1 hx with h | h
          · exact h2 x (HALL.out x h hrx)
          · subst h; exact h4 hrx)
        by_cases hr1 : 0 < r
        rotate_left
        · have k1 : decide (0 < r) = false := decide_eq_false hr1
          have HK1 := Lib.hid hr1
          clear hr1
          go_wp2_with fail
          go_quiet (fail)
          go_wp2_with fail
          exact ⟨NEXT.out _ _ _ _ _ (HLAT.out _) (fun x h => h) HCU.out (fun h => by have := HK1.out; rw [HR.out] at h; omega), by simp [intOf]; omega⟩
        have k1 : decide (0 < r) = true := decide_eq_true hr1
        have HK1 := Lib.hid hr1
        clear hr1
        by_cases hb1 : bk < 0
        rotate_left
        · have k2 : decide (bk < 0) = false := decide_eq_false hb1
          have HK2 := Lib.hid hb1
          clear hb1
          go_wp2_with fail
          go_quiet (fail)
          go_wp2_with fail
          exact ⟨NEXT.out _ _ _ _ _ (HLAT.out _) (fun x h => h) HCU.out (fun _ => HMEM.out.1 (by have := HK2.out; omega)), by simp [intOf]; omega⟩
        have k2 : decide (bk < 0) = true := decide_eq_true hb1
        have HK2 := Lib.hid hb1
        clear hb1
        go_wp2_with fail
        go_quiet (fail)
        have hm2 := HLAT.out nq
        have hq2 := hm2.q
        rw [drop_get HCU.out] at hq2
        have hq3 := hq2.head.2.2
        have hqz := hq2.lt
        have hbl := hm2.sp.len
        have hb3 := (hm2.b.atN hbl encI_len k (by omega)).c1
        rw [Nat.mul_one] at hb3
        generalize bf2[k]'(by omega) = ov at hb3
        have hbz3 := hm2.b.ltN.2
        have hbf3 := hm2.b.frozenN hbl
        have HQA : Hid (QuR (((wr.drewN nq).setCell ⟨w.heap.size, k, none⟩ (.int .i64 cur)).alloc (.cells #[.int .i64 k] 3)) g2 (.slice (some ⟨g2, off2, none⟩) (n2 + 1) cap2) (ord2.drop j)) := Lib.hid ((hm2.q.other _ (by have := hm2.ne; first | omega | (dsimp only; omega))).alloc _)
        have HRW : Hid ((((wr.drewN nq).setCell ⟨w.heap.size, k, none⟩ (.int .i64 cur)).alloc (.cells #[.int .i64 k] 3)).heap[(wr.drewN nq).heap.size]? = some (.cells #[.int .i64 k] 3 (0, 0))) := Lib.hid (row_here (by simp))
        have HLN : Hid ((ord2.drop j).length ≤ 1000000) := Lib.hid (by have := HCNT.out; rw [List.length_drop]; omega)
        have HPU : Hid (∀ v' w' g', QuR w' g' v' (ord2.drop j ++ [k]) → (((wr.drewN nq).setCell ⟨w.heap.size, k, none⟩ (.int .i64 cur)).alloc (.cells #[.int .i64 k] 3)).grownBy w' (some g2) → (g' = g2 ∨ (((wr.drewN nq).setCell ⟨w.heap.size, k, none⟩ (.int .i64 cur)).alloc (.cells #[.int .i64 k] 3)).heap.size ≤ g') → SpM w w' fb N rm w.heap.size N j (bf2.set k cur) (ord2 ++ [k]) g' v') := Lib.hid (fun v' w' g' h1 h2 h3 => hm2.push hlt (fun hh => by have := HMEM.out.2 hh; have := HK2.out; omega) HCM.out (by rw [HR.out]; exact HK1.out) h1 h2 h3)
        clear hm2 hq2 hbl
        go_wp2_with (at_builtin; refine wpList_append_qu Tryz.underlying34 infoI HQA.out HRW.out HLN.out rfl _ _ rfl rfl rfl ?_; intro v' w' g' hq' hg' hgg; have HNW := Lib.hid (HPU.out v' w' g' hq' hg' hgg); clear hq' hg' hgg)
        exact ⟨NEXT.out _ _ _ _ _ HNW.out (fun x h => List.mem_append_left _ h) (by rw [List.getElem?_append_left (List.getElem?_eq_some_iff.1 HCU.out).1]; exact HCU.out) (fun _ => by simp), by simp [intOf]; omega⟩
end Go.Proofs.YtpafjhjpchdcdaaGreatDoor
/- Walks: most: the flow's memory, laid empty. -/
namespace Go.Proofs.YtpafjhjpchdcdaaGreatDoor
open Go Go.Proofs Go.RowKit Go.Shelf
def isZ8 : Value → Bool
  | .int .i8 0 => true
  | _ => false
set_option maxRecDepth 1000000 in
theorem zz_all : (Tryz.zeroCells113.toList.take 16900).all isZ8 = true := by kernel_rfl
set_option maxRecDepth 1000000 in
theorem zz_last : Tryz.zeroCells113.toList[16900]? = some (.int .i64 0) := by kernel_rfl
theorem zz_size : Tryz.zeroCells113.size = 16901 := Tryz.zeroCells113_size
theorem all_z8 : ∀ l : List Value, l.all isZ8 = true → l = List.replicate l.length (.int .i8 0)
  | [], _ => rfl
  | v :: l, h => by
    simp only [List.all_cons, Bool.and_eq_true] at h
    have hv : v = .int .i8 0 := by
      have h1 := h.1
      unfold isZ8 at h1
      split at h1
      · rfl
      · cases h1
    rw [List.length_cons, List.replicate_succ, ← all_z8 l h.2, hv]
theorem zz_list : Tryz.zeroCells113.toList = List.replicate 16900 (.int .i8 0) ++ [.int .i64 0] := by
  have hl : Tryz.zeroCells113.toList.length = 16901 := by rw [Array.length_toList]; exact zz_size
  have h1 := all_z8 _ zz_all
  have h2 := zz_last
  generalize Tryz.zeroCells113.toList = L at *
  rw [List.length_take, hl] at h1
  rw [← List.take_append_drop 16900 L, h1, show min 16900 16901 = 16900 by decide]
  congr 1
  rw [List.drop_eq_getElem_cons (by omega), List.drop_eq_nil_of_le (by omega)]
  rw [List.getElem?_eq_getElem (by omega)] at h2
  rw [Option.some.inj h2]
def zeros16900 : List Int := List.replicate 16900 0
theorem zeros_len : zeros16900.length = 16900 := List.length_replicate
end Go.Proofs.YtpafjhjpchdcdaaGreatDoor
/- Walks: most: the room of the machines, and of the sources and sinks. -/
namespace Go.Proofs.YtpafjhjpchdcdaaGreatDoor
open Go Go.Proofs Go.RowKit Go.Shelf
def fr119 (N : Nat) (s t : Value) (fb src snk : Nat) (z : Nat → Value) : List Value := [z 0, s, t, .pointer (some ⟨N, 0, none⟩), z 4, z 5, z 6, z 7, .pointer (some ⟨fb, 0, none⟩), .int .i64 src, .int .i64 snk, z 11, z 12, z 13, z 14, z 15, z 16, z 17, z 18, z 19, z 20, z 21, z 22, z 23, z 24, z 25, z 26, z 27, z 28, z 29, z 30, z 31, z 32, z 33, z 34, z 35, z 36, z 37, z 38, z 39, z 40, z 41, z 42, z 43, z 44, z 45, z 46, z 47, z 48, z 49, z 50, z 51, z 52, z 53, z 54, z 55, z 56, z 57, z 58, z 59, z 60, z 61, z 62, z 63, z 64, z 65, z 66, z 67, z 68, z 69, z 70, z 71, z 72, z 73, z 74, z 75, z 76, z 77, z 78, z 79, z 80, z 81, z 82, z 83, z 84, z 85, z 86, z 87, z 88, z 89, z 90, z 91, z 92, z 93, z 94, z 95, z 96, z 97, z 98, z 99, z 100, z 101, z 102, z 103, z 104, z 105, z 106, z 107, z 108, z 109, z 110, z 111, z 112, z 113, z 114, z 115, z 116, z 117, z 118, z 119, z 120, z 121, z 122, z 123, z 124, z 125, z 126, z 127, z 128, z 129, z 130, z 131, z 132, z 133, z 134, z 135, z 136, z 137, z 138, z 139, z 140, z 141, z 142, z 143, z 144, z 145, z 146, z 147, z 148, z 149, z 150, z 151, z 152, z 153, z 154, z 155, z 156, z 157, z 158, z 159, z 160, z 161, z 162, z 163, z 164, z 165, z 166, z 167, z 168, z 169, z 170, z 171, z 172, z 173, z 174, z 175, z 176, z 177, z 178, z 179, z 180, z 181, z 182, z 183, z 184, z 185]
theorem fr119_of (N : Nat) (s t : Value) (fb src snk : Nat) (L : List Value) (hL : L.length = 186) (h1 : L[1]? = some (s)) (h2 : L[2]? = some (t)) (h3 : L[3]? = some (.pointer (some ⟨N, 0, none⟩))) (h8 : L[8]? = some (.pointer (some ⟨fb, 0, none⟩))) (h9 : L[9]? = some (.int .i64 src)) (h10 : L[10]? = some (.int .i64 snk)) : ∃ z, L = fr119 N s t fb src snk z := by
  refine ⟨fun i => L.getD i undef, ?_⟩
  unfold fr119
  have e := list_range L 186 hL
  have e1 : L.getD 1 undef = s := by rw [List.getD_eq_getElem?_getD, h1]; rfl
  have e2 : L.getD 2 undef = t := by rw [List.getD_eq_getElem?_getD, h2]; rfl
  have e3 : L.getD 3 undef = .pointer (some ⟨N, 0, none⟩) := by rw [List.getD_eq_getElem?_getD, h3]; rfl
  have e8 : L.getD 8 undef = .pointer (some ⟨fb, 0, none⟩) := by rw [List.getD_eq_getElem?_getD, h8]; rfl
  have e9 : L.getD 9 undef = .int .i64 src := by rw [List.getD_eq_getElem?_getD, h9]; rfl
  have e10 : L.getD 10 undef = .int .i64 snk := by rw [List.getD_eq_getElem?_getD, h10]; rfl
  rw [← e1, ← e2, ← e3, ← e8, ← e9, ← e10]
  exact e
theorem fr119_act (N : Nat) (s t : Value) (fb src snk : Nat) (A : Act) (ds : List Deferred) (hds : A.defers = ds) (hL : A.tmps.size = 186) (h1 : A.tmps[1]? = some (s)) (h2 : A.tmps[2]? = some (t)) (h3 : A.tmps[3]? = some (.pointer (some ⟨N, 0, none⟩))) (h8 : A.tmps[8]? = some (.pointer (some ⟨fb, 0, none⟩))) (h9 : A.tmps[9]? = some (.int .i64 src)) (h10 : A.tmps[10]? = some (.int .i64 snk)) : ∃ z, A = { tmps := (fr119 N s t fb src snk z).toArray, defers := ds } := by
  obtain ⟨z, e⟩ := fr119_of N s t fb src snk A.tmps.toList (by rw [Array.length_toList]; exact hL) (by rw [Array.getElem?_toList]; exact h1) (by rw [Array.getElem?_toList]; exact h2) (by rw [Array.getElem?_toList]; exact h3) (by rw [Array.getElem?_toList]; exact h8) (by rw [Array.getElem?_toList]; exact h9) (by rw [Array.getElem?_toList]; exact h10)
  exact ⟨z, by cases A; subst hds; dsimp only at e ⊢; rw [← e]⟩
noncomputable def c119 : Code := Tryz.f46.body.getD .skip
noncomputable def m1_119 : Code := codeL (codeR (codeR (codeR c119)))
noncomputable def m2_119 : Code := codeL (codeR (codeR (codeR (codeR c119))))
noncomputable def m3_119 : Code := codeL (codeR (codeR (codeR (codeR (codeR c119)))))
noncomputable def m4_119 : Code := codeL (codeR (codeR (codeR (codeR (codeR (codeR c119))))))
structure MoM (w W : World) (fb N : Nat) (v1 v2 : Value) (rm : List Int) : Prop where
  px : Box W w.heap.size 25 [v1, v2]
  fl : Box W fb 113 (roomV rm N)
  len : rm.length = 16900
  fge : w.heap.size < fb
  bw : Below w.heap.size w W
theorem MoM.later {w W W' : World} {fb N : Nat} {v1 v2 : Value} {rm : List Int} (h : MoM w W fb N v1 v2 rm) (hb : Below W.heap.size W W') : MoM w W' fb N v1 v2 rm :=
  ⟨h.px.later hb, h.fl.later hb, h.len, h.fge, h.bw.trans (hb.mono h.bw.size)⟩
theorem MoM.set {w W : World} {fb N : Nat} {v1 v2 : Value} {rm : List Int} (h : MoM w W fb N v1 v2 rm) {i j : Nat} (hi : i < 130) (hj : j < 130) (x : Int) : MoM w (W.setCell ⟨fb, i * 130 + j, none⟩ (.int .i8 x)) fb N v1 v2 (rm.set (i * 130 + j) x) := by
  have := h.fge
  refine ⟨h.px.other _ (by dsimp only; omega), ?_, by rw [List.length_set, h.len], h.fge, h.bw.setCell (by dsimp only; omega) _⟩
  have h2 := h.fl.set (i * 130 + j) (.int .i8 x)
  rwa [roomV_set N h.len hi hj] at h2
theorem ixM_succ (k : Nat) : ixM (k + 1) = ixM k ++ [(2 * k) * 130 + (2 * k + 1)] := by
  unfold ixM; rw [List.range_succ, List.map_append]; rfl
theorem exitN (m e : Nat) (he : 2 * m + 1 = e) (hm : m ≤ 1000) (w : World) : Calls Tryz.prog 68 #[.int .i64 (m : Int)] w fun e' w' => e' = .returned (.int .i64 (e : Int)) ∧ w = w' := by
  refine (exit120 (m : Int) w (by omega)).mono ?_
  rintro e' w' ⟨rfl, rfl⟩
  exact ⟨by rw [← he]; push_cast; rfl, rfl⟩
theorem entryN (m e : Nat) (he : 2 * m = e) (hm : m ≤ 1000) (w : World) : Calls Tryz.prog 67 #[.int .i64 (m : Int)] w fun e' w' => e' = .returned (.int .i64 (e : Int)) ∧ w = w' := by
  refine (entry121 (m : Int) w (by omega)).mono ?_
  rintro e' w' ⟨rfl, rfl⟩
  exact ⟨by rw [← he]; push_cast; rfl, rfl⟩
set_option maxRecDepth 100000 in
set_option maxHeartbeats 1000000 in
theorem m1_walk (w W : World) (fb N src snk : Nat) (s t : Value) (a1 : Option Addr) (n c1 : Nat) (v2 : Value) (rm : List Int) (z : Nat → Value) (hm : MoM w W fb N (.slice a1 n c1) v2 rm) (hn : n ≤ 64) (Q : Exit → Act → World → Prop)
    (hQ : ∀ z' W', MoM w W' fb N (.slice a1 n c1) v2 (setAll 1 (ixM n) rm) → Q .normal { tmps := (fr119 w.heap.size s t fb src snk z').toArray, defers := [] } W') :
    m1_119.wp Tryz.prog Q { tmps := (fr119 w.heap.size s t fb src snk z).toArray, defers := [] } W := by
  have HQ : Hid (∀ A W', (∃ z', A = { tmps := (fr119 w.heap.size s t fb src snk z').toArray, defers := [] }) → MoM w W' fb N (.slice a1 n c1) v2 (setAll 1 (ixM n) rm) → Q .normal A W') := Lib.hid (by rintro A W' ⟨z', rfl⟩ h; exact hQ z' W' h)
  clear hQ
  have HM := Lib.hid hm
  have x0 := hm.px.cell 0
  have xz := hm.px.lt
  simp only [List.getElem?_cons_zero] at x0
  clear hm
  simp only [m1_119, c119, Tryz.f46, Option.getD, codeL, codeR, fr119]
  go_wp2_with fail
  go_loopw [43] (fun i wr => ∃ k : Nat, k ≤ n ∧ i = .int .i64 k ∧ MoM w wr fb N (.slice a1 n c1) v2 (setAll 1 (ixM k) rm)) (fun i _ => n - (intOf i).toNat)
  case atStart => exact ⟨0, by omega, rfl, HM.out⟩
  case round =>
    clear x0 xz HM
    obtain ⟨k, hk, rfl, hm⟩ := hrel
    by_cases hlt : k < n
    rotate_left
    · obtain rfl : n = k := by omega
      have HM := Lib.hid hm
      clear hm
      go_wp2_with fail
      refine HQ.out _ _ ?_ HM.out
      apply fr119_act <;> rfl
    obtain ⟨e1, he1⟩ : ∃ e, 2 * k = e := ⟨_, rfl⟩
    obtain ⟨e2, he2⟩ : ∃ e, 2 * k + 1 = e := ⟨_, rfl⟩
    have HE1 := Lib.hid (fun w => entryN k e1 he1 (by omega) w)
    have HE2 := Lib.hid (fun w => exitN k e2 he2 (by omega) w)
    have HM := Lib.hid hm
    have h1 : (e1 : Int) < 130 := by omega
    have h2 : (e2 : Int) < 130 := by omega
    have HX : Hid ((setAll 1 (ixM k) rm).set (e1 * 130 + e2) 1 = setAll 1 (ixM (k + 1)) rm) := Lib.hid (by rw [ixM_succ, setAll_snoc, ← he2, ← he1])
    have HFX : Hid (∀ W', Below wr.heap.size wr W' → MoM w W' fb N (.slice a1 n c1) v2 (setAll 1 (ixM k) rm)) := Lib.hid (fun W' hb => hm.later hb)
    have HH : Hid (e1 < 130 ∧ e2 < 130) := Lib.hid (by omega)
    have fz := hm.fl.lt
    clear hm he1 he2
    go_wp2_with fail
    refine wp_region_head_later 9 (by kernel_rfl) (by kernel_rfl) ?_
    simp only [List.take_succ_cons, List.take_zero, List.drop_succ_cons, List.drop_zero]
    repeat go_big_quiet_step ((first | (go_at_call 68; exact Calls.later_same (HE2.out _)) | (go_at_call 67; exact Calls.later_same (HE1.out _))))
    refine wpQuiet_nil ?_
    rintro w2 ⟨⟨_, hb2⟩, rfl⟩
    have hm2 := HFX.out _ hb2
    have hc := (hm2.fl.cell (e1 * 130 + e2)).trans (roomV_get N hm2.len HH.out.1 HH.out.2)
    have hf := hm2.fl.frozen
    have hz := hm2.fl.lt
    have HM2 := Lib.hid hm2
    clear hm2
    go_wp2_with fail
    go_roundw
    case rel => exact ⟨k + 1, by omega, by go_num, by have h := HM2.out.set HH.out.1 HH.out.2 1; rw [HX.out] at h; exact h⟩
    case measure => simp [intOf]; omega
end Go.Proofs.YtpafjhjpchdcdaaGreatDoor
/- Walks: most: the room of the sources and of the sinks. -/
namespace Go.Proofs.YtpafjhjpchdcdaaGreatDoor
open Go Go.Proofs Go.RowKit Go.Shelf
set_option maxRecDepth 100000 in
set_option maxHeartbeats 1000000 in
theorem m3_walk (w W : World) (fb N src snk : Nat) (s t : Value) (v1 v2 : Value) (rm l : List Int) (n : Nat) (z : Nat → Value) (hm : MoM w W fb N v1 v2 rm) (hn : n ≤ 64) (hs : Sl encI 1 w w.heap.size s l) (hin : ∀ x ∈ l, inN n x = true) (hk0 : src < 130) (Q : Exit → Act → World → Prop)
    (hQ : ∀ z' W', MoM w W' fb N v1 v2 (setAll 2 (l.map fun m => src * 130 + 2 * m.toNat) rm) → Q .normal { tmps := (fr119 w.heap.size s t fb src snk z').toArray, defers := [] } W') :
    m3_119.wp Tryz.prog Q { tmps := (fr119 w.heap.size s t fb src snk z).toArray, defers := [] } W := by
  have HQ : Hid (∀ A W', (∃ z', A = { tmps := (fr119 w.heap.size s t fb src snk z').toArray, defers := [] }) → MoM w W' fb N v1 v2 (setAll 2 (l.map fun m => src * 130 + 2 * m.toNat) rm) → Q .normal A W') := Lib.hid (by rintro A W' ⟨z', rfl⟩ h; exact hQ z' W' h)
  clear hQ
  have HM := Lib.hid hm
  have HIN := Lib.hid hin
  obtain ⟨sa, cs, rfl, ⟨hlen, _⟩, hA⟩ := hs
  have HA := Lib.hid hA
  obtain ⟨ns, hns⟩ : ∃ n, l.length = n := ⟨_, rfl⟩
  have HNS := Lib.hid hns
  rw [hns] at HQ hlen ⊢
  clear hm hin hA hns
  simp only [m3_119, c119, Tryz.f46, Option.getD, codeL, codeR, fr119]
  go_wp2_with fail
  go_loopw [107] (fun i wr => ∃ k : Nat, k ≤ ns ∧ i = .int .i64 k ∧ MoM w wr fb N v1 v2 (setAll 2 ((l.take k).map fun m => src * 130 + 2 * m.toNat) rm)) (fun i _ => ns - (intOf i).toNat)
  case atStart => exact ⟨0, by omega, rfl, by simpa [setAll] using HM.out⟩
  case round =>
    clear HM
    obtain ⟨k, hk, rfl, hm⟩ := hrel
    by_cases hlt : k < ns
    rotate_left
    · obtain rfl : ns = k := by omega
      have HM := Lib.hid hm
      clear hm
      go_wp2_with fail
      refine HQ.out _ _ ?_ (by have h := HM.out; rw [← HNS.out, List.take_length] at h; exact h)
      apply fr119_act <;> rfl
    have hkl : k < l.length := by rw [HNS.out]; exact hlt
    obtain ⟨b, off, rfl, hbb, hcells⟩ := HA.out (by omega)
    have c0 := ((hcells k hkl).below hm.bw hbb).c1
    rw [Nat.mul_one] at c0
    have hbz : b < wr.heap.size := Nat.lt_of_lt_of_le hbb hm.bw.size
    obtain ⟨m, hmx, hmn⟩ := inN_nat (HIN.out _ (List.getElem_mem hkl))
    have HT : Hid (setAll 2 ((l.take (k + 1)).map fun m => src * 130 + 2 * m.toNat) rm = (setAll 2 ((l.take k).map fun m => src * 130 + 2 * m.toNat) rm).set (src * 130 + 2 * m) 2) := Lib.hid (by
      rw [take_snoc l k hkl, List.map_append, List.map_singleton, setAll_snoc, hmx, Int.toNat_natCast])
    rw [hmx] at c0
    obtain ⟨e1, he1⟩ : ∃ e, 2 * m = e := ⟨_, rfl⟩
    have HE1 := Lib.hid (fun w => entryN m e1 he1 (by omega) w)
    rw [he1] at HT
    have h1 : (e1 : Int) < 130 := by omega
    have h2 : ((src : Nat) : Int) < 130 := by omega
    have HFX : Hid (∀ W', Below wr.heap.size wr W' → MoM w W' fb N v1 v2 (setAll 2 ((l.take k).map fun m => src * 130 + 2 * m.toNat) rm)) := Lib.hid (fun W' hb => hm.later hb)
    have HH : Hid (e1 < 130 ∧ src < 130) := Lib.hid (by omega)
    have fz := hm.fl.lt
    clear hm he1 hcells hmx hkl
    go_wp2_with fail
    refine wp_region_head_later 8 (by kernel_rfl) (by kernel_rfl) ?_
    simp only [List.take_succ_cons, List.take_zero, List.drop_succ_cons, List.drop_zero]
    repeat go_big_quiet_step ((go_at_call 67; exact Calls.later_same (HE1.out _)))
    refine wpQuiet_nil ?_
    rintro w2 ⟨⟨_, hb2⟩, rfl⟩
    have hm2 := HFX.out _ hb2
    have hc := (hm2.fl.cell (src * 130 + e1)).trans (roomV_get N hm2.len HH.out.2 HH.out.1)
    have hf := hm2.fl.frozen
    have hz := hm2.fl.lt
    have HM2 := Lib.hid hm2
    clear hm2
    go_wp2_with fail
    go_roundw
    case rel => exact ⟨k + 1, by omega, by go_num, by have h := HM2.out.set HH.out.2 HH.out.1 2; rw [HT.out]; exact h⟩
    case measure => simp [intOf]; omega
set_option maxRecDepth 100000 in
set_option maxHeartbeats 1000000 in
theorem m4_walk (w W : World) (fb N src snk : Nat) (s t : Value) (v1 v2 : Value) (rm l : List Int) (n : Nat) (z : Nat → Value) (hm : MoM w W fb N v1 v2 rm) (hn : n ≤ 64) (hs : Sl encI 1 w w.heap.size t l) (hin : ∀ x ∈ l, inN n x = true) (hk0 : snk < 130) (Q : Exit → Act → World → Prop)
    (hQ : ∀ z' W', MoM w W' fb N v1 v2 (setAll 2 (l.map fun m => (2 * m.toNat + 1) * 130 + snk) rm) → Q .normal { tmps := (fr119 w.heap.size s t fb src snk z').toArray, defers := [] } W') :
    m4_119.wp Tryz.prog Q { tmps := (fr119 w.heap.size s t fb src snk z).toArray, defers := [] } W := by
  have HQ : Hid (∀ A W', (∃ z', A = { tmps := (fr119 w.heap.size s t fb src snk z').toArray, defers := [] }) → MoM w W' fb N v1 v2 (setAll 2 (l.map fun m => (2 * m.toNat + 1) * 130 + snk) rm) → Q .normal A W') := Lib.hid (by rintro A W' ⟨z', rfl⟩ h; exact hQ z' W' h)
  clear hQ
  have HM := Lib.hid hm
  have HIN := Lib.hid hin
  obtain ⟨sa, cs, rfl, ⟨hlen, _⟩, hA⟩ := hs
  have HA := Lib.hid hA
  obtain ⟨ns, hns⟩ : ∃ n, l.length = n := ⟨_, rfl⟩
  have HNS := Lib.hid hns
  rw [hns] at HQ hlen ⊢
  clear hm hin hA hns
  simp only [m4_119, c119, Tryz.f46, Option.getD, codeL, codeR, fr119]
  go_wp2_with fail
  go_loopw [122] (fun i wr => ∃ k : Nat, k ≤ ns ∧ i = .int .i64 k ∧ MoM w wr fb N v1 v2 (setAll 2 ((l.take k).map fun m => (2 * m.toNat + 1) * 130 + snk) rm)) (fun i _ => ns - (intOf i).toNat)
  case atStart => exact ⟨0, by omega, rfl, by simpa [setAll] using HM.out⟩
  case round =>
    clear HM
    obtain ⟨k, hk, rfl, hm⟩ := hrel
    by_cases hlt : k < ns
    rotate_left
    · obtain rfl : ns = k := by omega
      have HM := Lib.hid hm
      clear hm
      go_wp2_with fail
      refine HQ.out _ _ ?_ (by have h := HM.out; rw [← HNS.out, List.take_length] at h; exact h)
      apply fr119_act <;> rfl
    have hkl : k < l.length := by rw [HNS.out]; exact hlt
    obtain ⟨b, off, rfl, hbb, hcells⟩ := HA.out (by omega)
    have c0 := ((hcells k hkl).below hm.bw hbb).c1
    rw [Nat.mul_one] at c0
    have hbz : b < wr.heap.size := Nat.lt_of_lt_of_le hbb hm.bw.size
    obtain ⟨m, hmx, hmn⟩ := inN_nat (HIN.out _ (List.getElem_mem hkl))
    have HT : Hid (setAll 2 ((l.take (k + 1)).map fun m => (2 * m.toNat + 1) * 130 + snk) rm = (setAll 2 ((l.take k).map fun m => (2 * m.toNat + 1) * 130 + snk) rm).set ((2 * m + 1) * 130 + snk) 2) := Lib.hid (by
      rw [take_snoc l k hkl, List.map_append, List.map_singleton, setAll_snoc, hmx, Int.toNat_natCast])
    rw [hmx] at c0
    obtain ⟨e1, he1⟩ : ∃ e, 2 * m + 1 = e := ⟨_, rfl⟩
    have HE1 := Lib.hid (fun w => exitN m e1 he1 (by omega) w)
    rw [he1] at HT
    have h1 : (e1 : Int) < 130 := by omega
    have h2 : ((snk : Nat) : Int) < 130 := by omega
    have HFX : Hid (∀ W', Below wr.heap.size wr W' → MoM w W' fb N v1 v2 (setAll 2 ((l.take k).map fun m => (2 * m.toNat + 1) * 130 + snk) rm)) := Lib.hid (fun W' hb => hm.later hb)
    have HH : Hid (e1 < 130 ∧ snk < 130) := Lib.hid (by omega)
    have fz := hm.fl.lt
    clear hm he1 hcells hmx hkl
    go_wp2_with fail
    refine wp_region_head_later 8 (by kernel_rfl) (by kernel_rfl) ?_
    simp only [List.take_succ_cons, List.take_zero, List.drop_succ_cons, List.drop_zero]
    repeat go_big_quiet_step ((go_at_call 68; exact Calls.later_same (HE1.out _)))
    refine wpQuiet_nil ?_
    rintro w2 ⟨⟨_, hb2⟩, rfl⟩
    have hm2 := HFX.out _ hb2
    have hc := (hm2.fl.cell (e1 * 130 + snk)).trans (roomV_get N hm2.len HH.out.1 HH.out.2)
    have hf := hm2.fl.frozen
    have hz := hm2.fl.lt
    have HM2 := Lib.hid hm2
    clear hm2
    go_wp2_with fail
    go_roundw
    case rel => exact ⟨k + 1, by omega, by go_num, by have h := HM2.out.set HH.out.1 HH.out.2 2; rw [HT.out]; exact h⟩
    case measure => simp [intOf]; omega
end Go.Proofs.YtpafjhjpchdcdaaGreatDoor
