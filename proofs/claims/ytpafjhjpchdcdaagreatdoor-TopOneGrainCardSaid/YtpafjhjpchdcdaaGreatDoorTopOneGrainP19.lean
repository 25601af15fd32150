/- Lemmas on the way to the law TopOneGrain (part 19): YEh YEi YDc YShB YDd -/
import Derived.Test.YtpafjhjpchdcdaaGreatDoorTopOneGrainP18
import Derived.RegionTactic
import Derived.BigRegion
import Derived.Test.YtpafjhjpchdcdaaGreatDoorTopOneGrainP16
import Derived.RangeFuncBox
import Derived.RangeFuncFrom
import Derived.Shelf.Sort.Plain
import Derived.Ground.Names2Prog
import Derived.Shelf.Slices.CompactI
import Derived.Shelf.Slices.In.SortNone
import Derived.Ground.NamesProg
import Derived.Test.YtpafjhjpchdcdaaGreatDoorProg
set_option linter.unusedVariables false
set_option linter.unusedSimpArgs false

/- Walks: most: the room of the arcs. -/
namespace Go.Proofs.YtpafjhjpchdcdaaGreatDoor
open Go Go.Proofs Go.RowKit Go.Shelf
def fq119 (N : Nat) (s t : Value) (fb src snk b13 na k : Nat) (v2 : Value) (q14 q15 : Value) (z y : Nat → Value) : List Value := z 0 :: s :: t :: .pointer (some ⟨N, 0, none⟩) :: z 4 :: z 5 :: z 6 :: z 7 :: .pointer (some ⟨fb, 0, none⟩) :: .int .i64 src :: .int .i64 snk :: z 11 :: z 12 :: .pointer (some ⟨b13, 0, none⟩) :: q14 :: q15 :: z 16 :: z 17 :: z 18 :: z 19 :: z 20 :: z 21 :: z 22 :: z 23 :: z 24 :: z 25 :: z 26 :: z 27 :: z 28 :: z 29 :: z 30 :: z 31 :: z 32 :: z 33 :: z 34 :: z 35 :: z 36 :: z 37 :: z 38 :: z 39 :: z 40 :: z 41 :: z 42 :: z 43 :: z 44 :: z 45 :: z 46 :: z 47 :: z 48 :: z 49 :: z 50 :: z 51 :: z 52 :: z 53 :: z 54 :: z 55 :: .pointer (some ⟨N, 1, none⟩) :: v2 :: .int .i64 (na : Int) :: .int .i64 (k : Int) :: y 60 :: y 61 :: y 62 :: y 63 :: y 64 :: y 65 :: y 66 :: y 67 :: y 68 :: y 69 :: y 70 :: y 71 :: y 72 :: y 73 :: y 74 :: y 75 :: y 76 :: y 77 :: y 78 :: y 79 :: y 80 :: y 81 :: y 82 :: y 83 :: y 84 :: y 85 :: y 86 :: y 87 :: y 88 :: y 89 :: y 90 :: y 91 :: y 92 :: y 93 :: y 94 :: y 95 :: y 96 :: y 97 :: y 98 :: y 99 :: y 100 :: y 101 :: y 102 :: y 103 :: y 104 :: z 105 :: z 106 :: z 107 :: z 108 :: z 109 :: z 110 :: z 111 :: z 112 :: z 113 :: z 114 :: z 115 :: z 116 :: z 117 :: z 118 :: z 119 :: z 120 :: z 121 :: z 122 :: z 123 :: z 124 :: z 125 :: z 126 :: z 127 :: z 128 :: z 129 :: z 130 :: z 131 :: z 132 :: z 133 :: z 134 :: z 135 :: z 136 :: z 137 :: z 138 :: z 139 :: z 140 :: z 141 :: z 142 :: z 143 :: z 144 :: z 145 :: z 146 :: z 147 :: z 148 :: z 149 :: z 150 :: z 151 :: z 152 :: z 153 :: z 154 :: z 155 :: z 156 :: z 157 :: z 158 :: z 159 :: z 160 :: z 161 :: z 162 :: z 163 :: z 164 :: z 165 :: z 166 :: z 167 :: z 168 :: z 169 :: z 170 :: z 171 :: z 172 :: z 173 :: z 174 :: z 175 :: z 176 :: z 177 :: z 178 :: z 179 :: z 180 :: z 181 :: z 182 :: z 183 :: z 184 :: z 185 :: []
def fr119c (N : Nat) (s t : Value) (fb src snk b13 na k : Nat) (v2 : Value) (b14 b15 : Nat) (z y : Nat → Value) : List Value := z 0 :: s :: t :: .pointer (some ⟨N, 0, none⟩) :: z 4 :: z 5 :: z 6 :: z 7 :: .pointer (some ⟨fb, 0, none⟩) :: .int .i64 src :: .int .i64 snk :: z 11 :: z 12 :: .pointer (some ⟨b13, 0, none⟩) :: .pointer (some ⟨b14, 0, none⟩) :: .pointer (some ⟨b15, 0, none⟩) :: z 16 :: z 17 :: z 18 :: z 19 :: z 20 :: z 21 :: z 22 :: z 23 :: z 24 :: z 25 :: z 26 :: z 27 :: z 28 :: z 29 :: z 30 :: z 31 :: z 32 :: z 33 :: z 34 :: z 35 :: z 36 :: z 37 :: z 38 :: z 39 :: z 40 :: z 41 :: z 42 :: z 43 :: z 44 :: z 45 :: z 46 :: z 47 :: z 48 :: z 49 :: z 50 :: z 51 :: z 52 :: z 53 :: z 54 :: z 55 :: .pointer (some ⟨N, 1, none⟩) :: v2 :: .int .i64 (na : Int) :: .int .i64 (k : Int) :: y 60 :: y 61 :: y 62 :: y 63 :: y 64 :: y 65 :: y 66 :: y 67 :: y 68 :: y 69 :: y 70 :: y 71 :: y 72 :: y 73 :: y 74 :: y 75 :: y 76 :: y 77 :: y 78 :: y 79 :: y 80 :: y 81 :: y 82 :: y 83 :: y 84 :: y 85 :: y 86 :: y 87 :: y 88 :: y 89 :: y 90 :: y 91 :: y 92 :: y 93 :: y 94 :: y 95 :: y 96 :: y 97 :: y 98 :: y 99 :: y 100 :: y 101 :: y 102 :: y 103 :: y 104 :: z 105 :: z 106 :: z 107 :: z 108 :: z 109 :: z 110 :: z 111 :: z 112 :: z 113 :: z 114 :: z 115 :: z 116 :: z 117 :: z 118 :: z 119 :: z 120 :: z 121 :: z 122 :: z 123 :: z 124 :: z 125 :: z 126 :: z 127 :: z 128 :: z 129 :: z 130 :: z 131 :: z 132 :: z 133 :: z 134 :: z 135 :: z 136 :: z 137 :: z 138 :: z 139 :: z 140 :: z 141 :: z 142 :: z 143 :: z 144 :: z 145 :: z 146 :: z 147 :: z 148 :: z 149 :: z 150 :: z 151 :: z 152 :: z 153 :: z 154 :: z 155 :: z 156 :: z 157 :: z 158 :: z 159 :: z 160 :: z 161 :: z 162 :: z 163 :: z 164 :: z 165 :: z 166 :: z 167 :: z 168 :: z 169 :: z 170 :: z 171 :: z 172 :: z 173 :: z 174 :: z 175 :: z 176 :: z 177 :: z 178 :: z 179 :: z 180 :: z 181 :: z 182 :: z 183 :: z 184 :: z 185 :: []
def fr119d (N : Nat) (s t : Value) (fb src snk b13 na k : Nat) (v2 : Value) (b14 b15 : Nat) (R : Bool) (z y : Nat → Value) : List Value := z 0 :: s :: t :: .pointer (some ⟨N, 0, none⟩) :: z 4 :: z 5 :: z 6 :: z 7 :: .pointer (some ⟨fb, 0, none⟩) :: .int .i64 src :: .int .i64 snk :: z 11 :: z 12 :: .pointer (some ⟨b13, 0, none⟩) :: .pointer (some ⟨b14, 0, none⟩) :: .pointer (some ⟨b15, 0, none⟩) :: z 16 :: z 17 :: z 18 :: z 19 :: z 20 :: z 21 :: z 22 :: z 23 :: z 24 :: z 25 :: z 26 :: z 27 :: z 28 :: z 29 :: z 30 :: z 31 :: z 32 :: z 33 :: z 34 :: z 35 :: z 36 :: z 37 :: z 38 :: z 39 :: z 40 :: z 41 :: z 42 :: z 43 :: z 44 :: z 45 :: z 46 :: z 47 :: z 48 :: z 49 :: z 50 :: z 51 :: z 52 :: z 53 :: z 54 :: z 55 :: .pointer (some ⟨N, 1, none⟩) :: v2 :: .int .i64 (na : Int) :: .int .i64 (k : Int) :: y 60 :: y 61 :: y 62 :: y 63 :: y 64 :: y 65 :: y 66 :: y 67 :: y 68 :: y 69 :: y 70 :: y 71 :: y 72 :: y 73 :: y 74 :: y 75 :: y 76 :: y 77 :: y 78 :: y 79 :: y 80 :: y 81 :: y 82 :: y 83 :: y 84 :: y 85 :: y 86 :: y 87 :: y 88 :: y 89 :: y 90 :: y 91 :: .bool R :: y 93 :: y 94 :: y 95 :: y 96 :: y 97 :: y 98 :: y 99 :: y 100 :: y 101 :: y 102 :: y 103 :: y 104 :: z 105 :: z 106 :: z 107 :: z 108 :: z 109 :: z 110 :: z 111 :: z 112 :: z 113 :: z 114 :: z 115 :: z 116 :: z 117 :: z 118 :: z 119 :: z 120 :: z 121 :: z 122 :: z 123 :: z 124 :: z 125 :: z 126 :: z 127 :: z 128 :: z 129 :: z 130 :: z 131 :: z 132 :: z 133 :: z 134 :: z 135 :: z 136 :: z 137 :: z 138 :: z 139 :: z 140 :: z 141 :: z 142 :: z 143 :: z 144 :: z 145 :: z 146 :: z 147 :: z 148 :: z 149 :: z 150 :: z 151 :: z 152 :: z 153 :: z 154 :: z 155 :: z 156 :: z 157 :: z 158 :: z 159 :: z 160 :: z 161 :: z 162 :: z 163 :: z 164 :: z 165 :: z 166 :: z 167 :: z 168 :: z 169 :: z 170 :: z 171 :: z 172 :: z 173 :: z 174 :: z 175 :: z 176 :: z 177 :: z 178 :: z 179 :: z 180 :: z 181 :: z 182 :: z 183 :: z 184 :: z 185 :: []
noncomputable def rd2_119 : Code := codeL (codeL (codeR m2_119))
noncomputable def x2_119 : Code := codeL (codeL (codeR (codeR rd2_119)))
noncomputable def r11_119 : Code := codeL (codeR x2_119)
set_option maxRecDepth 100000 in
set_option maxHeartbeats 4000000 in
theorem r11m_walk (W : World) (N : Nat) (s t : Value) (fb src snk b13 na k : Nat) (v2 q14 q15 : Value) (z y : Nat → Value) (b1 off1 n c1 f g : Nat) (v2' : Value) (sf sg : ByteArray) (tf tg : Int)
    (hx : Box W N 25 [.slice (some ⟨b1, off1, none⟩) n c1, v2']) (h13 : Box W b13 85 [.int .i64 (f : Int), .int .i64 (g : Int)]) (hf : f < n) (hg : g < n) (hn : n ≤ 64)
    (hmf : At W b1 (off1 + f * 2) [.string sf, .int .i64 tf]) (hmg : At W b1 (off1 + g * 2) [.string sg, .int .i64 tg]) (hb1 : b1 < W.heap.size) :
    r11_119.wp Tryz.prog (fun e A W' => e = .normal ∧ ∃ b14 b15 y', A = { tmps := (fr119c N s t fb src snk b13 na k v2 b14 b15 z y').toArray, defers := [] } ∧ Box W' b14 43 [.string sf, .int .i64 tf] ∧ Box W' b15 43 [.string sg, .int .i64 tg] ∧ Below W.heap.size W W')
      { tmps := (fq119 N s t fb src snk b13 na k v2 q14 q15 z y).toArray, defers := [] } W := by
  obtain ⟨x0, x1, xf, xz⟩ := hx.v2
  obtain ⟨y0, y1, yf, yz⟩ := h13.v2
  obtain ⟨k0, k1⟩ := hmf.c2
  obtain ⟨l0, l1⟩ := hmg.c2
  have hf64 : (f : Int) < 64 := by omega
  have hg64 : (g : Int) < 64 := by omega
  clear hx h13 hmf hmg
  simp only [r11_119, x2_119, rd2_119, m2_119, c119, Tryz.f46, Option.getD, codeL, codeR, fq119]
  refine wp_region_noPanic ?_
  go_region
  all_goals refine NoPanic.normal ?_
  · have h1 : Below W.heap.size W ((W.alloc (.cells #[.string sf, .int .i64 tf] 43)).alloc (.cells #[.string sg, .int .i64 tg] 43)) := ((Below.refl _ _).alloc (Nat.le_refl _) _).alloc (by simp) _
    have h2 := Box.new (W.alloc (.cells #[.string sf, .int .i64 tf] 43)) #[.string sg, .int .i64 tg] 43
    rw [World.size_alloc] at h2
    exact ⟨rfl, W.heap.size, W.heap.size + 1, fun i => [_, _, _, _, _, _, _, _, _, _, _, _, _, _, _, _, _, _, _, _, _, _, _, _, _, _, _, _, _, _, _, _, _, _, _, _, _, _, _, _, _, _, _, _, _].getD (i - 60) undef, rfl, ((Box.new W #[.string sf, .int .i64 tf] 43).alloc _).drew, h2.drew, h1.drew⟩
  · have h1 : Below W.heap.size W ((W.alloc (.cells #[.string sg, .int .i64 tg] 43)).alloc (.cells #[.string sf, .int .i64 tf] 43)) := ((Below.refl _ _).alloc (Nat.le_refl _) _).alloc (by simp) _
    have h2 := Box.new (W.alloc (.cells #[.string sg, .int .i64 tg] 43)) #[.string sf, .int .i64 tf] 43
    rw [World.size_alloc] at h2
    exact ⟨rfl, W.heap.size + 1, W.heap.size, fun i => [_, _, _, _, _, _, _, _, _, _, _, _, _, _, _, _, _, _, _, _, _, _, _, _, _, _, _, _, _, _, _, _, _, _, _, _, _, _, _, _, _, _, _, _, _].getD (i - 60) undef, rfl, h2.drew, ((Box.new W #[.string sg, .int .i64 tg] 43).alloc _).drew, h1.drew⟩
end Go.Proofs.YtpafjhjpchdcdaaGreatDoor
/- Walks: most: may anything pass along an arc. -/
namespace Go.Proofs.YtpafjhjpchdcdaaGreatDoor
open Go Go.Proofs Go.RowKit Go.Shelf
noncomputable def r12_119 : Code := codeL (codeR (codeR x2_119))
set_option maxRecDepth 100000 in
set_option maxHeartbeats 1000000 in
theorem r12m_walk (w W : World) (N : Nat) (s t : Value) (fb src snk b13 na k : Nat) (v2 : Value) (b14 b15 : Nat) (z y : Nat → Value) (f g : Nat) (sf sg : ByteArray) (tf tg : Int) (ls lt : List Int) (R : Bool)
    (hwd : WdR w) (hW : Below w.heap.size w W) (hs : Sl encI 1 w w.heap.size s ls) (ht : Sl encI 1 w w.heap.size t lt) (h13 : Box W b13 85 [.int .i64 (f : Int), .int .i64 (g : Int)]) (h14 : Box W b14 43 [.string sf, .int .i64 tf]) (h15 : Box W b15 43 [.string sg, .int .i64 tg])
    (hR : ((cvB sf || ls.contains (f : Int)) && (cvB sg || lt.contains (g : Int))) = R) (Q : Exit → Act → World → Prop)
    (hQ : ∀ y' W', Below W.heap.size W W' → Q .normal { tmps := (fr119d N s t fb src snk b13 na k v2 b14 b15 R z y').toArray, defers := [] } W') :
    r12_119.wp Tryz.prog Q { tmps := (fr119c N s t fb src snk b13 na k v2 b14 b15 z y).toArray, defers := [] } W := by
  have HC1 := Lib.hid (fun (W' : World) (hb : Below W.heap.size W W') => conveys84 sf tf W' (hwd.later (hW.trans (hb.mono hW.size))))
  have HC2 := Lib.hid (fun (W' : World) (hb : Below W.heap.size W W') => conveys84 sg tg W' (hwd.later (hW.trans (hb.mono hW.size))))
  have HK1 := Lib.hid (fun (W' : World) (hb : Below W.heap.size W W') => contains82 s ls f W' (hs.later (hW.trans (hb.mono hW.size))))
  have HK2 := Lib.hid (fun (W' : World) (hb : Below W.heap.size W W') => contains82 t lt g W' (ht.later (hW.trans (hb.mono hW.size))))
  have H13 := Lib.hid (fun (W' : World) (hb : Below W.heap.size W W') => (h13.later hb).v2)
  have H14 := Lib.hid (fun (W' : World) (hb : Below W.heap.size W W') => (h14.later hb).v2)
  have H15 := Lib.hid (fun (W' : World) (hb : Below W.heap.size W W') => (h15.later hb).v2)
  obtain ⟨sa, cs, rfl, _, _⟩ := hs
  obtain ⟨ta, ct, rfl, _, _⟩ := ht
  obtain ⟨ns, hns⟩ : ∃ n, ls.length = n := ⟨_, rfl⟩
  obtain ⟨nt, hnt⟩ : ∃ n, lt.length = n := ⟨_, rfl⟩
  rw [hns] at HK1 hQ ⊢
  rw [hnt] at HK2 hQ ⊢
  have HQ : Hid (∀ A W', (∃ y', A = { tmps := (fr119d N (.slice sa ns cs) (.slice ta nt ct) fb src snk b13 na k v2 b14 b15 R z y').toArray, defers := [] }) → Below W.heap.size W W' → Q .normal A W') := Lib.hid (by rintro A W' ⟨y', rfl⟩ h; exact hQ y' W' h)
  obtain ⟨A1, hA1⟩ : ∃ b, cvB sf = b := ⟨_, rfl⟩
  obtain ⟨A2, hA2⟩ : ∃ b, ls.contains (f : Int) = b := ⟨_, rfl⟩
  obtain ⟨A3, hA3⟩ : ∃ b, cvB sg = b := ⟨_, rfl⟩
  obtain ⟨A4, hA4⟩ : ∃ b, lt.contains (g : Int) = b := ⟨_, rfl⟩
  rw [hA1] at HC1
  rw [hA2] at HK1
  rw [hA3] at HC2
  rw [hA4] at HK2
  rw [hA1, hA2, hA3, hA4] at hR
  obtain ⟨p0, p1, pf, pz⟩ := H14.out W (Below.refl _ _)
  clear hQ hwd hW h13 h14 h15 hns hnt hA1 hA2 hA3 hA4
  simp only [r12_119, x2_119, rd2_119, m2_119, c119, Tryz.f46, Option.getD, codeL, codeR, fr119c]
  cases A1
  · cases A2
    · have hR : false = R := hR
      subst hR
      go_wp2_with (first | (go_at_call 36; refine (HC1.out _ (Below.refl _ _)).mono ?_; rintro e w2 ⟨rfl, hb2⟩; obtain ⟨q0, q1, qf, qz⟩ := H13.out w2 hb2; obtain ⟨o0, o1, of, oz⟩ := H15.out w2 hb2; have HB2 := Lib.hid hb2; clear hb2) | (go_at_call 69; refine (HK1.out _ HB2.out).mono ?_; rintro e w3 ⟨rfl, rfl⟩) | (go_at_call 36; refine (HC2.out _ HB2.out).mono ?_; rintro e w4 ⟨rfl, hb4⟩; have HB4 := Lib.hid (HB2.out.trans (hb4.mono HB2.out.size)); obtain ⟨l0, l1, lf, lz⟩ := H13.out w4 HB4.out; clear hb4) | (go_at_call 69; refine (HK2.out _ HB4.out).mono ?_; rintro e w5 ⟨rfl, rfl⟩))
      exact HQ.out _ _ ⟨fun i => [_, _, _, _, _, _, _, _, _, _, _, _, _, _, _, _, _, _, _, _, _, _, _, _, _, _, _, _, _, _, _, _, undef, _, _, _, _, _, _, _, _, _, _, _, _].getD (i - 60) undef, rfl⟩ HB2.out
    · cases A3
      · cases A4
        · have hR : false = R := hR
          subst hR
          go_wp2_with (first | (go_at_call 36; refine (HC1.out _ (Below.refl _ _)).mono ?_; rintro e w2 ⟨rfl, hb2⟩; obtain ⟨q0, q1, qf, qz⟩ := H13.out w2 hb2; obtain ⟨o0, o1, of, oz⟩ := H15.out w2 hb2; have HB2 := Lib.hid hb2; clear hb2) | (go_at_call 69; refine (HK1.out _ HB2.out).mono ?_; rintro e w3 ⟨rfl, rfl⟩) | (go_at_call 36; refine (HC2.out _ HB2.out).mono ?_; rintro e w4 ⟨rfl, hb4⟩; have HB4 := Lib.hid (HB2.out.trans (hb4.mono HB2.out.size)); obtain ⟨l0, l1, lf, lz⟩ := H13.out w4 HB4.out; clear hb4) | (go_at_call 69; refine (HK2.out _ HB4.out).mono ?_; rintro e w5 ⟨rfl, rfl⟩))
          exact HQ.out _ _ ⟨fun i => [_, _, _, _, _, _, _, _, _, _, _, _, _, _, _, _, _, _, _, _, _, _, _, _, _, _, _, _, _, _, _, _, undef, _, _, _, _, _, _, _, _, _, _, _, _].getD (i - 60) undef, rfl⟩ HB4.out
        · have hR : true = R := hR
          subst hR
          go_wp2_with (first | (go_at_call 36; refine (HC1.out _ (Below.refl _ _)).mono ?_; rintro e w2 ⟨rfl, hb2⟩; obtain ⟨q0, q1, qf, qz⟩ := H13.out w2 hb2; obtain ⟨o0, o1, of, oz⟩ := H15.out w2 hb2; have HB2 := Lib.hid hb2; clear hb2) | (go_at_call 69; refine (HK1.out _ HB2.out).mono ?_; rintro e w3 ⟨rfl, rfl⟩) | (go_at_call 36; refine (HC2.out _ HB2.out).mono ?_; rintro e w4 ⟨rfl, hb4⟩; have HB4 := Lib.hid (HB2.out.trans (hb4.mono HB2.out.size)); obtain ⟨l0, l1, lf, lz⟩ := H13.out w4 HB4.out; clear hb4) | (go_at_call 69; refine (HK2.out _ HB4.out).mono ?_; rintro e w5 ⟨rfl, rfl⟩))
          exact HQ.out _ _ ⟨fun i => [_, _, _, _, _, _, _, _, _, _, _, _, _, _, _, _, _, _, _, _, _, _, _, _, _, _, _, _, _, _, _, _, undef, _, _, _, _, _, _, _, _, _, _, _, _].getD (i - 60) undef, rfl⟩ HB4.out
      · have hR : true = R := hR
        subst hR
        go_wp2_with (first | (go_at_call 36; refine (HC1.out _ (Below.refl _ _)).mono ?_; rintro e w2 ⟨rfl, hb2⟩; obtain ⟨q0, q1, qf, qz⟩ := H13.out w2 hb2; obtain ⟨o0, o1, of, oz⟩ := H15.out w2 hb2; have HB2 := Lib.hid hb2; clear hb2) | (go_at_call 69; refine (HK1.out _ HB2.out).mono ?_; rintro e w3 ⟨rfl, rfl⟩) | (go_at_call 36; refine (HC2.out _ HB2.out).mono ?_; rintro e w4 ⟨rfl, hb4⟩; have HB4 := Lib.hid (HB2.out.trans (hb4.mono HB2.out.size)); obtain ⟨l0, l1, lf, lz⟩ := H13.out w4 HB4.out; clear hb4) | (go_at_call 69; refine (HK2.out _ HB4.out).mono ?_; rintro e w5 ⟨rfl, rfl⟩))
        exact HQ.out _ _ ⟨fun i => [_, _, _, _, _, _, _, _, _, _, _, _, _, _, _, _, _, _, _, _, _, _, _, _, _, _, _, _, _, _, _, _, undef, _, _, _, _, _, _, _, _, _, _, _, _].getD (i - 60) undef, rfl⟩ HB4.out
  · cases A3
    · cases A4
      · have hR : false = R := hR
        subst hR
        go_wp2_with (first | (go_at_call 36; refine (HC1.out _ (Below.refl _ _)).mono ?_; rintro e w2 ⟨rfl, hb2⟩; obtain ⟨q0, q1, qf, qz⟩ := H13.out w2 hb2; obtain ⟨o0, o1, of, oz⟩ := H15.out w2 hb2; have HB2 := Lib.hid hb2; clear hb2) | (go_at_call 69; refine (HK1.out _ HB2.out).mono ?_; rintro e w3 ⟨rfl, rfl⟩) | (go_at_call 36; refine (HC2.out _ HB2.out).mono ?_; rintro e w4 ⟨rfl, hb4⟩; have HB4 := Lib.hid (HB2.out.trans (hb4.mono HB2.out.size)); obtain ⟨l0, l1, lf, lz⟩ := H13.out w4 HB4.out; clear hb4) | (go_at_call 69; refine (HK2.out _ HB4.out).mono ?_; rintro e w5 ⟨rfl, rfl⟩))
        exact HQ.out _ _ ⟨fun i => [_, _, _, _, _, _, _, _, _, _, _, _, _, _, _, _, _, _, _, _, _, _, _, _, _, _, _, _, _, _, _, _, undef, _, _, _, _, _, _, _, _, _, _, _, _].getD (i - 60) undef, rfl⟩ HB4.out
      · have hR : true = R := hR
        subst hR
        go_wp2_with (first | (go_at_call 36; refine (HC1.out _ (Below.refl _ _)).mono ?_; rintro e w2 ⟨rfl, hb2⟩; obtain ⟨q0, q1, qf, qz⟩ := H13.out w2 hb2; obtain ⟨o0, o1, of, oz⟩ := H15.out w2 hb2; have HB2 := Lib.hid hb2; clear hb2) | (go_at_call 69; refine (HK1.out _ HB2.out).mono ?_; rintro e w3 ⟨rfl, rfl⟩) | (go_at_call 36; refine (HC2.out _ HB2.out).mono ?_; rintro e w4 ⟨rfl, hb4⟩; have HB4 := Lib.hid (HB2.out.trans (hb4.mono HB2.out.size)); obtain ⟨l0, l1, lf, lz⟩ := H13.out w4 HB4.out; clear hb4) | (go_at_call 69; refine (HK2.out _ HB4.out).mono ?_; rintro e w5 ⟨rfl, rfl⟩))
        exact HQ.out _ _ ⟨fun i => [_, _, _, _, _, _, _, _, _, _, _, _, _, _, _, _, _, _, _, _, _, _, _, _, _, _, _, _, _, _, _, _, undef, _, _, _, _, _, _, _, _, _, _, _, _].getD (i - 60) undef, rfl⟩ HB4.out
    · have hR : true = R := hR
      subst hR
      go_wp2_with (first | (go_at_call 36; refine (HC1.out _ (Below.refl _ _)).mono ?_; rintro e w2 ⟨rfl, hb2⟩; obtain ⟨q0, q1, qf, qz⟩ := H13.out w2 hb2; obtain ⟨o0, o1, of, oz⟩ := H15.out w2 hb2; have HB2 := Lib.hid hb2; clear hb2) | (go_at_call 69; refine (HK1.out _ HB2.out).mono ?_; rintro e w3 ⟨rfl, rfl⟩) | (go_at_call 36; refine (HC2.out _ HB2.out).mono ?_; rintro e w4 ⟨rfl, hb4⟩; have HB4 := Lib.hid (HB2.out.trans (hb4.mono HB2.out.size)); obtain ⟨l0, l1, lf, lz⟩ := H13.out w4 HB4.out; clear hb4) | (go_at_call 69; refine (HK2.out _ HB4.out).mono ?_; rintro e w5 ⟨rfl, rfl⟩))
      exact HQ.out _ _ ⟨fun i => [_, _, _, _, _, _, _, _, _, _, _, _, _, _, _, _, _, _, _, _, _, _, _, _, _, _, _, _, _, _, _, _, undef, _, _, _, _, _, _, _, _, _, _, _, _].getD (i - 60) undef, rfl⟩ HB4.out
end Go.Proofs.YtpafjhjpchdcdaaGreatDoor
/- Walks: slices.Values, AppendSeq and Collect, at int. -/
namespace Go.Proofs.YtpafjhjpchdcdaaGreatDoor
open Go Go.Proofs Go.RowKit Go.Shelf
attribute [local go_sem] Oper.semAt_some
structure VlR (w : World) (q B : Nat) (v : Value) (l : List Int) : Prop where
  b : Box w q 34 [v]
  s : Sl encI 1 w B v l
  lt : B ≤ w.heap.size
theorem VlR.keep {w w' : World} {q B n₀ : Nat} {v : Value} {l : List Int} (h : VlR w q B v l) (hb : Below n₀ w w') (hq : q < n₀) (hB : B ≤ n₀) : VlR w' q B v l :=
  ⟨(hb.block q hq).trans h.b, h.s.below (hb.mono hB), Nat.le_trans h.lt hb.size⟩
set_option maxHeartbeats 400000 in
theorem values135 (a : Option Addr) (n c : Nat) (w : World) : Calls Tryz.prog 86 #[.slice a n c] w fun e w' =>
    e = .returned (.func (.func 98) #[] #[.pointer (some ⟨w.heap.size, 0, none⟩)]) ∧ w.alloc (.cells #[.slice a n c] 34) = w' := by
  go_enter Tryz.func86, Tryz.ntmps86
  go_wp2
  go_ret
  exact ⟨rfl, rfl⟩
set_option maxRecDepth 100000 in
set_option maxHeartbeats 1000000 in
theorem vals154 (n : Nat) (hn : 2 ≤ n) (q B n₀ : Nat) (hq : q < n₀) (hB : B ≤ n₀) (v : Value) (l : List Int) (lp : Nat) (J Jx : List Int → World → Prop) (W : World) (hit : VlR W q B v l)
    (hY : ∀ pre x W1, J pre W1 → pre.length < l.length → YieldAt Fence.wide (n - 1) Tryz.prog lp (encN x) W1 fun e W' =>
      (e = .returned (.bool true) ∧ J (pre ++ [x]) W' ∧ Below n₀ W1 W') ∨ (e = .returned (.bool false) ∧ Jx (pre ++ [x]) W'))
    (h0 : J [] W) :
    CallsIn Fence.wide n Tryz.prog 98 (#[.func (.yield lp) #[] #[]] ++ #[.pointer (some ⟨q, 0, none⟩)]) W fun e W' => (∃ v, e = .returned v) ∧
      ((∃ xs, xs = l ∧ J xs W') ∨ (∃ pre, pre <+: l ∧ Jx pre W')) := by
  have h1 : 1 ≤ n := by omega
  refine callsIn_of_wp Tryz.func98 rfl trivial ?_ rfl
  simp only [Tryz.ntmps98, List.size_toArray, List.length_cons, List.length_nil, Nat.reduceAdd, Nat.reduceSub, Array.replicate_succ, Array.replicate_zero, List.push_toArray, List.append_toArray, List.nil_append, List.cons_append]
  have d0 := hit.b.cell 0
  have z0 := hit.b.lt
  simp only [List.getElem?_cons_zero] at d0
  obtain ⟨a2, c2, rfl, ⟨hl1, hl2⟩, hA⟩ := id hit.s
  have HIT := Lib.hid hit
  have HY := Lib.hid hY
  have H0 := Lib.hid h0
  clear hit hA hY h0
  obtain ⟨na, hna⟩ : ∃ n, l.length = n := ⟨_, rfl⟩
  rw [hna] at d0 HIT HY hl1 hl2
  have HNA := Lib.hid hna
  clear hna
  gi_wp2
  gi_loopw [7] (fun j wr => ∃ k : Nat, k ≤ na ∧ j = .int .i64 k ∧ J (l.take k) wr ∧ VlR wr q B (.slice a2 na c2) l) (fun j _ => na - (intOf j).toNat)
  case atStart => exact ⟨0, by omega, rfl, by rw [List.take_zero]; exact H0.out, HIT.out⟩
  case round =>
    obtain ⟨k, hk, rfl, hJk, hit⟩ := hrel
    by_cases hlt : k < na
    rotate_left
    · obtain rfl : na = k := by omega
      gi_wp2
      go_end0
      exact ⟨⟨_, rfl⟩, .inl ⟨_, rfl, by have h := hJk; rw [← HNA.out, List.take_length] at h; exact h⟩⟩
    have hkl : k < l.length := by rw [HNA.out]; exact hlt
    obtain ⟨a2', c2', e2, _, hA2⟩ := id hit.s
    injection e2 with e21 e22 e23
    subst e21 e23
    clear e22
    obtain ⟨b, off, rfl, hbb, hcells⟩ := hA2 (by omega)
    have e0 := (hcells k hkl).c1
    rw [Nat.mul_one] at e0
    have hbz : b < wr.heap.size := Nat.lt_of_lt_of_le hbb hit.lt
    have HS := Lib.hid (take_snoc l k hkl)
    have HPX := Lib.hid (List.take_prefix (k + 1) l)
    have HJ := Lib.hid hJk
    have HL := Lib.hid (show (l.take k).length < na by rw [List.length_take]; omega)
    have HIT2 := Lib.hid hit
    clear hit hJk hcells hA2
    generalize l[k] = x at *
    clear hkl
    obtain ⟨fn, tmps, assign, body, hy, hRR⟩ := HY.out (l.take k) x wr HJ.out HL.out
    dsimp only [encN] at hy
    gi_wp2
    refine hRR.mono ?_
    rintro e W3 (⟨rfl, hJ4, hk4⟩ | ⟨rfl, hJx4⟩)
    · gi_wp2
      go_roundw
      case rel => exact ⟨k + 1, by omega, by go_num, by rw [HS.out]; exact hJ4, HIT2.out.keep hk4 hq hB⟩
      case measure => simp [intOf]; omega
    · gi_wp2
      refine bodyPost_ret (results_none rfl _ _ _) rfl ?_
      refine ⟨⟨_, rfl⟩, .inr ⟨_, ?_, hJx4⟩⟩
      have h := HPX.out
      rw [HS.out] at h
      exact h
theorem vals_stops (n : Nat) (hn : 2 ≤ n) (q B n₀ : Nat) (hq : q < n₀) (hB : B ≤ n₀) (v : Value) (l : List Int) (w : World) (hit : VlR w q B v l) (hn0 : n₀ ≤ w.heap.size) :
    SeqStopsK Fence.wide n Tryz.prog 98 #[.pointer (some ⟨q, 0, none⟩)] encN (Below n₀) (fun xs => xs = l) (fun _ => True) l.length w := fun lp J Jx W hW hJ hJx hY h0 => by
  refine (vals154 n hn q B n₀ hq hB v l lp J Jx W (hit.keep (hW.mono hn0) hq hB) hY h0).mono ?_
  rintro e W' ⟨hv, (⟨xs, hS, hj⟩ | ⟨pre, _, hj⟩)⟩
  · exact ⟨hv, .inl ⟨xs, hS, hj⟩⟩
  · exact ⟨hv, .inr ⟨pre, trivial, hj⟩⟩
theorem infoI3 : (Tryz.prog.info? 3).map (fun i => (i.zero, i.size, i.bytes)) = some (some (.int .i64 0), 1, 8) := by kernel_rfl
set_option maxRecDepth 100000 in
set_option maxHeartbeats 1000000 in
theorem appendSeq160 (q B : Nat) (v : Value) (l : List Int) (w : World) (hit : VlR w q B v l) (hl : l.length ≤ 1000000000) :
    CallsIn Fence.wide 8 Tryz.prog 113 #[.slice none 0 0, .func (.func 98) #[] #[.pointer (some ⟨q, 0, none⟩)]] w fun e w' => ∃ v', e = .returned v' ∧ w'.ownsRow w.heap.size 3 1 v' l.length (l.map fun x => .int .i64 x) ∧ Below w.heap.size w w' := by
  have hq := hit.b.lt
  have hB := hit.lt
  obtain ⟨i0, hi, hz0, hz1, hz2⟩ := info_parts infoI3
  refine callsIn_of_wp_marks Tryz.func113 rfl trivial ?_ rfl
  simp only [Tryz.ntmps113, List.size_toArray, List.length_cons, List.length_nil, Nat.reduceAdd, Nat.reduceSub, Array.replicate_succ, Array.replicate_zero, List.push_toArray, List.append_toArray, List.nil_append, List.cons_append]
  gi_wp2
  have hW0 : Below w.heap.size w (w.alloc (.cells #[.slice none 0 0] 34)) := (Below.refl _ w).alloc (Nat.le_refl _) _
  refine wpIn_rangeFunc_ownF rfl (by omega) (gf := 98) (lb := #[.pointer (some ⟨q, 0, none⟩)]) rfl trivial (enters_of Tryz.func98 (by kernel_rfl) rfl)
    (vals_stops 7 (by omega) q B w.heap.size hq hB v l _ (hit.keep hW0 hq hB) hW0.size) belowK_t (belowK_b hW0.size) (Below.refl _ _) (fun _ => rfl)
    (fun pre W => (∃ v', Boxed W w.heap.size 34 v' ∧ W.ownsRow w.heap.size 3 1 v' pre.length (pre.map fun x => .int .i64 x) ∧ True) ∧ Below w.heap.size w W) (fun _ _ _ => False)
    (OwnFrom.and (Own.from (holdsRow_own w.heap.size w.heap.size 34 3 1 (fun pre : List Int => pre.length) (fun pre => pre.map fun x => .int .i64 x) (fun _ _ => True)) _) (ownFrom_below (Nat.le_refl _) hW0.size)) (fun c => fun s A B row h _ _ => h)
    ⟨⟨_, Boxed.new w 34 _, World.ownsRow_nil _ _ _ _, trivial⟩, hW0⟩
    (fun x => { tmps := #[.slice none 0 0, .func (.func 98) #[] #[.pointer (some ⟨q, 0, none⟩)], .pointer (some ⟨w.heap.size, 0, none⟩), undef, .slice none 0 0, .int .i64 x, .func (.func 98) #[] #[.pointer (some ⟨q, 0, none⟩)], .int .i64 x, undef, undef, undef, undef, undef], defers := [] }) ?assign ?body ?done ?stop
  case assign =>
    intro l x W K hK
    simp only [encN]
    gi_wp2
    exact hK
  case body =>
    rintro lp pre x W ⟨⟨v', hv, hrow, _⟩, hb⟩ hlen
    have hle := hb.size
    have hc0 := hv.cell
    have hz0' := hv.lt
    gi_wp2_with (gi_at_builtin; refine wpListIn_append_own _ rfl _ _ 34 rfl w.heap.size 3 i0 (.int .i64 0) 1 8 Tryz.underlying34 hi hz0 hz1 hz2 rfl (by decide) _ _ _ rfl (hrow.alloc _) ⟨W.heap.size, 0, none⟩ 1 1 [.int .i64 x] rfl rfl (cell_one_new _ _ _) (by simp [Value.oneCell']) (by unfold maxLen; omega) (by omega) (by simp; omega) ?_; intro v2 w1 hown' hgrow _; obtain ⟨g', cap', rfl⟩ := ownsRow_succ hown'; obtain ⟨hv1, hv2, hr2, hk2, hb2⟩ := hv.appended (by decide) hrow hle (Nat.le_refl _) hown' hgrow; have hc1 := hv1.cell; have hf1 := hv1.frozen)
    refine ⟨hk2, hb2, ⟨_, hv2, ?_, trivial⟩, hb.trans hb2⟩
    have := hr2
    simpa using this
  case done =>
    rintro D ys W hD rfl ⟨⟨v', hv, hrow, _⟩, hb⟩ hK
    have hc0 := hv.cell
    have hz0' := hv.lt
    gi_wp2
    refine ⟨by simp, .inl ⟨_, _, rfl, run_takeDeferred hK, ?_⟩⟩
    exact ⟨_, results_tmp rfl _ _ _, v', rfl, ownsRow_putObj hrow _ hK rfl, hb.trans (belowK_b (w := w) (Nat.le_refl _) W D _ _ (by have := hW0.size; omega) hK rfl rfl)⟩
  case stop =>
    rintro D c pre W _ _ h _
    exact h.elim
end Go.Proofs.YtpafjhjpchdcdaaGreatDoor
/-
  DERIVED: THE SHELF's CONTRACTS AT THIS DUMP, IN PLAIN WORDS (tools/lay-plain.mjs out of 'TryShelf.lean', which tools/lay-shelf.mjs wrote): THE SAME DECLARATIONS UNDER THE SAME NAMES: 'import', 'namespace', 'open', 'def', 'theorem' AND NOTHING ELSE: no command of the shelf's: FOR A HAND-IN. Each laying: the table of numbers ('.._ren') and one theorem, a field a fact of the dump's own or the kernel's comparison; each contract: ONE APPLICATION.
-/
namespace Go.Proofs
open Go.Shelf
def Tryz.lays189_ren : Go.Shelf.Ren := ⟨fun | 189 => 97 | 125 => 115 | 257 => 114 | 128 => 144 | 129 => 145 | 294 => 135 | 295 => 136 | 296 => 137 | 297 => 138 | 298 => 139 | 299 => 140 | 216 => 141 | 300 => 142 | 301 => 143 | 328 => 156 | 329 => 157 | 330 => 158 | 331 => 159 | 332 => 160 | 215 => 161 | 343 => 182 | n => n, fun | 28 => 34 | 3 => 3 | 46 => 161 | 0 => 0 | 51 => 189 | 53 => 175 | 4 => 4 | 183 => 182 | 182 => 181 | 131 => 151 | 5 => 5 | 9 => 9 | 218 => 197 | 222 => 201 | 228 => 220 | 229 => 221 | n => n, fun | n => n⟩
theorem Tryz.lays189 : Go.Proofs.Lays.n189 Tryz.prog Tryz.lays189_ren := {
  mixed := by kernel_rfl
  f125 := Tryz.func115.trans (congrArg some (by kernel_rfl))
  f128 := Tryz.func144.trans (congrArg some (by kernel_rfl))
  f129 := Tryz.func145.trans (congrArg some (by kernel_rfl))
  f189 := Tryz.func97.trans (congrArg some (by kernel_rfl))
  f215 := Tryz.func161.trans (congrArg some (by kernel_rfl))
  f216 := Tryz.func141.trans (congrArg some (by kernel_rfl))
  f257 := Tryz.func114.trans (congrArg some (by kernel_rfl))
  f294 := Tryz.func135.trans (congrArg some (by kernel_rfl))
  f295 := Tryz.func136.trans (congrArg some (by kernel_rfl))
  f296 := Tryz.func137.trans (congrArg some (by kernel_rfl))
  f297 := Tryz.func138.trans (congrArg some (by kernel_rfl))
  f298 := Tryz.func139.trans (congrArg some (by kernel_rfl))
  f299 := Tryz.func140.trans (congrArg some (by kernel_rfl))
  f300 := Tryz.func142.trans (congrArg some (by kernel_rfl))
  f301 := Tryz.func143.trans (congrArg some (by kernel_rfl))
  f328 := Tryz.func156.trans (congrArg some (by kernel_rfl))
  f329 := Tryz.func157.trans (congrArg some (by kernel_rfl))
  f330 := Tryz.func158.trans (congrArg some (by kernel_rfl))
  f331 := Tryz.func159.trans (congrArg some (by kernel_rfl))
  f332 := Tryz.func160.trans (congrArg some (by kernel_rfl))
  f343 := Tryz.func182.trans (congrArg some (by kernel_rfl))
  t0 := Tryz.underlying0
  a0 := Tryz.isAgg0
  z0 := Tryz.sizeOf0
  v0 := Tryz.zeroValue0
  t3 := Tryz.underlying3
  a3 := Tryz.isAgg3
  z3 := Tryz.sizeOf3
  v3 := Tryz.zeroValue3
  t4 := Tryz.underlying4
  a4 := Tryz.isAgg4
  z4 := Tryz.sizeOf4
  v4 := Tryz.zeroValue4
  t5 := Tryz.underlying5
  a5 := Tryz.isAgg5
  z5 := Tryz.sizeOf5
  v5 := Tryz.zeroValue5
  t9 := Tryz.underlying9
  a9 := Tryz.isAgg9
  z9 := Tryz.sizeOf9
  v9 := Tryz.zeroValue9
  t28 := Tryz.underlying34
  a28 := Tryz.isAgg34
  z28 := Tryz.sizeOf34
  v28 := Tryz.zeroValue34
  t46 := Tryz.underlying161
  a46 := Tryz.isAgg161
  z46 := Tryz.sizeOf161
  v46 := Tryz.zeroValue161
  t51 := Tryz.underlying189
  a51 := Tryz.isAgg189
  z51 := Tryz.sizeOf189
  v51 := Tryz.zeroValue189
  t53 := Tryz.underlying175
  a53 := Tryz.isAgg175
  z53 := Tryz.sizeOf175
  v53 := Tryz.zeroValue175
  t131 := Tryz.underlying151
  a131 := Tryz.isAgg151
  z131 := Tryz.sizeOf151
  v131 := Tryz.zeroValue151
  t182 := Tryz.underlying181
  a182 := Tryz.isAgg181
  z182 := Tryz.sizeOf181
  v182 := Tryz.zeroValue181
  t183 := Tryz.underlying182
  a183 := Tryz.isAgg182
  z183 := Tryz.sizeOf182
  v183 := Tryz.zeroValue182
  t218 := Tryz.underlying197
  a218 := Tryz.isAgg197
  z218 := Tryz.sizeOf197
  v218 := Tryz.zeroValue197
  t222 := Tryz.underlying201
  a222 := Tryz.isAgg201
  z222 := Tryz.sizeOf201
  v222 := Tryz.zeroValue201
  t228 := Tryz.underlying220
  a228 := Tryz.isAgg220
  z228 := Tryz.sizeOf220
  v228 := Tryz.zeroValue220
  t229 := Tryz.underlying221
  a229 := Tryz.isAgg221
  z229 := Tryz.sizeOf221
  v229 := Tryz.zeroValue221 }
open Go.Sort Go.RowKit in
theorem Tryz.slices_Sort_int (blk off cap : Nat) (zs : List Int) (w : World) (hH : Holds (Value.int .i64) w blk off zs.toArray) (hblk : blk < w.heap.size) (hsz : zs.length < 4611686018427387904) :
    Calls Tryz.prog 97 #[.slice (some ⟨blk, off, none⟩) zs.length cap] w fun e w' =>
      e = .returned (.tuple #[]) ∧ ∃ n os, w' = grow (putRow (Value.int .i64) (Sort.ahead w n) blk off (zs.mergeSort fun x y => decide (x ≤ y)).toArray) os := Any.slices_Sort_int Tryz.lays189 blk off cap zs w hH hblk hsz
def Tryz.laysNm220_ren : Go.Shelf.Ren := ⟨fun | 20 => 84 | n => n, fun | 22 => 34 | 3 => 3 | 4 => 4 | 0 => 0 | n => n, fun | n => n⟩
theorem Tryz.laysNm220 : Go.Proofs.Lays2.n20 Tryz.prog Tryz.laysNm220_ren := {
  mixed := by kernel_rfl
  f20 := Tryz.func84.trans (congrArg some (by kernel_rfl))
  t0 := Tryz.underlying0
  a0 := Tryz.isAgg0
  z0 := Tryz.sizeOf0
  v0 := Tryz.zeroValue0
  t3 := Tryz.underlying3
  a3 := Tryz.isAgg3
  z3 := Tryz.sizeOf3
  v3 := Tryz.zeroValue3
  t4 := Tryz.underlying4
  a4 := Tryz.isAgg4
  z4 := Tryz.sizeOf4
  v4 := Tryz.zeroValue4
  t22 := Tryz.underlying34
  a22 := Tryz.isAgg34
  z22 := Tryz.sizeOf34
  v22 := Tryz.zeroValue34
  i3 := by kernel_rfl }
open Go.RowKit Go.Lib Go.Sort in
theorem Tryz.slices_Compact_int (blk off cap : Nat) (zs : List Int) (w : World) (hH : Holds (Value.int .i64) w blk off zs.toArray) (hsz : zs.length ≤ 9223372036854775807) (hcap : zs.length ≤ cap) :
    Calls Tryz.prog 84 #[.slice (some ⟨blk, off, none⟩) zs.length cap] w fun e w' => e = .returned (.slice (some ⟨blk, off, none⟩) (Lib.compact zs).length cap) ∧ ∃ q, w' = putRow (Value.int .i64) (Sort.ahead w q) blk off (Lib.compact zs ++ List.replicate (zs.length - (Lib.compact zs).length) 0).toArray := Any.slices_Compact_int Tryz.laysNm220 blk off cap zs w hH hsz hcap
open Go.RowKit Go.Lib Go.Sort in
theorem Tryz.slices_Compact_int_empty (a : Option Addr) (cap : Nat) (w : World) :
    Calls Tryz.prog 84 #[.slice a 0 cap] w fun e w' => e = .returned (.slice a 0 cap) ∧ w' = w := Any.slices_Compact_int_empty Tryz.laysNm220 a cap w
open Go.RowKit Go.Sort in
theorem Tryz.slices_Sort_int_none (p : Option Addr) (cap : Nat) (w : World) :
    Calls Tryz.prog 97 #[.slice p 0 cap] w fun e w' => e = .returned (.tuple #[]) ∧ w' = w := Any.slices_Sort_int_none Tryz.lays189 p cap w
end Go.Proofs
/- Walks: slices.Sorted and slices.Compact, at int: what they tell of a list. -/
namespace Go.Proofs.YtpafjhjpchdcdaaGreatDoor
open Go Go.Proofs Go.RowKit Go.Shelf
theorem own_putg {w : World} {base g n cap m : Nat} {L T : List Int} (os : Array Obj) (h : Own encI 1 3 w base (.slice (some ⟨g, 0, none⟩) n cap) L) (hn : L.length = n) (hT : T.length = n) :
    Own encI 1 3 (Sort.grow (Sort.putRow (Value.int .i64) (Sort.ahead w m) g 0 T.toArray) os) base (.slice (some ⟨g, 0, none⟩) n cap) T ∧ w.grownBy (Sort.grow (Sort.putRow (Value.int .i64) (Sort.ahead w m) g 0 T.toArray) os) (some g) := by
  have h1 := own_rev (m := m) h hn hT
  have h2 : w.grownBy (Sort.putRow (Value.int .i64) (Sort.ahead w m) g 0 T.toArray) (some g) := by
    refine ⟨rfl, rfl, rfl, by simp [Sort.putRow, Sort.mapBlock, Sort.ahead], fun k hk hne => ?_⟩
    have : g ≠ k := fun e => hne (by rw [e])
    simp [Sort.putRow, Sort.mapBlock, Sort.ahead, Array.getElem?_modify, this]
  generalize Sort.putRow (Value.int .i64) (Sort.ahead w m) g 0 T.toArray = X at *
  have h3 : X.grownBy (Sort.grow X os) none := ⟨rfl, rfl, rfl, by simp [Sort.grow], fun k hk _ => by simp [Sort.grow, Array.getElem?_append_left hk]⟩
  refine ⟨h1.kept h3 (.inr (by simp [Value.ownBlock])), ?_⟩
  exact ⟨h3.os.trans h2.os, h3.tape.trans h2.tape, h3.output.trans h2.output, Nat.le_trans h2.size h3.size, fun k hk hne => (h3.block k (Nat.lt_of_lt_of_le hk h2.size) (by simp)).trans (h2.block k hk hne)⟩
theorem holds_own {w : World} {base g n cap : Nat} {L : List Int} (h : Own encI 1 3 w base (.slice (some ⟨g, 0, none⟩) n cap) L) (hn : L.length = n) : Sort.Holds (Value.int .i64) w g 0 L.toArray := by
  intro j hj
  have hj' : j < L.length := by simpa using hj
  refine ⟨?_, h.frozenN hn _⟩
  have h1 := (h.atN hn encI_len j hj').c1
  rw [Nat.mul_one] at h1
  rw [Nat.zero_add, h1]
  simp [hj']
def sortI (l : List Int) : List Int := l.mergeSort fun x y => decide (x ≤ y)
theorem sortI_len (l : List Int) : (sortI l).length = l.length := by unfold sortI; simp
theorem encI_flat (l : List Int) : l.flatMap encI = l.map fun x => .int .i64 x := by
  induction l with
  | nil => rfl
  | cons x l ih => rw [List.flatMap_cons, ih]; rfl
set_option maxRecDepth 100000 in
set_option maxHeartbeats 400000 in
theorem collect152 (q B : Nat) (v : Value) (l : List Int) (w : World) (hit : VlR w q B v l) (hl : l.length ≤ 1000000000) :
    Calls Tryz.prog 96 #[.func (.func 98) #[] #[.pointer (some ⟨q, 0, none⟩)]] w fun e w' => ∃ v', e = .returned v' ∧ Own encI 1 3 w' w.heap.size v' l ∧ Below w.heap.size w w' := by
  have H := Lib.hid (callsIn_wide.1 (appendSeq160 q B v l w hit hl))
  clear hit
  go_enter Tryz.func96, Tryz.ntmps96
  go_wp2_with (go_at_call 113; refine H.out.mono ?_; rintro e w' ⟨v', rfl, ho, hb⟩)
  go_ret
  exact ⟨_, rfl, by unfold Own; rw [encI_flat]; exact ho, hb⟩
set_option maxRecDepth 100000 in
set_option maxHeartbeats 400000 in
theorem sorted134 (q B : Nat) (v : Value) (l : List Int) (w : World) (hit : VlR w q B v l) (hl : l.length ≤ 1000000000) :
    Calls Tryz.prog 85 #[.func (.func 98) #[] #[.pointer (some ⟨q, 0, none⟩)]] w fun e w' => ∃ v', e = .returned v' ∧ Own encI 1 3 w' w.heap.size v' (sortI l) ∧ Below w.heap.size w w' := by
  have H := Lib.hid (collect152 q B v l w hit hl)
  clear hit
  obtain ⟨Q, hQ⟩ : ∃ Q : Ending → World → Prop, (fun e w' => ∃ v', e = .returned v' ∧ Own encI 1 3 w' w.heap.size v' (sortI l) ∧ Below w.heap.size w w') = Q := ⟨_, rfl⟩
  rw [hQ]
  have HQ : Hid (∀ v' T w', Own encI 1 3 w' w.heap.size v' T → T = sortI l → Below w.heap.size w w' → Q (.returned v') w') := Lib.hid (fun v' T w' h1 h2 h3 => by rw [← hQ]; subst h2; exact ⟨v', rfl, h1, h3⟩)
  have HSL := Lib.hid (sortI_len l)
  have HSE : Hid (l.mergeSort (fun x y => decide (x ≤ y)) = sortI l) := Lib.hid rfl
  generalize sortI l = T at *
  clear hQ
  go_enter Tryz.func85, Tryz.ntmps85
  go_wp2_with (go_at_call 96; refine H.out.mono ?_; rintro e w1 ⟨v', rfl, ho, hb⟩)
  obtain ⟨n, hn⟩ : ∃ n, l.length = n := ⟨_, rfl⟩
  rw [hn] at hl HSL
  obtain ⟨a, c, rfl⟩ := ho.shape
  rw [hn] at ho ⊢
  have HN := Lib.hid hn
  cases n with
  | zero =>
    have : T = [] := List.eq_nil_of_length_eq_zero HSL.out
    subst this
    have : l = [] := List.eq_nil_of_length_eq_zero hn
    subst this
    have HO := Lib.hid ho
    have HB := Lib.hid hb
    clear ho hb H hn
    go_wp2_with (go_at_call 97; refine (Tryz.slices_Sort_int_none a c w1).mono ?_; rintro e w' ⟨rfl, rfl⟩)
    exact HQ.out _ _ _ HO.out rfl HB.out
  | succ n =>
    obtain ⟨g, cap, e1, hg1, hg2⟩ := ho.form (by omega)
    rw [hn] at e1
    simp only [Value.slice.injEq, true_and] at e1
    obtain ⟨rfl, rfl⟩ := e1
    have HS := Lib.hid (Tryz.slices_Sort_int g 0 c l w1 (holds_own ho hn) ho.ltN.2 (by omega))
    rw [hn, HSE.out] at HS
    have HO := Lib.hid ho
    have HB := Lib.hid hb
    have HG := Lib.hid hg1
    clear ho hb hn hg1 hg2 H
    go_wp2_with (go_at_call 97; refine HS.out.mono ?_; rintro e w' ⟨rfl, m, os, rfl⟩)
    obtain ⟨k1, k2⟩ := own_putg (m := m) (T := T) os HO.out HN.out HSL.out
    exact HQ.out _ _ _ k1 rfl (HB.out.grown k2 HB.out.size fun k e => by cases e; exact HG.out)
def cptN (l : List Int) : Nat := (Lib.compact (sortI l)).length
theorem cpt_le (T : List Int) : (Lib.compact T).length ≤ T.length := by
  unfold Lib.compact Lib.compactUpTo
  rw [List.length_map]
  exact Nat.le_trans (List.length_filter_le _ _) (by simp)
theorem compact133 (base : Nat) (v : Value) (l : List Int) (w : World) (ho : Own encI 1 3 w base v (sortI l)) (hB : base ≤ w.heap.size) (hl : l.length ≤ 1000000000) :
    Calls Tryz.prog 84 #[v] w fun e w' => ∃ a c, e = .returned (.slice a (cptN l) c) ∧ Below base w w' := by
  have hT := sortI_len l
  unfold cptN
  generalize sortI l = T at *
  obtain ⟨n, hn⟩ : ∃ n, T.length = n := ⟨_, rfl⟩
  obtain ⟨a, c, rfl⟩ := ho.shape
  rw [hn] at ho ⊢
  cases n with
  | zero =>
    have : T = [] := List.eq_nil_of_length_eq_zero hn
    subst this
    refine (Tryz.slices_Compact_int_empty a c w).mono ?_
    rintro e w' ⟨rfl, rfl⟩
    exact ⟨a, c, rfl, Below.refl _ _⟩
  | succ n =>
    obtain ⟨g, cap, e1, hg1, hg2⟩ := ho.form (by omega)
    rw [hn] at e1
    simp only [Value.slice.injEq, true_and] at e1
    obtain ⟨rfl, rfl⟩ := e1
    have hcap : n + 1 ≤ c := by
      rcases ho.2 with ⟨h0, _⟩ | ⟨g', cap', cur, e1, _, _, h3, _⟩
      · cases h0
      · simp only [Value.slice.injEq] at e1
        obtain ⟨_, _, rfl⟩ := e1
        omega
    have hc := Tryz.slices_Compact_int g 0 c T w (holds_own ho hn) (by omega) (by rw [hn]; exact hcap)
    have hle := cpt_le T
    rw [hn] at hc hle
    generalize Lib.compact T = X at *
    refine hc.mono ?_
    rintro e w' ⟨rfl, m, rfl⟩
    obtain ⟨_, k2⟩ := own_putg (m := m) (T := X ++ List.replicate (n + 1 - X.length) 0) #[] ho hn (by
      rw [List.length_append, List.length_replicate]; omega)
    rw [Sort.grow_empty] at k2
    exact ⟨_, _, rfl, (Below.refl base w).grown k2 hB fun k e => by cases e; exact hg1⟩
theorem keeps_iff (l : List Int) (j : Nat) (hj : j < l.length) : Lib.keeps l.toArray j = true ↔ j = 0 ∨ l.getD j 0 ≠ l.getD (j - 1) 0 := by
  unfold Lib.keeps
  have e1 : l.toArray[j]! = l.getD j 0 := by simp [hj, List.getD_eq_getElem?_getD]
  have e2 : l.toArray[j - 1]! = l.getD (j - 1) 0 := by simp [show j - 1 < l.length by omega, List.getD_eq_getElem?_getD]
  rw [e1, e2]
  simp
theorem cpt_all (l : List Int) : (Lib.compact l).length = l.length ↔ ∀ j, j < l.length → Lib.keeps l.toArray j = true := by
  unfold Lib.compact Lib.compactUpTo
  rw [List.length_map]
  have : (List.range l.length).length = l.length := by simp
  constructor
  · intro h j hj
    rw [← this] at h
    rw [this] at h
    have h2 : ((List.range l.length).filter (Lib.keeps l.toArray)).length = (List.range l.length).length := by rw [this]; exact h
    exact List.length_filter_eq_length_iff.1 h2 j (by simpa using hj)
  · intro h
    have h2 : ((List.range l.length).filter (Lib.keeps l.toArray)).length = (List.range l.length).length := List.length_filter_eq_length_iff.2 fun j hj => h j (by simpa using hj)
    rw [h2, this]
theorem sorted_nodup (l : List Int) (hs : l.Pairwise fun a b => a ≤ b) : (∀ j, j < l.length → j = 0 ∨ l.getD j 0 ≠ l.getD (j - 1) 0) ↔ l.Nodup := by
  have hg : ∀ i (h : i < l.length), l.getD i 0 = l[i] := fun i h => getD_at l i h
  constructor
  · intro h
    have hlt : ∀ i, ∀ j, i < j → j < l.length → l.getD i 0 < l.getD j 0 := by
      intro i j
      induction j with
      | zero => intro h; omega
      | succ j ih =>
        intro hij hj
        have h1 : l.getD j 0 ≤ l.getD (j + 1) 0 := by
          rw [hg j (by omega), hg (j + 1) hj]
          exact List.pairwise_iff_getElem.1 hs j (j + 1) (by omega) hj (by omega)
        have h2 := (h (j + 1) hj).resolve_left (by omega)
        rw [Nat.add_sub_cancel] at h2
        rcases Nat.lt_succ_iff_lt_or_eq.1 hij with h3 | h3
        · have := ih h3 (by omega); omega
        · subst h3; omega
    rw [List.nodup_iff_pairwise_ne, List.pairwise_iff_getElem]
    intro i j hi hj hij e
    have := hlt i j hij hj
    rw [hg i hi, hg j hj] at this
    omega
  · intro h j hj
    by_cases h0 : j = 0
    · exact .inl h0
    · refine .inr fun e => ?_
      rw [hg j hj, hg (j - 1) (by omega)] at e
      have := List.pairwise_iff_getElem.1 (List.nodup_iff_pairwise_ne.1 h) (j - 1) j (by omega) hj (by omega)
      exact this e.symm
theorem cptN_iff (l : List Int) : cptN l = l.length ↔ l.Nodup := by
  have hp : (sortI l).Perm l := List.mergeSort_perm _ _
  have hs : (sortI l).Pairwise fun a b => a ≤ b := by
    have := List.pairwise_mergeSort (le := fun x y : Int => decide (x ≤ y)) (fun a b c h1 h2 => by simp at *; omega) (fun a b => by simp; omega) l
    exact this.imp fun h => by simpa using h
  rw [← hp.nodup_iff, ← sorted_nodup _ hs, ← sortI_len l]
  unfold cptN
  rw [cpt_all]
  exact ⟨fun h j hj => (keeps_iff _ j hj).1 (h j hj), fun h j hj => (keeps_iff _ j hj).2 (h j hj)⟩
theorem cptN_dup (l : List Int) : ((cptN l : Int) != (l.length : Int)) = dupB l := by
  cases h : dupB l with
  | false =>
    have := (cptN_iff l).2 ((nodup_dup l).1 h)
    simp [this]
  | true =>
    have : cptN l ≠ l.length := fun e => by rw [(nodup_dup l).2 ((cptN_iff l).1 e)] at h; cases h
    simp; omega
end Go.Proofs.YtpafjhjpchdcdaaGreatDoor
