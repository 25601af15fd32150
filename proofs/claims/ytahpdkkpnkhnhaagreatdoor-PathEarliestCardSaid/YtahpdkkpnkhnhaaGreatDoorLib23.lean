/- Lemmas on the way to the laws (part 23): Eh Ei Dc ShB -/
import Derived.Test.YtahpdkkpnkhnhaaGreatDoorLib22
import Derived.RegionTactic
import Derived.BigRegion
import Derived.Test.YtahpdkkpnkhnhaaGreatDoorLib20
import Derived.RangeFuncBox
import Derived.RangeFuncFrom
import Derived.Shelf.Sort.Plain
import Derived.Ground.Names2Prog
import Derived.Shelf.Slices.CompactI
import Derived.Shelf.Slices.In.SortNone
import Derived.Ground.NamesProg
import Derived.Test.YtahpdkkpnkhnhaaGreatDoorProg
set_option linter.unusedVariables false
set_option linter.unusedSimpArgs false

/- Walks: most: the room of the arcs. -/
namespace Go.Proofs.YtahpdkkpnkhnhaaGreatDoor
open Go Go.Proofs Go.RowKit Go.Shelf

def fq119 (N : Nat) (s t : Value) (fb src snk b13 na k : Nat) (v2 : Value) (q14 q15 : Value) (z y : Nat → Value) : List Value := z 0 :: s :: t :: .pointer (some ⟨N, 0, none⟩) :: z 4 :: z 5 :: z 6 :: z 7 :: .pointer (some ⟨fb, 0, none⟩) :: .int .i64 src :: .int .i64 snk :: z 11 :: z 12 :: .pointer (some ⟨b13, 0, none⟩) :: q14 :: q15 :: z 16 :: z 17 :: z 18 :: z 19 :: z 20 :: z 21 :: z 22 :: z 23 :: z 24 :: z 25 :: z 26 :: z 27 :: z 28 :: z 29 :: z 30 :: z 31 :: z 32 :: z 33 :: z 34 :: z 35 :: z 36 :: z 37 :: z 38 :: z 39 :: z 40 :: z 41 :: z 42 :: z 43 :: z 44 :: z 45 :: z 46 :: z 47 :: z 48 :: z 49 :: z 50 :: z 51 :: z 52 :: z 53 :: z 54 :: z 55 :: .pointer (some ⟨N, 1, none⟩) :: v2 :: .int .i64 (na : Int) :: .int .i64 (k : Int) :: y 60 :: y 61 :: y 62 :: y 63 :: y 64 :: y 65 :: y 66 :: y 67 :: y 68 :: y 69 :: y 70 :: y 71 :: y 72 :: y 73 :: y 74 :: y 75 :: y 76 :: y 77 :: y 78 :: y 79 :: y 80 :: y 81 :: y 82 :: y 83 :: y 84 :: y 85 :: y 86 :: y 87 :: y 88 :: y 89 :: y 90 :: y 91 :: y 92 :: y 93 :: y 94 :: y 95 :: y 96 :: y 97 :: y 98 :: y 99 :: y 100 :: y 101 :: y 102 :: y 103 :: y 104 :: z 105 :: z 106 :: z 107 :: z 108 :: z 109 :: z 110 :: z 111 :: z 112 :: z 113 :: z 114 :: z 115 :: z 116 :: z 117 :: z 118 :: z 119 :: z 120 :: z 121 :: z 122 :: z 123 :: z 124 :: z 125 :: z 126 :: z 127 :: z 128 :: z 129 :: z 130 :: z 131 :: z 132 :: z 133 :: z 134 :: z 135 :: z 136 :: z 137 :: z 138 :: z 139 :: z 140 :: z 141 :: z 142 :: z 143 :: z 144 :: z 145 :: z 146 :: z 147 :: z 148 :: z 149 :: z 150 :: z 151 :: z 152 :: z 153 :: z 154 :: z 155 :: z 156 :: z 157 :: z 158 :: z 159 :: z 160 :: z 161 :: z 162 :: z 163 :: z 164 :: z 165 :: z 166 :: z 167 :: z 168 :: z 169 :: z 170 :: z 171 :: z 172 :: z 173 :: z 174 :: z 175 :: z 176 :: z 177 :: z 178 :: z 179 :: z 180 :: z 181 :: z 182 :: z 183 :: z 184 :: z 185 :: []
def fr119c (N : Nat) (s t : Value) (fb src snk b13 na k : Nat) (v2 : Value) (b14 b15 : Nat) (z y : Nat → Value) : List Value := z 0 :: s :: t :: .pointer (some ⟨N, 0, none⟩) :: z 4 :: z 5 :: z 6 :: z 7 :: .pointer (some ⟨fb, 0, none⟩) :: .int .i64 src :: .int .i64 snk :: z 11 :: z 12 :: .pointer (some ⟨b13, 0, none⟩) :: .pointer (some ⟨b14, 0, none⟩) :: .pointer (some ⟨b15, 0, none⟩) :: z 16 :: z 17 :: z 18 :: z 19 :: z 20 :: z 21 :: z 22 :: z 23 :: z 24 :: z 25 :: z 26 :: z 27 :: z 28 :: z 29 :: z 30 :: z 31 :: z 32 :: z 33 :: z 34 :: z 35 :: z 36 :: z 37 :: z 38 :: z 39 :: z 40 :: z 41 :: z 42 :: z 43 :: z 44 :: z 45 :: z 46 :: z 47 :: z 48 :: z 49 :: z 50 :: z 51 :: z 52 :: z 53 :: z 54 :: z 55 :: .pointer (some ⟨N, 1, none⟩) :: v2 :: .int .i64 (na : Int) :: .int .i64 (k : Int) :: y 60 :: y 61 :: y 62 :: y 63 :: y 64 :: y 65 :: y 66 :: y 67 :: y 68 :: y 69 :: y 70 :: y 71 :: y 72 :: y 73 :: y 74 :: y 75 :: y 76 :: y 77 :: y 78 :: y 79 :: y 80 :: y 81 :: y 82 :: y 83 :: y 84 :: y 85 :: y 86 :: y 87 :: y 88 :: y 89 :: y 90 :: y 91 :: y 92 :: y 93 :: y 94 :: y 95 :: y 96 :: y 97 :: y 98 :: y 99 :: y 100 :: y 101 :: y 102 :: y 103 :: y 104 :: z 105 :: z 106 :: z 107 :: z 108 :: z 109 :: z 110 :: z 111 :: z 112 :: z 113 :: z 114 :: z 115 :: z 116 :: z 117 :: z 118 :: z 119 :: z 120 :: z 121 :: z 122 :: z 123 :: z 124 :: z 125 :: z 126 :: z 127 :: z 128 :: z 129 :: z 130 :: z 131 :: z 132 :: z 133 :: z 134 :: z 135 :: z 136 :: z 137 :: z 138 :: z 139 :: z 140 :: z 141 :: z 142 :: z 143 :: z 144 :: z 145 :: z 146 :: z 147 :: z 148 :: z 149 :: z 150 :: z 151 :: z 152 :: z 153 :: z 154 :: z 155 :: z 156 :: z 157 :: z 158 :: z 159 :: z 160 :: z 161 :: z 162 :: z 163 :: z 164 :: z 165 :: z 166 :: z 167 :: z 168 :: z 169 :: z 170 :: z 171 :: z 172 :: z 173 :: z 174 :: z 175 :: z 176 :: z 177 :: z 178 :: z 179 :: z 180 :: z 181 :: z 182 :: z 183 :: z 184 :: z 185 :: []
def fr119d (N : Nat) (s t : Value) (fb src snk b13 na k : Nat) (v2 : Value) (b14 b15 : Nat) (R : Bool) (z y : Nat → Value) : List Value := z 0 :: s :: t :: .pointer (some ⟨N, 0, none⟩) :: z 4 :: z 5 :: z 6 :: z 7 :: .pointer (some ⟨fb, 0, none⟩) :: .int .i64 src :: .int .i64 snk :: z 11 :: z 12 :: .pointer (some ⟨b13, 0, none⟩) :: .pointer (some ⟨b14, 0, none⟩) :: .pointer (some ⟨b15, 0, none⟩) :: z 16 :: z 17 :: z 18 :: z 19 :: z 20 :: z 21 :: z 22 :: z 23 :: z 24 :: z 25 :: z 26 :: z 27 :: z 28 :: z 29 :: z 30 :: z 31 :: z 32 :: z 33 :: z 34 :: z 35 :: z 36 :: z 37 :: z 38 :: z 39 :: z 40 :: z 41 :: z 42 :: z 43 :: z 44 :: z 45 :: z 46 :: z 47 :: z 48 :: z 49 :: z 50 :: z 51 :: z 52 :: z 53 :: z 54 :: z 55 :: .pointer (some ⟨N, 1, none⟩) :: v2 :: .int .i64 (na : Int) :: .int .i64 (k : Int) :: y 60 :: y 61 :: y 62 :: y 63 :: y 64 :: y 65 :: y 66 :: y 67 :: y 68 :: y 69 :: y 70 :: y 71 :: y 72 :: y 73 :: y 74 :: y 75 :: y 76 :: y 77 :: y 78 :: y 79 :: y 80 :: y 81 :: y 82 :: y 83 :: y 84 :: y 85 :: y 86 :: y 87 :: y 88 :: y 89 :: y 90 :: y 91 :: .bool R :: y 93 :: y 94 :: y 95 :: y 96 :: y 97 :: y 98 :: y 99 :: y 100 :: y 101 :: y 102 :: y 103 :: y 104 :: z 105 :: z 106 :: z 107 :: z 108 :: z 109 :: z 110 :: z 111 :: z 112 :: z 113 :: z 114 :: z 115 :: z 116 :: z 117 :: z 118 :: z 119 :: z 120 :: z 121 :: z 122 :: z 123 :: z 124 :: z 125 :: z 126 :: z 127 :: z 128 :: z 129 :: z 130 :: z 131 :: z 132 :: z 133 :: z 134 :: z 135 :: z 136 :: z 137 :: z 138 :: z 139 :: z 140 :: z 141 :: z 142 :: z 143 :: z 144 :: z 145 :: z 146 :: z 147 :: z 148 :: z 149 :: z 150 :: z 151 :: z 152 :: z 153 :: z 154 :: z 155 :: z 156 :: z 157 :: z 158 :: z 159 :: z 160 :: z 161 :: z 162 :: z 163 :: z 164 :: z 165 :: z 166 :: z 167 :: z 168 :: z 169 :: z 170 :: z 171 :: z 172 :: z 173 :: z 174 :: z 175 :: z 176 :: z 177 :: z 178 :: z 179 :: z 180 :: z 181 :: z 182 :: z 183 :: z 184 :: z 185 :: []

noncomputable def rd2_119 : Code := codeL (codeL (codeR m2_119))
noncomputable def x2_119 : Code := codeL (codeL (codeR (codeR rd2_119)))
noncomputable def r11_119 : Code := codeL (codeR x2_119)
theorem m2_eq : m2_119 = .seq (codeL m2_119) (.block 2 (.loop rd2_119)) := rfl
theorem rd2_eq : rd2_119 = .seq (codeL rd2_119) (.seq (codeL (codeR rd2_119)) (.seq (.block 3 x2_119) (codeR (codeR (codeR rd2_119))))) := rfl
theorem x2_eq : x2_119 = .seq (codeL x2_119) (.seq r11_119 (codeR (codeR x2_119))) := rfl

set_option maxRecDepth 100000 in
set_option maxHeartbeats 4000000 in
theorem r11m_walk (W : World) (N : Nat) (s t : Value) (fb src snk b13 na k : Nat) (v2 q14 q15 : Value) (z y : Nat → Value) (b1 off1 n c1 f g : Nat) (v2' : Value) (sf sg : ByteArray) (tf tg : Int)
    (hx : Box W N 25 [.slice (some ⟨b1, off1, none⟩) n c1, v2']) (h13 : Box W b13 123 [.int .i64 (f : Int), .int .i64 (g : Int)]) (hf : f < n) (hg : g < n) (hn : n ≤ 64)
    (hmf : At W b1 (off1 + f * 2) [.string sf, .int .i64 tf]) (hmg : At W b1 (off1 + g * 2) [.string sg, .int .i64 tg]) (hb1 : b1 < W.heap.size) :
    r11_119.wp Tryz.prog (fun e A W' => e = .normal ∧ ∃ b14 b15 y', A = { tmps := (fr119c N s t fb src snk b13 na k v2 b14 b15 z y').toArray, defers := [] } ∧ Box W' b14 65 [.string sf, .int .i64 tf] ∧ Box W' b15 65 [.string sg, .int .i64 tg] ∧ Below W.heap.size W W')
      { tmps := (fq119 N s t fb src snk b13 na k v2 q14 q15 z y).toArray, defers := [] } W := by
  obtain ⟨x0, x1, xf, xz⟩ := hx.v2
  obtain ⟨y0, y1, yf, yz⟩ := h13.v2
  obtain ⟨k0, k1⟩ := hmf.c2
  obtain ⟨l0, l1⟩ := hmg.c2
  have hf64 : (f : Int) < 64 := by omega
  have hg64 : (g : Int) < 64 := by omega
  clear hx h13 hmf hmg
  simp only [r11_119, x2_119, rd2_119, m2_119, c119, Tryz.f119, Option.getD, codeL, codeR, fq119]
  refine wp_region_noPanic ?_
  go_region
  all_goals refine NoPanic.normal ?_
  · have h1 : Below W.heap.size W ((W.alloc (.cells #[.string sf, .int .i64 tf] 65)).alloc (.cells #[.string sg, .int .i64 tg] 65)) := ((Below.refl _ _).alloc (Nat.le_refl _) _).alloc (by simp) _
    have h2 := Box.new (W.alloc (.cells #[.string sf, .int .i64 tf] 65)) #[.string sg, .int .i64 tg] 65
    rw [World.size_alloc] at h2
    exact ⟨rfl, W.heap.size, W.heap.size + 1, fun i => [_, _, _, _, _, _, _, _, _, _, _, _, _, _, _, _, _, _, _, _, _, _, _, _, _, _, _, _, _, _, _, _, _, _, _, _, _, _, _, _, _, _, _, _, _].getD (i - 60) undef, rfl, ((Box.new W #[.string sf, .int .i64 tf] 65).alloc _).drew, h2.drew, h1.drew⟩
  · have h1 : Below W.heap.size W ((W.alloc (.cells #[.string sg, .int .i64 tg] 65)).alloc (.cells #[.string sf, .int .i64 tf] 65)) := ((Below.refl _ _).alloc (Nat.le_refl _) _).alloc (by simp) _
    have h2 := Box.new (W.alloc (.cells #[.string sg, .int .i64 tg] 65)) #[.string sf, .int .i64 tf] 65
    rw [World.size_alloc] at h2
    exact ⟨rfl, W.heap.size + 1, W.heap.size, fun i => [_, _, _, _, _, _, _, _, _, _, _, _, _, _, _, _, _, _, _, _, _, _, _, _, _, _, _, _, _, _, _, _, _, _, _, _, _, _, _, _, _, _, _, _, _].getD (i - 60) undef, rfl, h2.drew, ((Box.new W #[.string sg, .int .i64 tg] 65).alloc _).drew, h1.drew⟩
end Go.Proofs.YtahpdkkpnkhnhaaGreatDoor

/- Walks: most: may anything pass along an arc. -/
namespace Go.Proofs.YtahpdkkpnkhnhaaGreatDoor
open Go Go.Proofs Go.RowKit Go.Shelf

noncomputable def r12_119 : Code := codeL (codeR (codeR x2_119))
set_option maxRecDepth 100000 in
set_option maxHeartbeats 1000000 in
theorem r12m_walk (w W : World) (N : Nat) (s t : Value) (fb src snk b13 na k : Nat) (v2 : Value) (b14 b15 : Nat) (z y : Nat → Value) (f g : Nat) (sf sg : ByteArray) (tf tg : Int) (ls lt : List Int) (R : Bool)
    (hwd : WdR w) (hW : Below w.heap.size w W) (hs : Sl encI 1 w w.heap.size s ls) (ht : Sl encI 1 w w.heap.size t lt) (h13 : Box W b13 123 [.int .i64 (f : Int), .int .i64 (g : Int)]) (h14 : Box W b14 65 [.string sf, .int .i64 tf]) (h15 : Box W b15 65 [.string sg, .int .i64 tg])
    (hR : ((cvB sf || ls.contains (f : Int)) && (cvB sg || lt.contains (g : Int))) = R) (Q : Exit → Act → World → Prop)
    (hQ : ∀ y' W', Below W.heap.size W W' → Q .normal { tmps := (fr119d N s t fb src snk b13 na k v2 b14 b15 R z y').toArray, defers := [] } W') :
    r12_119.wp Tryz.prog Q { tmps := (fr119c N s t fb src snk b13 na k v2 b14 b15 z y).toArray, defers := [] } W := by
  have HC1 := Lib.hid (fun (W' : World) (hb : Below W.heap.size W W') => conveys84 sf tf W' (hwd.later (hW.trans (hb.mono hW.size))))
  have HC2 := Lib.hid (fun (W' : World) (hb : Below W.heap.size W W') => conveys84 sg tg W' (hwd.later (hW.trans (hb.mono hW.size))))
  have HK1 := Lib.hid (fun (W' : World) (hb : Below W.heap.size W W') => contains82 s ls f W' (hs.later (hW.trans (hb.mono hW.size))))
  have HK2 := Lib.hid (fun (W' : World) (hb : Below W.heap.size W W') => contains82 t lt g W' (ht.later (hW.trans (hb.mono hW.size))))
  have H13 := Lib.hid (fun (W' : World) (hb : Below W.heap.size W W') => (h13.later hb).v2)
  have H14 := Lib.hid (fun (W' : World) (hb : Below W.heap.size W W') => (h14.later hb).v2)
  have H15 := Lib.hid (fun (W' : World) (hb : Below W.heap.size W W') => (h15.later hb).v2)
  obtain ⟨sa, cs, rfl, _, _⟩ := hs
  obtain ⟨ta, ct, rfl, _, _⟩ := ht
  obtain ⟨ns, hns⟩ : ∃ n, ls.length = n := ⟨_, rfl⟩
  obtain ⟨nt, hnt⟩ : ∃ n, lt.length = n := ⟨_, rfl⟩
  rw [hns] at HK1 hQ ⊢
  rw [hnt] at HK2 hQ ⊢
  have HQ : Hid (∀ A W', (∃ y', A = { tmps := (fr119d N (.slice sa ns cs) (.slice ta nt ct) fb src snk b13 na k v2 b14 b15 R z y').toArray, defers := [] }) → Below W.heap.size W W' → Q .normal A W') := Lib.hid (by rintro A W' ⟨y', rfl⟩ h; exact hQ y' W' h)
  obtain ⟨A1, hA1⟩ : ∃ b, cvB sf = b := ⟨_, rfl⟩
  obtain ⟨A2, hA2⟩ : ∃ b, ls.contains (f : Int) = b := ⟨_, rfl⟩
  obtain ⟨A3, hA3⟩ : ∃ b, cvB sg = b := ⟨_, rfl⟩
  obtain ⟨A4, hA4⟩ : ∃ b, lt.contains (g : Int) = b := ⟨_, rfl⟩
  rw [hA1] at HC1
  rw [hA2] at HK1
  rw [hA3] at HC2
  rw [hA4] at HK2
  rw [hA1, hA2, hA3, hA4] at hR
  obtain ⟨p0, p1, pf, pz⟩ := H14.out W (Below.refl _ _)
  clear hQ hwd hW h13 h14 h15 hns hnt hA1 hA2 hA3 hA4
  simp only [r12_119, x2_119, rd2_119, m2_119, c119, Tryz.f119, Option.getD, codeL, codeR, fr119c]
  cases A1
  · cases A2
    · have hR : false = R := hR
      subst hR
      go_wp2_with (first | (go_at_call 84; refine (HC1.out _ (Below.refl _ _)).mono ?_; rintro e w2 ⟨rfl, hb2⟩; obtain ⟨q0, q1, qf, qz⟩ := H13.out w2 hb2; obtain ⟨o0, o1, of, oz⟩ := H15.out w2 hb2; have HB2 := Lib.hid hb2; clear hb2) | (go_at_call 82; refine (HK1.out _ HB2.out).mono ?_; rintro e w3 ⟨rfl, rfl⟩) | (go_at_call 84; refine (HC2.out _ HB2.out).mono ?_; rintro e w4 ⟨rfl, hb4⟩; have HB4 := Lib.hid (HB2.out.trans (hb4.mono HB2.out.size)); obtain ⟨l0, l1, lf, lz⟩ := H13.out w4 HB4.out; clear hb4) | (go_at_call 82; refine (HK2.out _ HB4.out).mono ?_; rintro e w5 ⟨rfl, rfl⟩))
      exact HQ.out _ _ ⟨fun i => [_, _, _, _, _, _, _, _, _, _, _, _, _, _, _, _, _, _, _, _, _, _, _, _, _, _, _, _, _, _, _, _, undef, _, _, _, _, _, _, _, _, _, _, _, _].getD (i - 60) undef, rfl⟩ HB2.out
    · cases A3
      · cases A4
        · have hR : false = R := hR
          subst hR
          go_wp2_with (first | (go_at_call 84; refine (HC1.out _ (Below.refl _ _)).mono ?_; rintro e w2 ⟨rfl, hb2⟩; obtain ⟨q0, q1, qf, qz⟩ := H13.out w2 hb2; obtain ⟨o0, o1, of, oz⟩ := H15.out w2 hb2; have HB2 := Lib.hid hb2; clear hb2) | (go_at_call 82; refine (HK1.out _ HB2.out).mono ?_; rintro e w3 ⟨rfl, rfl⟩) | (go_at_call 84; refine (HC2.out _ HB2.out).mono ?_; rintro e w4 ⟨rfl, hb4⟩; have HB4 := Lib.hid (HB2.out.trans (hb4.mono HB2.out.size)); obtain ⟨l0, l1, lf, lz⟩ := H13.out w4 HB4.out; clear hb4) | (go_at_call 82; refine (HK2.out _ HB4.out).mono ?_; rintro e w5 ⟨rfl, rfl⟩))
          exact HQ.out _ _ ⟨fun i => [_, _, _, _, _, _, _, _, _, _, _, _, _, _, _, _, _, _, _, _, _, _, _, _, _, _, _, _, _, _, _, _, undef, _, _, _, _, _, _, _, _, _, _, _, _].getD (i - 60) undef, rfl⟩ HB4.out
        · have hR : true = R := hR
          subst hR
          go_wp2_with (first | (go_at_call 84; refine (HC1.out _ (Below.refl _ _)).mono ?_; rintro e w2 ⟨rfl, hb2⟩; obtain ⟨q0, q1, qf, qz⟩ := H13.out w2 hb2; obtain ⟨o0, o1, of, oz⟩ := H15.out w2 hb2; have HB2 := Lib.hid hb2; clear hb2) | (go_at_call 82; refine (HK1.out _ HB2.out).mono ?_; rintro e w3 ⟨rfl, rfl⟩) | (go_at_call 84; refine (HC2.out _ HB2.out).mono ?_; rintro e w4 ⟨rfl, hb4⟩; have HB4 := Lib.hid (HB2.out.trans (hb4.mono HB2.out.size)); obtain ⟨l0, l1, lf, lz⟩ := H13.out w4 HB4.out; clear hb4) | (go_at_call 82; refine (HK2.out _ HB4.out).mono ?_; rintro e w5 ⟨rfl, rfl⟩))
          exact HQ.out _ _ ⟨fun i => [_, _, _, _, _, _, _, _, _, _, _, _, _, _, _, _, _, _, _, _, _, _, _, _, _, _, _, _, _, _, _, _, undef, _, _, _, _, _, _, _, _, _, _, _, _].getD (i - 60) undef, rfl⟩ HB4.out
      · have hR : true = R := hR
        subst hR
        go_wp2_with (first | (go_at_call 84; refine (HC1.out _ (Below.refl _ _)).mono ?_; rintro e w2 ⟨rfl, hb2⟩; obtain ⟨q0, q1, qf, qz⟩ := H13.out w2 hb2; obtain ⟨o0, o1, of, oz⟩ := H15.out w2 hb2; have HB2 := Lib.hid hb2; clear hb2) | (go_at_call 82; refine (HK1.out _ HB2.out).mono ?_; rintro e w3 ⟨rfl, rfl⟩) | (go_at_call 84; refine (HC2.out _ HB2.out).mono ?_; rintro e w4 ⟨rfl, hb4⟩; have HB4 := Lib.hid (HB2.out.trans (hb4.mono HB2.out.size)); obtain ⟨l0, l1, lf, lz⟩ := H13.out w4 HB4.out; clear hb4) | (go_at_call 82; refine (HK2.out _ HB4.out).mono ?_; rintro e w5 ⟨rfl, rfl⟩))
        exact HQ.out _ _ ⟨fun i => [_, _, _, _, _, _, _, _, _, _, _, _, _, _, _, _, _, _, _, _, _, _, _, _, _, _, _, _, _, _, _, _, undef, _, _, _, _, _, _, _, _, _, _, _, _].getD (i - 60) undef, rfl⟩ HB4.out
  · cases A3
    · cases A4
      · have hR : false = R := hR
        subst hR
        go_wp2_with (first | (go_at_call 84; refine (HC1.out _ (Below.refl _ _)).mono ?_; rintro e w2 ⟨rfl, hb2⟩; obtain ⟨q0, q1, qf, qz⟩ := H13.out w2 hb2; obtain ⟨o0, o1, of, oz⟩ := H15.out w2 hb2; have HB2 := Lib.hid hb2; clear hb2) | (go_at_call 82; refine (HK1.out _ HB2.out).mono ?_; rintro e w3 ⟨rfl, rfl⟩) | (go_at_call 84; refine (HC2.out _ HB2.out).mono ?_; rintro e w4 ⟨rfl, hb4⟩; have HB4 := Lib.hid (HB2.out.trans (hb4.mono HB2.out.size)); obtain ⟨l0, l1, lf, lz⟩ := H13.out w4 HB4.out; clear hb4) | (go_at_call 82; refine (HK2.out _ HB4.out).mono ?_; rintro e w5 ⟨rfl, rfl⟩))
        exact HQ.out _ _ ⟨fun i => [_, _, _, _, _, _, _, _, _, _, _, _, _, _, _, _, _, _, _, _, _, _, _, _, _, _, _, _, _, _, _, _, undef, _, _, _, _, _, _, _, _, _, _, _, _].getD (i - 60) undef, rfl⟩ HB4.out
      · have hR : true = R := hR
        subst hR
        go_wp2_with (first | (go_at_call 84; refine (HC1.out _ (Below.refl _ _)).mono ?_; rintro e w2 ⟨rfl, hb2⟩; obtain ⟨q0, q1, qf, qz⟩ := H13.out w2 hb2; obtain ⟨o0, o1, of, oz⟩ := H15.out w2 hb2; have HB2 := Lib.hid hb2; clear hb2) | (go_at_call 82; refine (HK1.out _ HB2.out).mono ?_; rintro e w3 ⟨rfl, rfl⟩) | (go_at_call 84; refine (HC2.out _ HB2.out).mono ?_; rintro e w4 ⟨rfl, hb4⟩; have HB4 := Lib.hid (HB2.out.trans (hb4.mono HB2.out.size)); obtain ⟨l0, l1, lf, lz⟩ := H13.out w4 HB4.out; clear hb4) | (go_at_call 82; refine (HK2.out _ HB4.out).mono ?_; rintro e w5 ⟨rfl, rfl⟩))
        exact HQ.out _ _ ⟨fun i => [_, _, _, _, _, _, _, _, _, _, _, _, _, _, _, _, _, _, _, _, _, _, _, _, _, _, _, _, _, _, _, _, undef, _, _, _, _, _, _, _, _, _, _, _, _].getD (i - 60) undef, rfl⟩ HB4.out
    · have hR : true = R := hR
      subst hR
      go_wp2_with (first | (go_at_call 84; refine (HC1.out _ (Below.refl _ _)).mono ?_; rintro e w2 ⟨rfl, hb2⟩; obtain ⟨q0, q1, qf, qz⟩ := H13.out w2 hb2; obtain ⟨o0, o1, of, oz⟩ := H15.out w2 hb2; have HB2 := Lib.hid hb2; clear hb2) | (go_at_call 82; refine (HK1.out _ HB2.out).mono ?_; rintro e w3 ⟨rfl, rfl⟩) | (go_at_call 84; refine (HC2.out _ HB2.out).mono ?_; rintro e w4 ⟨rfl, hb4⟩; have HB4 := Lib.hid (HB2.out.trans (hb4.mono HB2.out.size)); obtain ⟨l0, l1, lf, lz⟩ := H13.out w4 HB4.out; clear hb4) | (go_at_call 82; refine (HK2.out _ HB4.out).mono ?_; rintro e w5 ⟨rfl, rfl⟩))
      exact HQ.out _ _ ⟨fun i => [_, _, _, _, _, _, _, _, _, _, _, _, _, _, _, _, _, _, _, _, _, _, _, _, _, _, _, _, _, _, _, _, undef, _, _, _, _, _, _, _, _, _, _, _, _].getD (i - 60) undef, rfl⟩ HB4.out
end Go.Proofs.YtahpdkkpnkhnhaaGreatDoor

/- Walks: slices.Values, AppendSeq and Collect, at int. -/
namespace Go.Proofs.YtahpdkkpnkhnhaaGreatDoor
open Go Go.Proofs Go.RowKit Go.Shelf
attribute [local go_sem] Oper.semAt_some

/-- What slices.Values' iterator reads. -/
structure VlR (w : World) (q B : Nat) (v : Value) (l : List Int) : Prop where
  b : Box w q 26 [v]
  s : Sl encI 1 w B v l
  lt : B ≤ w.heap.size
theorem VlR.keep {w w' : World} {q B n₀ : Nat} {v : Value} {l : List Int} (h : VlR w q B v l) (hb : Below n₀ w w') (hq : q < n₀) (hB : B ≤ n₀) : VlR w' q B v l :=
  ⟨(hb.block q hq).trans h.b, h.s.below (hb.mono hB), Nat.le_trans h.lt hb.size⟩

set_option maxHeartbeats 400000 in
theorem values135 (a : Option Addr) (n c : Nat) (w : World) : Calls Tryz.prog 135 #[.slice a n c] w fun e w' =>
    e = .returned (.func (.func 154) #[] #[.pointer (some ⟨w.heap.size, 0, none⟩)]) ∧ w.alloc (.cells #[.slice a n c] 26) = w' := by
  go_enter Tryz.func135, Tryz.ntmps135
  go_wp2
  go_ret
  exact ⟨rfl, rfl⟩

set_option maxRecDepth 100000 in
set_option maxHeartbeats 1000000 in
theorem vals154 (n : Nat) (hn : 2 ≤ n) (q B n₀ : Nat) (hq : q < n₀) (hB : B ≤ n₀) (v : Value) (l : List Int) (lp : Nat) (J Jx : List Int → World → Prop) (W : World) (hit : VlR W q B v l)
    (hY : ∀ pre x W1, J pre W1 → pre.length < l.length → YieldAt Fence.wide (n - 1) Tryz.prog lp (encN x) W1 fun e W' =>
      (e = .returned (.bool true) ∧ J (pre ++ [x]) W' ∧ Below n₀ W1 W') ∨ (e = .returned (.bool false) ∧ Jx (pre ++ [x]) W'))
    (h0 : J [] W) :
    CallsIn Fence.wide n Tryz.prog 154 (#[.func (.yield lp) #[] #[]] ++ #[.pointer (some ⟨q, 0, none⟩)]) W fun e W' => (∃ v, e = .returned v) ∧
      ((∃ xs, xs = l ∧ J xs W') ∨ (∃ pre, pre <+: l ∧ Jx pre W')) := by
  have h1 : 1 ≤ n := by omega
  refine callsIn_of_wp Tryz.func154 rfl trivial ?_ rfl
  simp only [Tryz.ntmps154, List.size_toArray, List.length_cons, List.length_nil, Nat.reduceAdd, Nat.reduceSub, Array.replicate_succ, Array.replicate_zero, List.push_toArray, List.append_toArray, List.nil_append, List.cons_append]
  have d0 := hit.b.cell 0
  have z0 := hit.b.lt
  simp only [List.getElem?_cons_zero] at d0
  obtain ⟨a2, c2, rfl, ⟨hl1, hl2⟩, hA⟩ := id hit.s
  have HIT := Lib.hid hit
  have HY := Lib.hid hY
  have H0 := Lib.hid h0
  clear hit hA hY h0
  obtain ⟨na, hna⟩ : ∃ n, l.length = n := ⟨_, rfl⟩
  rw [hna] at d0 HIT HY hl1 hl2
  have HNA := Lib.hid hna
  clear hna
  gi_wp2
  gi_loopw [7] (fun j wr => ∃ k : Nat, k ≤ na ∧ j = .int .i64 k ∧ J (l.take k) wr ∧ VlR wr q B (.slice a2 na c2) l) (fun j _ => na - (intOf j).toNat)
  case atStart => exact ⟨0, by omega, rfl, by rw [List.take_zero]; exact H0.out, HIT.out⟩
  case round =>
    obtain ⟨k, hk, rfl, hJk, hit⟩ := hrel
    by_cases hlt : k < na
    rotate_left
    · obtain rfl : na = k := by omega
      gi_wp2
      go_end0
      exact ⟨⟨_, rfl⟩, .inl ⟨_, rfl, by have h := hJk; rw [← HNA.out, List.take_length] at h; exact h⟩⟩
    have hkl : k < l.length := by rw [HNA.out]; exact hlt
    obtain ⟨a2', c2', e2, _, hA2⟩ := id hit.s
    injection e2 with e21 e22 e23
    subst e21 e23
    clear e22
    obtain ⟨b, off, rfl, hbb, hcells⟩ := hA2 (by omega)
    have e0 := (hcells k hkl).c1
    rw [Nat.mul_one] at e0
    have hbz : b < wr.heap.size := Nat.lt_of_lt_of_le hbb hit.lt
    have HS := Lib.hid (take_snoc l k hkl)
    have HPX := Lib.hid (List.take_prefix (k + 1) l)
    have HJ := Lib.hid hJk
    have HL := Lib.hid (show (l.take k).length < na by rw [List.length_take]; omega)
    have HIT2 := Lib.hid hit
    clear hit hJk hcells hA2
    generalize l[k] = x at *
    clear hkl
    obtain ⟨fn, tmps, assign, body, hy, hRR⟩ := HY.out (l.take k) x wr HJ.out HL.out
    dsimp only [encN] at hy
    gi_wp2
    refine hRR.mono ?_
    rintro e W3 (⟨rfl, hJ4, hk4⟩ | ⟨rfl, hJx4⟩)
    · gi_wp2
      go_roundw
      case rel => exact ⟨k + 1, by omega, by go_num, by rw [HS.out]; exact hJ4, HIT2.out.keep hk4 hq hB⟩
      case measure => simp [intOf]; omega
    · gi_wp2
      refine bodyPost_ret (results_none rfl _ _ _) rfl ?_
      refine ⟨⟨_, rfl⟩, .inr ⟨_, ?_, hJx4⟩⟩
      have h := HPX.out
      rw [HS.out] at h
      exact h
theorem vals_stops (n : Nat) (hn : 2 ≤ n) (q B n₀ : Nat) (hq : q < n₀) (hB : B ≤ n₀) (v : Value) (l : List Int) (w : World) (hit : VlR w q B v l) (hn0 : n₀ ≤ w.heap.size) :
    SeqStopsK Fence.wide n Tryz.prog 154 #[.pointer (some ⟨q, 0, none⟩)] encN (Below n₀) (fun xs => xs = l) (fun _ => True) l.length w := fun lp J Jx W hW hJ hJx hY h0 => by
  refine (vals154 n hn q B n₀ hq hB v l lp J Jx W (hit.keep (hW.mono hn0) hq hB) hY h0).mono ?_
  rintro e W' ⟨hv, (⟨xs, hS, hj⟩ | ⟨pre, _, hj⟩)⟩
  · exact ⟨hv, .inl ⟨xs, hS, hj⟩⟩
  · exact ⟨hv, .inr ⟨pre, trivial, hj⟩⟩

theorem infoI3 : (Tryz.prog.info? 3).map (fun i => (i.zero, i.size, i.bytes)) = some (some (.int .i64 0), 1, 8) := by kernel_rfl
set_option maxRecDepth 100000 in
set_option maxHeartbeats 1000000 in
theorem appendSeq160 (q B : Nat) (v : Value) (l : List Int) (w : World) (hit : VlR w q B v l) (hl : l.length ≤ 1000000000) :
    CallsIn Fence.wide 8 Tryz.prog 160 #[.slice none 0 0, .func (.func 154) #[] #[.pointer (some ⟨q, 0, none⟩)]] w fun e w' => ∃ v', e = .returned v' ∧ w'.ownsRow w.heap.size 3 1 v' l.length (l.map fun x => .int .i64 x) ∧ Below w.heap.size w w' := by
  have hq := hit.b.lt
  have hB := hit.lt
  obtain ⟨i0, hi, hz0, hz1, hz2⟩ := info_parts infoI3
  refine callsIn_of_wp_marks Tryz.func160 rfl trivial ?_ rfl
  simp only [Tryz.ntmps160, List.size_toArray, List.length_cons, List.length_nil, Nat.reduceAdd, Nat.reduceSub, Array.replicate_succ, Array.replicate_zero, List.push_toArray, List.append_toArray, List.nil_append, List.cons_append]
  gi_wp2
  have hW0 : Below w.heap.size w (w.alloc (.cells #[.slice none 0 0] 26)) := (Below.refl _ w).alloc (Nat.le_refl _) _
  refine wpIn_rangeFunc_ownF rfl (by omega) (gf := 154) (lb := #[.pointer (some ⟨q, 0, none⟩)]) rfl trivial (enters_of Tryz.func154 (by kernel_rfl) rfl)
    (vals_stops 7 (by omega) q B w.heap.size hq hB v l _ (hit.keep hW0 hq hB) hW0.size) belowK_t (belowK_b hW0.size) (Below.refl _ _) (fun _ => rfl)
    (fun pre W => (∃ v', Boxed W w.heap.size 26 v' ∧ W.ownsRow w.heap.size 3 1 v' pre.length (pre.map fun x => .int .i64 x) ∧ True) ∧ Below w.heap.size w W) (fun _ _ _ => False)
    (OwnFrom.and (Own.from (holdsRow_own w.heap.size w.heap.size 26 3 1 (fun pre : List Int => pre.length) (fun pre => pre.map fun x => .int .i64 x) (fun _ _ => True)) _) (ownFrom_below (Nat.le_refl _) hW0.size)) (fun c => fun s A B row h _ _ => h)
    ⟨⟨_, Boxed.new w 26 _, World.ownsRow_nil _ _ _ _, trivial⟩, hW0⟩
    (fun x => { tmps := #[.slice none 0 0, .func (.func 154) #[] #[.pointer (some ⟨q, 0, none⟩)], .pointer (some ⟨w.heap.size, 0, none⟩), undef, .slice none 0 0, .int .i64 x, .func (.func 154) #[] #[.pointer (some ⟨q, 0, none⟩)], .int .i64 x, undef, undef, undef, undef, undef], defers := [] }) ?assign ?body ?done ?stop
  case assign =>
    intro l x W K hK
    simp only [encN]
    gi_wp2
    exact hK
  case body =>
    rintro lp pre x W ⟨⟨v', hv, hrow, _⟩, hb⟩ hlen
    have hle := hb.size
    have hc0 := hv.cell
    have hz0' := hv.lt
    gi_wp2_with (gi_at_builtin; refine wpListIn_append_own _ rfl _ _ 26 rfl w.heap.size 3 i0 (.int .i64 0) 1 8 Tryz.underlying26 hi hz0 hz1 hz2 rfl (by decide) _ _ _ rfl (hrow.alloc _) ⟨W.heap.size, 0, none⟩ 1 1 [.int .i64 x] rfl rfl (cell_one_new _ _ _) (by simp [Value.oneCell']) (by unfold maxLen; omega) (by omega) (by simp; omega) ?_; intro v2 w1 hown' hgrow _; obtain ⟨g', cap', rfl⟩ := ownsRow_succ hown'; obtain ⟨hv1, hv2, hr2, hk2, hb2⟩ := hv.appended (by decide) hrow hle (Nat.le_refl _) hown' hgrow; have hc1 := hv1.cell; have hf1 := hv1.frozen)
    refine ⟨hk2, hb2, ⟨_, hv2, ?_, trivial⟩, hb.trans hb2⟩
    have := hr2
    simpa using this
  case done =>
    rintro D ys W hD rfl ⟨⟨v', hv, hrow, _⟩, hb⟩ hK
    have hc0 := hv.cell
    have hz0' := hv.lt
    gi_wp2
    refine ⟨by simp, .inl ⟨_, _, rfl, run_takeDeferred hK, ?_⟩⟩
    exact ⟨_, results_tmp rfl _ _ _, v', rfl, ownsRow_putObj hrow _ hK rfl, hb.trans (belowK_b (w := w) (Nat.le_refl _) W D _ _ (by have := hW0.size; omega) hK rfl rfl)⟩
  case stop =>
    rintro D c pre W _ _ h _
    exact h.elim
end Go.Proofs.YtahpdkkpnkhnhaaGreatDoor

/-
  DERIVED: THE SHELF's CONTRACTS AT THIS DUMP, IN PLAIN WORDS (tools/lay-plain.mjs out of 'TryzShelf.lean', which tools/lay-shelf.mjs wrote): THE SAME DECLARATIONS UNDER THE SAME NAMES: 'import', 'namespace', 'open', 'def', 'theorem' AND NOTHING ELSE: no command of the shelf's: FOR A HAND-IN. Each laying: the table of numbers ('.._ren') and one theorem, a field a fact of the dump's own or the kernel's comparison; each contract: ONE APPLICATION.
-/
namespace Go.Proofs
open Go.Shelf
def Tryz.lays189_ren : Go.Shelf.Ren := ⟨fun | 189 => 153 | 125 => 156 | 257 => 161 | 128 => 170 | 129 => 171 | 294 => 172 | 295 => 173 | 296 => 174 | 297 => 175 | 298 => 176 | 299 => 177 | 216 => 178 | 300 => 179 | 301 => 180 | 328 => 186 | 329 => 182 | 330 => 183 | 331 => 187 | 332 => 188 | 215 => 157 | 343 => 190 | n => n, fun | 28 => 26 | 3 => 3 | 46 => 185 | 0 => 0 | 51 => 199 | 53 => 201 | 4 => 4 | 183 => 192 | 182 => 191 | 131 => 196 | 5 => 5 | 9 => 9 | 218 => 208 | 222 => 212 | 228 => 216 | 229 => 217 | n => n, fun | n => n⟩
theorem Tryz.lays189 : Go.Proofs.Lays.n189 Tryz.prog Tryz.lays189_ren := {
  mixed := by kernel_rfl
  f125 := Tryz.func156.trans (congrArg some (by kernel_rfl))
  f128 := Tryz.func170.trans (congrArg some (by kernel_rfl))
  f129 := Tryz.func171.trans (congrArg some (by kernel_rfl))
  f189 := Tryz.func153.trans (congrArg some (by kernel_rfl))
  f215 := Tryz.func157.trans (congrArg some (by kernel_rfl))
  f216 := Tryz.func178.trans (congrArg some (by kernel_rfl))
  f257 := Tryz.func161.trans (congrArg some (by kernel_rfl))
  f294 := Tryz.func172.trans (congrArg some (by kernel_rfl))
  f295 := Tryz.func173.trans (congrArg some (by kernel_rfl))
  f296 := Tryz.func174.trans (congrArg some (by kernel_rfl))
  f297 := Tryz.func175.trans (congrArg some (by kernel_rfl))
  f298 := Tryz.func176.trans (congrArg some (by kernel_rfl))
  f299 := Tryz.func177.trans (congrArg some (by kernel_rfl))
  f300 := Tryz.func179.trans (congrArg some (by kernel_rfl))
  f301 := Tryz.func180.trans (congrArg some (by kernel_rfl))
  f328 := Tryz.func186.trans (congrArg some (by kernel_rfl))
  f329 := Tryz.func182.trans (congrArg some (by kernel_rfl))
  f330 := Tryz.func183.trans (congrArg some (by kernel_rfl))
  f331 := Tryz.func187.trans (congrArg some (by kernel_rfl))
  f332 := Tryz.func188.trans (congrArg some (by kernel_rfl))
  f343 := Tryz.func190.trans (congrArg some (by kernel_rfl))
  t0 := Tryz.underlying0
  a0 := Tryz.isAgg0
  z0 := Tryz.sizeOf0
  v0 := Tryz.zeroValue0
  t3 := Tryz.underlying3
  a3 := Tryz.isAgg3
  z3 := Tryz.sizeOf3
  v3 := Tryz.zeroValue3
  t4 := Tryz.underlying4
  a4 := Tryz.isAgg4
  z4 := Tryz.sizeOf4
  v4 := Tryz.zeroValue4
  t5 := Tryz.underlying5
  a5 := Tryz.isAgg5
  z5 := Tryz.sizeOf5
  v5 := Tryz.zeroValue5
  t9 := Tryz.underlying9
  a9 := Tryz.isAgg9
  z9 := Tryz.sizeOf9
  v9 := Tryz.zeroValue9
  t28 := Tryz.underlying26
  a28 := Tryz.isAgg26
  z28 := Tryz.sizeOf26
  v28 := Tryz.zeroValue26
  t46 := Tryz.underlying185
  a46 := Tryz.isAgg185
  z46 := Tryz.sizeOf185
  v46 := Tryz.zeroValue185
  t51 := Tryz.underlying199
  a51 := Tryz.isAgg199
  z51 := Tryz.sizeOf199
  v51 := Tryz.zeroValue199
  t53 := Tryz.underlying201
  a53 := Tryz.isAgg201
  z53 := Tryz.sizeOf201
  v53 := Tryz.zeroValue201
  t131 := Tryz.underlying196
  a131 := Tryz.isAgg196
  z131 := Tryz.sizeOf196
  v131 := Tryz.zeroValue196
  t182 := Tryz.underlying191
  a182 := Tryz.isAgg191
  z182 := Tryz.sizeOf191
  v182 := Tryz.zeroValue191
  t183 := Tryz.underlying192
  a183 := Tryz.isAgg192
  z183 := Tryz.sizeOf192
  v183 := Tryz.zeroValue192
  t218 := Tryz.underlying208
  a218 := Tryz.isAgg208
  z218 := Tryz.sizeOf208
  v218 := Tryz.zeroValue208
  t222 := Tryz.underlying212
  a222 := Tryz.isAgg212
  z222 := Tryz.sizeOf212
  v222 := Tryz.zeroValue212
  t228 := Tryz.underlying216
  a228 := Tryz.isAgg216
  z228 := Tryz.sizeOf216
  v228 := Tryz.zeroValue216
  t229 := Tryz.underlying217
  a229 := Tryz.isAgg217
  z229 := Tryz.sizeOf217
  v229 := Tryz.zeroValue217 }
open Go.Sort Go.RowKit in
theorem Tryz.slices_Sort_int (blk off cap : Nat) (zs : List Int) (w : World) (hH : Holds (Value.int .i64) w blk off zs.toArray) (hblk : blk < w.heap.size) (hsz : zs.length < 4611686018427387904) :
    Calls Tryz.prog 153 #[.slice (some ⟨blk, off, none⟩) zs.length cap] w fun e w' =>
      e = .returned (.tuple #[]) ∧ ∃ n os, w' = grow (putRow (Value.int .i64) (Sort.ahead w n) blk off (zs.mergeSort fun x y => decide (x ≤ y)).toArray) os := Any.slices_Sort_int Tryz.lays189 blk off cap zs w hH hblk hsz
def Tryz.laysNm220_ren : Go.Shelf.Ren := ⟨fun | 20 => 133 | n => n, fun | 22 => 26 | 3 => 3 | 4 => 4 | 0 => 0 | n => n, fun | n => n⟩
theorem Tryz.laysNm220 : Go.Proofs.Lays2.n20 Tryz.prog Tryz.laysNm220_ren := {
  mixed := by kernel_rfl
  f20 := Tryz.func133.trans (congrArg some (by kernel_rfl))
  t0 := Tryz.underlying0
  a0 := Tryz.isAgg0
  z0 := Tryz.sizeOf0
  v0 := Tryz.zeroValue0
  t3 := Tryz.underlying3
  a3 := Tryz.isAgg3
  z3 := Tryz.sizeOf3
  v3 := Tryz.zeroValue3
  t4 := Tryz.underlying4
  a4 := Tryz.isAgg4
  z4 := Tryz.sizeOf4
  v4 := Tryz.zeroValue4
  t22 := Tryz.underlying26
  a22 := Tryz.isAgg26
  z22 := Tryz.sizeOf26
  v22 := Tryz.zeroValue26
  i3 := by kernel_rfl }
open Go.RowKit Go.Lib Go.Sort in
/-- slices.Compact at []int, over an array: the library's two loops are walked. (LAID: no walk: one application.) -/
theorem Tryz.slices_Compact_int_arr (blk off cap : Nat) (d : Array Int) (w : World) (hH : Holds encI w blk off d) (hsz : d.size ≤ 9223372036854775807) (hcap : d.size ≤ cap) :
    Calls Tryz.prog 133 #[.slice (some ⟨blk, off, none⟩) d.size cap] w fun e w' => e = .returned (.slice (some ⟨blk, off, none⟩) (compactUpTo d d.size).length cap) ∧ ∃ q, w' = putRow encI (Sort.ahead w q) blk off (compactUpTo d d.size ++ List.replicate (d.size - (compactUpTo d d.size).length) 0).toArray := Any.slices_Compact_int_arr Tryz.laysNm220 blk off cap d w hH hsz hcap
open Go.RowKit Go.Lib Go.Sort in
/-- slices.Compact at []int: "Compact replaces consecutive runs of equal elements with a single copy. This is like the uniq command found on Unix. Compact modifies the contents of the slice s and returns the modified slice, which may have a smaller length. Compact zeroes the elements between the new length and the original length. The result preserves the nilness of s.": IT RETURNS THE SLICE CUT TO 'Lib.compact zs'; ITS CELLS HOLD 'Lib.compact zs', THEN ZERO VALUES up to the old length; all else is as it was, but for the count of draws. IN THE WORDS OF slices.Sort's CONTRACT ('Holds', 'putRow'): so the everyday 'slices.Sort(xs); xs = slices.Compact(xs)' goes from the one contract to the other. It asks 'zs.length ≤ cap' (every slice's: the reslicing 's[:k]' looks at it). Length 0, nil: '.._empty'. (LAID: no walk: one application.) -/
theorem Tryz.slices_Compact_int (blk off cap : Nat) (zs : List Int) (w : World) (hH : Holds (Value.int .i64) w blk off zs.toArray) (hsz : zs.length ≤ 9223372036854775807) (hcap : zs.length ≤ cap) :
    Calls Tryz.prog 133 #[.slice (some ⟨blk, off, none⟩) zs.length cap] w fun e w' => e = .returned (.slice (some ⟨blk, off, none⟩) (Lib.compact zs).length cap) ∧ ∃ q, w' = putRow (Value.int .i64) (Sort.ahead w q) blk off (Lib.compact zs ++ List.replicate (zs.length - (Lib.compact zs).length) 0).toArray := Any.slices_Compact_int Tryz.laysNm220 blk off cap zs w hH hsz hcap
open Go.RowKit Go.Lib Go.Sort in
/-- The same at a slice of length 0, a nil one too: it comes back as it is. (LAID: no walk: one application.) -/
theorem Tryz.slices_Compact_int_empty (a : Option Addr) (cap : Nat) (w : World) :
    Calls Tryz.prog 133 #[.slice a 0 cap] w fun e w' => e = .returned (.slice a 0 cap) ∧ w' = w := Any.slices_Compact_int_empty Tryz.laysNm220 a cap w
open Go.RowKit Go.Sort in
/-- .. and plain. (LAID: no walk: one application.) -/
theorem Tryz.slices_Sort_int_none (p : Option Addr) (cap : Nat) (w : World) :
    Calls Tryz.prog 153 #[.slice p 0 cap] w fun e w' => e = .returned (.tuple #[]) ∧ w' = w := Any.slices_Sort_int_none Tryz.lays189 p cap w
end Go.Proofs
