/- Lemmas on the way to the law TopOneGrain (part 14): Xd Xe Xf NRq NRs -/
import Derived.Test.YtpafjhjpchdcdaaGreatDoorTopOneGrainP13
import Derived.Test.YtpafjhjpchdcdaaGreatDoorTopOneGrainP01
import Derived.Test.YtpafjhjpchdcdaaGreatDoorTopOneGrainP11
set_option linter.unusedVariables false
set_option linter.unusedSimpArgs false

/- Walks: whether the layers of a parcel have one grain; the mass of a parcel. -/
namespace Go.Proofs.YtpafjhjpchdcdaaGreatDoor.Nu
open Go Go.Proofs Go.RowKit Go.Proofs.YtpafjhjpchdcdaaGreatDoor
def neG (g : ByteArray) (x : Ly) : Bool := !(x.g.toList == g.toList)
set_option maxRecDepth 100000 in
set_option maxHeartbeats 1000000 in
theorem grains57 (x y : Ly) (pb : Nat) (v : Value) (l : List Ly) (w : World) (hx : Box w pb 50 [v]) (hv : Sl Ly.enc 3 w w.heap.size v (y :: l)) : Calls Tryz.prog 57 (#[x.v] ++ #[.pointer (some ⟨pb, 0, none⟩)]) w (Ret (.bool (neG y.g x)) w) := by
  obtain ⟨a, c, rfl, hlen, hA⟩ := hv
  obtain ⟨b, off, rfl, hbb, hcells⟩ := hA (by simp)
  have hc := hcells 0 (by simp)
  have HAT := Lib.hid (show At w b off y.enc from by simpa using hc)
  have HBB := Lib.hid hbb
  have hlen := hlen.1
  clear hcells hc hA hbb
  obtain ⟨g, m, sa, sc⟩ := x
  obtain ⟨g2, m2, sa2, sc2⟩ := y
  dsimp only [Ly.v, Ly.enc, neG] at *
  obtain ⟨R, hR⟩ : ∃ R, (g.toList == g2.toList) = R := ⟨_, rfl⟩
  have HR := Lib.hid hR
  obtain ⟨n, hn⟩ : ∃ n, l.length = n := ⟨_, rfl⟩
  simp only [List.length_cons, hn] at hx ⊢
  have HB := Lib.hid ((Below.refl w.heap.size w).alloc (Nat.le_refl _) (.cells #[.string g, .int .i64 m, .slice sa 1 sc] 49))
  have ⟨y0, y1, y2⟩ := HAT.out.c3
  have hbz : b < w.heap.size := HBB.out
  obtain ⟨x0, xf, xz⟩ := hx.v1
  have d0 : decide ((n : Int) + 1 ≤ 0) = false := decide_eq_false (by omega)
  go_enter Tryz.func57, Tryz.ntmps57
  go_wp2_with fail
  refine wp_region_later (by kernel_rfl) (by kernel_rfl) ?_
  repeat go_big_quiet_step (fail)
  refine wpQuiet_nil ?_
  rintro w2 ⟨⟨_, hb⟩, rfl⟩
  replace HB := Lib.hid (HB.out.trans (hb.mono HB.out.size))
  go_wp2_with fail
  go_ret
  exact ⟨by rw [← HR.out]; rfl, HB.out⟩
def PredL (g : Nat) (lb : Array Value) (w : World) (l : List Ly) (p : Ly → Bool) : Prop := ∀ w' x, Below w.heap.size w w' → x ∈ l → Calls Tryz.prog g (#[x.v] ++ lb) w' (Ret (.bool (p x)) w')
set_option maxRecDepth 100000 in
set_option maxHeartbeats 1000000 in
theorem indexL74 (v : Value) (l : List Ly) (g : Nat) (lb : Array Value) (p : Ly → Bool) (w : World) (eg : ∀ args w, (callFunc g args).run Tryz.prog w = .ok (.enter g args) w) (hv : Sl Ly.enc 3 w w.heap.size v l) (hp : PredL g lb w l p) : Calls Tryz.prog 74 #[v, .func (.func g) #[] lb] w fun e w' => (∃ n : Int, e = .returned (.int .i64 n) ∧ (decide (0 ≤ n) = l.any p)) ∧ Below w.heap.size w w' := by
  obtain ⟨a, c, rfl, hlen, hA⟩ := hv
  generalize hR : l.any p = R
  have HA := Lib.hid hA
  clear hA
  have HP := Lib.hid hp
  clear hp
  go_enter Tryz.func74, Tryz.ntmps74
  go_wp2_with fail
  go_loopw [8] (fun i wr => ∃ k : Nat, k ≤ l.length ∧ i = .int .i64 k ∧ (l.drop k).any p = R ∧ Below w.heap.size w wr) (fun i _ => l.length - (intOf i).toNat)
  case atStart => exact ⟨0, by omega, rfl, by simpa using hR, Below.refl _ _⟩
  case round =>
    obtain ⟨k, hk, rfl, hrel, hbe⟩ := hrel
    have HR := Lib.hid hrel
    clear hrel
    clear hR
    by_cases hlt : k < l.length
    · obtain ⟨b, off, rfl, hbb, hcells⟩ := HA.out (by omega)
      have hd := Lib.hid (show (l.drop k).any p = (p l[k] || (l.drop (k + 1)).any p) by rw [List.drop_eq_getElem_cons hlt]; rfl)
      obtain ⟨c0, c1, c2⟩ := ((hcells k hlt).below hbe hbb).c3
      have hb := HP.out wr l[k] hbe (List.getElem_mem hlt)
      have hbz : b < wr.heap.size := by have := hbe.size; omega
      clear hcells HA
      generalize l[k] = x at *
      obtain ⟨y, hy⟩ : ∃ y, p x = y := ⟨_, rfl⟩
      rw [hy] at hd hb
      clear hy
      obtain ⟨gn, m, sa, sc⟩ := x
      dsimp only [Ly.v] at c0 c1 c2 hb
      have HB := Lib.hid hb
      clear hb
      have HBE := Lib.hid hbe
      clear hbe
      cases y
      · go_wp2_with (go_at_fn g; refine HB.out.mono ?_; rintro e w' ⟨rfl, hb'⟩)
        go_roundw
        case rel => exact ⟨k + 1, by omega, by go_num, by rw [← HR.out, hd.out]; rfl, HBE.out.trans (hb'.mono HBE.out.size)⟩
        case measure => simp [intOf]; omega
      · go_wp2_with (go_at_fn g; refine HB.out.mono ?_; rintro e w' ⟨rfl, hb'⟩)
        go_ret
        refine ⟨⟨k, rfl, ?_⟩, HBE.out.trans (hb'.mono HBE.out.size)⟩
        rw [← HR.out, hd.out]; simp
    · obtain rfl : l.length = k := by omega
      go_wp2_with fail
      go_ret
      refine ⟨⟨-1, rfl, ?_⟩, hbe⟩
      rw [← HR.out]; simp
set_option maxRecDepth 100000 in
set_option maxHeartbeats 1000000 in
theorem containsL56 (v : Value) (l : List Ly) (g : Nat) (lb : Array Value) (p : Ly → Bool) (w : World) (eg : ∀ args w, (callFunc g args).run Tryz.prog w = .ok (.enter g args) w) (hv : Sl Ly.enc 3 w w.heap.size v l) (hp : PredL g lb w l p) : Calls Tryz.prog 56 #[v, .func (.func g) #[] lb] w (Ret (.bool (l.any p)) w) := by
  have H := Lib.hid (indexL74 v l g lb p w eg hv hp)
  generalize l.any p = R at *
  clear hv hp eg
  go_enter Tryz.func56, Tryz.ntmps56
  go_wp2_with (go_at_call 74; refine H.out.mono ?_; rintro e w' ⟨⟨n, rfl, hn⟩, hb⟩)
  go_ret
  exact ⟨by rw [← hn]; rfl, hb⟩
def mixB (l : List Ly) : Bool := l.any (neG (l.head?.elim ⟨#[]⟩ (·.g)))
set_option maxRecDepth 100000 in
set_option maxHeartbeats 1000000 in
theorem grains23 (w : World) (v : Value) (l : List Ly) (hv : Sl Ly.enc 3 w w.heap.size v l) : Calls Tryz.prog 23 #[v] w (Ret (.int .i64 (if mixB l = true then 16 else 0)) w) := by
  obtain ⟨a, n, c, rfl⟩ : ∃ a n c, v = .slice a n c := by obtain ⟨a, c, e, _⟩ := hv; exact ⟨a, _, c, e⟩
  have HB := Lib.hid ((Below.refl w.heap.size w).alloc (Nat.le_refl _) (.cells #[.slice a n c] 50))
  have HX := Lib.hid (Box.new w #[.slice a n c] 50)
  have HC := Lib.hid (containsL56 (.slice a n c) l 57 #[.pointer (some ⟨w.heap.size, 0, none⟩)] (neG (l.head?.elim ⟨#[]⟩ (·.g))) (w.alloc (.cells #[.slice a n c] 50)) (enters_of Tryz.func57 (by kernel_rfl) rfl) (hv.later HB.out) (fun w' x hb' hx => by
    cases l with
    | nil => cases hx
    | cons y r => exact grains57 x y w.heap.size (.slice a n c) r w' (HX.out.later hb') (hv.later (HB.out.trans (hb'.mono HB.out.size)))))
  have HW := Lib.hid (fun (w1 : World) (b : Bool) => when24 w1 b 16)
  have HM := Lib.hid (show mixB l = l.any (neG (l.head?.elim ⟨#[]⟩ (·.g))) from rfl)
  rw [HM.out]
  generalize l.any (neG (l.head?.elim ⟨#[]⟩ (·.g))) = R at *
  obtain ⟨E, hE⟩ : ∃ E : Int, (if R = true then 16 else 0) = E := ⟨_, rfl⟩
  replace HW := Lib.hid (fun (w1 : World) => (by have h := HW.out w1 R; rwa [hE] at h : Calls Tryz.prog 24 #[.bool R, .int .i64 16] w1 fun x w' => x = .returned (.int .i64 E) ∧ w1 = w'))
  rw [hE]
  clear hv HM hE
  obtain ⟨x0, xf, xz⟩ := HX.out.v1
  go_enter Tryz.func23, Tryz.ntmps23
  go_wp2_with fail
  refine HC.out.mono ?_
  rintro e4 w4 ⟨rfl, hb⟩
  replace HB := Lib.hid (HB.out.trans (hb.mono HB.out.size))
  clear hb
  go_wp2_with fail
  refine (HW.out _).mono ?_
  rintro e5 w5 ⟨rfl, rfl⟩
  go_wp2_with fail
  go_ret
  exact ⟨rfl, HB.out⟩
set_option maxRecDepth 100000 in
set_option maxHeartbeats 1000000 in
theorem mass12 (w : World) (hw : TbR w) (v : Value) (l : List Ly) (hv : LyR w v l) (hl : l.length ≤ 64) : Calls Tryz.prog 12 #[v] w (Ret (.tuple #[.int .i64 (sumM l), .int .i64 0]) w) := by
  have HC := Lib.hid (checkParcel21 w hw v l hv hl)
  have HT := Lib.hid (fun (w1 : World) (hb : Below w.heap.size w w1) => total25 w1 v l (hv.later hb) hl)
  obtain ⟨a, n, c, rfl⟩ : ∃ a n c, v = .slice a n c := by obtain ⟨a, c, e, _⟩ := hv.sl; exact ⟨a, _, c, e⟩
  generalize sumM l = S at *
  clear hv hw
  go_enter Tryz.func12, Tryz.ntmps12
  go_wp2_with fail
  refine HC.out.mono ?_
  rintro e4 w4 ⟨rfl, hb⟩
  have HB := Lib.hid hb
  clear hb
  go_wp2_with fail
  refine (HT.out _ HB.out).mono ?_
  rintro e5 w5 ⟨rfl, hb⟩
  replace HB := Lib.hid (HB.out.trans (hb.mono HB.out.size))
  clear hb
  go_wp2_with fail
  refine bodyPost_ret (v := .tuple #[.int .i64 S, .int .i64 0]) (by simp [results, Tryz.results12, go_sem, *]) rfl ?_
  exact ⟨rfl, HB.out⟩
end Go.Proofs.YtpafjhjpchdcdaaGreatDoor.Nu
/- Walks: shares compared and copied; a layer with another mass. -/
namespace Go.Proofs.YtpafjhjpchdcdaaGreatDoor.Nu
open Go Go.Proofs Go.RowKit Go.Proofs.YtpafjhjpchdcdaaGreatDoor
theorem ShR.form {w : World} {v : Value} (h : ShR w w.heap.size v) : ∃ b o c, v = .slice (some ⟨b, o, none⟩) 1 c ∧ b < w.heap.size ∧ At w b o [.string ⟨#[97]⟩, .string ⟨#[49]⟩] := by
  obtain ⟨a, c, rfl, hl, hA⟩ := h
  obtain ⟨b, o, rfl, hbb, hc⟩ := hA (by decide)
  exact ⟨b, o, c, rfl, hbb, (show At w b o _ from hc 0 (by decide))⟩
set_option maxRecDepth 100000 in
set_option maxHeartbeats 1000000 in
theorem equal75 (w : World) (v1 v2 : Value) (h1 : ShR w w.heap.size v1) (h2 : ShR w w.heap.size v2) : Calls Tryz.prog 75 #[v1, v2] w (Ret (.bool true) w) := by
  obtain ⟨b1, o1, c1, rfl, z1, a1⟩ := h1.form
  obtain ⟨b2, o2, c2, rfl, z2, a2⟩ := h2.form
  have HA1 := Lib.hid a1
  have HA2 := Lib.hid a2
  clear a1 a2 h1 h2
  go_enter Tryz.func75, Tryz.ntmps75
  go_wp2_with fail
  go_loopw [13] (fun i wr => ∃ k : Nat, k ≤ 1 ∧ i = .int .i64 (k : Int) ∧ Below w.heap.size w wr) (fun i _ => 1 - (intOf i).toNat)
  case atStart => exact ⟨0, by omega, rfl, Below.refl _ _⟩
  case round =>
    obtain ⟨k, hk, rfl, hbe⟩ := hrel
    have HB := Lib.hid hbe
    clear hbe
    rcases (show k = 0 ∨ k = 1 by omega) with rfl | rfl
    · obtain ⟨x0, x1⟩ := (HA1.out.below HB.out z1).c2
      obtain ⟨y0, y1⟩ := (HA2.out.below HB.out z2).c2
      have q1 : b1 < wr.heap.size := Nat.lt_of_lt_of_le z1 HB.out.size
      have q2 : b2 < wr.heap.size := Nat.lt_of_lt_of_le z2 HB.out.size
      go_wp2_with fail
      refine wp_region_later (by kernel_rfl) (by kernel_rfl) ?_
      repeat go_big_quiet_step (fail)
      refine wpQuiet_nil ?_
      rintro w7 ⟨⟨_, hb⟩, rfl⟩
      replace HB := Lib.hid (HB.out.trans (hb.mono HB.out.size))
      clear hb x0 x1 y0 y1 q1 q2
      go_wp2_with fail
      go_roundw
      case rel => exact ⟨1, by omega, by go_num, HB.out⟩
      case measure => simp [intOf]
    · go_wp2_with fail
      go_ret
      exact ⟨rfl, HB.out⟩
set_option maxRecDepth 100000 in
set_option maxHeartbeats 1000000 in
theorem like58 (w : World) (x y : Ly) (h1 : ShR w w.heap.size x.s) (h2 : ShR w w.heap.size y.s) : Calls Tryz.prog 58 #[x.v, y.v] w (Ret (.bool (x.g.toList == y.g.toList)) w) := by
  have HE := Lib.hid (fun (w1 : World) (hb : Below w.heap.size w w1) => equal75 w1 x.s y.s (h1.later hb) (h2.later hb))
  clear h1 h2
  obtain ⟨g, m, sa, sc⟩ := x
  obtain ⟨g2, m2, sa2, sc2⟩ := y
  dsimp only [Ly.v, Ly.s] at *
  obtain ⟨R, hR⟩ : ∃ R, (g.toList == g2.toList) = R := ⟨_, rfl⟩
  rw [hR]
  have HB_0 := Lib.hid ((Below.refl w.heap.size w).alloc (Nat.le_refl _) (.cells #[.string g, .int .i64 m, .slice sa 1 sc] 49))
  have HB := Lib.hid (HB_0.out.alloc HB_0.out.size (.cells #[.string g2, .int .i64 m2, .slice sa2 1 sc2] 49))
  have HX := Lib.hid ((Box.new w #[.string g, .int .i64 m, .slice sa 1 sc] 49).alloc (.cells #[.string g2, .int .i64 m2, .slice sa2 1 sc2] 49))
  have HY := Lib.hid (Box.newAt (w.alloc (.cells #[.string g, .int .i64 m, .slice sa 1 sc] 49)) #[.string g2, .int .i64 m2, .slice sa2 1 sc2] 49 (n := w.heap.size + 1) (by simp))
  obtain ⟨x0, x1, x2, xf, xz⟩ := HX.out.w3
  obtain ⟨y0, y1, y2, yf, yz⟩ := HY.out.w3
  clear HB_0
  cases R
  · go_enter Tryz.func58, Tryz.ntmps58
    go_wp2_with fail
    go_ret
    exact ⟨rfl, HB.out⟩
  · go_enter Tryz.func58, Tryz.ntmps58
    go_wp2_with fail
    refine (HE.out _ HB.out).mono ?_
    rintro e4 w4 ⟨rfl, hb⟩
    replace HB := Lib.hid (HB.out.trans (hb.mono HB.out.size))
    clear hb
    go_wp2_with fail
    go_ret
    exact ⟨rfl, HB.out⟩
theorem infoSh : (Tryz.prog.info? 46).map (fun i => (i.zero, i.size, i.bytes)) = some (some (.agg #[.string ⟨#[]⟩, .string ⟨#[]⟩]), 2, 32) := by kernel_rfl
structure ShAt (w : World) (b c : Nat) : Prop where
  at0 : At w b 0 [.string ⟨#[97]⟩, .string ⟨#[49]⟩]
  lt : b < w.heap.size
  cap : 1 ≤ c
theorem ShAt.later {w w' : World} {b c : Nat} (h : ShAt w b c) (hb : Below w.heap.size w w') : ShAt w' b c := ⟨h.at0.below hb h.lt, Nat.lt_of_lt_of_le h.lt hb.size, h.cap⟩
theorem ShAt.set {w : World} {b c : Nat} (h : ShAt w b c) {a : Addr} (u : Value) (hne : a.block ≠ b) : ShAt (w.setCell a u) b c := by
  refine ⟨fun j v hv => ?_, by simpa [World.setCell] using h.lt, h.cap⟩
  rw [← h.at0 j v hv]
  exact World.cell?_setCell_other _ _ _ _ (by intro e; apply hne; first | exact congrArg (·.block) e.symm | exact congrArg (·.block) e)
theorem ShAt.sh {w : World} {b c : Nat} (h : ShAt w b c) : ShR w w.heap.size (.slice (some ⟨b, 0, none⟩) 1 c) :=
  ⟨some ⟨b, 0, none⟩, c, rfl, ⟨by decide, h.cap⟩, fun _ => ⟨b, 0, rfl, h.lt, fun i hi => by
    obtain rfl : i = 0 := by simp [sh1] at hi; exact hi
    exact h.at0⟩⟩
def ClS (w : World) (e : Ending) (w' : World) : Prop := ∃ b c, e = .returned (.slice (some ⟨b, 0, none⟩) 1 c) ∧ w.heap.size ≤ b ∧ ShAt w' b c ∧ Below w.heap.size w w'
set_option maxRecDepth 100000 in
set_option maxHeartbeats 1000000 in
theorem clone76 (w : World) (v : Value) (hv : ShR w w.heap.size v) : Calls Tryz.prog 76 #[v] w (ClS w) := by
  obtain ⟨b, o, c, rfl, hz, hat⟩ := hv.form
  have hq := fun (w : World) (a : Option Addr) (m n : Nat) => Lib.run_eql_slice_nil w 47 46 a m n 0 0 Tryz.underlying47
  have HAT := Lib.hid (show ∀ i (h : i < sh1.length), ∀ j u, (encSh sh1[i])[j]? = some u → (w.alloc (.cells #[] 46)).cell? ((⟨b, o, none⟩ : Addr).add (i * 2 + j)) = some u from by
    intro i h j u hu
    obtain rfl : i = 0 := by simp [sh1] at h; exact h
    have h1 := (hat.below ((Below.refl w.heap.size w).alloc (Nat.le_refl _) (.cells #[] 46)) hz) j u hu
    rw [Addr.add_lit, Nat.zero_mul, Nat.zero_add]
    exact h1)
  clear hat hv
  go_enter Tryz.func76, Tryz.ntmps76
  go_wp2_with (at_builtin; refine wpList_cat encSh 2 32 47 46 _ Tryz.underlying47 infoSh rfl (by decide) (by decide) encSh_len encSh_one [] sh1 w.heap.size (w.alloc (.cells #[] 46)) (.slice (some ⟨w.heap.size, 0, none⟩) 0 0) (Own.lit (l := []) encSh_len 46 w #[] 0 _ rfl rfl (by simp) (Nat.le_refl _)) (by simp) (by simp [sh1]) ⟨b, o, none⟩ c HAT.out rfl _ _ rfl rfl rfl ?_; intro v' w' hown' hg')
  have hb : Below w.heap.size w w' := ((Below.refl w.heap.size w).alloc (Nat.le_refl _) (.cells #[] 46)).grown hg' (by simp) fun j hj => by
    have : w.heap.size = j := Option.some.inj hj
    omega
  obtain ⟨g, cap, rfl, hg1, hg2⟩ := hown'.form (by decide)
  have hsl := Sl.of_owns encSh_len (by decide) hown'
  have HP : Hid (ClS w (.returned (.slice (some ⟨g, 0, none⟩) ([] ++ sh1).length cap)) w') := Lib.hid ⟨g, cap, rfl, hg1, ⟨by
    obtain ⟨b2, o2, c2, e, z2, at2⟩ := ShR.form hsl
    injection e with e1 e2 e3
    injection e1 with e1
    injection e1 with e4 e5
    subst e4 e5
    exact at2, hg2, by
    obtain ⟨a2, c2, e, hl2, _⟩ := hsl
    injection e with e1 e2 e3
    subst e3
    exact hl2.2⟩, hb⟩
  clear hown' hg' hb hsl
  go_ret
  exact HP.out
def OwnP (w : World) (x : Ly) (m : Int) (e : Ending) (w' : World) : Prop := ∃ b c, e = .returned (Ly.v ⟨x.g, m, some ⟨b, 0, none⟩, c⟩) ∧ w.heap.size ≤ b ∧ ShAt w' b c ∧ Below w.heap.size w w'
set_option maxRecDepth 100000 in
set_option maxHeartbeats 1000000 in
theorem own59 (w : World) (x : Ly) (m' : Int) (hx : ShR w w.heap.size x.s) : Calls Tryz.prog 59 #[x.v, .int .i64 m'] w (OwnP w x m') := by
  have HC := Lib.hid (fun (w1 : World) (hb : Below w.heap.size w w1) => clone76 w1 x.s (hx.later hb))
  obtain ⟨Q, hQ⟩ : ∃ Q, OwnP w x m' = Q := ⟨_, rfl⟩
  have HQ := Lib.hid (fun (b c : Nat) (w' : World) (h0 : w.heap.size ≤ b) (h1 : ShAt w' b c) (h2 : Below w.heap.size w w') => (show Q (.returned (Ly.v ⟨x.g, m', some ⟨b, 0, none⟩, c⟩)) w' from by rw [← hQ]; exact ⟨b, c, rfl, h0, h1, h2⟩))
  rw [hQ]
  clear hx hQ
  obtain ⟨g, m, sa, sc⟩ := x
  dsimp only [Ly.v, Ly.s] at *
  have HB_0 := Lib.hid ((Below.refl w.heap.size w).alloc (Nat.le_refl _) (.cells #[.string g, .int .i64 m, .slice sa 1 sc] 49))
  have HB := Lib.hid (HB_0.out.alloc HB_0.out.size (.cells #[.string ⟨#[]⟩, .int .i64 0, .slice none 0 0] 49))
  have HX := Lib.hid ((Box.new w #[.string g, .int .i64 m, .slice sa 1 sc] 49).alloc (.cells #[.string ⟨#[]⟩, .int .i64 0, .slice none 0 0] 49))
  have HZ := Lib.hid (Box.newAt (w.alloc (.cells #[.string g, .int .i64 m, .slice sa 1 sc] 49)) #[.string ⟨#[]⟩, .int .i64 0, .slice none 0 0] 49 (n := w.heap.size + 1) (by simp))
  obtain ⟨x0, x1, x2, xf, xz⟩ := HX.out.w3
  obtain ⟨z0, z1, z2, zf, zz⟩ := HZ.out.w3
  clear HB_0
  go_enter Tryz.func59, Tryz.ntmps59
  go_wp2_with fail
  refine (HC.out _ HB.out).mono ?_
  rintro e4 w4 ⟨b', c', rfl, hge, hs, hb⟩
  have HS := Lib.hid hs
  have HGE := Lib.hid (show w.heap.size + 1 + 1 ≤ b' by simpa using hge)
  clear hs hge
  replace HB := Lib.hid (HB.out.trans (hb.mono HB.out.size))
  replace HX := Lib.hid (HX.out.later hb)
  replace HZ := Lib.hid (HZ.out.later hb)
  clear hb x0 x1 x2 xf xz z0 z1 z2 zf zz
  obtain ⟨x0, x1, x2, xf, xz⟩ := HX.out.w3
  obtain ⟨z0, z1, z2, zf, zz⟩ := HZ.out.w3
  go_wp2_with fail
  refine bodyPost_ret (v := Ly.v ⟨g, m', some ⟨b', 0, none⟩, c'⟩) (by simp [results, Tryz.results59, go_sem, *, Ly.v]) rfl ?_
  have hge := HGE.out
  refine HQ.out b' c' _ (by omega) ?_ ?_
  · repeat (first | exact HS.out | refine ShAt.set ?_ _ (by dsimp only; omega))
  · repeat (first | with_reducible exact HB.out | with_reducible exact Below.refl _ _ | refine Below.setCell ?_ (by first | (dsimp only; omega) | (simp; done) | (simp; omega)) _ | refine Below.alloc ?_ (by first | omega | (simp; done) | (simp; omega)) _ | refine Below.drew ?_)
end Go.Proofs.YtpafjhjpchdcdaaGreatDoor.Nu
/- Walks: the normal form of layers of one grain. -/
namespace Go.Proofs.YtpafjhjpchdcdaaGreatDoor.Nu
open Go Go.Proofs Go.RowKit Go.Proofs.YtpafjhjpchdcdaaGreatDoor
theorem infoLy : (Tryz.prog.info? 49).map (fun i => (i.zero, i.size, i.bytes)) = some (some (.agg #[.string ⟨#[]⟩, .int .i64 0, .slice none 0 0]), 3, 48) := by kernel_rfl
theorem Ly.enc_one (x : Ly) : ∀ u ∈ x.enc, u.oneCell' = true := by intro u hu; simp [Ly.enc] at hu; rcases hu with rfl | rfl | rfl <;> rfl
theorem wpList_pushB {α : Type} (f : α → List Value) (sz bytes : Nat) (t e : TypeId) (z : Value) {P : Program} (hT : P.underlying t = some (.slice e)) (hI : (P.info? e).map (fun i => (i.zero, i.size, i.bytes)) = some (some z, sz, bytes))
    (hzs : z.cells.size = sz) (hsz : 0 < sz) (hby : bytes ≤ 1000) (hf : ∀ x, (f x).length = sz) (h1c : ∀ x, ∀ u ∈ f x, u.oneCell' = true)
    (l : List α) (x : α) (base : Nat) (w : World) (g : Nat) (cs : Array Value) (e' : TypeId) (hg : w.heap[g]? = some (.cells cs e' (0, 0))) (hcs : cs.toList = f x) (v : Value) (hown : Own f sz e w base v l) (hbase : base ≤ w.heap.size) (hlen : l.length ≤ 1000000)
    {ops : Array Oper} {rest : List Oper} {o : Oper} {a : Act} {Q : Exit → Act → World → Prop} (hgd : o.guard = none) (s y : Operand)
    (ho : o.op = .call { callee := .builtin .append, args := #[s, y], argTypes := #[t, t] }) (hs : a.eval s = v) (hy : a.eval y = .slice (some ⟨g, 0, none⟩) 1 1)
    (h : ∀ v' w', Own f sz e w' base v' (l ++ [x]) → w.grownBy w' v.ownBlock → wpList P ops Q rest (a.put o.dst v') w') : wpList P ops Q (o :: rest) a w := by
  obtain ⟨i, hi, hz0, hz1, hz2⟩ := info_parts hI
  have hmul : (l.length + 1) * bytes ≤ 1000001 * 1000 := Nat.mul_le_mul (by omega) hby
  refine wpList_append_own _ hgd s y t ho base e i z sz bytes hT hi hz0 hz1 hz2 hzs hsz v l.length _ hs hown ⟨g, 0, none⟩ 1 1 (f x) hy (by rw [hf]; omega) ?_ (h1c x) (by simp [maxLen]; omega) (by omega) hbase ?_
  · intro j u hu
    rw [Addr.add_lit, Nat.zero_add, cell_of_row _ g j cs e' (0, 0) hg]
    rw [← hcs] at hu
    simpa using hu
  · intro v' w' ho' hg' _
    refine h v' w' ?_ hg'
    unfold Own
    rw [List.length_append, List.length_singleton, List.flatMap_append, List.flatMap_singleton]
    exact ho'
theorem own_lt {α : Type} {f : α → List Value} {sz : Nat} {e : TypeId} {w : World} {base g n c : Nat} {l : List α} (h : Own f sz e w base (.slice (some ⟨g, 0, none⟩) n c) l) (h0 : 0 < l.length) : base ≤ g ∧ g < w.heap.size := by
  obtain ⟨g2, c2, e2, h1, h2⟩ := h.form h0
  injection e2 with e3 _ _
  injection e3 with e3
  injection e3 with e3 _
  subst e3
  exact ⟨h1, h2⟩
def NormP (w : World) (l : List Ly) (e : Ending) (w' : World) : Prop := ∃ v, e = .returned v ∧ Below w.heap.size w w' ∧ ((l = [] ∧ v = .slice none 0 0) ∨
  ∃ y g cap b c, l.head? = some y ∧ v = .slice (some ⟨g, 0, none⟩) 1 cap ∧ w.heap.size ≤ g ∧ Sl Ly.enc 3 w' w'.heap.size v [⟨y.g, sumM l, some ⟨b, 0, none⟩, c⟩] ∧ ShAt w' b c)
def NrmI (w0 : World) (l : List Ly) (k : Nat) (v : Value) (wr : World) : Prop :=
  (k = 0 ∧ v = .slice none 0 0) ∨ (0 < k ∧ ∃ B g cap b c y, l.head? = some y ∧ v = .slice (some ⟨g, 0, none⟩) 1 cap ∧ w0.heap.size ≤ b ∧ b < B ∧ B ≤ g ∧ Own Ly.enc 3 49 wr B v [⟨y.g, sumM (l.take k), some ⟨b, 0, none⟩, c⟩] ∧ ShAt wr b c)
theorem sumM_snoc (l : List Ly) (x : Ly) : sumM (l ++ [x]) = sumM l + x.m := by
  induction l with
  | nil => simp [sumM]
  | cons y r ih => simp only [List.cons_append, sumM, ih]; omega
theorem mix_no {l : List Ly} {y : Ly} (h : mixB l = false) (hy : l.head? = some y) {x : Ly} (hx : x ∈ l) : (y.g.toList == x.g.toList) = true := by
  unfold mixB at h
  rw [hy] at h
  have h2 := (List.any_eq_false.1 h) x hx
  simp only [Option.elim, neG, Bool.not_eq_true', Bool.not_eq_false] at h2
  rw [beq_iff_eq] at h2 ⊢
  exact h2.symm
theorem nrm_post {w w' : World} {l : List Ly} {v : Value} (h : NrmI w l l.length v w') (hb : Below w.heap.size w w') : NormP w l (.returned v) w' := by
  refine ⟨v, rfl, hb, ?_⟩
  rcases h with ⟨h0, e⟩ | ⟨h0, B, g, cap, b, c, y, hy, e, h1, h2, h3, ho, hs⟩
  · exact .inl ⟨List.length_eq_zero_iff.1 h0, e⟩
  · refine .inr ⟨y, g, cap, b, c, hy, e, by omega, ?_, hs⟩
    have := Sl.of_owns Ly.enc_len (by simp) ho
    rwa [List.take_length] at this
set_option maxRecDepth 100000 in
set_option maxHeartbeats 4000000 in
theorem normal27 (w : World) (v : Value) (l : List Ly) (hv : LyR w v l) (hl : l.length ≤ 64) (hm : mixB l = false) : Calls Tryz.prog 27 #[v] w (NormP w l) := by
  have HOW := Lib.hid (fun (w1 : World) (hb : Below w.heap.size w w1) (x : Ly) (hx : x ∈ l) => own59 w1 x x.m ((hv.sh x hx).later hb))
  have HSH := Lib.hid (fun (w1 : World) (hb : Below w.heap.size w w1) (x : Ly) (hx : x ∈ l) => (hv.sh x hx).later hb)
  have HOK := Lib.hid hv.ok
  have HBD := Lib.hid (fun (k : Nat) => sumM_bd (l := l.take k) (fun x hx => hv.ok x (List.mem_of_mem_take hx)))
  have HMX := Lib.hid (fun (y : Ly) (hy : l.head? = some y) (x : Ly) (hx : x ∈ l) => mix_no hm hy hx)
  obtain ⟨Q, hQ⟩ : ∃ Q, NormP w l = Q := ⟨_, rfl⟩
  have HQ := Lib.hid (fun (v : Value) (w' : World) (h : NrmI w l l.length v w') (hb : Below w.heap.size w w') => (show Q (.returned v) w' from by rw [← hQ]; exact nrm_post h hb))
  rw [hQ]
  obtain ⟨a, c, rfl, hlen, hA⟩ := hv.sl
  have HA := Lib.hid hA
  clear hA hv hlen hQ hm
  go_enter Tryz.func27, Tryz.ntmps27
  go_wp2_with fail
  go_loopw [3, 9] (fun vo i wr => ∃ k : Nat, k ≤ l.length ∧ i = .int .i64 (k : Int) ∧ Below w.heap.size w wr ∧ NrmI w l k vo wr) (fun _ i _ => l.length - (intOf i).toNat)
  case atStart => exact ⟨0, by omega, rfl, Below.refl _ _, .inl ⟨rfl, rfl⟩⟩
  case round =>
    obtain ⟨k, hk, rfl, hbe, hnr⟩ := hrel
    have HB := Lib.hid hbe
    by_cases hlt : k < l.length
    · obtain ⟨b, off, rfl, hbb, hcells⟩ := HA.out (by omega)
      obtain ⟨c0, c1, c2⟩ := ((hcells k hlt).below hbe hbb).c3
      have hbz : b < wr.heap.size := Nat.lt_of_lt_of_le hbb hbe.size
      have HTK := Lib.hid (show l.take (k + 1) = l.take k ++ [l[k]] from List.take_succ_eq_append_getElem hlt)
      have HHD := Lib.hid (fun (h : k = 0) => (show l.head? = some l[k] from by subst h; rw [List.head?_eq_getElem?, List.getElem?_eq_getElem]))
      have HX1 := Lib.hid (fun (w1 : World) (hb : Below w.heap.size w w1) => HOW.out w1 hb l[k] (List.getElem_mem hlt))
      have HX2 := Lib.hid (fun (w1 : World) (hb : Below w.heap.size w w1) => HSH.out w1 hb l[k] (List.getElem_mem hlt))
      have HX3 := Lib.hid (fun (y : Ly) (hy : l.head? = some y) => HMX.out y hy l[k] (List.getElem_mem hlt))
      have hok := HOK.out l[k] (List.getElem_mem hlt)
      have hm1 := hok.lo
      have hm2 := hok.hi
      clear hcells HA hbe hok
      generalize l[k] = x at *
      obtain ⟨g, m, sa, sc⟩ := x
      dsimp only [Ly.v, Ly.s] at c0 c1 c2 HX1 HX2 HX3 hm1 hm2
      have k0 : (m == 0) = false := beq_eq_false_iff_ne.2 (by omega)
      have hba := alloc_below wr (.cells #[.string g, .int .i64 m, .slice sa 1 sc] 49)
      have HX := Lib.hid (Box.new wr #[.string g, .int .i64 m, .slice sa 1 sc] 49)
      replace HB := Lib.hid (HB.out.trans (hba.mono HB.out.size))
      rcases hnr with ⟨hk0, rfl⟩ | ⟨hk0, B, gg, cap, bb, cc, y, hy, rfl, h1, h2, h3, ho, hs⟩
      · subst hk0
        simp only [Nat.zero_mul, Nat.add_zero, Nat.zero_add] at c0 c1 c2
        clear hba
        go_wp2_with fail
        clear c0 c1 c2 hbz
        obtain ⟨x0, x1, x2, xf, xz⟩ := HX.out.w3
        refine wp_region_later (by kernel_rfl) (by kernel_rfl) ?_
        repeat go_big_quiet_step (fail)
        refine wpQuiet_nil ?_
        rintro w7 ⟨⟨_, hb⟩, rfl⟩
        replace HB := Lib.hid (HB.out.trans (hb.mono HB.out.size))
        replace HX := Lib.hid (HX.out.later hb)
        clear hb x0 x1 x2 xf xz
        obtain ⟨x0, x1, x2, xf, xz⟩ := HX.out.w3
        obtain ⟨vn, hvn⟩ : ∃ u, u = Value.slice none 0 0 := ⟨_, rfl⟩
        rw [← hvn]
        have HVN := Lib.hid hvn
        clear hvn
        go_wp2_with fail
        refine (HX1.out _ HB.out).mono ?_
        rintro e8 w8 ⟨b', c', rfl, hge, hsa, hb⟩
        dsimp only [Ly.v]
        have HRH := Lib.hid (Box.new w8 #[.string g, .int .i64 m, .slice (some ⟨b', 0, none⟩) 1 c'] 49)
        have HSA := Lib.hid (hsa.later (alloc_below w8 (.cells #[.string g, .int .i64 m, .slice (some ⟨b', 0, none⟩) 1 c'] 49)))
        have hb2 := HB.out.trans (hb.mono HB.out.size)
        have HBA := Lib.hid (hb2.alloc hb2.size (.cells #[.string g, .int .i64 m, .slice (some ⟨b', 0, none⟩) 1 c'] 49))
        have HGB := Lib.hid (show w.heap.size ≤ b' from Nat.le_trans HB.out.size hge)
        have HLB := Lib.hid (show b' < (w8.alloc (.cells #[.string g, .int .i64 m, .slice (some ⟨b', 0, none⟩) 1 c'] 49)).heap.size from Nat.lt_trans hsa.lt (by simp))
        have hT : Tryz.prog.underlying 50 = some (.slice 49) := Tryz.underlying50
        clear hge hsa hb hb2 HX x0 x1 x2 xf xz
        go_wp2_with (at_builtin; (refine wpList_pushB Ly.enc 3 48 50 49 _ Tryz.underlying50 infoLy rfl (by decide) (by decide) Ly.enc_len Ly.enc_one [] ⟨g, m, some ⟨b', 0, none⟩, c'⟩ (w8.alloc (.cells #[.string g, .int .i64 m, .slice (some ⟨b', 0, none⟩) 1 c'] 49)).heap.size _ _ _ _ HRH.out rfl _ (by rw [HVN.out]; exact Own.nil _ _ _ _ _) (Nat.le_refl _) (by simp) rfl _ _ rfl rfl rfl ?_); intro v' w' hown' hg')
        rw [HVN.out] at hg'
        have hbb := grown_none_below hg'
        have HNEW := Lib.hid (show NrmI w l (0 + 1) v' w' from by
          obtain ⟨gg, cap, e, hq1, hq2⟩ := hown'.form (by simp)
          refine .inr ⟨by omega, _, gg, cap, b', c', ⟨g, m, sa, sc⟩, (by first | exact HHD.out trivial | exact HHD.out rfl), e, HGB.out, HLB.out, hq1, ?_, HSA.out.later hbb⟩
          rw [HTK.out, sumM_snoc]
          simpa [sumM] using hown')
        have HBN := Lib.hid (HBA.out.trans (hbb.mono HBA.out.size))
        clear hown' hg' hbb HBA HSA HRH HLB HGB
        go_wp2_with fail
        go_roundw
        case rel => exact ⟨_, _, _, _, ⟨1, by omega, rfl, HBN.out, HNEW.out⟩, HVN.out, rfl, rfl, rfl, rfl⟩
        case measure => simp [intOf]; omega
      · have HO := Lib.hid (ho.later hba)
        have HO0 := Lib.hid ho
        have HS := Lib.hid (hs.later hba)
        have HY := Lib.hid hy
        have hkp : (k == 0) = false := beq_eq_false_iff_ne.2 (by omega)
        have HXS := Lib.hid (HX2.out _ HB.out)
        have hbd := HBD.out k
        rw [show (l.take k).length = k from by simp; omega] at hbd
        have HSM := Lib.hid (show sumM (l.take (k + 1)) = sumM (l.take k) + m from by rw [HTK.out, sumM_snoc])
        clear hba ho hs hy
        obtain ⟨S, hS⟩ : ∃ S, sumM (l.take k) = S := ⟨_, rfl⟩
        rw [hS] at HO HO0 HSM hbd
        clear hS
        go_wp2_with fail
        clear c0 c1 c2 hbz
        obtain ⟨x0, x1, x2, xf, xz⟩ := HX.out.w3
        obtain ⟨o0, o1, o2⟩ := (HO0.out.atN rfl Ly.enc_len 0 (by simp)).c3
        simp only [Nat.zero_mul, Nat.zero_add] at o0 o1 o2
        have oz := (own_lt HO0.out (by simp)).2
        have of' := HO0.out.frozenN rfl
        have HLK := Lib.hid (fun (X : Later (wr.alloc (.cells #[.string g, .int .i64 m, .slice sa 1 sc] 49))) => (by
          have h := like58 X.w ⟨y.g, S, some ⟨bb, 0, none⟩, cc⟩ ⟨g, m, sa, sc⟩ (HS.out.later X.h).sh (HXS.out.later X.h)
          rwa [HX3.out y HY.out] at h : Calls Tryz.prog 58 #[.agg #[.string y.g, .int .i64 S, .slice (some ⟨bb, 0, none⟩) 1 cc], .agg #[.string g, .int .i64 m, .slice sa 1 sc]] X.w (Ret (.bool true) X.w)))
        refine wp_region_later (by kernel_rfl) (by kernel_rfl) ?_
        repeat go_big_quiet_step ((go_at_call 58; exact Calls.later (HLK.out _)))
        refine wpQuiet_nil ?_
        rintro w7 ⟨⟨_, hb⟩, rfl⟩
        replace HO := Lib.hid (HO.out.later hb)
        replace HS := Lib.hid (HS.out.later hb)
        clear o0 o1 o2 oz of' HLK
        replace HB := Lib.hid (HB.out.trans (hb.mono HB.out.size))
        replace HX := Lib.hid (HX.out.later hb)
        clear hb x0 x1 x2 xf xz
        obtain ⟨x0, x1, x2, xf, xz⟩ := HX.out.w3
        obtain ⟨o0, o1, o2⟩ := (HO.out.atN rfl Ly.enc_len 0 (by simp)).c3
        simp only [Nat.zero_mul, Nat.zero_add] at o0 o1 o2
        have oz := (own_lt HO.out (by simp)).2
        have of' := HO.out.frozenN rfl
        go_wp2_with fail
        refine wp_region_head_later 11 (by kernel_rfl) (by kernel_rfl) ?_
        simp only [List.take_succ_cons, List.take_zero, List.drop_succ_cons, List.drop_zero]
        repeat go_big_quiet_step (fail)
        refine wpQuiet_nil ?_
        rintro w9 ⟨⟨_, hb⟩, rfl⟩
        replace HO := Lib.hid (HO.out.later hb)
        replace HS := Lib.hid (HS.out.later hb)
        clear o0 o1 o2 oz of'
        replace HB := Lib.hid (HB.out.trans (hb.mono HB.out.size))
        replace HX := Lib.hid (HX.out.later hb)
        clear hb x0 x1 x2 xf xz
        obtain ⟨x0, x1, x2, xf, xz⟩ := HX.out.w3
        obtain ⟨o0, o1, o2⟩ := (HO.out.atN rfl Ly.enc_len 0 (by simp)).c3
        simp only [Nat.zero_mul, Nat.zero_add] at o0 o1 o2
        have oz := (own_lt HO.out (by simp)).2
        have of' := HO.out.frozenN rfl
        go_wp2_with fail
        have hgw : w.heap.size ≤ gg := by omega
        have HNEW := Lib.hid (show NrmI w l (k + 1) (.slice (some ⟨gg, 0, none⟩) 1 cap) (w9.setCell ⟨gg, 1, none⟩ (.int .i64 (S + m))) from .inr ⟨by omega, B, gg, cap, bb, cc, y, HY.out, rfl, h1, h2, h3, by
          rw [HSM.out]
          have := HO.out.setN rfl Ly.enc_len 0 (by simp) 1 (by omega) (.int .i64 (S + m)) ⟨y.g, S + m, some ⟨bb, 0, none⟩, cc⟩ rfl
          simpa using this, HS.out.set _ (by dsimp only; omega)⟩)
        go_roundw
        case rel => exact ⟨k + 1, by omega, by go_num, HB.out.setCell (p := ⟨gg, 1, none⟩) hgw _, HNEW.out⟩
        case measure => simp [intOf]; omega
    · have hkl : k = l.length := by omega
      subst hkl
      have HP := Lib.hid (HQ.out _ _ hnr HB.out)
      clear hnr hbe
      go_wp2_with fail
      exact HP.out
end Go.Proofs.YtpafjhjpchdcdaaGreatDoor.Nu
/- A region that draws its order, its head operations bound by one invariant over what is done, the yields and the world. -/
namespace Go
open Go.RowKit
section
def JoinPost (a0 : Act) (o : Oper) (K : Value → World → Prop) (e : Exit) (a : Act) (w : World) : Prop := e = .normal ∧ a.defers = a0.defers ∧ ∃ t v, o.dst = some t ∧ a.tmps[t]? = some v ∧ K v w
theorem JoinPost.out {a0 : Act} {o : Oper} {K : Value → World → Prop} : ¬ LetsOut (JoinPost a0 o K) := fun ⟨_, _, h⟩ => by cases h.1
variable {P : Program} {l : List Oper} {n : Nat} {a0 : Act} {J : (Nat → Bool) → (Nat → Value) → World → Prop} {Q : Exit → Act → World → Prop}
end
end Go
/- A region that draws its order, its head operations told by relations; those that make memory make it apart. -/
namespace Go
open Go.RowKit
section
def blk : Value → Nat
  | .pointer (some ⟨b, _, _⟩) => b
  | _ => 0
variable {P : Program} {l : List Oper} {W : World} {a0 : Act} {Q : Exit → Act → World → Prop}
end
end Go
