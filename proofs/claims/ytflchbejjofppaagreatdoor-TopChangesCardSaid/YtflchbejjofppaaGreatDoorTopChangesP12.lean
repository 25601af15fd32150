/- Lemmas on the way to the law TopChanges (part 12): WOc WOd -/
import Derived.Test.YtflchbejjofppaaGreatDoorTopChangesP11
set_option linter.unusedVariables false
set_option linter.unusedSimpArgs false

/- Walks: weigh.Tighten. -/
namespace Go.Proofs.YtflchbejjofppaaGreatDoor
open Go Go.Proofs Go.RowKit
def Tight (b : Bk) (rs : List Rg) : Prop := ∀ i r, rs[i]? = some r → Extent (b.st.length + 1) (arcsOf b) i r.lo r.hi
theorem Own.keeps {α : Type} {f : α → List Value} {sz : Nat} {e : TypeId} {w w' : World} {base : Nat} {v : Value} {l : List α} {S : Nat → Prop} (h : Own f sz e w base v l) (hk : Kept S w w') (hn : ∀ k, v.ownBlock = some k → ¬ S k) : Own f sz e w' base v l := by
  have h0 := h
  obtain ⟨h1, h2⟩ := h
  refine ⟨h1, ?_⟩
  rcases h2 with h2 | ⟨g, cap, cur, h2, h3, h4, h5⟩
  · exact .inl h2
  · have hg : g < w.heap.size := (Array.getElem?_eq_some_iff.1 h4).1
    refine .inr ⟨g, cap, cur, h2, h3, ?_, h5⟩
    rw [hk.block g hg (hn g (by rw [h2]; rfl))]; exact h4
theorem Own.two_types {α β : Type} {f : α → List Value} {f' : β → List Value} {sz sz' : Nat} {e e' : TypeId} {w : World} {base base' : Nat} {v v' : Value} {l : List α} {l' : List β} (h : Own f sz e w base v l) (h' : Own f' sz' e' w base' v' l') (hne : e' ≠ e) :
    ∀ k, v.ownBlock = some k → v'.ownBlock ≠ some k := fun k hk hk' => by
  rcases h'.2 with ⟨rfl, _⟩ | ⟨g, cap, cur, rfl, _, hg, _⟩
  · simp [Value.ownBlock] at hk'
  · obtain rfl : g = k := by simpa [Value.ownBlock] using hk'
    rcases h.2 with ⟨rfl, _⟩ | ⟨g', cap', cur', rfl, _, hg', _⟩
    · simp [Value.ownBlock] at hk
    · obtain rfl : g' = g := by simpa [Value.ownBlock] using hk
      rw [hg] at hg'
      cases hg'
      exact hne rfl
theorem Extent.shp {n : Nat} {l l' : List Ac} {i : Nat} {lo hi : Int} (hs : shp l' = shp l) (h : Extent n l' i lo hi) : Extent n l i lo hi := by
  obtain ⟨⟨l1, a1, h1, h2⟩, ⟨l3, a3, h3, h4⟩, h5⟩ := h
  exact ⟨⟨l1, a1, h1.trans hs, h2⟩, ⟨l3, a3, h3.trans hs, h4⟩, fun l2 a2 e1 e2 e3 => h5 l2 a2 (e1.trans hs.symm) e2 e3⟩
def TightPost (w : World) (b : Bk) (e : Ending) (w' : World) : Prop :=
  Below w.heap.size w w' ∧ ((ckBook b ≠ 0 ∧ e = .returned (.tuple #[.slice none 0 0, .int .i64 (ckBook b)])) ∨ (ckBook b = 0 ∧ ¬ Con b ∧ e = .returned (.tuple #[.slice none 0 0, .int .i64 15])) ∨
    (ckBook b = 0 ∧ Con b ∧ ∃ v rs, e = .returned (.tuple #[v, .int .i64 0]) ∧ Sl Rg.enc 2 w' w'.heap.size v rs ∧ rs.length = b.ts.length ∧ Tight b rs))
structure TightW (w wr : World) (b : Bk) (nb : Nat) (v vo : Value) (rs : List Rg) : Prop where
  net : ∃ l rc, NetR wr w.heap.size nb v l b.ts.length b.st.length rc ∧ shp l = shp (arcsOf b) ∧ Circ (b.st.length + 1) l
  own : Own Rg.enc 2 34 wr w.heap.size vo rs
  tight : Tight b rs
  nlt : w.heap.size ≤ nb
  below : Below w.heap.size w wr
theorem smallS_arcs {b : Bk} (hok : OkBk b) : SmallS (arcsOf b) 1000000000000 := fun a ha => by
  have := arcs_props hok ha
  omega
theorem TightW.call {w wr : World} {b : Bk} {nb : Nat} {v vo : Value} {rs : List Rg} (h : TightW w wr b nb v vo rs) (hok : OkBk b) (k : Nat) (hk : k < b.ts.length) (hl : rs.length = k) :
    Calls Tryz.prog 32 #[.pointer (some ⟨nb, 0, none⟩), .int .i64 k] wr fun e w' => ∃ lo hi, e = .returned (.agg #[.int .i64 lo, .int .i64 hi]) ∧ wr.heap.size ≤ w'.heap.size ∧ Own Rg.enc 2 34 w' w.heap.size vo rs ∧
      (∀ vo' w2, Own Rg.enc 2 34 w2 w.heap.size vo' (rs ++ [⟨lo, hi⟩]) → w'.grownBy w2 vo.ownBlock → TightW w w2 b nb v vo' (rs ++ [⟨lo, hi⟩])) := by
  obtain ⟨⟨l, rc, hn, hsh, hc⟩, hown, ht, hnlt, hbel⟩ := h
  have hlen := shp_length hsh
  have hal := arcs_len b
  have h32 := hok.st32
  have h128 := hok.ts128
  have hi : k < l.length := by omega
  have hE := shp_ends hsh.symm (arcs_ends hok)
  have hE36 : Ends 36 l := fun a ha => by have := hE a ha; omega
  have hne : l[k].fr ≠ l[k].to := by
    have hb := bare_eq (shp_get hsh k hi (by omega))
    rw [hb.1, hb.2.1]
    exact (arcs_props hok (List.getElem_mem (by omega : k < (arcsOf b).length))).2.2.1
  refine (extent79 w.heap.size nb v l b.ts.length b.st.length rc k wr hn (by omega) ((smallS_arcs hok).shp hsh) hc.fits hE36 hi hne).mono ?_
  rintro e w' ⟨l', rc', lo, hi', rfl, hn', hk', hsh', hf', hext⟩
  obtain ⟨hc', hx⟩ := hext _ hE hc
  have hS : ∀ j, vo.ownBlock = some j → ¬ Mine nb v j := by
    rintro j hj (rfl | hm)
    · exact hown.other_type hn.box (by decide) hj
    · exact hown.two_types hn.own (by decide) j hj hm
  have hown' := hown.keeps hk' hS
  refine ⟨lo, hi', rfl, hk'.size, hown', fun vo' w2 ho2 hg => ⟨⟨l', rc', ?_, hsh'.trans hsh, hc'⟩, ho2, ?_, hnlt, ?_⟩⟩
  · have hnb : some nb ≠ vo.ownBlock := fun e => hown.other_type hn.box (by decide) e.symm
    refine ⟨hn'.box.grown hg hnb, hn'.own.kept hg ?_, hn'.ne, hn'.n36⟩
    by_cases hv : v.ownBlock = none
    · exact .inl hv
    · refine .inr fun e => ?_
      cases h : v.ownBlock with
      | none => exact hv h
      | some j => rw [h] at e; exact hown.two_types hn.own (by decide) j e.symm h
  · intro i r hr
    by_cases hlt : i < rs.length
    · rw [List.getElem?_append_left hlt] at hr; exact ht i r hr
    · rw [List.getElem?_append_right (by omega)] at hr
      by_cases h0 : i = rs.length
      · subst h0
        simp at hr
        subst hr
        rw [hl]
        exact hx.shp hsh
      · rw [List.getElem?_eq_none (by simp; omega)] at hr; cases hr
  · have hb' : Below w.heap.size w w' := hbel.trans (hk'.toBelow hbel.size (by
      rintro j (rfl | hm)
      · exact hnlt
      · exact (World.ownsRow.lt hn.own j hm).1))
    exact hb'.grown hg hb'.size fun j hj => (World.ownsRow.lt hown' j hj).1
set_option maxRecDepth 100000 in
set_option maxHeartbeats 1000000 in
theorem tighten35 (w : World) (v1 v2 : Value) (b : Bk) (hv : BkR w w.heap.size v1 v2 b) : Calls Tryz.prog 8 #[.agg #[v1, v2]] w (TightPost w b) := by
  have HC := Lib.hid (fun (w1 : World) (hb : Below w.heap.size w w1) => settled78 w1 v1 v2 b (hv.later hb))
  obtain ⟨⟨a1, n1, hv1, hl1, hA1⟩, ⟨a2, n2, hv2, hl2, hA2⟩, hids⟩ := hv
  subst hv1 hv2
  clear hA1 hA2 hids
  go_enter Tryz.func8, Tryz.ntmps8
  go_wp2_with fail
  refine (HC.out _ ((Below.refl _ _).alloc (Nat.le_refl _) _)).mono ?_
  rintro e w1 ⟨hb1, hor⟩
  have hx1 := (Box.new w #[.slice a1 b.st.length n1, .slice a2 b.ts.length n2] 25).later hb1
  have hbb := ((Below.refl w.heap.size w).alloc (Nat.le_refl _) (.cells #[.slice a1 b.st.length n1, .slice a2 b.ts.length n2] 25)).trans (hb1.mono (by simp))
  have HB := Lib.hid hbb
  have x0 := hx1.cell 0
  have x1 := hx1.cell 1
  simp only [List.getElem?_cons_zero, List.getElem?_cons_succ] at x0 x1
  clear hbb hb1
  rcases hor with ⟨hck, rfl⟩ | ⟨hck, hcon, rfl⟩ | ⟨hck, hcon, nb, v, l, rc, rfl, hn, hnb, hsh, hci⟩
  · have hne : (ckBook b == 0) = false := by simp [hck]
    have HCK := Lib.hid hck
    clear hck
    go_wp2_with fail
    refine bodyPost_ret (results_tmp2 rfl _ _ _) rfl ?_
    exact ⟨HB.out, .inl ⟨HCK.out, rfl⟩⟩
  · have HCK := Lib.hid hck
    have HCON := Lib.hid hcon
    clear hck hcon
    go_wp2_with fail
    refine bodyPost_ret (results_tmp2 rfl _ _ _) rfl ?_
    exact ⟨HB.out, .inr (.inl ⟨HCK.out, HCON.out, rfl⟩)⟩
  · have HOK := Lib.hid (okBk_of hck)
    have h128 := (okBk_of hck).ts128
    have HCK := Lib.hid hck
    have HCON := Lib.hid hcon
    have HTW := Lib.hid (show TightW w w1 b nb v (.slice none 0 0) [] from ⟨⟨l, rc, hn.lower (by simp), hsh, hci⟩, Own.nil _ _ _ _ _, by intro i r h; simp at h, by simp at hnb; omega, HB.out⟩)
    clear hn hnb hsh hci hck hcon
    go_wp2_with fail
    go_loopw [19, 6] (fun i o wr => ∃ (k : Nat) (vo : Value) (rs : List Rg), k ≤ b.ts.length ∧ i = .int .i64 k ∧ o = vo ∧ rs.length = k ∧ TightW w wr b nb v vo rs) (fun i _ _ => b.ts.length - (intOf i).toNat)
    case atStart => exact ⟨0, _, [], by omega, rfl, rfl, rfl, HTW.out⟩
    case round =>
      clear HTW x0 x1 hx1
      obtain ⟨k, vo, rs, hk, rfl, rfl, hlen, htw⟩ := hrel
      by_cases hlt : k < b.ts.length
      · have HCA := Lib.hid (htw.call HOK.out k hlt hlen)
        have HLEN := Lib.hid hlen
        clear hlen
        have hbe := htw.below.size
        clear htw
        go_wp2_with fail
        refine HCA.out.mono ?_
        rintro e w1 ⟨lo, hi, rfl, hsz, hown, hfin⟩
        have HFIN := Lib.hid hfin
        have hbase : w.heap.size ≤ w1.heap.size := by omega
        have HBASE := Lib.hid hbase
        have HLK := Lib.hid (show rs.length ≤ 1000000 by rw [HLEN.out]; omega)
        obtain ⟨a', cap', rfl⟩ := hown.shape
        have HOWN := Lib.hid hown
        clear hfin hown
        go_wp2_with (at_builtin; refine wpList_push Rg.enc 2 16 22 34 _ Tryz.underlying22 Tryz.infoRg rfl (by decide) (by decide) Rg.enc_len Rg.enc_one rs ⟨lo, hi⟩ w.heap.size w1 _ rfl _ HOWN.out HBASE.out HLK.out rfl _ _ rfl rfl rfl ?_; intro v' w' hown' hg'; have HOW := Lib.hid hown'; have HGR := Lib.hid hg'; clear hown' hg')
        go_roundw
        case rel => exact ⟨k + 1, _, rs ++ [⟨lo, hi⟩], by omega, by go_num, rfl, by simp [HLEN.out], HFIN.out _ _ HOW.out HGR.out⟩
        case measure => simp [intOf]; omega
      · obtain rfl : k = b.ts.length := by omega
        go_wp2_with fail
        refine bodyPost_ret (results_tmp2 rfl _ _ _) rfl ?_
        exact ⟨htw.below, .inr (.inr ⟨HCK.out, HCON.out, _, rs, rfl, htw.own.toSl Rg.enc_len (by omega), hlen, htw.tight⟩)⟩
end Go.Proofs.YtflchbejjofppaaGreatDoor
/- Places together: the network with one arc more, plainly. -/
namespace Go.Proofs.YtflchbejjofppaaGreatDoor
open Go Go.Proofs Go.RowKit
def Ac.goto (t : Nat) (a : Ac) : Ac := { a with to := t }
def retgt (t : Nat) : List Nat → List Ac → List Ac
  | [], l => l
  | i :: is, l => retgt t is (l.modify i (Ac.goto t))
def atI (f : Ac → Int) (l : List Ac) (i : Nat) : Int := match l[i]? with | some a => f a | none => 0
def flSum (is : List Nat) (l : List Ac) : Int := tot (atI Ac.fl l) is
theorem retgt_get (t : Nat) : ∀ (is : List Nat) (l : List Ac) (j : Nat), (retgt t is l)[j]? = l[j]?.map fun a => if j ∈ is then a.goto t else a
  | [], l, j => by simp [retgt]
  | i :: is, l, j => by
    rw [retgt, retgt_get t is, List.getElem?_modify]
    by_cases h : i = j
    · subst h
      cases l[i]? with
      | none => simp
      | some a => by_cases h2 : i ∈ is <;> simp [h2, Ac.goto]
    · have h' : ¬ j = i := fun e => h e.symm
      cases l[j]? with
      | none => simp
      | some a => simp [h, h']
theorem retgt_length (t : Nat) : ∀ (is : List Nat) (l : List Ac), (retgt t is l).length = l.length
  | [], l => rfl
  | i :: is, l => by rw [retgt, retgt_length t is]; simp
theorem shp_modify (t i : Nat) (l : List Ac) : shp (l.modify i (Ac.goto t)) = (shp l).modify i (Ac.goto t) := by
  apply List.ext_getElem?
  intro j
  unfold shp
  rw [List.getElem?_map, List.getElem?_modify, List.getElem?_modify, List.getElem?_map]
  cases l[j]? with
  | none => simp
  | some a => by_cases h : i = j <;> simp [h, Ac.goto, Ac.bare]
theorem shp_retgt (t : Nat) : ∀ (is : List Nat) (l : List Ac), shp (retgt t is l) = retgt t is (shp l)
  | [], l => rfl
  | i :: is, l => by rw [retgt, retgt, shp_retgt t is, shp_modify]
theorem atI_retgt {f : Ac → Int} (hf : ∀ t a, f (Ac.goto t a) = f a) (t : Nat) (is : List Nat) (l : List Ac) (i : Nat) : atI f (retgt t is l) i = atI f l i := by
  unfold atI
  rw [retgt_get]
  cases l[i]? with
  | none => rfl
  | some a => by_cases h : i ∈ is <;> simp [h, hf]
theorem retgt_back {s t : Nat} {is : List Nat} {l : List Ac} (h : ∀ i ∈ is, ∀ a, l[i]? = some a → a.to = s) : retgt s is (retgt t is l) = l := by
  apply List.ext_getElem?
  intro j
  rw [retgt_get, retgt_get]
  cases hj : l[j]? with
  | none => rfl
  | some a =>
    by_cases h2 : j ∈ is
    · have := h j h2 a hj
      simp only [Option.map_some, h2, if_true, Ac.goto]
      rw [← this]
    · simp [h2]
theorem fits_retgt {t : Nat} {is : List Nat} {l : List Ac} (h : Fits l) : Fits (retgt t is l) := by
  rw [fits_iff] at *
  intro i a ha
  rw [retgt_get] at ha
  cases hj : l[i]? with
  | none => rw [hj] at ha; cases ha
  | some b =>
    rw [hj] at ha
    have := h i b hj
    by_cases h2 : i ∈ is
    · simp only [Option.map_some, h2, if_true, Option.some.injEq] at ha; subst ha; exact this
    · simp only [Option.map_some, h2, if_false, Option.some.injEq] at ha; subst ha; exact this
theorem exc_modify (x t i : Nat) (l : List Ac) (a : Ac) (h : l[i]? = some a) : exc x (l.modify i (Ac.goto t)) = exc x l + (if t = x then a.fl else 0) - (if a.to = x then a.fl else 0) := by
  obtain ⟨hi, rfl⟩ := List.getElem?_eq_some_iff.1 h
  have e1 : l.modify i (Ac.goto t) = l.take i ++ (l[i].goto t) :: l.drop (i + 1) := by rw [List.modify_eq_take_cons_drop hi]
  have e2 := split_at l i hi
  rw [e1, congrArg (exc x) e2]
  unfold exc
  rw [tot_append, tot_append]
  simp only [tot, Ac.at, Ac.goto]
  omega
theorem flSum_retgt (t : Nat) (js is : List Nat) (l : List Ac) : flSum js (retgt t is l) = flSum js l := tot_congr _ _ _ fun i _ => atI_retgt (fun _ _ => rfl) t is l i
theorem exc_retgt (x s t : Nat) : ∀ (is : List Nat) (l : List Ac), is.Nodup → (∀ i ∈ is, ∃ a, l[i]? = some a ∧ a.to = s) → exc x (retgt t is l) = exc x l + (if t = x then flSum is l else 0) - (if s = x then flSum is l else 0)
  | [], l, _, _ => by simp [retgt, flSum, tot]
  | i :: is, l, hn, h => by
    obtain ⟨hi, hn'⟩ := List.nodup_cons.1 hn
    obtain ⟨a, ha, hs⟩ := h i (by simp)
    have hget : ∀ j ∈ is, (l.modify i (Ac.goto t))[j]? = l[j]? := fun j hj => by
      rw [List.getElem?_modify]
      have hne : ¬ i = j := fun e => hi (by rw [e]; exact hj)
      simp [hne]
    have hfs : flSum is (l.modify i (Ac.goto t)) = flSum is l := tot_congr _ _ _ fun j hj => by unfold atI; rw [hget j hj]
    rw [retgt, exc_retgt x s t is _ hn' (fun j hj => by rw [hget j hj]; exact h j (by simp [hj])), exc_modify x t i l a ha, hfs, hs]
    have : flSum (i :: is) l = a.fl + flSum is l := by unfold flSum; simp only [tot, atI, ha]
    rw [this]
    split <;> split <;> omega
theorem tot_atI_le (is : List Nat) (l : List Ac) (h : Fits l) : tot (atI Ac.lo l) is ≤ flSum is l ∧ flSum is l ≤ tot (atI Ac.hi l) is := by
  rw [fits_iff] at h
  constructor
  · exact tot_le _ _ _ fun i _ => by
      unfold atI
      cases hj : l[i]? with
      | none => exact Int.le_refl _
      | some a => exact (h i a hj).1
  · exact tot_le _ _ _ fun i _ => by
      unfold atI
      cases hj : l[i]? with
      | none => exact Int.le_refl _
      | some a => exact (h i a hj).2
def joinA (n : Nat) (is : List Nat) (l : List Ac) : List Ac := retgt (n + 1) is l ++ [⟨n + 1, 0, tot (atI Ac.lo l) is, tot (atI Ac.hi l) is, flSum is l⟩]
def OutI (is : List Nat) (l : List Ac) : Prop := is.Nodup ∧ ∀ i ∈ is, ∃ a, l[i]? = some a ∧ a.to = 0
theorem shp_at {l l' : List Ac} (h : shp l' = shp l) {i : Nat} {a : Ac} (ha : l[i]? = some a) : ∃ a', l'[i]? = some a' ∧ a'.fr = a.fr ∧ a'.to = a.to ∧ a'.lo = a.lo ∧ a'.hi = a.hi := by
  obtain ⟨hi, e⟩ := List.getElem?_eq_some_iff.1 ha
  have hi' : i < l'.length := by rw [shp_length h]; exact hi
  have := bare_eq (shp_get h i hi' hi)
  rw [e] at this
  exact ⟨l'[i], List.getElem?_eq_getElem hi', this⟩
theorem OutI.shp {is : List Nat} {l l' : List Ac} (h : OutI is l) (hs : shp l' = shp l) : OutI is l' :=
  ⟨h.1, fun i hi => by obtain ⟨a, ha, h0⟩ := h.2 i hi; obtain ⟨a', h1, _, h2, _⟩ := shp_at hs ha; exact ⟨a', h1, h2.trans h0⟩⟩
theorem tot_lohi_shp {is : List Nat} {l l' : List Ac} (hs : shp l' = shp l) : tot (atI Ac.lo l') is = tot (atI Ac.lo l) is ∧ tot (atI Ac.hi l') is = tot (atI Ac.hi l) is := by
  constructor
  all_goals
    refine tot_congr _ _ _ fun i _ => ?_
    unfold atI
    cases hj : l[i]? with
    | none =>
      have h2 : l'[i]? = none := List.getElem?_eq_none (by rw [shp_length hs]; exact List.getElem?_eq_none_iff.1 hj)
      rw [h2]
    | some a =>
      obtain ⟨a', h1, _, _, h3, h4⟩ := shp_at hs hj
      rw [h1]
      assumption
theorem joinA_circ {n : Nat} {is : List Nat} {l : List Ac} (hE : Ends (n + 1) l) (hc : Circ (n + 1) l) (ho : OutI is l) : Circ (n + 2) (joinA n is l) := by
  refine ⟨?_, fun v hv => ?_⟩
  · intro a ha
    rcases List.mem_append.1 ha with ha | ha
    · exact fits_retgt hc.fits a ha
    · rw [List.mem_singleton] at ha
      subst ha
      exact tot_atI_le is l hc.fits
  · unfold joinA
    rw [exc_append, exc_retgt v 0 (n + 1) is l ho.1 ho.2]
    have h0 : exc v l = 0 := by
      by_cases h : v < n + 1
      · exact hc.bal v h
      · exact exc_far hE (by omega)
    rw [h0]
    show _ + exc v [_] = 0
    unfold exc
    simp only [tot, Ac.at]
    split <;> split <;> omega
theorem joinA_ends {n : Nat} {is : List Nat} {l : List Ac} (hE : Ends (n + 1) l) : Ends (n + 2) (joinA n is l) := by
  intro a ha
  rcases List.mem_append.1 ha with ha | ha
  · obtain ⟨i, hi⟩ := List.mem_iff_getElem?.1 ha
    rw [retgt_get] at hi
    cases hj : l[i]? with
    | none => rw [hj] at hi; cases hi
    | some b =>
      rw [hj] at hi
      have := hE b (List.mem_of_getElem? hj)
      by_cases h2 : i ∈ is
      · simp only [Option.map_some, h2, if_true, Option.some.injEq] at hi; subst hi; exact ⟨by have := this.1; simp only [Ac.goto]; omega, by simp only [Ac.goto]; omega⟩
      · simp only [Option.map_some, h2, if_false, Option.some.injEq] at hi; subst hi; omega
  · rw [List.mem_singleton] at ha
    subst ha
    exact ⟨by dsimp only; omega, by dsimp only; omega⟩
theorem shp_joinA {n : Nat} {is : List Nat} {l l' : List Ac} (hs : shp l' = shp l) : shp (joinA n is l') = shp (joinA n is l) := by
  have h := shp_retgt (n + 1) is l
  have h' := shp_retgt (n + 1) is l'
  rw [hs, ← h] at h'
  obtain ⟨e1, e2⟩ := tot_lohi_shp (is := is) hs
  unfold joinA
  rw [e1, e2]
  unfold shp at *
  rw [List.map_append, List.map_append, h']
  simp [Ac.bare]
def Together (n : Nat) (l : List Ac) (is : List Nat) (lo hi : Int) : Prop :=
  (∃ l2, shp l2 = shp l ∧ Circ (n + 1) l2 ∧ flSum is l2 = lo) ∧ (∃ l2, shp l2 = shp l ∧ Circ (n + 1) l2 ∧ flSum is l2 = hi) ∧ ∀ l2, shp l2 = shp l → Circ (n + 1) l2 → lo ≤ flSum is l2 ∧ flSum is l2 ≤ hi
theorem joinA_back {n : Nat} {is : List Nat} {l l3 : List Ac} {a : Ac} (hE : Ends (n + 1) l) (ho : OutI is l) (hs : shp l3 = shp (joinA n is l)) (hc : Circ (n + 2) l3) (ha : l3[l.length]? = some a) :
    ∃ l2, shp l2 = shp l ∧ Circ (n + 1) l2 ∧ flSum is l2 = a.fl := by
  obtain ⟨A, X, rfl, hlen, hsA, hsX⟩ := split_shp hs
  rw [retgt_length] at hlen
  rw [List.getElem?_append_right (by omega), hlen, Nat.sub_self] at ha
  have hX1 : X.length = 1 := by have := shp_length hsX; simpa using this
  obtain ⟨y, rfl⟩ : ∃ y, X = [y] := List.length_eq_one_iff.1 hX1
  simp at ha
  subst ha
  have hy := bare_eq (a := y) (b := ⟨n + 1, 0, tot (atI Ac.lo l) is, tot (atI Ac.hi l) is, flSum is l⟩) (by simpa [shp] using hsX)
  obtain ⟨y1, y2, y3, y4⟩ := hy
  dsimp only at y1 y2
  have hAto : ∀ i ∈ is, ∃ b, A[i]? = some b ∧ b.to = n + 1 := fun i hi => by
    obtain ⟨b, hb, _⟩ := ho.2 i hi
    have : (retgt (n + 1) is l)[i]? = some (b.goto (n + 1)) := by rw [retgt_get, hb]; simp [hi]
    obtain ⟨b', h1, _, h2, _⟩ := shp_at hsA this
    exact ⟨b', h1, h2⟩
  have hsh : shp (retgt 0 is A) = shp l := by
    rw [shp_retgt, hsA, ← shp_retgt]
    rw [retgt_back]
    intro i hi b hb
    obtain ⟨b', hb', h0⟩ := ho.2 i hi
    rw [hb'] at hb
    cases hb
    exact h0
  have hfs : flSum is A = y.fl := by
    have h1 := hc.bal (n + 1) (by omega)
    rw [exc_append] at h1
    have h2 := exc_retgt (n + 1) (n + 1) 0 is A ho.1 hAto
    have h3 : exc (n + 1) (retgt 0 is A) = 0 := exc_far (shp_ends hsh.symm hE) (Nat.le_refl _)
    have h4 : exc (n + 1) [y] = -y.fl := by unfold exc; simp only [tot, Ac.at, y1, y2]; simp
    rw [h3] at h2
    rw [h4] at h1
    simp at h2
    omega
  refine ⟨retgt 0 is A, hsh, ⟨fits_retgt fun b hb => hc.fits b (List.mem_append_left _ hb), fun v hv => ?_⟩, (flSum_retgt _ _ _ _).trans hfs⟩
  have h1 := hc.bal v (by omega)
  rw [exc_append] at h1
  rw [exc_retgt v (n + 1) 0 is A ho.1 hAto, hfs, if_neg (by omega : ¬ n + 1 = v)]
  have h4 : exc v [y] = (if 0 = v then y.fl else 0) - (if n + 1 = v then y.fl else 0) := by unfold exc; simp only [tot, Ac.at, y1, y2]; omega
  rw [h4, if_neg (by omega : ¬ n + 1 = v)] at h1
  omega
theorem together_of {n : Nat} {is : List Nat} {l : List Ac} {lo hi : Int} (hE : Ends (n + 1) l) (ho : OutI is l) (h : Extent (n + 2) (joinA n is l) l.length lo hi) : Together n l is lo hi := by
  obtain ⟨⟨l1, a1, s1, c1, e1, f1⟩, ⟨l3, a3, s3, c3, e3, f3⟩, h5⟩ := h
  refine ⟨?_, ?_, fun l2 hs2 hc2 => ?_⟩
  · obtain ⟨l2, k1, k2, k3⟩ := joinA_back hE ho s1 c1 e1
    exact ⟨l2, k1, k2, k3.trans f1⟩
  · obtain ⟨l2, k1, k2, k3⟩ := joinA_back hE ho s3 c3 e3
    exact ⟨l2, k1, k2, k3.trans f3⟩
  · have := h5 (joinA n is l2) _ (shp_joinA hs2) (joinA_circ (shp_ends hs2.symm hE) hc2 (ho.shp hs2)) (by
      unfold joinA
      rw [List.getElem?_append_right (by rw [retgt_length, shp_length hs2]; omega), retgt_length, shp_length hs2, Nat.sub_self]
      rfl)
    exact this
end Go.Proofs.YtflchbejjofppaaGreatDoor
