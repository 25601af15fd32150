/- Lemmas on the way to the law TopScales (part 13): Dc Df Ea Eb -/
import Derived.Test.YtflchbejjofppaaGreatDoorTopScalesP12
import Derived.Test.YtflchbejjofppaaGreatDoorTopScalesP01
import Derived.Test.YtflchbejjofppaaGreatDoorTopScalesP10
import Derived.IntWalk
import Derived.RegionTactic
import Derived.BigRegion
set_option linter.unusedVariables false
set_option linter.unusedSimpArgs false

/- Plain: long division. -/
namespace Go.Proofs.YtflchbejjofppaaGreatDoor
theorem guess_high {P B un u1 u2 v1 v2 ru rv t r U V : Nat} (hU : U = P * (B * (B * un + u1) + u2) + ru) (hru : ru < P) (hV : V = P * (B * v1 + v2) + rv) (top : t * v1 + r = B * un + u1) (h : r * B + u2 < t * v2) : U < t * V := by
  have e1 : t * (B * v1 + v2) = B * (t * v1) + t * v2 := by rw [Nat.mul_add, Nat.mul_left_comm]
  have e2 : B * (t * v1) + r * B = B * (B * un + u1) := by rw [← top, Nat.mul_add, Nat.mul_comm r B]
  have e3 : B * (B * un + u1) + u2 + 1 ≤ t * (B * v1 + v2) := by omega
  have e4 : P * (B * (B * un + u1) + u2 + 1) ≤ P * (t * (B * v1 + v2)) := Nat.mul_le_mul_left P e3
  have e5 : t * V = P * (t * (B * v1 + v2)) + t * rv := by rw [hV, Nat.mul_add, Nat.mul_left_comm]
  rw [Nat.mul_add P _ 1] at e4
  omega
theorem guess_low {P B un u1 u2 v1 v2 ru rv t r U V : Nat} (hU : U = P * (B * (B * un + u1) + u2) + ru) (hV : V = P * (B * v1 + v2) + rv) (hrv : rv < P) (hv1 : 1 ≤ v1) (top : t * v1 + r = B * un + u1) (htB : t ≤ B) (h : t * v2 ≤ r * B + u2) : t * V ≤ U + V := by
  have e1 : t * (B * v1 + v2) = B * (t * v1) + t * v2 := by rw [Nat.mul_add, Nat.mul_left_comm]
  have e2 : B * (t * v1) + r * B = B * (B * un + u1) := by rw [← top, Nat.mul_add, Nat.mul_comm r B]
  have e3 : t * (B * v1 + v2) ≤ B * (B * un + u1) + u2 := by omega
  have e4 : P * (t * (B * v1 + v2)) ≤ P * (B * (B * un + u1) + u2) := Nat.mul_le_mul_left P e3
  have e5 : t * V = P * (t * (B * v1 + v2)) + t * rv := by rw [hV, Nat.mul_add, Nat.mul_left_comm]
  have e6 : t * rv ≤ B * P := Nat.mul_le_mul htB (by omega)
  have e7 : B * P * 1 ≤ B * P * v1 := Nat.mul_le_mul_left _ hv1
  have e8 : P * (B * v1 + v2) = B * P * v1 + P * v2 := by rw [Nat.mul_add, ← Nat.mul_assoc, Nat.mul_comm P B]
  omega
structure Win (B : Nat) (w v : List Nat) : Prop where
  dw : Dg B w
  dv : Dg B v
  tv : Tr v
  two : 2 ≤ v.length
  len : v.length < w.length
  zer : ∀ x ∈ w.drop (v.length + 1), x = 0
  lt : val B w < B * val B v
theorem Win.val_w {B : Nat} {w v : List Nat} (h : Win B w v) : val B w = val B (w.take v.length) + B ^ v.length * w[v.length]'h.len := by
  rw [← val_take_zeros h.len h.zer, val_take_succ B w _ h.len]
theorem Win.parts {B : Nat} {w v : List Nat} (h : Win B w v) : ∃ P ru rv, ru < P ∧ rv < P ∧
    val B w = P * (B * (B * w[v.length]'h.len + w[v.length - 1]'(by have := h.len; omega)) + w[v.length - 2]'(by have := h.len; omega)) + ru ∧
    val B v = P * (B * v[v.length - 1]'(by have := h.two; omega) + v[v.length - 2]'(by have := h.two; omega)) + rv := by
  have h2 := h.two
  have hl := h.len
  obtain ⟨n, hn⟩ : ∃ n, v.length = n + 2 := ⟨v.length - 2, by omega⟩
  have e1 : v.length - 1 = n + 1 := by omega
  have e2 : v.length - 2 = n := by omega
  have hv1 : v[v.length - 1]'(by omega) = v[n + 1]'(by omega) := by congr 1
  have hv2 : v[v.length - 2]'(by omega) = v[n]'(by omega) := by congr 1
  have hw0 : w[v.length]'hl = w[n + 2]'(by omega) := by congr 1
  have hw1 : w[v.length - 1]'(by omega) = w[n + 1]'(by omega) := by congr 1
  have hw2 : w[v.length - 2]'(by omega) = w[n]'(by omega) := by congr 1
  refine ⟨B ^ n, val B (w.take n), val B (v.take n), ?_, ?_, ?_, ?_⟩
  · have := val_lt (h.dw.take n); rwa [List.length_take, Nat.min_eq_left (by omega)] at this
  · have := val_lt (h.dv.take n); rwa [List.length_take, Nat.min_eq_left (by omega)] at this
  · rw [hw0, hw1, hw2, ← val_take_zeros (n := n + 3) (by omega) (by have := h.zer; rw [hn] at this; exact this), val_take_succ B w (n + 2) (by omega), val_take_succ B w (n + 1) (by omega), val_take_succ B w n (by omega), Nat.pow_succ, Nat.pow_succ]
    grind
  · have e : val B v = val B (v.take (n + 2)) := by rw [← hn, List.take_of_length_le (Nat.le_refl _)]
    rw [hv1, hv2, e, val_take_succ B v (n + 1) (by omega), val_take_succ B v n (by omega), Nat.pow_succ]
    grind
structure Gue (B : Nat) (w v : List Nat) (un u1 v1 t r : Nat) : Prop where
  top : t * v1 + r = B * un + u1
  ge : val B w < (t + 1) * val B v
theorem Gue.start {B : Nat} {w v : List Nat} (h : Win B w v) {t r : Nat} (top : t * v[v.length - 1]'(by have := h.two; omega) + r = B * w[v.length]'h.len + w[v.length - 1]'(by have := h.len; omega))
    (hr : r < v[v.length - 1]'(by have := h.two; omega)) : Gue B w v (w[v.length]'h.len) (w[v.length - 1]'(by have := h.len; omega)) (v[v.length - 1]'(by have := h.two; omega)) t r := by
  refine ⟨top, ?_⟩
  obtain ⟨P, ru, rv, h1, h2, h3, h4⟩ := h.parts
  have h5 := h.dw.get (v.length - 2) (by have := h.len; omega)
  generalize w[v.length]'h.len = un at *
  generalize w[v.length - 1]'(by have := h.len; omega) = u1 at *
  generalize w[v.length - 2]'(by have := h.len; omega) = u2 at *
  generalize v[v.length - 1]'(by have := h.two; omega) = v1 at *
  generalize v[v.length - 2]'(by have := h.two; omega) = v2 at *
  have e1 : (t + 1) * v1 = t * v1 + v1 := Nat.succ_mul _ _
  have e2 : B * un + u1 + 1 ≤ (t + 1) * v1 := by omega
  have e3 : B * (B * un + u1 + 1) ≤ B * ((t + 1) * v1) := Nat.mul_le_mul_left _ e2
  rw [Nat.mul_add B _ 1] at e3
  have e4 : P * (B * (B * un + u1) + u2 + 1) ≤ P * (B * ((t + 1) * v1)) := Nat.mul_le_mul_left _ (by omega)
  rw [Nat.mul_add P _ 1] at e4
  have e5 : (t + 1) * val B v = P * (B * ((t + 1) * v1)) + ((t + 1) * (P * v2) + (t + 1) * rv) := by rw [h4]; grind
  omega
theorem Gue.step {B : Nat} {w v : List Nat} (h : Win B w v) {t r : Nat} (hg : Gue B w v (w[v.length]'h.len) (w[v.length - 1]'(by have := h.len; omega)) (v[v.length - 1]'(by have := h.two; omega)) t r)
    (hc : B ≤ t ∨ r * B + w[v.length - 2]'(by have := h.len; omega) < t * v[v.length - 2]'(by have := h.two; omega)) : 0 < t ∧ Gue B w v (w[v.length]'h.len) (w[v.length - 1]'(by have := h.len; omega)) (v[v.length - 1]'(by have := h.two; omega)) (t - 1) (r + v[v.length - 1]'(by have := h.two; omega)) := by
  obtain ⟨P, ru, rv, h1, h2, h3, h4⟩ := h.parts
  have hB : 0 < B := by have := h.dw.get (v.length) h.len; omega
  have hlt := h.lt
  have hgt := hg.top
  have hn : 0 < t := by
    rcases hc with hc | hc
    · omega
    · rcases Nat.eq_zero_or_pos t with rfl | h0
      · omega
      · exact h0
  refine ⟨hn, ?_, ?_⟩
  · obtain ⟨t', rfl⟩ : ∃ t', t = t' + 1 := ⟨t - 1, by omega⟩
    rw [Nat.add_sub_cancel]
    rw [Nat.succ_mul] at hgt
    omega
  · rw [show t - 1 + 1 = t by omega]
    rcases hc with hc | hc
    · exact Nat.lt_of_lt_of_le hlt (Nat.mul_le_mul_right _ hc)
    · exact guess_high h3 h1 h4 (by omega) hc
theorem Gue.done {B : Nat} {w v : List Nat} (h : Win B w v) {t r : Nat} (hg : Gue B w v (w[v.length]'h.len) (w[v.length - 1]'(by have := h.len; omega)) (v[v.length - 1]'(by have := h.two; omega)) t r)
    (ht : t ≤ B) (hc : B ≤ r ∨ t * v[v.length - 2]'(by have := h.two; omega) ≤ r * B + w[v.length - 2]'(by have := h.len; omega)) : t * val B v ≤ val B w + val B v := by
  obtain ⟨P, ru, rv, h1, h2, h3, h4⟩ := h.parts
  have hv2 := h.dv.get (v.length - 2) (by have := h.two; omega)
  have hv1 := h.tv.last (by have := h.two; omega)
  have hgt := hg.top
  refine guess_low h3 h4 h2 (by omega) (by omega) ht ?_
  rcases hc with hc | hc
  · have e1 : t * v[v.length - 2]'(by have := h.two; omega) ≤ B * B := Nat.mul_le_mul ht (by omega)
    have e2 : B * B ≤ r * B := Nat.mul_le_mul_right _ hc
    omega
  · exact hc
structure SmI (B : Nat) (w0 v w : List Nat) (t c i : Nat) : Prop where
  len : w.length = w0.length
  dg : Dg B w
  rest : w.drop i = w0.drop i
  eq : val B (w.take i) + t * val B (v.take i) = val B (w0.take i) + B ^ i * c
theorem SmI.start {B : Nat} {w0 v : List Nat} {t : Nat} (h : Dg B w0) : SmI B w0 v w0 t 0 0 := ⟨rfl, h, rfl, by simp [val]⟩
theorem SmI.step {B : Nat} {w0 v w : List Nat} {t c i : Nat} (h : SmI B w0 v w t c i) (hi : i < v.length) (hw : i < w.length) {y c' : Nat} (hy : y < B) (e : y + t * v[i] + c = w[i] + B * c') : SmI B w0 v (w.set i y) t c' (i + 1) := by
  have hw0 : i < w0.length := by rw [← h.len]; exact hw
  have hr := h.rest
  rw [List.drop_eq_getElem_cons hw, List.drop_eq_getElem_cons hw0] at hr
  injection hr with hr1 hr2
  refine ⟨by simp [h.len], h.dg.set _ hy, by rw [List.drop_set_of_lt (by omega)]; exact hr2, ?_⟩
  rw [val_take_succ B (w.set i y) i (by simpa using hw), List.take_set_of_le (Nat.le_refl _), List.getElem_set_self, val_take_succ B v i hi, val_take_succ B w0 i hw0, ← hr1, Nat.mul_add, Nat.pow_succ]
  have e1 := h.eq
  have e2 : B ^ i * (y + t * v[i] + c) = B ^ i * (w[i] + B * c') := by rw [e]
  rw [Nat.mul_add, Nat.mul_add, Nat.mul_add] at e2
  have e3 : t * (B ^ i * v[i]) = B ^ i * (t * v[i]) := Nat.mul_left_comm _ _ _
  rw [e3, Nat.mul_assoc]
  omega
theorem SmI.done {B : Nat} {w0 v w : List Nat} {t c : Nat} (hw : Win B w0 v) (h : SmI B w0 v w t c v.length) (h1 : val B w0 < (t + 1) * val B v) (h2 : t * val B v ≤ val B w0 + val B v) :
    (t * val B v ≤ val B w0 ∧ c = w0[v.length]'hw.len ∧ val B (w.take v.length) + t * val B v = val B w0) ∨
    (val B w0 < t * val B v ∧ c = w0[v.length]'hw.len + 1 ∧ val B (w.take v.length) + t * val B v = val B w0 + B ^ v.length) := by
  have e1 := hw.val_w
  have e2 := h.eq
  rw [List.take_of_length_le (Nat.le_refl _)] at e2
  have e3 := val_lt (h.dg.take v.length)
  rw [List.length_take, Nat.min_eq_left (by rw [h.len]; have := hw.len; omega)] at e3
  have e4 := val_lt hw.dv
  rw [Nat.succ_mul] at h1
  generalize w0[v.length]'hw.len = x at *
  generalize B ^ v.length = P at *
  generalize val B (w.take v.length) = a at *
  generalize val B (w0.take v.length) = b at *
  generalize t * val B v = T at *
  by_cases hT : T ≤ val B w0
  · left
    have h3 : P * c < P * (x + 1) := by rw [Nat.mul_add]; omega
    have h4 := Nat.lt_of_mul_lt_mul_left h3
    have h5 : P * x < P * (c + 1) := by rw [Nat.mul_add]; omega
    have h6 := Nat.lt_of_mul_lt_mul_left h5
    obtain rfl : c = x := by omega
    exact ⟨hT, rfl, by omega⟩
  · right
    have h3 : P * x < P * c := by omega
    have h4 := Nat.lt_of_mul_lt_mul_left h3
    have h5 : P * c < P * (x + 2) := by rw [Nat.mul_add]; omega
    have h6 := Nat.lt_of_mul_lt_mul_left h5
    obtain rfl : c = x + 1 := by omega
    rw [Nat.mul_add] at e2
    exact ⟨by omega, rfl, by omega⟩
structure AbI (B : Nat) (w v w' : List Nat) (c i : Nat) : Prop where
  len : w'.length = w.length
  dg : Dg B w'
  rest : w'.drop i = w.drop i
  carry : c ≤ 1
  eq : val B (w'.take i) + B ^ i * c = val B (w.take i) + val B (v.take i)
theorem AbI.start {B : Nat} {w v : List Nat} (h : Dg B w) : AbI B w v w 0 0 := ⟨rfl, h, rfl, by omega, by simp [val]⟩
theorem AbI.step {B : Nat} {w v w' : List Nat} {c i : Nat} (hv : Dg B v) (h : AbI B w v w' c i) (hi : i < v.length) (hw : i < w'.length) {s : Nat} (hs : s = w'[i] + v[i] + c) : AbI B w v (w'.set i (s % B)) (s / B) (i + 1) := by
  have hw0 : i < w.length := by rw [← h.len]; exact hw
  have hr := h.rest
  have h1 := hv.get i hi
  have h2 := h.dg.get i hw
  have h3 := h.carry
  rw [List.drop_eq_getElem_cons hw, List.drop_eq_getElem_cons hw0] at hr
  injection hr with hr1 hr2
  refine ⟨by simp [h.len], h.dg.set _ (Nat.mod_lt _ (by omega)), by rw [List.drop_set_of_lt (by omega)]; exact hr2, ?_, ?_⟩
  · have : s < B * 2 := by omega
    have := Nat.div_lt_of_lt_mul this
    omega
  · rw [val_take_succ B (w'.set i (s % B)) i (by simpa using hw), List.take_set_of_le (Nat.le_refl _), List.getElem_set_self, val_take_succ B v i hi, val_take_succ B w i hw0, ← hr1, Nat.pow_succ, Nat.mul_assoc, Nat.add_assoc, ← Nat.mul_add, Nat.mod_add_div, hs, Nat.mul_add, Nat.mul_add]
    have := h.eq
    omega
theorem AbI.done {B : Nat} {w0 v w w' : List Nat} {t c : Nat} (hw : Win B w0 v) (hl : w.length = w0.length) (ht : 0 < t) (hlt : val B w0 < t * val B v) (hge : t * val B v ≤ val B w0 + val B v) (hval : val B (w.take v.length) + t * val B v = val B w0 + B ^ v.length) (h : AbI B w v w' c v.length) :
    c = 1 ∧ val B (w'.take v.length) + (t - 1) * val B v = val B w0 := by
  have e2 := h.eq
  rw [List.take_of_length_le (Nat.le_refl _)] at e2
  have e3 := val_lt (h.dg.take v.length)
  rw [List.length_take, Nat.min_eq_left (by rw [h.len, hl]; have := hw.len; omega)] at e3
  have e4 := val_lt hw.dv
  obtain ⟨t', rfl⟩ : ∃ t', t = t' + 1 := ⟨t - 1, by omega⟩
  rw [Nat.succ_mul] at hlt hge hval
  rw [Nat.add_sub_cancel]
  have := h.carry
  rcases (show c = 0 ∨ c = 1 by omega) with rfl | rfl
  · omega
  · exact ⟨rfl, by omega⟩
structure LdI (B A V : Nat) (u q : List Nat) (n j : Nat) : Prop where
  lu : u.length = n + q.length
  du : Dg B u
  dq : Dg B (q.drop j)
  lt : val B u < V * B ^ j
  eq : A = val B (q.drop j) * B ^ j * V + val B u
theorem LdI.start {B A V n : Nat} {u q : List Nat} (hl : u.length = n + q.length) (hd : Dg B u) (ha : val B u = A) (hlt : A < V * B ^ q.length) : LdI B A V u q n q.length := by
  refine ⟨hl, hd, by rw [List.drop_length]; exact Dg.nil B, by rw [ha]; exact hlt, by rw [List.drop_length]; simp [val, ha]⟩
theorem LdI.step {B A : Nat} {v u u' q : List Nat} {k t : Nat} (hv : Dg B v) (hv0 : 0 < val B v) (hk : k < q.length) (h : LdI B A (val B v) u q v.length (k + 1)) (hl : u'.length = u.length) (hd : Dg B u') (ht : u'.take k = u.take k)
    (hz : ∀ x ∈ (u'.drop k).drop v.length, x = 0) (hval : val B ((u'.drop k).take v.length) + t * val B v = val B (u.drop k)) (hlt : val B (u.drop k) < (t + 1) * val B v) (htB : t < B) : LdI B A (val B v) u' (q.set k t) v.length k := by
  have hB : 0 < B := by omega
  have hP : 0 < B ^ k := Nat.pow_pos hB
  have hlu := h.lu
  have hs := val_split B u k (by omega)
  have hs' := val_split B u' k (by omega)
  have e0 := val_take_zeros (B := B) (l := u'.drop k) (n := v.length) (by rw [List.length_drop]; omega) hz
  have hdr : (q.set k t).drop k = t :: q.drop (k + 1) := by
    rw [List.drop_eq_getElem_cons (by simpa using hk), List.getElem_set_self, List.drop_set_of_lt (by omega)]
  have e2 := val_lt (hd.take k)
  rw [List.length_take, Nat.min_eq_left (by omega)] at e2
  refine ⟨by simp [hl, hlu], hd, ?_, ?_, ?_⟩
  · rw [hdr]
    intro x hx
    rcases List.mem_cons.1 hx with rfl | hx
    · exact htB
    · exact h.dq x hx
  · rw [Nat.succ_mul] at hlt
    have e1 : val B (u'.drop k) + 1 ≤ val B v := by omega
    have e3 : B ^ k * (val B (u'.drop k) + 1) ≤ B ^ k * val B v := Nat.mul_le_mul_left _ e1
    rw [Nat.mul_add] at e3
    rw [Nat.mul_comm (val B v)]
    omega
  · rw [h.eq, hdr, hs, hs', ht, ← hval, e0, Nat.pow_succ]
    show _ = (t + B * val B (q.drop (k + 1))) * B ^ k * val B v + _
    grind
theorem LdI.done {B A : Nat} {v u q : List Nat} (hv0 : 0 < val B v) (h : LdI B A (val B v) u q v.length 0) : val B q = A / val B v ∧ val B u = A % val B v ∧ Dg B q := by
  have e := h.eq
  have hr := h.lt
  have hd := h.dq
  simp only [List.drop_zero, Nat.pow_zero, Nat.mul_one] at e hr hd
  have e2 : A = val B v * val B q + val B u := by rw [e, Nat.mul_comm]
  refine ⟨?_, ?_, hd⟩
  · rw [e2, Nat.mul_add_div hv0, Nat.div_eq_of_lt hr]; omega
  · rw [e2, Nat.mul_add_mod, Nat.mod_eq_of_lt hr]
end Go.Proofs.YtflchbejjofppaaGreatDoor
/- Plain: shifts of lists of digits, a quotient of two digits by two. -/
namespace Go.Proofs.YtflchbejjofppaaGreatDoor
structure ShI (B S : Nat) (x d : List Nat) (c i : Nat) : Prop where
  len : d.length = i
  dg : Dg B d
  carry : c < S
  eq : val B d + B ^ i * c = S * val B (x.take i)
theorem ShI.start {B S : Nat} (hS : 0 < S) (x : List Nat) : ShI B S x [] 0 0 := ⟨rfl, Dg.nil B, hS, by simp [val]⟩
theorem ShI.step {B S K : Nat} {x d : List Nat} {c i : Nat} (hK : B = S * K) (hx : Dg B x) (h : ShI B S x d c i) (hi : i < x.length) : c + x[i] * S % B < B ∧ x[i] / K < S ∧ ShI B S x (d ++ [c + x[i] * S % B]) (x[i] / K) (i + 1) := by
  have h1 := hx.get i hi
  have h2 := h.carry
  have hS : 0 < S := by omega
  have hK0 : 0 < K := by
    rcases Nat.eq_zero_or_pos K with h0 | h0
    · rw [h0] at hK; omega
    · exact h0
  have e1 : x[i] * S % B = S * (x[i] % K) := by rw [hK, Nat.mul_comm x[i] S, Nat.mul_mod_mul_left]
  have e2 : x[i] % K < K := Nat.mod_lt _ hK0
  have e3 : S * (x[i] % K + 1) ≤ S * K := Nat.mul_le_mul_left _ e2
  rw [Nat.mul_add] at e3
  have e4 : x[i] / K < S := Nat.div_lt_of_lt_mul (by rw [Nat.mul_comm, ← hK]; exact h1)
  have e5 : c + x[i] * S % B < B := by rw [e1]; omega
  refine ⟨e5, e4, by simp [h.len], h.dg.app (Dg.one e5), e4, ?_⟩
  have h3 := h.eq
  have e6 : S * x[i] = S * (x[i] % K) + B * (x[i] / K) := by
    rw [hK, Nat.mul_assoc, ← Nat.mul_add]
    congr 1
    have := Nat.div_add_mod x[i] K
    omega
  rw [val_app, val_one, h.len, val_take_succ B x i hi, e1, Nat.pow_succ, Nat.mul_add S, Nat.mul_left_comm S, e6]
  rw [Nat.mul_add, Nat.mul_add, Nat.mul_assoc]
  omega
structure UsI (B S : Nat) (u d : List Nat) (i : Nat) : Prop where
  len : d.length = i
  dg : Dg B d
  eq : val B d + B ^ i * (val B (u.drop i) / S) = val B u / S
theorem UsI.start (B S : Nat) (u : List Nat) : UsI B S u [] 0 := ⟨rfl, Dg.nil B, by simp [val]⟩
theorem UsI.step {B S K : Nat} {u d : List Nat} {i : Nat} (hS : 0 < S) (hK : B = S * K) (hu : Dg B u) (h : UsI B S u d i) (hi : i < u.length) : u[i] / S + dig u (i + 1) % S * K < B ∧ UsI B S u (d ++ [u[i] / S + dig u (i + 1) % S * K]) (i + 1) := by
  have h1 := hu.get i hi
  have e1 : u[i] / S < K := Nat.div_lt_of_lt_mul (by rw [← hK]; exact h1)
  have e2 : (dig u (i + 1) % S + 1) * K ≤ S * K := Nat.mul_le_mul_right _ (Nat.mod_lt _ hS)
  rw [Nat.add_mul] at e2
  have e5 : u[i] / S + dig u (i + 1) % S * K < B := by omega
  refine ⟨e5, by simp [h.len], h.dg.app (Dg.one e5), ?_⟩
  have hV : val B (u.drop (i + 1)) % S = dig u (i + 1) % S := by
    by_cases hl : i + 1 < u.length
    · rw [val_drop B u _ hl, dig_lt_len hl, hK, Nat.mul_assoc, Nat.add_mul_mod_self_left]
    · rw [dig_ge (by omega), List.drop_of_length_le (by omega)]; rfl
  have e3 : val B (u.drop i) / S = u[i] / S + K * val B (u.drop (i + 1)) := by
    rw [val_drop B u i hi, hK, Nat.mul_assoc, Nat.add_mul_div_left _ _ hS]
  have e4 : K * val B (u.drop (i + 1)) = B * (val B (u.drop (i + 1)) / S) + dig u (i + 1) % S * K := by
    have := Nat.div_add_mod (val B (u.drop (i + 1))) S
    rw [hV] at this
    generalize val B (u.drop (i + 1)) = V at *
    have e7 : B * (V / S) = K * (S * (V / S)) := by rw [hK, ← Nat.mul_assoc, Nat.mul_comm K S]
    rw [e7, Nat.mul_comm _ K, ← Nat.mul_add, this]
  have h2 := h.eq
  rw [e3, e4] at h2
  rw [val_app, val_one, h.len, Nat.pow_succ]
  rw [Nat.mul_add, Nat.mul_add] at h2
  rw [Nat.mul_add, Nat.mul_assoc]
  omega
theorem div2_done {B T u2 v1 v2 t r : Nat} (top : t * v1 + r = T) (ge : T * B + u2 < (t + 1) * (v1 * B + v2)) (hv2 : v2 < B) (he : (B ≤ r ∧ t ≤ B) ∨ t * v2 ≤ r * B + u2) : t = (T * B + u2) / (v1 * B + v2) ∧ t * (v1 * B + v2) ≤ T * B + u2 := by
  have e1 : t * (v1 * B + v2) ≤ T * B + u2 := by
    have e2 : t * (v1 * B + v2) = (t * v1) * B + t * v2 := by rw [Nat.mul_add, Nat.mul_assoc]
    have e3 : T * B = (t * v1) * B + r * B := by rw [← top, Nat.add_mul]
    have e4 : t * v2 ≤ r * B + u2 := by
      rcases he with ⟨h1, h2⟩ | h1
      · have e5 : t * v2 ≤ B * B := Nat.mul_le_mul h2 (by omega)
        have e6 : B * B ≤ r * B := Nat.mul_le_mul_right _ h1
        omega
      · exact h1
    omega
  refine ⟨?_, e1⟩
  have hp : 0 < v1 * B + v2 := by
    rcases Nat.eq_zero_or_pos (v1 * B + v2) with h0 | h0
    · rw [h0] at ge; omega
    · exact h0
  exact (Nat.div_eq_of_lt_le e1 ge).symm
theorem div2_step {B T u2 v1 v2 t r : Nat} (top : t * v1 + r = T) (hlt : T * B + u2 < B * (v1 * B + v2)) (hc : B ≤ t ∨ r * B + u2 < t * v2) : 0 < t ∧ (t - 1) * v1 + (r + v1) = T ∧ T * B + u2 < (t - 1 + 1) * (v1 * B + v2) := by
  have ht : 0 < t := by
    rcases hc with hc | hc
    · rcases Nat.eq_zero_or_pos B with h0 | h0
      · rw [h0] at hlt; omega
      · omega
    · rcases Nat.eq_zero_or_pos t with rfl | h0
      · omega
      · exact h0
  refine ⟨ht, ?_, ?_⟩
  · obtain ⟨t', rfl⟩ : ∃ t', t = t' + 1 := ⟨t - 1, by omega⟩
    rw [Nat.add_sub_cancel]; rw [Nat.succ_mul] at top; omega
  · rw [show t - 1 + 1 = t by omega]
    rcases hc with hc | hc
    · exact Nat.lt_of_lt_of_le hlt (Nat.mul_le_mul_right _ hc)
    · have e2 : t * (v1 * B + v2) = (t * v1) * B + t * v2 := by rw [Nat.mul_add, Nat.mul_assoc]
      have e3 : T * B = (t * v1) * B + r * B := by rw [← top, Nat.add_mul]
      omega
end Go.Proofs.YtflchbejjofppaaGreatDoor
/- How numbers lie in memory: slices of digits, with their room. -/
namespace Go.Proofs.YtflchbejjofppaaGreatDoor.Nu
open Go Go.Proofs Go.RowKit Go.Proofs.YtflchbejjofppaaGreatDoor
def encW (n : Nat) : List Value := [.int .u64 (n : Int)]
theorem encW_len (n : Nat) : (encW n).length = 1 := rfl
theorem encW_one (x : Nat) : ∀ u ∈ encW x, u.oneCell' = true := by intro u hu; simp [encW] at hu; subst hu; rfl
def encD (n : Nat) : List Value := [.int .i64 (n : Int)]
theorem encD_len (n : Nat) : (encD n).length = 1 := rfl
theorem encD_one (x : Nat) : ∀ u ∈ encD x, u.oneCell' = true := by intro u hu; simp [encD] at hu; subst hu; rfl
def encS (s : ByteArray) : List Value := [.string s]
theorem encS_len (s : ByteArray) : (encS s).length = 1 := rfl
def Sc {α : Type} (f : α → List Value) (sz : Nat) (w : World) (B : Nat) (v : Value) (l : List α) : Prop :=
  ∃ a c, v = .slice a l.length c ∧ l.length ≤ 1000000000 ∧ l.length ≤ c ∧ (0 < l.length → ∃ b off, a = some ⟨b, off, none⟩ ∧ b < B ∧
    ∀ i (h : i < l.length), At w b (off + i * sz) (f l[i]))
section
variable {α : Type} {f : α → List Value} {sz : Nat} {w w' : World} {B B' : Nat} {v : Value} {l : List α}
theorem Sc.below (h : Sc f sz w B v l) (hb : Below B w w') : Sc f sz w' B v l := by
  obtain ⟨a, c, rfl, h1, h2, h⟩ := h
  refine ⟨a, c, rfl, h1, h2, fun h0 => ?_⟩
  obtain ⟨b, off, rfl, hB, hc⟩ := h h0
  exact ⟨b, off, rfl, hB, fun i hi => (hc i hi).below hb hB⟩
theorem Sc.mono (h : Sc f sz w B v l) (hB' : B ≤ B') : Sc f sz w B' v l := by
  obtain ⟨a, c, rfl, h1, h2, h⟩ := h
  refine ⟨a, c, rfl, h1, h2, fun h0 => ?_⟩
  obtain ⟨b, off, rfl, hB, hc⟩ := h h0
  exact ⟨b, off, rfl, by omega, hc⟩
theorem Sc.later (h : Sc f sz w w.heap.size v l) (hb : Below w.heap.size w w') : Sc f sz w' w'.heap.size v l := (h.below hb).mono hb.size
theorem Sc.nil (f : α → List Value) (sz : Nat) (w : World) (B c : Nat) (a : Option Addr) : Sc f sz w B (.slice a 0 c) [] := ⟨a, c, rfl, by simp, Nat.zero_le _, fun h => absurd h (by simp)⟩
theorem Sc.of_own {base : Nat} {e : TypeId} (hf : ∀ x, (f x).length = sz) (hlen : l.length ≤ 1000000000) (h : Own f sz e w base v l) : Sc f sz w w.heap.size v l := by
  rcases h.2 with ⟨rfl, h0⟩ | ⟨g, cap, cur, rfl, _, hg, hcap, _⟩
  · obtain rfl : l = [] := List.eq_nil_of_length_eq_zero h0
    exact Sc.nil f sz w _ 0 none
  · refine ⟨_, cap, rfl, hlen, hcap, fun _ => ⟨g, 0, rfl, (Array.getElem?_eq_some_iff.1 hg).1, fun i hi j u hu => ?_⟩⟩
    have hj : j < sz := by have := (List.getElem?_eq_some_iff.1 hu).1; rwa [hf] at this
    rw [show 0 + i * sz + j = i * sz + j by omega, World.ownsRow.cellAt h (i * sz + j) (by have : (i + 1) * sz ≤ l.length * sz := Nat.mul_le_mul_right _ hi; rw [Nat.succ_mul] at this; omega), flat_get f sz hf l i hi j hj]
    exact hu
theorem Sc.take {a : Option Addr} {n c : Nat} (h : Sc f sz w B (.slice a n c) l) (k : Nat) (hk : k ≤ l.length) : Sc f sz w B (.slice a k c) (l.take k) := by
  obtain ⟨a', c', e, h1, h2, hA⟩ := h
  injection e with e1 e2 e3
  subst e1 e3
  have hl : (l.take k).length = k := by simp; omega
  refine ⟨a, c, by rw [hl], by rw [hl]; omega, by rw [hl]; omega, fun h0 => ?_⟩
  obtain ⟨b, off, e, hb, hc⟩ := hA (by omega)
  refine ⟨b, off, e, hb, fun i hi => ?_⟩
  rw [List.getElem_take]
  exact hc i (by rw [hl] at hi; omega)
theorem Sc.drop {b off n c : Nat} (h : Sc f sz w B (.slice (some ⟨b, off, none⟩) n c) l) (k : Nat) (hk : k ≤ l.length) (h0 : 0 < l.length) : Sc f sz w B (.slice (some ⟨b, off + k * sz, none⟩) (n - k) (c - k)) (l.drop k) := by
  obtain ⟨a', c', e, h1, h2, hA⟩ := h
  injection e with e1 e2 e3
  subst e1 e2 e3
  obtain ⟨b', off', e, hb, hc⟩ := hA h0
  cases e
  refine ⟨_, _, by rw [List.length_drop], by rw [List.length_drop]; omega, by rw [List.length_drop]; omega, fun _ => ⟨b, off + k * sz, rfl, hb, fun i hi => ?_⟩⟩
  rw [List.length_drop] at hi
  rw [List.getElem_drop, show off + k * sz + i * sz = off + (k + i) * sz by rw [Nat.add_mul]; omega]
  exact hc (k + i) (by omega)
theorem Sc.shape (h : Sc f sz w B v l) : ∃ a c, v = .slice a l.length c ∧ l.length ≤ 1000000000 ∧ l.length ≤ c := by
  obtain ⟨a, c, h1, h2, h3, _⟩ := h
  exact ⟨a, c, h1, h2, h3⟩
theorem Sc.at {b off n c : Nat} (h : Sc f sz w B (.slice (some ⟨b, off, none⟩) n c) l) (i : Nat) (hi : i < l.length) : At w b (off + i * sz) (f l[i]) := by
  obtain ⟨a', c', e, h1, h2, hA⟩ := h
  injection e with e1 e2 e3
  subst e1
  obtain ⟨b', off', e, hb, hc⟩ := hA (by omega)
  cases e
  exact hc i hi
theorem Sc.blk {b off n c : Nat} (h : Sc f sz w B (.slice (some ⟨b, off, none⟩) n c) l) (h0 : 0 < l.length) : b < B := by
  obtain ⟨a', c', e, h1, h2, hA⟩ := h
  injection e with e1 e2 e3
  subst e1
  obtain ⟨b', off', e, hb, hc⟩ := hA h0
  cases e
  exact hb
theorem Own.atN {e : TypeId} {base g n cap : Nat} (h : Own f sz e w base (.slice (some ⟨g, 0, none⟩) n cap) l) (hn : l.length = n) (hf : ∀ x, (f x).length = sz) (i : Nat) (hi : i < l.length) : At w g (i * sz) (f l[i]) := by subst hn; exact h.at hf i hi
end
def IntR (w : World) (v : Value) (z : Int) : Prop :=
  (v = .agg #[.int .i64 z, .slice none 0 0] ∧ -9223372036854775808 ≤ z ∧ z ≤ 9223372036854775807) ∨
  (∃ (s : Int) (b off n c : Nat) (l : List Nat), v = .agg #[.int .i64 s, .slice (some ⟨b, off, none⟩) n c] ∧ Sc encW 1 w w.heap.size (.slice (some ⟨b, off, none⟩) n c) l ∧ n = l.length ∧ 0 < n ∧ Dg (2 ^ 64) l ∧ Tr l ∧ 9223372036854775807 < val (2 ^ 64) l ∧
    ((s = 1 ∧ z = (val (2 ^ 64) l : Int)) ∨ (s = -1 ∧ z = -(val (2 ^ 64) l : Int))))
theorem IntR.later {w w' : World} {v : Value} {z : Int} (h : IntR w v z) (hb : Below w.heap.size w w') : IntR w' v z := by
  rcases h with h | ⟨s, b, off, n, c, l, h1, h2, h3⟩
  · exact .inl h
  · exact .inr ⟨s, b, off, n, c, l, h1, h2.later hb, h3⟩
theorem IntR.small (w : World) {z : Int} (h1 : -9223372036854775808 ≤ z) (h2 : z ≤ 9223372036854775807) : IntR w (.agg #[.int .i64 z, .slice none 0 0]) z := .inl ⟨rfl, h1, h2⟩
structure Wds (k : Nat) (z : Int) : Prop where
  lt : z.natAbs < 2 ^ (64 * k)
theorem Wds.mono {k m : Nat} {z : Int} (h : Wds k z) (hkm : k ≤ m) : Wds m z := ⟨Nat.lt_of_lt_of_le h.lt (Nat.pow_le_pow_right (by decide) (by omega))⟩
theorem Wds.neg {k : Nat} {z : Int} (h : Wds k z) : Wds k (-z) := ⟨by rw [Int.natAbs_neg]; exact h.lt⟩
theorem Wds.abs {k : Nat} {z : Int} (h : Wds k z) : Wds k (z.natAbs : Int) := ⟨by rw [Int.natAbs_natCast]; exact h.lt⟩
theorem Wds.small {z : Int} (h1 : -9223372036854775808 ≤ z) (h2 : z ≤ 9223372036854775807) : Wds 1 z := ⟨by omega⟩
theorem Wds.add {i j k : Nat} {a b : Int} (ha : Wds i a) (hb : Wds j b) (h1 : i < k) (h2 : j < k) : Wds k (a + b) := by
  obtain ⟨m, rfl⟩ : ∃ m, k = m + 1 := ⟨k - 1, by omega⟩
  have h1 := (ha.mono (show i ≤ m by omega)).lt
  have h2 := (hb.mono (show j ≤ m by omega)).lt
  refine ⟨?_⟩
  have e : 2 ^ (64 * (m + 1)) = 2 ^ (64 * m) * 2 ^ 64 := by rw [← Nat.pow_add, Nat.mul_add]
  have : (a + b).natAbs ≤ a.natAbs + b.natAbs := Int.natAbs_add_le a b
  have : 2 ^ (64 * m) * 2 ≤ 2 ^ (64 * m) * 2 ^ 64 := Nat.mul_le_mul_left _ (by decide)
  omega
theorem Wds.le {k : Nat} {a b : Int} (h : Wds k b) (hab : a.natAbs ≤ b.natAbs) : Wds k a := ⟨Nat.lt_of_le_of_lt hab h.lt⟩
theorem Wds.len {k : Nat} {l : List Nat} (h : Wds k (val (2 ^ 64) l : Int)) (ht : Tr l) : l.length ≤ k := by
  refine len_le (B := 2 ^ 64) (by decide) ht (n := k) ?_
  have h1 := h.lt
  rw [Int.natAbs_natCast] at h1
  rw [← Nat.pow_mul]
  exact h1
end Go.Proofs.YtflchbejjofppaaGreatDoor.Nu
/- Walks: num.size, num.Of, (num.Int).Small, (num.Int).Sign. -/
namespace Go.Proofs.YtflchbejjofppaaGreatDoor.Nu
open Go Go.Proofs Go.RowKit Go.Proofs.YtflchbejjofppaaGreatDoor
set_option maxRecDepth 100000 in
set_option maxHeartbeats 1000000 in
theorem size104 (n : Int) (h1 : -9223372036854775808 ≤ n) (h2 : n ≤ 9223372036854775807) (w : World) : Calls Tryz.prog 104 #[.int .i64 n] w fun e w' => e = .returned (.int .u64 (n.natAbs : Int)) ∧ w = w' := by
  by_cases h0 : n < 0
  · have d0 : decide (n < 0) = true := decide_eq_true h0
    have hv : IntKind.u64.wrap (IntKind.i64.wrap (-n)) = (n.natAbs : Int) := by
      rcases (show n = -9223372036854775808 ∨ -9223372036854775808 < n by omega) with rfl | h3
      · rfl
      · rw [IntWalk.i64_in _ (by omega), IntWalk.u64_in _ (by omega)]; omega
    generalize (n.natAbs : Int) = N at *
    obtain ⟨m, hm⟩ : ∃ m, IntKind.i64.wrap (-n) = m := ⟨_, rfl⟩
    rw [hm] at hv
    clear h0 h1 h2
    go_enter Tryz.func104, Tryz.ntmps104
    go_wp2_with fail
    go_ret
    exact ⟨rfl, rfl⟩
  · have d0 : decide (n < 0) = false := decide_eq_false h0
    have hv : IntKind.u64.wrap n = (n.natAbs : Int) := by rw [IntWalk.u64_in _ (by omega)]; omega
    generalize (n.natAbs : Int) = N at *
    clear h0 h1 h2
    go_enter Tryz.func104, Tryz.ntmps104
    go_wp2_with fail
    go_ret
    exact ⟨rfl, rfl⟩
set_option maxRecDepth 100000 in
set_option maxHeartbeats 1000000 in
theorem of94 (n : Int) (w : World) : Calls Tryz.prog 94 #[.int .i64 n] w (Ret (.agg #[.int .i64 n, .slice none 0 0]) w) := by
  have HB := Lib.hid ((Below.refl w.heap.size w).alloc (Nat.le_refl _) (.cells #[.int .i64 n, .slice none 0 0] 81))
  go_enter Tryz.func94, Tryz.ntmps94
  go_wp2_with fail
  refine bodyPost_ret (v := .agg #[.int .i64 n, .slice none 0 0]) (by simp [results, Tryz.results94, go_sem, *]) rfl ?_
  exact ⟨rfl, HB.out⟩
end Go.Proofs.YtflchbejjofppaaGreatDoor.Nu
