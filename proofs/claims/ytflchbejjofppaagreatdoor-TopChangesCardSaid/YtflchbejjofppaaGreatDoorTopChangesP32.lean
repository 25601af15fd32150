/- Lemmas on the way to the law TopChanges (part 32): Ru -/
import Derived.Test.YtflchbejjofppaaGreatDoorTopChangesP01
import Derived.Test.YtflchbejjofppaaGreatDoorTopChangesP31
set_option linter.unusedVariables false
set_option linter.unusedSimpArgs false

/- One store of a made variable among the head operations of a drawn region. -/
namespace Go.Proofs.YtflchbejjofppaaGreatDoor
open Go Go.Proofs Go.RowKit
structure StJ (W : World) (c : List Value) (ty : TypeId) (zs nv : List Value) (ia is : Nat) (D : Nat → Bool) (vs : Nat → Value) (u : World) : Prop where
  later : Below W.heap.size W u
  val : ∀ j v, c[j]? = some v → D j = true → vs j = v
  ord : D is = true → D ia = true
  box : D ia = true → ∃ h, vs ia = .pointer (some ⟨h, 0, none⟩) ∧ W.heap.size ≤ h ∧ Box u h ty (if D is then nv else zs)
section
variable {W u u' : World} {c : List Value} {ty : TypeId} {zs nv : List Value} {ia is : Nat} {D : Nat → Bool} {vs : Nat → Value}
theorem StJ.start (h0 : D = fun _ => false) : StJ W c ty zs nv ia is D vs W.drew := by
  subst h0
  exact ⟨⟨rfl, rfl, rfl, Nat.le_refl _, fun _ _ => rfl⟩, (fun j v _ h => by cases h), (fun h => by cases h), (fun h => by cases h)⟩
theorem StJ.vals (h : ∀ j v, c[j]? = some v → D j = true → vs j = v) (i : Nat) {v : Value} (hk : ∀ v', c[i]? = some v' → v = v') : ∀ j v', c[j]? = some v' → setF D i true j = true → setF vs i v j = v' := fun j v' hj hd => by
  by_cases hji : j = i
  · subst hji; rw [setF_same]; exact hk v' hj
  · rw [setF_ne _ _ hji] at hd ⊢; exact h j v' hj hd
theorem StJ.quiet (h : StJ W c ty zs nv ia is D vs u) (i : Nat) (h1 : i ≠ ia) (h2 : i ≠ is) {v : Value} (hk : ∀ v', c[i]? = some v' → v = v') (hb : Below u.heap.size u u') : StJ W c ty zs nv ia is (setF D i true) (setF vs i v) u' := by
  refine ⟨h.later.trans (hb.mono h.later.size), StJ.vals h.val i hk, ?_, fun hd => ?_⟩
  · rw [setF_ne _ _ (Ne.symm h1), setF_ne _ _ (Ne.symm h2)]; exact h.ord
  rw [setF_ne _ _ (Ne.symm h1)] at hd
  obtain ⟨g, e, hl, hx⟩ := h.box hd
  rw [setF_ne _ _ (Ne.symm h1), setF_ne _ _ (Ne.symm h2)]
  exact ⟨g, e, hl, hx.later hb⟩
theorem StJ.new (h : StJ W c ty zs nv ia is D vs u) (hne : is ≠ ia) (hc : c[ia]? = none) (hDa : D ia = false) : StJ W c ty zs nv ia is (setF D ia true) (setF vs ia (.pointer (some ⟨u.heap.size, 0, none⟩))) (u.alloc (.cells zs.toArray ty)) := by
  have hD : D is = false := by
    cases h1 : D is with
    | false => rfl
    | true => rw [h.ord h1] at hDa; cases hDa
  refine ⟨h.later.trans (((Below.refl _ _).alloc (Nat.le_refl _) _).mono h.later.size), StJ.vals h.val ia (fun v' h' => by rw [hc] at h'; cases h'), (fun _ => setF_same _ _ _), fun _ => ?_⟩
  rw [setF_same, setF_ne _ _ hne, hD]
  refine ⟨_, rfl, h.later.size, ?_⟩
  have := Box.new u zs.toArray ty
  simpa using this
theorem StJ.put (h : StJ W c ty zs nv ia is D vs u) (hne : is ≠ ia) (hc : c[is]? = none) (hd : D ia = true) {g : Nat} (hg : vs ia = .pointer (some ⟨g, 0, none⟩)) (hb : Below W.heap.size u u') (hl : W.heap.size ≤ g) (hx : Box u' g ty nv) {v : Value} : StJ W c ty zs nv ia is (setF D is true) (setF vs is v) u' := by
  refine ⟨h.later.trans hb, StJ.vals h.val is (fun v' h' => by rw [hc] at h'; cases h'), (fun _ => by rw [setF_ne _ _ (Ne.symm hne)]; exact hd), fun _ => ?_⟩
  rw [setF_same, setF_ne _ _ (Ne.symm hne)]
  exact ⟨g, hg, hl, hx⟩
end
end Go.Proofs.YtflchbejjofppaaGreatDoor
