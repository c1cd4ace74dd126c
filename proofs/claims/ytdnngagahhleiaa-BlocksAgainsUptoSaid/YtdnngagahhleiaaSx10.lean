/- A small calculus of triples. Part 10: a family of rows. -/
import Derived.Test.YtdnngagahhleiaaSx9
namespace Go.Sx
open Go.RowKit
set_option linter.unusedVariables false
set_option linter.unusedSimpArgs false
/-- m rows, told by number. -/
def fam (m : Nat) (f : Nat → It) : List It := (List.range m).map f
theorem fam_get {m i : Nat} {f : Nat → It} (h : i < m) : (fam m f)[i]? = some (f i) := by simp [fam, h]
def upd {α : Type} (f : Nat → α) (i : Nat) (x : α) : Nat → α := fun j => if j = i then x else f j
theorem upd_same {α : Type} (f : Nat → α) (i : Nat) (x : α) : upd f i x i = x := by simp [upd]
theorem upd_other {α : Type} (f : Nat → α) {i j : Nat} (x : α) (h : j ≠ i) : upd f i x j = f j := by simp [upd, h]
theorem fam_set {m i : Nat} {f : Nat → It} (x : It) : (fam m f).set i x = fam m (upd f i x) := by
  apply List.ext_getElem?
  intro j
  simp only [fam, List.getElem?_set, List.getElem?_map, List.length_map, List.length_range]
  by_cases hij : i = j
  · subst hij
    by_cases hm : i < m
    · simp [hm, upd]
    · simp [hm]
  · simp only [hij, if_false]
    by_cases hm : j < m
    · simp [hm, upd, Ne.symm hij]
    · simp [hm]
theorem fam_ext {m : Nat} {f g : Nat → It} (h : ∀ i, i < m → f i = g i) : fam m f = fam m g := by
  simp only [fam]
  exact List.map_congr_left fun i hi => h i (by simpa using hi)
theorem fam_mem {m i : Nat} {f : Nat → It} (h : i < m) : f i ∈ fam m f := by simp only [fam, List.mem_map, List.mem_range]; exact ⟨i, h, rfl⟩
/-- items picked out by their places, one behind the other. -/
def picks : List Nat → List It → Option (List It × List It)
  | [], Γ => some ([], Γ)
  | k :: ks, Γ => match Γ[k]? with
    | some i => match picks ks (Γ.eraseIdx k) with
      | some (xs, r) => some (i :: xs, r)
      | none => none
    | none => none
theorem perm_picks : ∀ (ks : List Nat) {Γ xs r : List It}, picks ks Γ = some (xs, r) → Γ.Perm (xs ++ r)
  | [], Γ, xs, r, h => by simp [picks] at h; obtain ⟨rfl, rfl⟩ := h; exact List.Perm.refl _
  | k :: ks, Γ, xs, r, h => by
    simp only [picks] at h
    cases hi : Γ[k]? with
    | none => rw [hi] at h; cases h
    | some i =>
      rw [hi] at h
      cases hp : picks ks (Γ.eraseIdx k) with
      | none => rw [hp] at h; cases h
      | some p =>
        rw [hp] at h
        cases h
        exact (perm_pick k hi).trans (List.Perm.append_left [i] (perm_picks ks hp))
end Go.Sx
