/- the law's own helpers: Lent, Same, spaced, awake. -/
import Derived.Test.YtdnngagahhleiaaC4
import Derived.Test.YtdnngagahhleiaaSxA
namespace Go.Proofs.Ytdnngagahhleiaa
open Go.Sx
attribute [local irreducible] W WL WP Hv Yl WQ At QP QF
set_option maxRecDepth 10000
set_option linter.unusedVariables false
set_option linter.unusedSimpArgs false
theorem int_und : Try.prog.underlying 3 = some (.int .i64) := by kernel_rfl
theorem bool_und : Try.prog.underlying 4 = some .bool := by kernel_rfl
theorem span_fi : fieldsI Try.prog 61 = some [(3, 0), (3, 1)] := by kernel_rfl
theorem span_eq (a b : Sp) : EqS Try.prog 61 (spC.enc a) (spC.enc b) (decide (a = b)) := fun d w => by
  rw [show d + 8 = (d + 7) + 1 from rfl, equalIn_struct span_fi, eqL_int (d := d + 6) (k := .i64) (a := a.1) (b := b.1) int_und rfl rfl (eqL_int (d := d + 6) (k := .i64) (a := a.2) (b := b.2) int_und rfl rfl eqL_nil)]
  congr 1
  obtain ⟨a1, a2⟩ := a
  obtain ⟨b1, b2⟩ := b
  simp [Bool.eq_iff_iff, Prod.ext_iff]
theorem gp_ext {l m : List Sp} (hl : l.length = m.length) (h : ∀ j, j < l.length → gp l j = gp m j) : l = m := by
  apply List.ext_getElem hl
  intro j h1 h2
  have := h j h1
  rwa [← gp_eq h1, ← gp_eq h2] at this
theorem gp_set {l : List Sp} {i j : Nat} {x : Sp} (hi : i < l.length) : gp (l.set i x) j = if i = j then x else gp l j := by
  unfold gp
  simp only [List.getD_eq_getElem?_getD, List.getElem?_set]
  split
  · rename_i h; subst h; simp [hi]
  · rfl
end Go.Proofs.Ytdnngagahhleiaa
