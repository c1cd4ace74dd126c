/- A small calculus of triples. Part 16: lists of cells, more. -/
import Derived.Test.YtdnngagahhleiaaSxB
namespace Go.Sx
open Go.RowKit
set_option linter.unusedVariables false
section
variable {α : Type} (c : Cod α)
/-- many at once, at a place. -/
theorem cells_putL {xs ys : List α} {i : Nat} (h : i + ys.length ≤ xs.length) : putL (c.cells xs) (i * c.sz) (c.cells ys) = c.cells (xs.take i ++ ys ++ xs.drop (i + ys.length)) := by
  have h1 : (i + ys.length) * c.sz ≤ xs.length * c.sz := Nat.mul_le_mul_right _ h
  rw [Nat.add_mul] at h1
  rw [← splice_putL (by rw [cells_length, cells_length]; exact h1), cells_length, Nat.add_zero, ← Nat.add_mul, cells_take, cells_drop, cells_append, cells_append]
theorem cells_putL0 {xs ys : List α} (h : ys.length ≤ xs.length) : putL (c.cells xs) 0 (c.cells ys) = c.cells (ys ++ xs.drop ys.length) := by
  have := cells_putL c (xs := xs) (ys := ys) (i := 0) (by omega)
  simpa using this
theorem cells_rep {z : List Value} {x : α} (hz : c.enc x = z) (n : Nat) : (List.replicate n z).flatten = c.cells (List.replicate n x) := by
  induction n with
  | zero => rfl
  | succ n ih => rw [List.replicate_succ, List.replicate_succ, List.flatten_cons, cells_cons, ih, hz]
theorem SlO.head {w : World} {X : List Nat} {A : Option Addr} {n cap : Nat} {xs : List α} (h : SlO w X A n cap (c.cells xs)) {k : Nat} (hk : k ≤ n) : SlO w X A k cap (c.cells (xs.take k)) := by
  rw [← cells_take]; exact h.tkX hk _
/-- a slice behind its first elements. -/
theorem SlO.seg {w : World} {X : List Nat} {A : Option Addr} {n cap : Nat} {xs : List α} (h : SlO w X A n cap (c.cells xs)) (hx : xs.length = n) {i : Nat} (hi : i ≤ n) : SlO w X (sA A cap i c.sz) (n - i) (cap - i) (c.cells (xs.drop i)) := by
  have hle := h.le
  refine ⟨fun hne => ?_, fun hn => ?_, by omega, Nat.le_trans (Nat.sub_le _ _) h.max⟩
  · rw [← cells_drop] at hne ⊢
    have hne0 : c.cells xs ≠ [] := fun e => hne (by rw [e]; simp)
    obtain ⟨a, rfl, ho⟩ := h.rd hne0
    have hlt : cap ≠ i := fun e => hne (by rw [List.drop_eq_nil_iff, cells_length, hx]; exact Nat.mul_le_mul_right _ (by omega))
    exact ⟨a.add (i * c.sz), by simp [sA, hlt], ho.cells.drop _, fun _ => by rw [add_block]; exact ho.lt hne0, by rw [add_block]; exact ho.nx⟩
  · have := h.nil (sA_none hn)
    omega
end
end Go.Sx
