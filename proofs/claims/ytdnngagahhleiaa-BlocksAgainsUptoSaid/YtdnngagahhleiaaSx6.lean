/- A small calculus of triples. Part 6: lists whose elements are a few cells each. -/
import Derived.Test.YtdnngagahhleiaaSx5
namespace Go.Sx
open Go.RowKit
set_option linter.unusedVariables false
structure Cod (α : Type) where
  sz : Nat
  enc : α → List Value
  len : ∀ x, (enc x).length = sz
section
variable {α : Type} (c : Cod α)
def Cod.cells (xs : List α) : List Value := xs.flatMap c.enc
theorem cells_length (xs : List α) : (c.cells xs).length = xs.length * c.sz := by
  induction xs with
  | nil => simp [Cod.cells]
  | cons x xs ih => simp only [Cod.cells, List.flatMap_cons, List.length_append, c.len, List.length_cons] at ih ⊢; rw [ih, Nat.add_mul]; omega
theorem cells_cons (x : α) (xs : List α) : c.cells (x :: xs) = c.enc x ++ c.cells xs := by simp [Cod.cells]
theorem cells_append (xs ys : List α) : c.cells (xs ++ ys) = c.cells xs ++ c.cells ys := by simp [Cod.cells]
theorem cells_nil : c.cells [] = [] := rfl
theorem cells_one (x : α) : c.cells [x] = c.enc x := by simp [Cod.cells]
theorem cells_drop : ∀ (xs : List α) (k : Nat), (c.cells xs).drop (k * c.sz) = c.cells (xs.drop k)
  | xs, 0 => by simp
  | [], k + 1 => by simp [Cod.cells]
  | x :: xs, k + 1 => by
    rw [cells_cons, List.drop_succ_cons, ← cells_drop xs k, Nat.add_mul, Nat.one_mul, Nat.add_comm, ← List.drop_drop]
    congr 1
    rw [List.drop_append, List.drop_of_length_le (by rw [c.len]; exact Nat.le_refl _), c.len]; simp
theorem cells_take : ∀ (xs : List α) (k : Nat), (c.cells xs).take (k * c.sz) = c.cells (xs.take k)
  | xs, 0 => by simp [Cod.cells]
  | [], k + 1 => by simp [Cod.cells]
  | x :: xs, k + 1 => by
    rw [cells_cons, List.take_succ_cons, cells_cons, ← cells_take xs k, Nat.add_mul, Nat.one_mul, List.take_append, c.len]
    rw [List.take_of_length_le (by rw [c.len]; omega)]
    congr 2
    omega
theorem cells_seg {xs : List α} {i : Nat} (h : i < xs.length) : ((c.cells xs).drop (i * c.sz)).take c.sz = c.enc xs[i] := by
  rw [cells_drop, List.drop_eq_getElem_cons h, cells_cons, List.take_append, c.len, Nat.sub_self, List.take_zero, List.append_nil, List.take_of_length_le (by rw [c.len]; exact Nat.le_refl _)]
theorem cells_get {xs : List α} {i j : Nat} (h : i < xs.length) (hj : j < c.sz) : (c.cells xs)[i * c.sz + j]? = (c.enc xs[i])[j]? := by
  rw [← cells_seg c h, List.getElem?_take, if_pos hj, List.getElem?_drop]
theorem cells_put {xs : List α} {i : Nat} (h : i < xs.length) (y : α) : putL (c.cells xs) (i * c.sz) (c.enc y) = c.cells (xs.set i y) := by
  have hle : i * c.sz + c.sz ≤ xs.length * c.sz := by
    have : (i + 1) * c.sz ≤ xs.length * c.sz := Nat.mul_le_mul_right _ h
    rw [Nat.add_mul, Nat.one_mul] at this; exact this
  apply List.ext_getElem?
  intro j
  rw [putL_get _ _ _ _ (by rw [c.len, cells_length]; exact hle), c.len]
  by_cases hj : j < xs.length * c.sz
  · have hs : 0 < c.sz := by rcases Nat.eq_zero_or_pos c.sz with h0 | h0
                             · rw [h0] at hj; simp at hj
                             · exact h0
    have hq : j / c.sz < xs.length := Nat.div_lt_of_lt_mul (by rw [Nat.mul_comm]; exact hj)
    have hm : j % c.sz < c.sz := Nat.mod_lt _ hs
    have e : j = (j / c.sz) * c.sz + j % c.sz := by rw [Nat.mul_comm]; exact (Nat.div_add_mod j c.sz).symm
    have e1 := cells_get c (xs := xs) hq hm
    have e2 := cells_get c (xs := xs.set i y) (i := j / c.sz) (j := j % c.sz) (by simpa using hq) hm
    rw [← e] at e1 e2
    rw [e1, e2]
    by_cases hi : j / c.sz = i
    · subst hi
      rw [if_pos ⟨by omega, by omega⟩, List.getElem_set_self]
      congr 1; omega
    · rw [if_neg, List.getElem_set_ne (fun e => hi e.symm)]
      rintro ⟨h1, h2⟩
      apply hi
      have h3 : j < (i + 1) * c.sz := by rw [Nat.add_mul, Nat.one_mul]; exact h2
      exact Nat.le_antisymm (Nat.lt_succ_iff.1 (Nat.div_lt_of_lt_mul (by rw [Nat.mul_comm]; exact h3))) ((Nat.le_div_iff_mul_le hs).2 h1)
  · rw [if_neg (by omega), List.getElem?_eq_none (by rw [cells_length]; omega), List.getElem?_eq_none (by rw [cells_length]; simp; omega)]
theorem cells_ne {xs : List α} (h : xs ≠ []) (hs : 0 < c.sz) : c.cells xs ≠ [] := fun e => by
  have := congrArg List.length e
  rw [cells_length, List.length_nil] at this
  rcases Nat.mul_eq_zero.1 this with h1 | h1
  · exact h (List.eq_nil_of_length_eq_zero h1)
  · omega
end
section
variable {w0 w : World} {X : List Nat} {K : List It} {a : Addr} {α : Type} {c : Cod α} {xs : List α}
theorem Has.el (h : Has w0 X K a (c.cells xs)) {i : Nat} (hi : i < xs.length) : Has w0 X K (a.add (i * c.sz)) (c.enc xs[i]) := fun w hs => by
  have := ((h w hs).drop (i * c.sz)).take c.sz
  rwa [cells_seg c hi] at this
theorem Has.weak {K' : List It} {cs : List Value} (h : Has w0 X K a cs) (hk : ∃ R, K'.Perm (K ++ R)) : Has w0 X K' a cs := fun w hs => by
  obtain ⟨R, hp⟩ := hk
  exact h w (hs.perm hp).left
theorem Has.cons {i : It} {cs : List Value} (h : Has w0 X K a cs) : Has w0 X (i :: K) a cs := fun w hs => h w hs.tl
/-- what is read where a call begins. -/
def RdO (w : World) (X : List Nat) (A : Option Addr) (cs : List Value) : Prop := cs ≠ [] → ∃ a, A = some a ∧ Old w X a cs
theorem RdO.rd {A : Option Addr} {cs : List Value} (h : RdO w0 X A cs) (K : List It) : RdA w0 X K A cs := RdA.old h
theorem Cells.lt {cs : List Value} (h : Cells w a cs) (hne : cs ≠ []) : a.block < w.heap.size := by
  cases cs with
  | nil => exact absurd rfl hne
  | cons v vs =>
    have := World.block_lt_of_cell? w _ (h 0 v rfl)
    rwa [add_block] at this
/-- nothing is lent: what is read is read by the callee. -/
theorem RdA.call {A : Option Addr} {cs : List Value} (h : RdA w0 X K A cs) (hs : St w0 X K w) : RdO w [] A cs := fun hne => by
  obtain ⟨a, rfl, hH⟩ := h hne
  exact ⟨a, rfl, hH w hs, fun _ => (hH w hs).lt hne, by simp⟩
end
theorem keepAll (Γ : List It) : ∃ R, Γ.Perm (Γ ++ R) := ⟨[], by simp⟩
theorem keep1 (i : It) (Γ : List It) : ∃ R, (i :: Γ).Perm (Γ ++ R) := ⟨[i], (List.perm_append_comm (l₁ := [i]) (l₂ := Γ))⟩
theorem keep2 (i j : It) (Γ : List It) : ∃ R, (i :: j :: Γ).Perm (Γ ++ R) := ⟨[i, j], (List.perm_append_comm (l₁ := [i, j]) (l₂ := Γ))⟩
theorem keepNil (Γ : List It) : ∃ R, Γ.Perm ([] ++ R) := ⟨Γ, by simp⟩
end Go.Sx
