/- bytes as cells. -/
import Derived.Test.YtdnngagahhleiaaC1
namespace Go.Proofs.Ytdnngagahhleiaa
open Go.Sx
set_option maxRecDepth 10000
set_option linter.unusedVariables false
set_option linter.unusedSimpArgs false
def byC : Cod Int := ⟨1, fun z => [.int .u8 z], fun _ => rfl⟩
def bz (l : List Int) (j : Nat) : Int := l.getD j 0
theorem bz_eq {l : List Int} {j : Nat} (h : j < l.length) : l[j] = bz l j := by simp [bz, h]
theorem by_get {l : List Int} {i : Nat} (h : i < l.length) : (byC.cells l)[i * 1]? = some (.int .u8 (bz l i)) := by
  have := cells_get byC h (j := 0) (by decide)
  rw [bz_eq h] at this
  simpa [byC] using this
abbrev byI (U : Option Addr) (n c : Nat) (l : List Int) : It := .row (.slice U n c) 5 1 n (byC.cells l)
theorem by_len (l : List Int) : (byC.cells l).length = l.length := by rw [cells_length]; exact Nat.mul_one _
theorem by_all (l : List Int) : (byC.cells l).all Value.oneCell' = true := cells_all byC (fun _ => rfl) l
theorem by_get' {l : List Int} {i : Nat} (h : i < l.length) : (byC.cells l)[i]? = some (.int .u8 (bz l i)) := by
  have := by_get h
  rwa [Nat.mul_one] at this
theorem bz_map {n : Nat} {f : Nat → Int} {j : Nat} (h : j < n) : bz ((List.range n).map f) j = f j := by simp [bz, h]
/-- part of a row of bytes, written over. -/
theorem by_put {l vs : List Int} {o : Nat} (h : o + vs.length ≤ l.length) : putL (byC.cells l) o (byC.cells vs) = byC.cells ((List.range l.length).map fun j => if o ≤ j ∧ j < o + vs.length then bz vs (j - o) else bz l j) := by
  apply List.ext_getElem?
  intro j
  rw [putL_get _ _ _ _ (by rw [by_len, by_len]; exact h), by_len]
  by_cases hj : j < l.length
  · rw [by_get' (l := (List.range l.length).map _) (by simpa using hj), bz_map hj]
    by_cases h1 : o ≤ j ∧ j < o + vs.length
    · rw [if_pos h1, if_pos h1, by_get' (by omega)]
    · rw [if_neg h1, if_neg h1, by_get' hj]
  · rw [if_neg (by omega), List.getElem?_eq_none (by rw [by_len]; omega), List.getElem?_eq_none (by rw [by_len]; simp; omega)]
theorem by_ext {l m : List Int} (hl : l.length = m.length) (h : ∀ j, j < l.length → bz l j = bz m j) : l = m := by
  apply List.ext_getElem hl
  intro j h1 h2
  have := h j h1
  rwa [← bz_eq h1, ← bz_eq h2] at this
theorem by_zeros (n : Nat) : (List.replicate n [Value.int IntKind.u8 0]).flatten = byC.cells (List.replicate n 0) := by
  induction n with
  | zero => rfl
  | succ n ih => rw [List.replicate_succ, List.replicate_succ, List.flatten_cons, cells_cons, ih]; rfl
theorem by_grow {bs : List Int} {n : Nat} (h : bs.length ≤ n) : putL (byC.cells (List.replicate n 0)) 0 (byC.cells bs) = byC.cells ((List.range n).map fun j => bz bs j) := by
  rw [by_put (by simp; omega)]
  congr 1
  rw [List.length_replicate]
  refine List.map_congr_left fun j hj => ?_
  have hj' : j < n := by simpa using hj
  by_cases hc : j < bs.length
  · rw [if_pos (by omega), Nat.sub_zero]
  · rw [if_neg (by omega)]
    simp [bz, hj', hc]
theorem by_id (l : List Int) : (List.range l.length).map (fun j => bz l j) = l := by
  refine by_ext (by simp) fun j hj => ?_
  rw [bz_map (by simpa using hj)]
theorem by_map (l : List Int) : byC.cells l = l.map (Value.int .u8) := by
  induction l with
  | nil => rfl
  | cons x l ih => rw [cells_cons, ih]; rfl
end Go.Proofs.Ytdnngagahhleiaa
