/- What the rows of layer 4 need: what Again is asked, as it comes in. -/
import Derived.Test.YtdnngagahhleiaaR3
import Derived.Test.YtdnngagahhleiaaB17
namespace Go.Proofs.Ytdnngagahhleiaa
open Go.ChangeShapes Go.WideShapes Go.ChangeAt Go.RowKit Go.Joins Go.Deep
open Go.Sx (SlO)
set_option linter.unusedVariables false
set_option linter.unusedSimpArgs false
set_option maxRecDepth 20000
theorem list10 {α : Type} {l : List α} (h : l.length = 10) : ∃ a b c d e f g i j k, l = [a, b, c, d, e, f, g, i, j, k] := by
  match l, h with
  | [a, b, c, d, e, f, g, i, j, k], _ => exact ⟨a, b, c, d, e, f, g, i, j, k, rfl⟩
theorem small_part {H : Type} {rest : List (DataW H)} {d dd : DataW H} (hk : Rows.uptoSmall H rest = true) (hd : d ∈ rest) (h : Rows.uptoBulk dd ≤ Rows.uptoBulk d) : Rows.uptoBulk dd ≤ 1048576 := by
  have h5 := bulk_small hk
  have h6 := bulk_part hd
  omega
/-- a slice of spans, its length bounded. -/
theorem spans_small {H : Type} {enc : TypeId × Value → H} {W : World} {spare : Nat → Bool} {held : Bool} {A : Option Addr} {n c : Nat} {d : DataW H} {p : List MemPlace} (h : DataW.Trod enc Try.prog W 0 spare held 43 (.slice A n c) d p) (hb : Rows.uptoBulk d ≤ 1048576) :
    ∃ l : List Sp, l.length = n ∧ SlO W [] A n c (spC.cells l) ∧ n ≤ 1048576 := by
  obtain ⟨l, h3 | h3⟩ := open_spans h
  · obtain ⟨hl, hS, es, ss, he, hel⟩ := h3
    subst he
    have := bulk_slice es ss
    exact ⟨l, hl, hS, by omega⟩
  · obtain ⟨hl, rfl, hS⟩ := h3
    subst hl
    exact ⟨[], rfl, hS, by omega⟩
theorem open_gaps {H : Type} {enc : TypeId × Value → H} {W : World} {spare : Nat → Bool} {held : Bool} {r : Reach} {b0 : Nat} {v : Value} {d : DataW H} {p : List MemPlace} {rest : List (DataW H)} (hv : Value.okWide Try.prog W r b0 59 v) (h : DataW.Trod enc Try.prog W 0 spare held 59 v d p)
    (hk : Rows.uptoSmall H rest = true) (hd : d ∈ rest) : ∃ (s : Ses) (g : Prc) (A : Option Addr) (l : List Sp) (c : Nat) (ck rp : Int), v = gapsV s g A l.length c ck rp ∧ SlO W [] A l.length c (spC.cells l) ∧ l.length ≤ 1048576 := by
  obtain ⟨cs, rfl, hn, fuel, hf⟩ := trod_cells 10 Try.underlying59 (by kernel_rfl) hv h
  have I : ∀ i, leafT Try.prog 5 59 i = some 3 → ∃ z, cs[i]? = some (.int .i64 z) := fun i hl => leaf_int i hl int_und hf
  obtain ⟨z0, e0⟩ := I 0 (by kernel_rfl)
  obtain ⟨z1, e1⟩ := I 1 (by kernel_rfl)
  obtain ⟨z2, e2⟩ := I 2 (by kernel_rfl)
  obtain ⟨z3, e3⟩ := I 3 (by kernel_rfl)
  obtain ⟨z4, e4⟩ := I 4 (by kernel_rfl)
  obtain ⟨z5, e5⟩ := I 5 (by kernel_rfl)
  obtain ⟨z6, e6⟩ := I 6 (by kernel_rfl)
  obtain ⟨z8, e8⟩ := I 8 (by kernel_rfl)
  obtain ⟨z9, e9⟩ := I 9 (by kernel_rfl)
  obtain ⟨A, n, c, dd, pp, e7, hT, hb⟩ := leaf_slice (d := 5) (u := 43) (e := 61) 7 (by kernel_rfl) (by kernel_rfl) hf
  obtain ⟨l, hl, hS, hlen⟩ := spans_small hT (small_part hk hd hb)
  subst hl
  refine ⟨(z0, z1), ⟨z2, z3, z4, z5, z6⟩, A, l, c, z8, z9, ?_, hS, hlen⟩
  obtain ⟨a0, a1, a2, a3, a4, a5, a6, a7, a8, a9, rfl⟩ := list10 hn
  simp at e0 e1 e2 e3 e4 e5 e6 e7 e8 e9
  subst e0 e1 e2 e3 e4 e5 e6 e7 e8 e9
  rfl
end Go.Proofs.Ytdnngagahhleiaa
