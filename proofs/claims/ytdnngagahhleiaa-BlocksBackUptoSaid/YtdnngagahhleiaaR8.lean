/- What the row of BlocksBack needs: what is sent, as it comes in. -/
import Derived.Test.YtdnngagahhleiaaR5
import Derived.Test.YtdnngagahhleiaaB37
namespace Go.Proofs.Ytdnngagahhleiaa
open Go.ChangeShapes Go.WideShapes Go.ChangeAt Go.RowKit Go.Joins Go.Deep
open Go.Sx (SlO)
set_option linter.unusedVariables false
set_option linter.unusedSimpArgs false
set_option maxRecDepth 20000
theorem list10s {α : Type} {l : List α} (h : l.length = 10) : ∃ a b c d e f g i j k, l = [a, b, c, d, e, f, g, i, j, k] := by
  match l, h with
  | [a, b, c, d, e, f, g, i, j, k], _ => exact ⟨a, b, c, d, e, f, g, i, j, k, rfl⟩
theorem open_send {H : Type} {enc : TypeId × Value → H} {W : World} {spare : Nat → Bool} {held : Bool} {r : Reach} {b0 : Nat} {v : Value} {d : DataW H} {p : List MemPlace} {rest : List (DataW H)} (hv : Value.okWide Try.prog W r b0 92 v) (h : DataW.Trod enc Try.prog W 0 spare held 92 v d p)
    (hk : Rows.uptoSmall H rest = true) (hd : d ∈ rest) : ∃ (s : Ses) (g : Prc) (j : Int) (A B : Option Addr) (l m : List Int) (c k : Nat), v = sendV s g j A l.length c B m.length k ∧ SlO W [] A l.length c (byC.cells l) ∧ l.length ≤ 1048576 ∧ SlO W [] B m.length k (tnC.cells m) ∧ m.length ≤ 1048576 := by
  obtain ⟨cs, rfl, hn, fuel, hf⟩ := trod_cells 10 Try.underlying92 (by kernel_rfl) hv h
  have I : ∀ i, leafT Try.prog 5 92 i = some 3 → ∃ z, cs[i]? = some (.int .i64 z) := fun i hl => leaf_int i hl int_und hf
  obtain ⟨z0, e0⟩ := I 0 (by kernel_rfl)
  obtain ⟨z1, e1⟩ := I 1 (by kernel_rfl)
  obtain ⟨z2, e2⟩ := I 2 (by kernel_rfl)
  obtain ⟨z3, e3⟩ := I 3 (by kernel_rfl)
  obtain ⟨z4, e4⟩ := I 4 (by kernel_rfl)
  obtain ⟨z5, e5⟩ := I 5 (by kernel_rfl)
  obtain ⟨z6, e6⟩ := I 6 (by kernel_rfl)
  obtain ⟨z7, e7⟩ := I 7 (by kernel_rfl)
  obtain ⟨A, n, c, dd, pp, e8, hT, hb⟩ := leaf_slice (d := 5) (u := 26) (e := 5) 8 (by kernel_rfl) (by kernel_rfl) hf
  obtain ⟨B, m, k, d2, p2, e9, hT2, hb2⟩ := leaf_slice (d := 5) (u := 34) (e := 3) 9 (by kernel_rfl) (by kernel_rfl) hf
  obtain ⟨l, hl, hS, hlen, _⟩ := open_bytes hT
  obtain ⟨tl, htl, hS2, hlen2, _⟩ := open_list tnC Try.underlying34 (by kernel_rfl) (by decide) (fun _ => True) (fun fuel cs x hx _ => by
    obtain ⟨a, e, _⟩ := DataW.trod_int int_und hx
    exact ⟨a, e, trivial⟩) hT2
  have hc1 := small_part hk hd hb
  have hc2 := small_part hk hd hb2
  subst hl htl
  refine ⟨(z0, z1), ⟨z2, z3, z4, z5, z6⟩, z7, A, B, l, tl, c, k, ?_, hS, by omega, hS2, by omega⟩
  obtain ⟨a0, a1, a2, a3, a4, a5, a6, a7, a8, a9, rfl⟩ := list10s hn
  simp at e0 e1 e2 e3 e4 e5 e6 e7 e8 e9
  subst e0 e1 e2 e3 e4 e5 e6 e7 e8 e9
  rfl
end Go.Proofs.Ytdnngagahhleiaa
