/- What the rows of layer 4 need: a script of steps, as it comes in. -/
import Derived.Test.YtdnngagahhleiaaR5
import Derived.Test.YtdnngagahhleiaaB34
namespace Go.Proofs.Ytdnngagahhleiaa
open Go.ChangeShapes Go.WideShapes Go.ChangeAt Go.RowKit Go.Joins Go.Deep
open Go.Sx (SlO)
set_option linter.unusedVariables false
set_option linter.unusedSimpArgs false
set_option maxRecDepth 20000
theorem bz_of {l : List Int} (h : ∀ z ∈ l, 0 ≤ z ∧ z ≤ 255) : ∀ k, k < l.length → 0 ≤ bz l k ∧ bz l k ≤ 255 := fun k hk => by
  rw [← bz_eq hk]; exact h _ (List.getElem_mem _)
theorem list6 {α : Type} {l : List α} (h : l.length = 6) : ∃ a b c d e f, l = [a, b, c, d, e, f] := by
  match l, h with
  | [a, b, c, d, e, f], _ => exact ⟨a, b, c, d, e, f, rfl⟩
theorem trod_len {H : Type} {enc : TypeId × Value → H} {w : World} {base : Nat} {spare : Nat → Bool} {held : Bool} {t : TypeId} {fs : Array Field} {cs : List Value} {x : DataW H × List MemPlace} {fuel : Nat} (n : Nat) (hu : Try.prog.underlying t = some (.struct fs)) (hn : Try.prog.cellsOf t = n) (h : DataW.trod enc Try.prog w base spare held fuel t cs = some x) : cs.length = n := by
  obtain ⟨_, _, _, _, hl, _⟩ := DataW.trod_struct hu h
  omega
theorem open_op {H : Type} {enc : TypeId × Value → H} {W : World} {spare : Nat → Bool} {held : Bool} {cs : List Value} {x : DataW H × List MemPlace} {fuel : Nat} (hf : DataW.trod enc Try.prog W 0 spare held fuel 89 cs = some x) (hb0 : Rows.uptoBulk x.1 ≤ 1048576) : ∃ o : OpM, cs = opC.enc o ∧ OpOk W o := by
  have hn := trod_len 6 Try.underlying89 (by kernel_rfl) hf
  have I : ∀ i, leafT Try.prog 5 89 i = some 3 → ∃ z, cs[i]? = some (.int .i64 z) := fun i hl => leaf_int i hl int_und hf
  obtain ⟨z0, e0⟩ := I 0 (by kernel_rfl)
  obtain ⟨z1, e1⟩ := leaf_bool (d := 5) (u := 4) 1 (by kernel_rfl) Try.underlying4 hf
  obtain ⟨z2, e2⟩ := I 2 (by kernel_rfl)
  obtain ⟨A, n, c, dd, pp, e3, hT, hb⟩ := leaf_slice (d := 5) (u := 26) (e := 5) 3 (by kernel_rfl) (by kernel_rfl) hf
  obtain ⟨z4, e4⟩ := I 4 (by kernel_rfl)
  obtain ⟨z5, e5⟩ := I 5 (by kernel_rfl)
  obtain ⟨l, hl, hS, hlen, hby⟩ := open_bytes hT
  subst hl
  refine ⟨⟨z0, z2, z1, A, l, c, (z4, z5)⟩, ?_, hS, bz_of hby, by dsimp only; omega⟩
  obtain ⟨a0, a1, a2, a3, a4, a5, rfl⟩ := list6 hn
  simp at e0 e1 e2 e3 e4 e5
  subst e0 e1 e2 e3 e4 e5
  rfl
theorem open_ops {H : Type} {enc : TypeId × Value → H} {W : World} {spare : Nat → Bool} {held : Bool} {A : Option Addr} {n c : Nat} {d : DataW H} {p : List MemPlace} {rest : List (DataW H)} (h : DataW.Trod enc Try.prog W 0 spare held 76 (.slice A n c) d p) (hk : Rows.uptoSmall H rest = true) (hd : d ∈ rest) :
    ∃ l : List OpM, l.length = n ∧ SlO W [] A l.length c (opC.cells l) ∧ l.length ≤ 1048576 ∧ ∀ o ∈ l, OpOk W o := by
  have hbd := small_part hk hd (Nat.le_refl _)
  obtain ⟨l, hl, hS, hlen, hq⟩ := open_list opC Try.underlying76 (by kernel_rfl) (by decide) (OpOk W) (fun fuel cs x hx hb => open_op hx (by omega)) h
  subst hl
  exact ⟨l, rfl, hS, by omega, hq⟩
end Go.Proofs.Ytdnngagahhleiaa
