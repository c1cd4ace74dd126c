/- What the rows of layer 4 need: bytes; what Make is asked, as it comes in. -/
import Derived.Test.YtdnngagahhleiaaR4
import Derived.Test.YtdnngagahhleiaaR5
import Derived.Test.YtdnngagahhleiaaB21
namespace Go.Proofs.Ytdnngagahhleiaa
open Go.ChangeShapes Go.WideShapes Go.ChangeAt Go.RowKit Go.Joins Go.Deep
open Go.Sx (SlO)
set_option linter.unusedVariables false
set_option linter.unusedSimpArgs false
set_option maxRecDepth 20000
theorem open_bytes {H : Type} {enc : TypeId × Value → H} {W : World} {spare : Nat → Bool} {held : Bool} {A : Option Addr} {n c : Nat} {d : DataW H} {p : List MemPlace} (h : DataW.Trod enc Try.prog W 0 spare held 26 (.slice A n c) d p) :
    ∃ l : List Int, l.length = n ∧ SlO W [] A n c (byC.cells l) ∧ n ≤ Rows.uptoBulk d ∧ ∀ z ∈ l, 0 ≤ z ∧ z ≤ 255 :=
  open_list byC Try.underlying26 (by kernel_rfl) (by decide) (fun z => 0 ≤ z ∧ z ≤ 255) (fun fuel cs x hx _ => by
    obtain ⟨a, e0, e1, e2⟩ := DataW.trod_int (P := Try.prog) Try.underlying5 hx
    refine ⟨a, e0, ?_⟩
    simp [Lit.wf, IntKind.bits, IntKind.signed, IntKind.min, IntKind.max] at e2
    omega) h
theorem list13 {α : Type} {l : List α} (h : l.length = 13) : ∃ a b c d e f g i j k m n o, l = [a, b, c, d, e, f, g, i, j, k, m, n, o] := by
  match l, h with
  | [a, b, c, d, e, f, g, i, j, k, m, n, o], _ => exact ⟨a, b, c, d, e, f, g, i, j, k, m, n, o, rfl⟩
theorem open_made {H : Type} {enc : TypeId × Value → H} {W : World} {spare : Nat → Bool} {held : Bool} {r : Reach} {b0 : Nat} {v : Value} {d : DataW H} {p : List MemPlace} {rest : List (DataW H)} (hv : Value.okWide Try.prog W r b0 67 v) (h : DataW.Trod enc Try.prog W 0 spare held 67 v d p)
    (hk : Rows.uptoSmall H rest = true) (hd : d ∈ rest) : ∃ (s : Ses) (g : Prc) (x : Pce) (A : Option Addr) (l : List Int) (c : Nat), v = madeV s g x A l.length c ∧ SlO W [] A l.length c (byC.cells l) ∧ l.length ≤ 1048576 := by
  obtain ⟨cs, rfl, hn, fuel, hf⟩ := trod_cells 13 Try.underlying67 (by kernel_rfl) hv h
  have I : ∀ i, leafT Try.prog 5 67 i = some 3 → ∃ z, cs[i]? = some (.int .i64 z) := fun i hl => leaf_int i hl int_und hf
  obtain ⟨z0, e0⟩ := I 0 (by kernel_rfl)
  obtain ⟨z1, e1⟩ := I 1 (by kernel_rfl)
  obtain ⟨z2, e2⟩ := I 2 (by kernel_rfl)
  obtain ⟨z3, e3⟩ := I 3 (by kernel_rfl)
  obtain ⟨z4, e4⟩ := I 4 (by kernel_rfl)
  obtain ⟨z5, e5⟩ := I 5 (by kernel_rfl)
  obtain ⟨z6, e6⟩ := I 6 (by kernel_rfl)
  obtain ⟨z7, e7⟩ := I 7 (by kernel_rfl)
  obtain ⟨z8, e8⟩ := I 8 (by kernel_rfl)
  obtain ⟨z9, e9⟩ := I 9 (by kernel_rfl)
  obtain ⟨z10, e10⟩ := I 10 (by kernel_rfl)
  obtain ⟨z11, e11⟩ := I 11 (by kernel_rfl)
  obtain ⟨A, n, c, dd, pp, e12, hT, hb⟩ := leaf_slice (d := 5) (u := 26) (e := 5) 12 (by kernel_rfl) (by kernel_rfl) hf
  obtain ⟨l, hl, hS, hlen, _⟩ := open_bytes hT
  have hb2 := small_part hk hd hb
  subst hl
  refine ⟨(z0, z1), ⟨z2, z3, z4, z5, z6⟩, ⟨z7, z8, z9, z10, z11⟩, A, l, c, ?_, hS, by omega⟩
  obtain ⟨a0, a1, a2, a3, a4, a5, a6, a7, a8, a9, a10, a11, a12, rfl⟩ := list13 hn
  simp at e0 e1 e2 e3 e4 e5 e6 e7 e8 e9 e10 e11 e12
  subst e0 e1 e2 e3 e4 e5 e6 e7 e8 e9 e10 e11 e12
  rfl
end Go.Proofs.Ytdnngagahhleiaa
