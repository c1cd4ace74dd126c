/- What the rows of this seat need: structs of whole numbers alone, however deep. -/
import Derived.Test.YtdnngagahhleiaaR1
namespace Go.Proofs.Ytdnngagahhleiaa
open Go.ChangeShapes Go.WideShapes Go.ChangeAt Go.RowKit Go.Joins Go.Deep
set_option linter.unusedVariables false
set_option linter.unusedSimpArgs false
set_option maxRecDepth 20000
/-- all cells of a type are whole numbers. -/
def intsB (P : Program) : Nat → TypeId → Bool
  | 0, _ => false
  | d + 1, t => match P.underlying t with
    | some (.int .i64) => true
    | some (.struct fs) => (List.range (P.cellsOf t)).all fun i => fs.toList.any fun f => decide (f.offset ≤ i ∧ i < f.offset + P.cellsOf f.type) && intsB P d f.type
    | _ => false
theorem ints_of {H : Type} {enc : TypeId × Value → H} {P : Program} {w : World} {base : Nat} {spare : Nat → Bool} {held : Bool} : ∀ (d : Nat) (t : TypeId) (cs : List Value) (x : DataW H × List MemPlace) (fuel : Nat), intsB P d t = true → DataW.trod enc P w base spare held fuel t cs = some x → ∀ i, i < cs.length → ∃ z, cs[i]? = some (.int .i64 z)
  | 0, _, _, _, _, h, _ => by simp [intsB] at h
  | d + 1, t, cs, x, fuel, h, ht => by
    rw [intsB] at h
    split at h
    · rename_i hu
      obtain ⟨a, e0, e1, _⟩ := DataW.trod_int (P := P) hu ht
      intro i hi
      subst e0
      have : i = 0 := by simp at hi; omega
      subst this
      exact ⟨a, rfl⟩
    · rename_i fs hu
      obtain ⟨xs, n, _, _, hl, hxl, hf⟩ := DataW.trod_struct hu ht
      intro i hi
      have h1 := List.all_eq_true.1 h i (by simp; omega)
      obtain ⟨f, hfm, h2⟩ := List.any_eq_true.1 h1
      simp only [Bool.and_eq_true, decide_eq_true_eq] at h2
      obtain ⟨⟨h3, h4⟩, h5⟩ := h2
      obtain ⟨j, hj, hje⟩ := List.getElem_of_mem hfm
      have hfj : fs[j]? = some f := by rw [← hje]; simp at hj ⊢
      have h6 := hf j f hfj
      have hj' : j < xs.length := by rw [hxl]; simpa using hj
      rw [List.getElem?_eq_getElem hj'] at h6
      have h7 := ints_of d f.type _ _ n h5 h6 (i - f.offset) (by simp; omega)
      obtain ⟨z, hz⟩ := h7
      refine ⟨z, ?_⟩
      rw [List.getElem?_take, if_pos (by omega), List.getElem?_drop, show f.offset + (i - f.offset) = i by omega] at hz
      exact hz
    · cases h
theorem len8 {l : List Int} (h : l.length = 8) : ∃ a b c d e f g i, l = [a, b, c, d, e, f, g, i] := by
  match l, h with
  | [a, b, c, d, e, f, g, i], _ => exact ⟨a, b, c, d, e, f, g, i, rfl⟩
/-- A STRUCT OF WHOLE NUMBERS, BY VALUE. -/
theorem open_ints {H : Type} {enc : TypeId × Value → H} {w : World} {base : Nat} {spare : Nat → Bool} {held : Bool} {r : Reach} {b0 : Nat} {v : Value} {d : DataW H} {p : List MemPlace} {t : TypeId} {fs : Array Field} (n : Nat) (hu : Try.prog.underlying t = some (.struct fs)) (hi : intsB Try.prog 4 t = true) (hn : Try.prog.cellsOf t = n)
    (hv : Value.okWide Try.prog w r b0 t v) (h : DataW.Trod enc Try.prog w base spare held t v d p) : ∃ l : List Int, l.length = n ∧ v = .agg (l.map (Value.int .i64)).toArray := by
  obtain ⟨cs, rfl, hsz⟩ := okWide_struct hu hv
  obtain ⟨fuel, hf⟩ := h
  have hall := ints_of 4 t _ _ fuel hi hf
  have hcl : (Value.agg cs).cells.toList = cs.toList := by simp [Value.cells]
  rw [hcl] at hall
  have hex : ∀ l : List Value, (∀ i, i < l.length → ∃ z, l[i]? = some (.int .i64 z)) → ∃ m : List Int, l = m.map (Value.int .i64) := by
    intro l
    induction l with
    | nil => intro _; exact ⟨[], rfl⟩
    | cons y l ih =>
      intro hl
      obtain ⟨z, hz⟩ := hl 0 (by simp)
      obtain ⟨m, hm⟩ := ih fun i hi => by have := hl (i + 1) (by simpa using hi); simpa using this
      simp at hz
      exact ⟨z :: m, by rw [hz, hm]; rfl⟩
  obtain ⟨m, hm⟩ := hex cs.toList hall
  refine ⟨m, ?_, ?_⟩
  · have := congrArg List.length hm
    simp at this; omega
  · congr 1
    rw [← hm]
end Go.Proofs.Ytdnngagahhleiaa
