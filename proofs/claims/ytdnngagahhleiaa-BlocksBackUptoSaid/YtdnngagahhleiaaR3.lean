/- What the rows of this seat need: a struct's cells, one by one, however deep. -/
import Derived.Test.YtdnngagahhleiaaR2
namespace Go.Proofs.Ytdnngagahhleiaa
open Go.ChangeShapes Go.WideShapes Go.ChangeAt Go.RowKit Go.Joins Go.Deep
open Go.Sx (SlO)
set_option linter.unusedVariables false
set_option linter.unusedSimpArgs false
set_option maxRecDepth 20000
/-- the type of the cell that is number i in a value of a type. -/
def leafT (P : Program) : Nat → TypeId → Nat → Option TypeId
  | 0, _, _ => none
  | d + 1, t, i => match P.underlying t with
    | some (.struct fs) => fs.toList.findSome? fun f => if f.offset ≤ i ∧ i < f.offset + P.cellsOf f.type then leafT P d f.type (i - f.offset) else none
    | some (.int _) | some .bool | some (.slice _) | some .string | some (.pointer _) => if i = 0 then some t else none
    | _ => none
theorem leaf_of {H : Type} {enc : TypeId × Value → H} {P : Program} {w : World} {base : Nat} {spare : Nat → Bool} {held : Bool} : ∀ (d : Nat) (t : TypeId) (cs : List Value) (x : DataW H × List MemPlace) (fuel i : Nat) (u : TypeId), leafT P d t i = some u → DataW.trod enc P w base spare held fuel t cs = some x →
    ∃ c n y, cs[i]? = some c ∧ DataW.trod enc P w base spare held n u [c] = some y ∧ Rows.uptoBulk y.1 ≤ Rows.uptoBulk x.1
  | 0, _, _, _, _, _, _, h, _ => by simp [leafT] at h
  | d + 1, t, cs, x, fuel, i, u, h, ht => by
    rw [leafT] at h
    have one : (∃ v, cs = [v]) → (if i = 0 then some t else none) = some u → ∃ c n y, cs[i]? = some c ∧ DataW.trod enc P w base spare held n u [c] = some y ∧ Rows.uptoBulk y.1 ≤ Rows.uptoBulk x.1 := by
      rintro ⟨v, rfl⟩ h
      split at h
      · rename_i hi
        cases h
        subst hi
        exact ⟨v, fuel, x, rfl, ht, Nat.le_refl _⟩
      · cases h
    split at h
    · rename_i fs hu
      obtain ⟨xs, n, _, hx, hl, hxl, hf⟩ := DataW.trod_struct hu ht
      obtain ⟨f, hfm, h2⟩ := List.exists_of_findSome?_eq_some h
      split at h2
      · rename_i hr
        obtain ⟨j, hj, hje⟩ := List.getElem_of_mem hfm
        have hfj : fs[j]? = some f := by rw [← hje]; simp at hj ⊢
        have h6 := hf j f hfj
        have hj' : j < xs.length := by rw [hxl]; simpa using hj
        rw [List.getElem?_eq_getElem hj'] at h6
        obtain ⟨c, m, y, hc, hy, hb⟩ := leaf_of d f.type _ _ n (i - f.offset) u h2 h6
        refine ⟨c, m, y, ?_, hy, Nat.le_trans hb ?_⟩
        · rw [List.getElem?_take, if_pos (by omega), List.getElem?_drop, show f.offset + (i - f.offset) = i by omega] at hc
          exact hc
        · rw [hx]
          simp only [Rows.uptoBulk]
          have := bulk_part (d := xs[j].1) (l := xs.map (·.1)) (List.mem_map.2 ⟨xs[j], List.getElem_mem _, rfl⟩)
          omega
      · cases h2
    · rename_i hu; obtain ⟨a, e, _⟩ := DataW.trod_int hu ht; exact one ⟨_, e⟩ h
    · rename_i hu; obtain ⟨a, e, _⟩ := DataW.trod_bool hu ht; exact one ⟨_, e⟩ h
    · rename_i hu
      rcases DataW.trod_slice hu ht with ⟨e, _⟩ | ⟨_, _, _, _, _, _, _, e, _⟩ <;> exact one ⟨_, e⟩ h
    · rename_i hu; obtain ⟨a, e, _⟩ := DataW.trod_string hu ht; exact one ⟨_, e⟩ h
    · rename_i hu
      rcases DataW.trod_pointer hu ht with ⟨e, _⟩ | ⟨_, _, _, _, _, e, _⟩ <;> exact one ⟨_, e⟩ h
    · cases h
/-- a whole number in a struct. -/
theorem leaf_int {H : Type} {enc : TypeId × Value → H} {w : World} {base : Nat} {spare : Nat → Bool} {held : Bool} {d : Nat} {t u : TypeId} {cs : List Value} {x : DataW H × List MemPlace} {fuel : Nat} (i : Nat) (hl : leafT Try.prog d t i = some u) (hu : Try.prog.underlying u = some (.int .i64)) (h : DataW.trod enc Try.prog w base spare held fuel t cs = some x) :
    ∃ z, cs[i]? = some (.int .i64 z) := by
  obtain ⟨c, n, y, hc, hy, _⟩ := leaf_of d t cs x fuel i u hl h
  obtain ⟨a, e, _⟩ := DataW.trod_int hu hy
  cases e
  exact ⟨a, hc⟩
theorem leaf_bool {H : Type} {enc : TypeId × Value → H} {w : World} {base : Nat} {spare : Nat → Bool} {held : Bool} {d : Nat} {t u : TypeId} {cs : List Value} {x : DataW H × List MemPlace} {fuel : Nat} (i : Nat) (hl : leafT Try.prog d t i = some u) (hu : Try.prog.underlying u = some .bool) (h : DataW.trod enc Try.prog w base spare held fuel t cs = some x) :
    ∃ z, cs[i]? = some (.bool z) := by
  obtain ⟨c, n, y, hc, hy, _⟩ := leaf_of d t cs x fuel i u hl h
  obtain ⟨a, e, _⟩ := DataW.trod_bool hu hy
  cases e
  exact ⟨a, hc⟩
/-- a slice in a struct: what it reads. -/
theorem leaf_slice {H : Type} {enc : TypeId × Value → H} {w : World} {base : Nat} {spare : Nat → Bool} {held : Bool} {d : Nat} {t u e : TypeId} {cs : List Value} {x : DataW H × List MemPlace} {fuel : Nat} (i : Nat) (hl : leafT Try.prog d t i = some u) (hu : Try.prog.underlying u = some (.slice e)) (h : DataW.trod enc Try.prog w base spare held fuel t cs = some x) :
    ∃ A n c dd p, cs[i]? = some (.slice A n c) ∧ DataW.Trod enc Try.prog w base spare held u (.slice A n c) dd p ∧ Rows.uptoBulk dd ≤ Rows.uptoBulk x.1 := by
  obtain ⟨c, n, y, hc, hy, hb⟩ := leaf_of d t cs x fuel i u hl h
  have hsl : ∃ A m c', c = .slice A m c' := by rcases DataW.trod_slice hu hy with ⟨e, _⟩ | ⟨_, _, _, _, _, _, _, e, _⟩ <;> (cases e; exact ⟨_, _, _, rfl⟩)
  obtain ⟨A, m, c', rfl⟩ := hsl
  exact ⟨A, m, c', y.1, y.2, hc, ⟨n, by simpa [Value.cells] using hy⟩, hb⟩
/-- how many cells a value of a struct's type has. -/
theorem trod_cells {H : Type} {enc : TypeId × Value → H} {w : World} {base : Nat} {spare : Nat → Bool} {held : Bool} {r : Reach} {b0 : Nat} {t : TypeId} {fs : Array Field} {v : Value} {d : DataW H} {p : List MemPlace} (n : Nat) (hu : Try.prog.underlying t = some (.struct fs)) (hn : Try.prog.cellsOf t = n)
    (hv : Value.okWide Try.prog w r b0 t v) (h : DataW.Trod enc Try.prog w base spare held t v d p) : ∃ cs : List Value, v = .agg cs.toArray ∧ cs.length = n ∧ ∃ fuel, DataW.trod enc Try.prog w base spare held fuel t cs = some (d, p) := by
  obtain ⟨cs, rfl, hsz⟩ := okWide_struct hu hv
  obtain ⟨fuel, hf⟩ := h
  exact ⟨cs.toList, by simp, by simp; omega, fuel, by simpa [Value.cells] using hf⟩
theorem small_part {H : Type} {rest : List (DataW H)} {d dd : DataW H} (hk : Rows.uptoSmall H rest = true) (hd : d ∈ rest) (h : Rows.uptoBulk dd ≤ Rows.uptoBulk d) : Rows.uptoBulk dd ≤ 1048576 := by
  have h5 := bulk_small hk
  have h6 := bulk_part hd
  omega
/-- a slice of spans, its length bounded. -/
theorem spans_small {H : Type} {enc : TypeId × Value → H} {W : World} {spare : Nat → Bool} {held : Bool} {A : Option Addr} {n c : Nat} {d : DataW H} {p : List MemPlace} (h : DataW.Trod enc Try.prog W 0 spare held 43 (.slice A n c) d p) (hb : Rows.uptoBulk d ≤ 1048576) :
    ∃ l : List Sp, l.length = n ∧ SlO W [] A n c (spC.cells l) ∧ n ≤ 1048576 := by
  obtain ⟨l, h3 | h3⟩ := open_spans h
  · obtain ⟨hl, hS, es, ss, he, hel⟩ := h3
    subst he
    have := bulk_slice es ss
    exact ⟨l, hl, hS, by omega⟩
  · obtain ⟨hl, rfl, hS⟩ := h3
    subst hl
    exact ⟨[], rfl, hS, by omega⟩
end Go.Proofs.Ytdnngagahhleiaa
