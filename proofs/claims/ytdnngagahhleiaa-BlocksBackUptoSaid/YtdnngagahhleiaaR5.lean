/- What the rows of this seat need: a slice of any kind of elements, each with what hangs on it. -/
import Derived.Test.YtdnngagahhleiaaR3
import Derived.Test.YtdnngagahhleiaaSxB
import Derived.Test.YtdnngagahhleiaaY1
namespace Go.Proofs.Ytdnngagahhleiaa
open Go.ChangeShapes Go.WideShapes Go.ChangeAt Go.RowKit Go.Joins Go.Deep
open Go.Sx (SlO RdO Old Cells Cod)
set_option linter.unusedVariables false
set_option linter.unusedSimpArgs false
set_option maxRecDepth 20000
theorem cells_el {W : World} {a : Addr} {α : Type} {c : Cod α} {l : List α} (hpos : 0 < c.sz) (h : ∀ i (hi : i < l.length), Cells W (a.add (i * c.sz)) (c.enc l[i])) : Cells W a (c.cells l) := fun j u hu => by
  have hj : j < l.length * c.sz := by
    have := (List.getElem?_eq_some_iff.1 hu).1
    rwa [Go.Sx.cells_length] at this
  have hi : j / c.sz < l.length := Nat.div_lt_of_lt_mul (by rw [Nat.mul_comm]; exact hj)
  have hm : j % c.sz < c.sz := Nat.mod_lt _ hpos
  have e := Go.Sx.cells_get c (xs := l) hi hm
  have hq : j / c.sz * c.sz + j % c.sz = j := by rw [Nat.mul_comm]; exact Nat.div_add_mod j c.sz
  rw [hq, hu] at e
  have := h _ hi (j % c.sz) u e.symm
  rwa [Go.Sx.add_add, hq] at this
/-- A SLICE: its elements, each with what is known of it. -/
theorem open_list {H : Type} {enc : TypeId × Value → H} {W : World} {spare : Nat → Bool} {held : Bool} {α : Type} (c : Cod α) {t e : TypeId} (ht : Try.prog.underlying t = some (.slice e)) (hsz : Try.prog.cellsOf e = c.sz) (hpos : 0 < c.sz) (Q : α → Prop) {d : DataW H} {p : List MemPlace} {A : Option Addr} {n cp : Nat}
    (hel : ∀ (fuel : Nat) (cs : List Value) (x : DataW H × List MemPlace), DataW.trod enc Try.prog W 0 spare held fuel e cs = some x → Rows.uptoBulk x.1 ≤ Rows.uptoBulk d → ∃ a : α, cs = c.enc a ∧ Q a)
    (h : DataW.Trod enc Try.prog W 0 spare held t (.slice A n cp) d p) : ∃ l : List α, l.length = n ∧ SlO W [] A n cp (c.cells l) ∧ n ≤ Rows.uptoBulk d ∧ ∀ a ∈ l, Q a := by
  obtain ⟨fuel, hf⟩ := h
  rcases DataW.trod_slice ht hf with ⟨hcs, hx⟩ | ⟨a, len, cap, elems, rest, m, _, hcs, hx, hb, hlc, hcm, hel1, hget, _⟩
  · simp [Value.cells] at hcs
    obtain ⟨rfl, rfl, rfl⟩ := hcs
    exact ⟨[], rfl, ⟨fun h => absurd rfl h, fun _ => ⟨rfl, rfl⟩, Nat.le_refl _, by omega⟩, Nat.zero_le _, fun a ha => by cases ha⟩
  · simp [Value.cells] at hcs
    obtain ⟨rfl, rfl, rfl⟩ := hcs
    have hd : d = .slice (elems.map (·.1)) (rest.map (·.1)) := (Prod.ext_iff.1 hx).1
    have hbd : ∀ y ∈ elems, Rows.uptoBulk y.1 ≤ Rows.uptoBulk d := fun y hy => by
      rw [hd]
      simp only [Rows.uptoBulk]
      have := bulk_part (d := y.1) (l := elems.map (·.1)) (List.mem_map.2 ⟨y, hy, rfl⟩)
      omega
    have hv : ∀ i, i < n → ∃ q : α, Cells W (a.add (i * c.sz)) (c.enc q) ∧ Q q := fun i hi => by
      have h1 := hget i hi
      rw [List.getElem?_eq_getElem (by omega), hsz] at h1
      obtain ⟨cs, h2, h3⟩ := Option.bind_eq_some_iff.1 h1
      obtain ⟨q, h4, h5⟩ := hel m cs _ h3 (hbd _ (List.getElem_mem _))
      refine ⟨q, ?_, h5⟩
      obtain ⟨_, h6, h7⟩ := World.cells?_some h2
      intro j u hu
      rw [← h4] at hu
      have hj := (List.getElem?_eq_some_iff.1 hu).1
      rw [h7 j (by omega)]
      exact hu
    obtain ⟨f, hf'⟩ : ∃ f : Nat → Option α, ∀ i, i < n → ∃ q, f i = some q ∧ Cells W (a.add (i * c.sz)) (c.enc q) ∧ Q q := by
      refine ⟨fun i => if h : i < n then some (Classical.choose (hv i h)) else none, fun i h => ?_⟩
      simp only [h, dif_pos]
      exact ⟨_, rfl, Classical.choose_spec (hv i h)⟩
    have hl : ∀ k, k ≤ n → ∃ l : List α, l.length = k ∧ ∀ i (hi : i < l.length), f i = some l[i] := by
      intro k
      induction k with
      | zero => intro _; exact ⟨[], rfl, fun i hi => by simp at hi⟩
      | succ k ih =>
        intro hk
        obtain ⟨l, h1, h2⟩ := ih (by omega)
        obtain ⟨q, h3, _⟩ := hf' k (by omega)
        refine ⟨l ++ [q], by simp [h1], fun i hi => ?_⟩
        by_cases hil : i < l.length
        · rw [List.getElem_append_left hil]; exact h2 i hil
        · have : i = k := by simp at hi; omega
          subst this
          rw [h3]; simp [h1]
    obtain ⟨l, hln, hlf⟩ := hl n (Nat.le_refl _)
    have hC : Cells W a (c.cells l) := cells_el hpos fun i hi => by
      obtain ⟨q, h1, h2, _⟩ := hf' i (by omega)
      rw [hlf i hi] at h1
      cases h1
      exact h2
    refine ⟨l, hln, ⟨fun hne => ⟨a, rfl, hC, fun _ => hC.lt hne, by simp⟩, fun h => (by cases h), hlc, by unfold maxLen at hcm; omega⟩, ?_, fun q hq => ?_⟩
    · rw [hd]
      have := bulk_slice (elems.map (·.1)) (rest.map (·.1))
      simp at this
      omega
    · obtain ⟨i, hi, rfl⟩ := List.getElem_of_mem hq
      obtain ⟨q, h1, _, h3⟩ := hf' i (by omega)
      rw [hlf i hi] at h1
      cases h1
      exact h3
theorem open_bytes {H : Type} {enc : TypeId × Value → H} {W : World} {spare : Nat → Bool} {held : Bool} {A : Option Addr} {n c : Nat} {d : DataW H} {p : List MemPlace} (h : DataW.Trod enc Try.prog W 0 spare held 26 (.slice A n c) d p) :
    ∃ l : List Int, l.length = n ∧ SlO W [] A n c (byC.cells l) ∧ n ≤ Rows.uptoBulk d ∧ ∀ z ∈ l, 0 ≤ z ∧ z ≤ 255 :=
  open_list byC Try.underlying26 (by kernel_rfl) (by decide) (fun z => 0 ≤ z ∧ z ≤ 255) (fun fuel cs x hx _ => by
    obtain ⟨a, e0, e1, e2⟩ := DataW.trod_int (P := Try.prog) Try.underlying5 hx
    refine ⟨a, e0, ?_⟩
    simp [Lit.wf, IntKind.bits, IntKind.signed, IntKind.min, IntKind.max] at e2
    omega) h
end Go.Proofs.Ytdnngagahhleiaa
