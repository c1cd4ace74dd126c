/- What the rows of this seat need: a slice of spans, a span and a number as they come in; the bound on bulk. -/
import Derived.Test.YtdnngagahhleiaaRows
import Derived.Test.YtdnngagahhleiaaC5
import Derived.ProofKit
import Derived.OpenShut
import Derived.ShutString
import Derived.ChangeOld
import Derived.Below
import Derived.JoinedCond
import Derived.Deep.SlicePairs
import Derived.Lib.SmallJoins
import Derived.Carry
namespace Go.Proofs.Ytdnngagahhleiaa
open Go.ChangeShapes Go.WideShapes Go.ChangeAt Go.RowKit Go.Joins Go.Deep
open Go.Sx (SlO RdO Old Cells St Tr Sep fps)
set_option linter.unusedVariables false
set_option linter.unusedSimpArgs false
set_option maxRecDepth 20000
theorem own : ownKnob Try.prog.godebug = none := by kernel_rfl
theorem laidOut : laidOutB Try.prog = true := by kernel_rfl
theorem span_fs : ∃ f0 f1 : Field, Try.prog.underlying 61 = some (.struct #[f0, f1]) ∧ f0.offset = 0 ∧ f1.offset = 1 ∧ f0.type = 3 ∧ f1.type = 3 ∧ oneCellFields Try.prog #[f0, f1] = true := by
  have h : (match Try.prog.underlying 61 with | some (.struct fs) => oneCellFields Try.prog fs && decide (fs.toList.map (fun f => (f.offset, f.type)) = [(0, 3), (1, 3)]) | _ => false) = true := by kernel_rfl
  cases hu : Try.prog.underlying 61 with
  | none => simp [hu] at h
  | some d =>
    cases d <;> simp [hu] at h
    rename_i fs
    obtain ⟨fs⟩ := fs
    obtain ⟨h1, h2⟩ := h
    match fs, h2 with
    | [f0, f1], h2 =>
      simp at h2
      exact ⟨f0, f1, rfl, h2.1.1, h2.2.1, h2.1.2, h2.2.2, h1⟩
theorem int_cell {H : Type} {enc : TypeId × Value → H} {w : World} {base : Nat} {spare : Nat → Bool} {held : Bool} {n : Nat} {v : Value} {x : DataW H × List MemPlace} (h : DataW.trod enc Try.prog w base spare held n 3 [v] = some x) : ∃ z, v = .int .i64 z ∧ x = (.lit (.int .i64 z), []) := by
  obtain ⟨a, e0, e1, _⟩ := DataW.trod_int (P := Try.prog) int_und h
  simp at e0
  exact ⟨a, e0, e1⟩
/-- A SPAN BY VALUE. -/
theorem open_span {H : Type} {enc : TypeId × Value → H} {w : World} {base : Nat} {spare : Nat → Bool} {held : Bool} {r : Reach} {b0 : Nat} {v : Value} {d : DataW H} {p : List MemPlace} (hv : Value.okWide Try.prog w r b0 61 v)
    (h : DataW.Trod enc Try.prog w base spare held 61 v d p) : ∃ s : Sp, v = spV s := by
  obtain ⟨f0, f1, hs, _, _, t0, t1, hone⟩ := span_fs
  obtain ⟨c0, c1, y0, y1, m, rfl, _, _, hy0, hy1⟩ := open_agg2 hs hone (by kernel_rfl) hv h
  rw [t0] at hy0
  rw [t1] at hy1
  obtain ⟨x, rfl, _⟩ := int_cell hy0
  obtain ⟨y, rfl, _⟩ := int_cell hy1
  exact ⟨(x, y), rfl⟩
theorem cells_of {W : World} {a : Addr} {l : List Sp} (h : ∀ i (hi : i < l.length), W.cell? (a.add (i * 2)) = some (.int .i64 l[i].1) ∧ W.cell? (a.add (i * 2 + 1)) = some (.int .i64 l[i].2)) : Cells W a (spC.cells l) := fun j u hu => by
  have hj : j < l.length * 2 := by
    have := (List.getElem?_eq_some_iff.1 hu).1
    rwa [Go.Sx.cells_length] at this
  have hi : j / 2 < l.length := by omega
  obtain ⟨h0, h1⟩ := h (j / 2) hi
  have e := Go.Sx.cells_get spC (xs := l) (i := j / 2) (j := j % 2) hi (Nat.mod_lt _ (by decide))
  have hq : j / 2 * spC.sz + j % 2 = j := by show j / 2 * 2 + j % 2 = j; omega
  rw [hq, hu] at e
  rcases Nat.mod_two_eq_zero_or_one j with hm | hm
  · rw [hm] at e
    rw [show j = j / 2 * 2 by omega, h0]
    exact e.symm
  · rw [hm] at e
    rw [show j = j / 2 * 2 + 1 by omega, h1]
    exact e.symm
/-- A SLICE OF SPANS. -/
theorem open_spans {H : Type} {enc : TypeId × Value → H} {w : World} {spare : Nat → Bool} {held : Bool} {a0 : Option Addr} {len cap : Nat} {d : DataW H} {p : List MemPlace} (h : DataW.Trod enc Try.prog w 0 spare held 43 (.slice a0 len cap) d p) :
    ∃ l : List Sp, l.length = len ∧ SlO w [] a0 len cap (spC.cells l) ∧ (∃ es ss, d = .slice es ss ∧ es.length = len) ∨ (len = 0 ∧ l = [] ∧ SlO w [] a0 0 cap (spC.cells l)) := by
  obtain ⟨fuel, hf⟩ := h
  obtain ⟨f0, f1, hs, o0, o1, t0, t1, hone⟩ := span_fs
  rcases open_slice_pairs (by kernel_rfl : Try.prog.underlying 43 = some (.slice 61)) hs (by kernel_rfl) o0 o1 (by rw [t0]; kernel_rfl) (by rw [t1]; kernel_rfl) hf with ⟨hcs, hx⟩ | ⟨a, len', cap', m, n, V0, V1, D0, D1, P0, P1, hcs, _, hl, hm, hmm, hx, hi⟩
  · simp [Value.cells] at hcs
    obtain ⟨rfl, rfl, rfl⟩ := hcs
    exact ⟨[], .inr ⟨rfl, rfl, fun h => absurd rfl h, fun _ => ⟨rfl, rfl⟩, Nat.le_refl _, by omega⟩⟩
  · simp [Value.cells] at hcs
    obtain ⟨rfl, rfl, rfl⟩ := hcs
    have hlm : len ≤ m := by rw [hmm]; split <;> omega
    have hv : ∀ i, i < len → ∃ q : Sp, w.cell? (a.add (i * 2)) = some (.int .i64 q.1) ∧ w.cell? (a.add (i * 2 + 1)) = some (.int .i64 q.2) := fun i hi' => by
      obtain ⟨h0, h1, h2, h3⟩ := hi i (by omega)
      rw [t0] at h2
      rw [t1] at h3
      obtain ⟨x, hx, _⟩ := int_cell h2
      obtain ⟨y, hy, _⟩ := int_cell h3
      exact ⟨(x, y), by rw [h0, hx], by rw [h1, hy]⟩
    obtain ⟨f, hf'⟩ : ∃ f : Nat → Sp, ∀ i, i < len → w.cell? (a.add (i * 2)) = some (.int .i64 (f i).1) ∧ w.cell? (a.add (i * 2 + 1)) = some (.int .i64 (f i).2) := by
      refine ⟨fun i => if h : i < len then Classical.choose (hv i h) else (0, 0), fun i h => ?_⟩
      simp only [h, dif_pos]
      exact Classical.choose_spec (hv i h)
    have hC : Cells w a (spC.cells ((List.range len).map f)) := cells_of fun i hi' => by
      simp at hi'
      simpa using hf' i hi'
    refine ⟨(List.range len).map f, .inl ⟨by simp, ⟨fun hne => ⟨a, rfl, hC, fun _ => hC.lt hne, by simp⟩, fun h => (by cases h), hl, ?_⟩, _, _, (Prod.ext_iff.1 hx).1, by simp⟩⟩
    have := hm
    unfold maxLen at this
    omega
theorem bulk_one {H : Type} (d : DataW H) : 1 ≤ Rows.uptoBulk d := by
  cases d with
  | lit l => cases l <;> simp [Rows.uptoBulk]
  | nil => simp [Rows.uptoBulk]
  | ptr d => simp [Rows.uptoBulk]
  | slice elems spare => simp [Rows.uptoBulk]
  | agg parts => simp [Rows.uptoBulk]
  | iface t d => simp [Rows.uptoBulk]
  | map entries => simp [Rows.uptoBulk]
  | held h => simp [Rows.uptoBulk]
theorem bulk_len {H : Type} (l : List (DataW H)) : l.length ≤ Rows.uptoBulkAll l := by
  induction l with
  | nil => simp [Rows.uptoBulkAll]
  | cons x r ih => have := bulk_one x; simp only [Rows.uptoBulkAll, List.length_cons]; omega
theorem bulk_slice {H : Type} (es ss : List (DataW H)) : es.length ≤ Rows.uptoBulk (.slice es ss) := by
  have := bulk_len es
  simp only [Rows.uptoBulk]
  omega
theorem bulk_part {H : Type} {d : DataW H} {l : List (DataW H)} (h : d ∈ l) : Rows.uptoBulk d ≤ Rows.uptoBulkAll l := by
  induction l with
  | nil => cases h
  | cons x r ih =>
    simp only [Rows.uptoBulkAll]
    cases List.mem_cons.1 h with
    | inl e => subst e; omega
    | inr e => have := ih e; omega
theorem bulk_small {H : Type} {l : List (DataW H)} (hk : Rows.uptoSmall H l = true) : Rows.uptoBulkAll l ≤ 1048576 := by
  simpa [Rows.uptoSmall] using hk
/-- nothing that was there is turned. -/
theorem below_of {w w' : World} (h : St w (fps []) [] w') : Below w.heap.size w w' := ⟨h.os, h.tape, h.output, h.size, fun k hk => h.old k hk (by simp [fps])⟩
end Go.Proofs.Ytdnngagahhleiaa
