/- blocks: a buffer: Put. -/
import Derived.Test.YtdnngagahhleiaaB4
namespace Go.Proofs.Ytdnngagahhleiaa
open Go.Sx
attribute [local irreducible] W WL WP Hv Yl WQ At QP QF Rnd
set_option maxRecDepth 10000
set_option linter.unusedVariables false
set_option linter.unusedSimpArgs false
def memB (l : List Sp) (x : Int) : Bool := l.any fun s => decide (s.1 ≤ x ∧ x < s.2)
theorem memB_iff (l : List Sp) (x : Int) : memB l x = true ↔ mem l x := by simp [memB, mem]
def mixL (cm : List Sp) (bs data : List Int) (at' : Int) : List Int := (List.range data.length).map fun j : Nat => if memB cm (at' + j) = true then bz bs (at' + j).toNat else bz data j
def lastT (l : List Sp) : Nat := (gp l (l.length - 1)).2.toNat
def newB (cm' cm : List Sp) (bs data : List Int) (at' : Int) : List Int := (List.range (max bs.length (lastT cm'))).map fun j : Nat =>
  if at' ≤ j ∧ (j : Int) < at' + data.length then (if memB cm j = true then bz bs j else bz data ((j : Int) - at').toNat) else bz bs j
def putF (B : Bf) (at' : Int) (data : List Int) : Bf × Int × Int × Int :=
  if (lookF B at' data).2.2.2 ≠ 0 then (B, 0, 0, (lookF B at' data).2.2.2) else
  (⟨(lookF B at' data).1, if B.dr = true then B.bytes else newB (lookF B at' data).1 B.came B.bytes data at', B.dr⟩, (lookF B at' data).2.1, (lookF B at' data).2.2.1, 0)
/-- what a look that is well says. -/
theorem look_ok {B : Bf} {at' : Int} {data : List Int} (hB : WB B) (h : (lookF B at' data).2.2.2 = 0) :
    0 < data.length ∧ 0 ≤ at' ∧ at' + data.length ≤ 65536 ∧ (lookF B at' data).1 = merged B.came [(at', at' + data.length)] ∧ Right (lookF B at' data).1 ∧ mayB (at', at' + data.length) = true := by
  unfold lookF at h ⊢
  by_cases h1 : 65536 < data.length
  · rw [if_pos h1] at h; simp at h
  by_cases h2 : data.length = 0 ∨ at' < 0 ∨ 65536 - (data.length : Int) < at'
  · rw [if_neg h1, if_pos h2] at h; simp at h
  have hmay : mayB (at', at' + data.length) = true := by simp [mayB]; omega
  have hm := merged_right hB.right (one_right hmay)
  by_cases h3 : (add B.came (at', at' + data.length)).2.2 ≠ 0
  · rw [if_neg h1, if_neg h2, if_pos h3] at h; simp at h
  rw [if_neg h1, if_neg h2, if_neg h3]
  have ha : add B.came (at', at' + data.length) = (merged B.came [(at', at' + data.length)], frs (pieces B.came (at', at' + data.length)), 0) ∧ (merged B.came [(at', at' + data.length)]).length ≤ 2000 := by
    unfold add at h3 ⊢
    rw [if_pos ⟨hB.right, hmay⟩] at h3 ⊢
    by_cases h4 : 2000 < (merged B.came [(at', at' + data.length)]).length
    · rw [if_pos h4] at h3; simp at h3
    · rw [if_neg h4]; exact ⟨rfl, by omega⟩
  rw [ha.1]
  exact ⟨by omega, by omega, by omega, rfl, hm ha.2, hmay⟩
theorem last_mem {l : List Sp} (hr : Right l) (h0 : 0 < l.length) : mem l ((gp l (l.length - 1)).2 - 1) ∧ 0 < (gp l (l.length - 1)).2 := by
  have h1 := (hr.2 (l.length - 1) (by omega)).1
  simp only [mayB, decide_eq_true_eq] at h1
  exact ⟨⟨gp l (l.length - 1), by rw [← gp_eq (by omega : l.length - 1 < l.length)]; exact List.getElem_mem _, by omega, by omega⟩, by omega⟩
theorem mem_last {l : List Sp} (hr : Right l) {x : Int} (hx : mem l x) : 0 < l.length ∧ x < (gp l (l.length - 1)).2 := by
  obtain ⟨s, hs, h1, h2⟩ := hx
  obtain ⟨j, hj, rfl⟩ := List.getElem_of_mem hs
  refine ⟨by omega, ?_⟩
  rw [gp_eq hj] at h2
  by_cases hjl : j = l.length - 1
  · subst hjl; exact h2
  · -- sorted
    have key : ∀ d i, i + d + 1 < l.length + 0 → (gp l i).2 < (gp l (i + d + 1)).2 := by
      intro d
      induction d with
      | zero =>
        intro i hi
        have a1 := (hr.2 (i + 1) (by omega)).2 (by omega)
        have a2 := (hr.2 (i + 1) (by omega)).1
        simp only [mayB, decide_eq_true_eq, Nat.add_sub_cancel] at a1 a2
        simp only [Nat.add_zero]; omega
      | succ d ih =>
        intro i hi
        have a0 := ih i (by omega)
        have a1 := (hr.2 (i + d + 1 + 1) (by omega)).2 (by omega)
        have a2 := (hr.2 (i + d + 1 + 1) (by omega)).1
        simp only [mayB, decide_eq_true_eq, Nat.add_sub_cancel] at a1 a2
        rw [show i + (d + 1) + 1 = i + d + 1 + 1 by omega]; omega
    have := key (l.length - 1 - j - 1) j (by omega)
    rw [show j + (l.length - 1 - j - 1) + 1 = l.length - 1 by omega] at this
    omega
theorem put_wb {B : Bf} {at' : Int} {data : List Int} (hB : WB B) (hd : B.dr = false) (h : (lookF B at' data).2.2.2 = 0) : lastT (lookF B at' data).1 ≤ 65536 ∧ 0 < (lookF B at' data).1.length ∧ (∀ x, mem (lookF B at' data).1 x → x < 65536 ∧ x < lastT (lookF B at' data).1) ∧ at' + data.length ≤ lastT (lookF B at' data).1 := by
  obtain ⟨a1, a2, a3, a4, a5, a6⟩ := look_ok hB h
  have hm : ∀ x, mem (lookF B at' data).1 x ↔ mem B.came x ∨ (at' ≤ x ∧ x < at' + data.length) := fun x => by
    rw [a4, merged_mem hB.right.sl (one_cn a6).sl0, one_mem]
  have h1 := (hm at').2 (.inr ⟨Int.le_refl _, by omega⟩)
  have h2 := mem_last a5 h1
  have h3 := last_mem a5 h2.1
  have h4 : ∀ x, mem (lookF B at' data).1 x → x < 65536 := fun x hx => by
    rcases (hm x).1 hx with h | h
    · exact hB.lt x h
    · omega
  have h5 := h4 _ h3.1
  have h6 := mem_last a5 ((hm (at' + data.length - 1)).2 (.inr ⟨by omega, by omega⟩))
  unfold lastT
  refine ⟨by omega, h2.1, fun x hx => ⟨h4 x hx, ?_⟩, by omega⟩
  have := mem_last a5 hx
  omega
theorem putF_wb {B : Bf} {at' : Int} {data : List Int} (hB : WB B) : WB (putF B at' data).1 := by
  unfold putF
  by_cases h : (lookF B at' data).2.2.2 = 0
  · rw [if_neg (by simpa using h)]
    obtain ⟨a1, a2, a3, a4, a5, a6⟩ := look_ok hB h
    have hm : ∀ x, mem (lookF B at' data).1 x ↔ mem B.came x ∨ (at' ≤ x ∧ x < at' + data.length) := fun x => by
      rw [a4, merged_mem hB.right.sl (one_cn a6).sl0, one_mem]
    refine ⟨a5, fun x hx => ?_, fun hd x hx => ?_, ?_⟩
    · rcases (hm x).1 hx with h | h
      · exact hB.lt x h
      · omega
    · dsimp only at hd hx ⊢
      obtain ⟨b1, b2, b3, b4⟩ := put_wb hB hd h
      have := (b3 x hx).2
      rw [if_neg (by simp [hd])]
      simp only [newB, List.length_map, List.length_range]
      omega
    · dsimp only
      have := hB.len
      cases hd : B.dr
      · obtain ⟨b1, b2, b3, b4⟩ := put_wb hB hd h
        rw [if_neg (by decide)]
        simp only [newB, List.length_map, List.length_range]
        omega
      · rw [if_pos rfl]; exact this
  · rw [if_pos h]; exact hB
end Go.Proofs.Ytdnngagahhleiaa
