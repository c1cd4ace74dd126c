/- Plain law: how gaps are cut again. -/
import Derived.Test.YtdnngagahhleiaaL5
import Derived.Test.YtdnngagahhleiaaC2
namespace Go.Proofs.Ytdnngagahhleiaa
set_option linter.unusedVariables false
set_option linter.unusedSimpArgs false
/-- the pieces of a gap. -/
def ag (s : Ses) (p : Prc) (ck rp : Int) (last : Bool) : Nat → Int → Int → List Pce
  | 0, _, _ => []
  | f + 1, at', to =>
    if to ≤ at' then [] else
    if last = true ∧ to - at' ≤ roomC s p at' ck rp then ⟨endsT p to, at', to, ck, rp⟩ :: ag s p ck rp last f to to
    else ⟨0, at', at' + min (roomP s p at') (to - at' - (if last = true then 1 else 0)), 0, 0⟩ :: ag s p ck rp last f (at' + min (roomP s p at') (to - at' - (if last = true then 1 else 0))) to
/-- of the first so many gaps. -/
def agN (s : Ses) (p : Prc) (ck rp : Int) (l : List Sp) : Nat → List Pce
  | 0 => []
  | i + 1 => agN s p ck rp l i ++ ag s p ck rp (decide (i + 1 = l.length)) ((gp l i).2 - (gp l i).1).toNat (gp l i).1 (gp l i).2
def agBad (p : Prc) (l : List Sp) : Prop := prcB p = false ∨ l.length = 0 ∨ ¬ Right l ∨ p.red < (gp l (l.length - 1)).2
instance (p : Prc) (l : List Sp) : Decidable (agBad p l) := by unfold agBad; infer_instance
def again (s : Ses) (p : Prc) (l : List Sp) (ck rp : Int) : List Pce × Int :=
  if 2000 < l.length then ([], 2) else if sesB s = false then ([], 1) else if agBad p l then ([], 40) else
  if ck < 1 ∨ 4611686018427387903 < ck ∨ rp < 0 ∨ 4611686018427387903 < rp then ([], 1) else (agN s p ck rp l l.length, 0)
theorem ag_nil {s : Ses} {p : Prc} {ck rp : Int} {last : Bool} {f : Nat} {at' to : Int} (h : to ≤ at') : ag s p ck rp last f at' to = [] := by cases f <;> simp [ag, h]
theorem okAt_iff {l : List Sp} {j : Nat} : okAt l j ↔ (0 ≤ (gp l j).1 ∧ (gp l j).1 < (gp l j).2 ∧ (gp l j).2 ≤ 4611686018427387903) ∧ (0 < j → (gp l (j - 1)).2 < (gp l j).1) := by
  unfold okAt mayB; simp
/-- what is cut lies within the red part. -/
theorem Right.bound {l : List Sp} (h : Right l) : ∀ (k j : Nat), j + k = l.length - 1 → j < l.length → 0 ≤ (gp l j).1 ∧ (gp l j).1 < (gp l j).2 ∧ (gp l j).2 ≤ (gp l (l.length - 1)).2
  | 0, j, hk, hj => by
    have h1 := okAt_iff.1 (h.2 j hj)
    obtain rfl : j = l.length - 1 := by omega
    exact ⟨h1.1.1, h1.1.2.1, Int.le_refl _⟩
  | k + 1, j, hk, hj => by
    have h1 := okAt_iff.1 (h.2 j hj)
    have h2 := h.bound k (j + 1) (by omega) (by omega)
    have h3 := (okAt_iff.1 (h.2 (j + 1) (by omega))).2 (by omega)
    rw [show j + 1 - 1 = j from rfl] at h3
    exact ⟨h1.1.1, h1.1.2.1, by omega⟩
theorem ag_len (s : Ses) (p : Prc) (ck rp : Int) (last : Bool) : ∀ (f : Nat) (at' to : Int), (ag s p ck rp last f at' to).length ≤ f
  | 0, _, _ => Nat.le_refl _
  | f + 1, at', to => by
    rw [ag]
    split
    · simp
    · split <;> (simp only [List.length_cons]; exact Nat.succ_le_succ (ag_len s p ck rp last f _ _))
theorem agN_len (s : Ses) (p : Prc) (ck rp : Int) (l : List Sp) (hl : Right l) (hb : (gp l (l.length - 1)).2 ≤ 65536) : ∀ i, i ≤ l.length → ((agN s p ck rp l i).length : Int) ≤ if i = 0 then 0 else (gp l (i - 1)).2
  | 0, _ => by simp [agN]
  | i + 1, hi => by
    have h1 := agN_len s p ck rp l hl hb i (by omega)
    have h2 := ag_len s p ck rp (decide (i + 1 = l.length)) ((gp l i).2 - (gp l i).1).toNat (gp l i).1 (gp l i).2
    have h3 := okAt_iff.1 (hl.2 i (by omega))
    simp only [agN, List.length_append, Nat.add_sub_cancel]
    rw [if_neg (by omega)]
    split at h1
    · omega
    · have := h3.2 (by omega); omega
theorem again_len (s : Ses) (p : Prc) (l : List Sp) (ck rp : Int) : (again s p l ck rp).1.length ≤ 65536 := by
  unfold again
  split
  · simp
  split
  · simp
  split
  · simp
  split
  · simp
  rename_i h _
  unfold agBad at h
  have h1 : prcB p = true := by by_cases h2 : prcB p = true; exact h2; exact absurd (.inl (by simpa using h2)) h
  have h3 : Right l := by by_cases h2 : Right l; exact h2; exact absurd (.inr (.inr (.inl h2))) h
  have h4 : (gp l (l.length - 1)).2 ≤ p.red := by by_cases h2 : p.red < (gp l (l.length - 1)).2; exact absurd (.inr (.inr (.inr h2))) h; omega
  have h5 : l.length ≠ 0 := fun h2 => h (.inr (.inl h2))
  simp only [prcB, decide_eq_true_eq] at h1
  have h6 := agN_len s p ck rp l h3 (by omega) l.length (Nat.le_refl _)
  rw [if_neg h5] at h6
  dsimp only
  omega
end Go.Proofs.Ytdnngagahhleiaa
