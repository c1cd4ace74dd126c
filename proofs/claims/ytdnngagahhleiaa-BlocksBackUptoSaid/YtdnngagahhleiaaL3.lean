/- Plain law: how many bytes; what is covered. -/
import Derived.Test.YtdnngagahhleiaaL2
import Derived.Test.YtdnngagahhleiaaC11
namespace Go.Proofs.Ytdnngagahhleiaa
set_option linter.unusedVariables false
set_option linter.unusedSimpArgs false
theorem sumL_cons (s : Sp) (l : List Sp) : sumL (s :: l) = (s.2 - s.1) + sumL l := by simp [sumL]
theorem sumL_nil : sumL [] = 0 := rfl
theorem pk_sum {a b : List Sp} (h : 0 < a.length + b.length) : sumL a + sumL b = ((pk a b).1.2 - (pk a b).1.1) + sumL (pk a b).2.1 + sumL (pk a b).2.2 := by
  rcases a with _ | ⟨s, a⟩ <;> rcases b with _ | ⟨t, b⟩
  · simp at h
  · simp only [pk, sumL_cons, sumL_nil] <;> (try omega)
  · simp only [pk, sumL_cons, sumL_nil] <;> (try omega)
  · by_cases hst : s.1 ≤ t.1
    · simp only [pk, if_pos hst, sumL_cons]; (try omega)
    · simp only [pk, if_neg hst, sumL_cons]; (try omega)
theorem mg2_sum : ∀ (n : Nat) (a b : List Sp) (q : Sp), n = a.length + b.length → SL q.1 a → SL q.1 b → q.1 < q.2 → sumL (mg2 n a b q) ≤ (q.2 - q.1) + sumL a + sumL b
  | 0, a, b, q, hn, ha, hb, hq => by
    have h1 : a = [] := List.eq_nil_of_length_eq_zero (by omega)
    have h2 : b = [] := List.eq_nil_of_length_eq_zero (by omega)
    subst h1 h2
    rw [mg2, sumL_cons, sumL_nil]; omega
  | n + 1, a, b, q, hn, ha, hb, hq => by
    obtain ⟨h1, h2, h3, h4, h5, h6⟩ := pk_spec (by omega) ha hb
    have hs := pk_sum (a := a) (b := b) (by omega)
    rw [mg2]
    by_cases h : (pk a b).1.1 ≤ q.2
    · rw [if_pos h]
      have := mg2_sum n (pk a b).2.1 (pk a b).2.2 (q.1, max q.2 (pk a b).1.2) (by omega) (h3.le h1) (h4.le h1) (by dsimp only; omega)
      dsimp only at this
      omega
    · rw [if_neg h, sumL_cons]
      have := mg2_sum n (pk a b).2.1 (pk a b).2.2 (pk a b).1 (by omega) h3 h4 h2
      omega
theorem merged_sum {a b : List Sp} (ha : SL 0 a) (hb : SL 0 b) : sumL (merged a b) ≤ sumL a + sumL b := by
  unfold merged
  rcases hn : a.length + b.length with _ | n
  · have h1 : a = [] := List.eq_nil_of_length_eq_zero (by omega)
    have h2 : b = [] := List.eq_nil_of_length_eq_zero (by omega)
    subst h1 h2
    simp [mg, sumL]
  · obtain ⟨h1, h2, h3, h4, h5, h6⟩ := pk_spec (by omega) ha hb
    have hs := pk_sum (a := a) (b := b) (by omega)
    rw [mg]
    have e : put [] (pk a b).1 = [] ++ [(pk a b).1] := by unfold put; simp
    rw [e, mg_mg2, List.nil_append]
    have := mg2_sum n (pk a b).2.1 (pk a b).2.2 (pk a b).1 (by omega) h3 h4 h2
    omega
/-- where all is held, all pieces are in. -/
theorem wk_all (y : Int) : ∀ (l : List Sp) (p q : Int), Cn q l → (∀ z, p ≤ z → z < y → mem l z) → (wk y l p).all (·.2) = true
  | [], p, q, _, h => by
    rw [wk, wkEnd]
    split
    · rename_i hp
      have := h p (Int.le_refl _) hp
      simp [mem] at this
    · rfl
  | t :: r, p, q, hc, h => by
    rw [wk]
    by_cases h1 : t.2 ≤ p
    · rw [if_pos h1]
      refine wk_all y r p t.2 hc.2.2 fun z hz1 hz2 => ?_
      rcases (mem_cons t r z).1 (h z hz1 hz2) with h2 | h2
      · omega
      · exact h2
    rw [if_neg h1]
    have hno : p < y → t.1 ≤ p := fun hp => by
      rcases (mem_cons t r p).1 (h p (Int.le_refl _) hp) with h2 | h2
      · exact h2.1
      · have := Cn.mem_gt hc.2.2 h2; omega
    by_cases h2 : y ≤ t.1
    · rw [if_pos h2, wkEnd, if_neg (fun hp => by have := hno hp; omega)]; rfl
    rw [if_neg h2]
    have hr := wk_all y r (min t.2 y) t.2 hc.2.2 fun z hz1 hz2 => by
      rcases (mem_cons t r z).1 (h z (by omega) hz2) with h3 | h3
      · omega
      · exact h3
    rw [if_neg (fun hp => by have := hno (by omega); omega), List.nil_append, List.all_append, hr]
    split <;> rfl
theorem covers_of {x : List Sp} (hx : Right x) {s : Sp} (hs : mayB s = true) (h : ∀ z, s.1 ≤ z → z < s.2 → mem x z) : covers x s = true := by
  have ha : askedB s = true := by simp [mayB] at hs; simp [askedB]; omega
  unfold covers
  rw [ha, show decide (Right x) = true by simp [hx], show pieces x s = wk s.2 x s.1 from if_pos ⟨hx, ha⟩, wk_all s.2 x s.1 (-1) hx.cn h]; rfl
end Go.Proofs.Ytdnngagahhleiaa
