/- Plain law of sets of spans: what a merged list holds; lists with gaps are told by what they hold. -/
import Derived.Test.YtdnngagahhleiaaC4
namespace Go.Proofs.Ytdnngagahhleiaa
set_option linter.unusedVariables false
set_option linter.unusedSimpArgs false
def mem (l : List Sp) (x : Int) : Prop := ∃ s ∈ l, s.1 ≤ x ∧ x < s.2
theorem mem_nil (x : Int) : mem [] x ↔ False := by simp [mem]
theorem mem_cons (s : Sp) (l : List Sp) (x : Int) : mem (s :: l) x ↔ (s.1 ≤ x ∧ x < s.2) ∨ mem l x := by simp [mem]
/-- sorted, with gaps, behind p. -/
def Cn : Int → List Sp → Prop
  | _, [] => True
  | p, s :: r => p < s.1 ∧ s.1 < s.2 ∧ Cn s.2 r
/-- sorted by their starts, from p on. -/
def SL : Int → List Sp → Prop
  | _, [] => True
  | p, s :: r => p ≤ s.1 ∧ s.1 < s.2 ∧ SL s.1 r
theorem SL.le {p p' : Int} (h : p' ≤ p) : ∀ {l : List Sp}, SL p l → SL p' l
  | [], _ => trivial
  | s :: r, hs => ⟨Int.le_trans h hs.1, hs.2⟩
theorem Cn.le {p p' : Int} (h : p' ≤ p) : ∀ {l : List Sp}, Cn p l → Cn p' l
  | [], _ => trivial
  | s :: r, hs => ⟨by have := hs.1; omega, hs.2⟩
theorem Cn.sl : ∀ {l : List Sp} {p : Int}, Cn p l → SL p l
  | [], _, _ => trivial
  | s :: r, p, h => ⟨by have := h.1; omega, h.2.1, (Cn.sl h.2.2).le (by have := h.2.1; omega)⟩
theorem SL.mem_ge : ∀ {l : List Sp} {p x : Int}, SL p l → mem l x → p ≤ x
  | [], _, _, _, hm => by simp [mem] at hm
  | s :: r, p, x, h, hm => by
    rcases (mem_cons s r x).1 hm with h1 | h1
    · have := h.1; omega
    · have := h.1
      have := SL.mem_ge h.2.2 h1
      omega
theorem Cn.mem_gt : ∀ {l : List Sp} {p x : Int}, Cn p l → mem l x → p < x
  | [], _, _, _, hm => by simp [mem] at hm
  | s :: r, p, x, h, hm => by
    rcases (mem_cons s r x).1 hm with h1 | h1
    · have := h.1; omega
    · have := h.1
      have := h.2.1
      have := Cn.mem_gt h.2.2 h1
      omega
/-- two lists with gaps that hold the same are one. -/
theorem Cn.ext : ∀ {a b : List Sp} {p q : Int}, Cn p a → Cn q b → (∀ x, mem a x ↔ mem b x) → a = b
  | [], [], _, _, _, _, _ => rfl
  | [], t :: u, p, q, ha, hb, h => by
    have := (h t.1).2 ((mem_cons t u t.1).2 (.inl ⟨Int.le_refl _, hb.2.1⟩))
    simp [mem] at this
  | s :: r, [], p, q, ha, hb, h => by
    have := (h s.1).1 ((mem_cons s r s.1).2 (.inl ⟨Int.le_refl _, ha.2.1⟩))
    simp [mem] at this
  | s :: r, t :: u, p, q, ha, hb, h => by
    have hs := ha.2.1
    have ht := hb.2.1
    have e1 : s.1 = t.1 := by
      have h1 := (h s.1).1 ((mem_cons s r s.1).2 (.inl ⟨Int.le_refl _, hs⟩))
      have h2 := (h t.1).2 ((mem_cons t u t.1).2 (.inl ⟨Int.le_refl _, ht⟩))
      have h3 : t.1 ≤ s.1 := by
        rcases (mem_cons t u s.1).1 h1 with h4 | h4
        · exact h4.1
        · have := Cn.mem_gt hb.2.2 h4; omega
      have h4 : s.1 ≤ t.1 := by
        rcases (mem_cons s r t.1).1 h2 with h4 | h4
        · exact h4.1
        · have := Cn.mem_gt ha.2.2 h4; omega
      omega
    have e2 : s.2 = t.2 := by
      rcases Int.lt_trichotomy s.2 t.2 with h1 | h1 | h1
      · exfalso
        have h2 := (h s.2).2 ((mem_cons t u s.2).2 (.inl ⟨by omega, h1⟩))
        rcases (mem_cons s r s.2).1 h2 with h4 | h4
        · omega
        · have := Cn.mem_gt ha.2.2 h4; omega
      · exact h1
      · exfalso
        have h2 := (h t.2).1 ((mem_cons s r t.2).2 (.inl ⟨by omega, h1⟩))
        rcases (mem_cons t u t.2).1 h2 with h4 | h4
        · omega
        · have := Cn.mem_gt hb.2.2 h4; omega
    have e3 : s = t := Prod.ext e1 e2
    subst e3
    congr 1
    refine Cn.ext ha.2.2 hb.2.2 fun x => ⟨fun hx => ?_, fun hx => ?_⟩
    · have h1 := Cn.mem_gt ha.2.2 hx
      rcases (mem_cons s u x).1 ((h x).1 ((mem_cons s r x).2 (.inr hx))) with h4 | h4
      · omega
      · exact h4
    · have h1 := Cn.mem_gt hb.2.2 hx
      rcases (mem_cons s r x).1 ((h x).2 ((mem_cons s u x).2 (.inr hx))) with h4 | h4
      · omega
      · exact h4
/-! ### merged, with the last span beside -/
def mg2 : Nat → List Sp → List Sp → Sp → List Sp
  | 0, _, _, q => [q]
  | n + 1, a, b, q => if (pk a b).1.1 ≤ q.2 then mg2 n (pk a b).2.1 (pk a b).2.2 (q.1, max q.2 (pk a b).1.2) else q :: mg2 n (pk a b).2.1 (pk a b).2.2 (pk a b).1
theorem gp_last (o : List Sp) (q : Sp) : gp (o ++ [q]) o.length = q := by simp [gp]
theorem put_last (o : List Sp) (q s : Sp) : put (o ++ [q]) s = if s.1 ≤ q.2 then o ++ [(q.1, max q.2 s.2)] else (o ++ [q]) ++ [s] := by
  unfold put
  have e : (o ++ [q]).length - 1 = o.length := by simp
  rw [e, gp_last]
  by_cases h : s.1 ≤ q.2
  · rw [if_pos ⟨by simp, h⟩, if_pos h, List.set_append_right _ _ (Nat.le_refl _)]; simp
  · rw [if_neg (fun h2 => h h2.2), if_neg h]
theorem mg_mg2 : ∀ (n : Nat) (a b o : List Sp) (q : Sp), mg n a b (o ++ [q]) = o ++ mg2 n a b q
  | 0, a, b, o, q => rfl
  | n + 1, a, b, o, q => by
    rw [mg, mg2, put_last]
    split
    · exact mg_mg2 n _ _ o _
    · rw [mg_mg2 n _ _ (o ++ [q]) _]; simp
theorem pk_spec {a b : List Sp} {p : Int} (h : 0 < a.length + b.length) (ha : SL p a) (hb : SL p b) : p ≤ (pk a b).1.1 ∧ (pk a b).1.1 < (pk a b).1.2 ∧ SL (pk a b).1.1 (pk a b).2.1 ∧ SL (pk a b).1.1 (pk a b).2.2 ∧
    (pk a b).2.1.length + (pk a b).2.2.length + 1 = a.length + b.length ∧ (∀ x, (mem a x ∨ mem b x) ↔ (((pk a b).1.1 ≤ x ∧ x < (pk a b).1.2) ∨ mem (pk a b).2.1 x ∨ mem (pk a b).2.2 x)) := by
  rcases a with _ | ⟨s, a⟩ <;> rcases b with _ | ⟨t, b⟩
  · simp at h
  · exact ⟨hb.1, hb.2.1, trivial, hb.2.2, by simp [pk], fun x => by simp [pk, mem_cons, mem_nil]⟩
  · exact ⟨ha.1, ha.2.1, ha.2.2, trivial, by simp [pk], fun x => by simp [pk, mem_cons, mem_nil]⟩
  · by_cases hst : s.1 ≤ t.1
    · simp only [pk, if_pos hst]
      exact ⟨ha.1, ha.2.1, ha.2.2, ⟨hst, hb.2⟩, by simp; omega, fun x => by simp only [mem_cons]; exact or_assoc⟩
    · simp only [pk, if_neg hst]
      refine ⟨hb.1, hb.2.1, ⟨by omega, ha.2⟩, hb.2.2, by simp; omega, fun x => ?_⟩
      simp only [mem_cons]
      constructor
      · rintro ((h | h) | (h | h))
        · exact .inr (.inl (.inl h))
        · exact .inr (.inl (.inr h))
        · exact .inl h
        · exact .inr (.inr h)
      · rintro (h | (h | h) | h)
        · exact .inr (.inl h)
        · exact .inl (.inl h)
        · exact .inl (.inr h)
        · exact .inr (.inr h)
theorem mg2_spec : ∀ (n : Nat) (a b : List Sp) (q : Sp) (p : Int), n = a.length + b.length → SL q.1 a → SL q.1 b → q.1 < q.2 → p < q.1 → Cn p (mg2 n a b q) ∧ ∀ x, mem (mg2 n a b q) x ↔ (q.1 ≤ x ∧ x < q.2) ∨ mem a x ∨ mem b x
  | 0, a, b, q, p, hn, ha, hb, hq, hp => by
    have h1 : a = [] := List.eq_nil_of_length_eq_zero (by omega)
    have h2 : b = [] := List.eq_nil_of_length_eq_zero (by omega)
    subst h1 h2
    exact ⟨⟨hp, hq, trivial⟩, fun x => by simp [mg2, mem_cons, mem_nil]⟩
  | n + 1, a, b, q, p, hn, ha, hb, hq, hp => by
    obtain ⟨h1, h2, h3, h4, h5, h6⟩ := pk_spec (by omega) ha hb
    rw [mg2]
    by_cases hs : (pk a b).1.1 ≤ q.2
    · rw [if_pos hs]
      obtain ⟨h7, h8⟩ := mg2_spec n (pk a b).2.1 (pk a b).2.2 (q.1, max q.2 (pk a b).1.2) p (by omega) (h3.le h1) (h4.le h1) (by dsimp only; omega) hp
      refine ⟨h7, fun x => ?_⟩
      rw [h8 x, h6 x]
      dsimp only
      constructor
      · rintro (h | h)
        · by_cases hx : x < q.2
          · exact .inl ⟨h.1, hx⟩
          · exact .inr (.inl ⟨by omega, by omega⟩)
        · exact .inr (.inr h)
      · rintro (h | h | h)
        · exact .inl ⟨h.1, by omega⟩
        · exact .inl ⟨by omega, by omega⟩
        · exact .inr h
    · rw [if_neg hs]
      obtain ⟨h7, h8⟩ := mg2_spec n (pk a b).2.1 (pk a b).2.2 (pk a b).1 q.2 (by omega) h3 h4 h2 (by omega)
      refine ⟨⟨hp, hq, h7⟩, fun x => ?_⟩
      rw [mem_cons, h8 x, h6 x]
theorem merged_spec {a b : List Sp} {p : Int} (ha : SL p a) (hb : SL p b) : Cn (p - 1) (merged a b) ∧ ∀ x, mem (merged a b) x ↔ mem a x ∨ mem b x := by
  unfold merged
  rcases hn : a.length + b.length with _ | n
  · have h1 : a = [] := List.eq_nil_of_length_eq_zero (by omega)
    have h2 : b = [] := List.eq_nil_of_length_eq_zero (by omega)
    subst h1 h2
    exact ⟨trivial, fun x => by simp [mg, mem_nil]⟩
  · obtain ⟨h1, h2, h3, h4, h5, h6⟩ := pk_spec (by omega) ha hb
    rw [mg]
    have e : put [] (pk a b).1 = [] ++ [(pk a b).1] := by unfold put; simp
    rw [e, mg_mg2, List.nil_append]
    obtain ⟨h7, h8⟩ := mg2_spec n (pk a b).2.1 (pk a b).2.2 (pk a b).1 (p - 1) (by omega) h3 h4 h2 (by omega)
    exact ⟨h7, fun x => by rw [h8 x, h6 x]⟩
theorem Right.cn_aux {l : List Sp} (h : Right l) : ∀ (n i : Nat), l.length - i = n → ∀ p, (i < l.length → p < (gp l i).1) → Cn p (l.drop i)
  | 0, i, hn, p, _ => by rw [List.drop_eq_nil_of_le (by omega)]; trivial
  | n + 1, i, hn, p, hp => by
    have hi : i < l.length := by omega
    have hm := (h.2 i hi).1
    rw [List.drop_eq_getElem_cons hi, gp_eq hi]
    simp only [mayB, decide_eq_true_eq] at hm
    exact ⟨hp hi, hm.2.1, Right.cn_aux h n (i + 1) (by omega) _ fun h1 => by have := (h.2 (i + 1) h1).2 (by omega); simpa using this⟩
theorem Right.cn {l : List Sp} (h : Right l) : Cn (-1) l := by
  have := Right.cn_aux h l.length 0 (by omega) (-1) fun hi => by have := (h.2 0 hi).1; simp only [mayB, decide_eq_true_eq] at this; omega
  simpa using this
theorem merged_comm {a b : List Sp} (ha : Right a) (hb : Right b) : merged a b = merged b a := by
  obtain ⟨h1, h2⟩ := merged_spec ha.cn.sl hb.cn.sl
  obtain ⟨h3, h4⟩ := merged_spec hb.cn.sl ha.cn.sl
  exact Cn.ext h1 h3 fun x => by rw [h2, h4]; exact or_comm
theorem uni_comm (a b : List Sp) : uni a b = uni b a := by
  unfold uni
  by_cases h : Right a ∧ Right b
  · simp only [h.1, h.2, and_self, if_true, merged_comm h.1 h.2]
  · rw [if_neg h, if_neg fun h2 => h ⟨h2.2, h2.1⟩]
end Go.Proofs.Ytdnngagahhleiaa
