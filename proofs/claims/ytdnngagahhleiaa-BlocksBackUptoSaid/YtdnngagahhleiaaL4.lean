/- Plain law: what is within, what is missing: they part a span; how many bytes. -/
import Derived.Test.YtdnngagahhleiaaL3
import Derived.Test.YtdnngagahhleiaaC12
namespace Go.Proofs.Ytdnngagahhleiaa
set_option linter.unusedVariables false
set_option linter.unusedSimpArgs false
theorem sel_nil (b : Bool) : sel [] b = [] := rfl
theorem sel_cons (q : Pc) (L : List Pc) (b : Bool) : sel (q :: L) b = if q.2 = b then q.1 :: sel L b else sel L b := by
  unfold sel
  by_cases h : q.2 = b
  · simp [h]
  · simp [h]
theorem sel_append (L M : List Pc) (b : Bool) : sel (L ++ M) b = sel L b ++ sel M b := by simp [sel]
theorem sel_one (q : Pc) (b : Bool) : sel [q] b = if q.2 = b then [q.1] else [] := by rw [sel_cons, sel_nil]
/-- what wk gives, piece by piece. -/
theorem wk_sel (y : Int) : ∀ (l : List Sp) (p q : Int), Cn q l → p ≤ y →
    Cn (max (p - 1) q) (sel (wk y l p) true) ∧ Cn (p - 1) (sel (wk y l p) false) ∧ (sel (wk y l p) true).length ≤ l.length ∧ sumL (sel (wk y l p) true) + sumL (sel (wk y l p) false) = y - p ∧
    (∀ x, mem (sel (wk y l p) true) x ↔ (p ≤ x ∧ x < y) ∧ mem l x) ∧ (∀ x, mem (sel (wk y l p) false) x ↔ (p ≤ x ∧ x < y) ∧ ¬ mem l x)
  | [], p, q, _, hp => by
    rw [wk, wkEnd]
    by_cases h : p < y
    · rw [if_pos h]
      refine ⟨by simp [sel_one, Cn], ?_, by simp [sel_one], ?_, fun x => ?_, fun x => ?_⟩
      · simp only [sel_one, if_true]; exact ⟨by dsimp only; omega, h, trivial⟩
      · simp [sel_one, sumL_cons, sumL_nil]
      · simp [sel_one, mem_nil]
      · simp [sel_one, mem_nil, mem_cons]
    · rw [if_neg h]
      refine ⟨trivial, trivial, by simp [sel_nil], ?_, fun x => ?_, fun x => ?_⟩
      · simp [sel_nil, sumL_nil]; omega
      · simp [sel_nil, mem_nil]
      · simp [sel_nil, mem_nil]; omega
  | t :: r, p, q, hc, hp => by
    rw [wk]
    obtain ⟨c1, c2, c3⟩ := hc
    by_cases h1 : t.2 ≤ p
    · rw [if_pos h1]
      obtain ⟨i1, i2, i3, i4, i5, i6⟩ := wk_sel y r p t.2 c3 hp
      refine ⟨i1.le (by omega), i2, by simp only [List.length_cons]; omega, i4, fun x => ?_, fun x => ?_⟩
      · rw [i5, mem_cons]
        constructor
        · rintro ⟨h, h'⟩; exact ⟨h, .inr h'⟩
        · rintro ⟨h, h' | h'⟩
          · omega
          · exact ⟨h, h'⟩
      · rw [i6, mem_cons]
        constructor
        · rintro ⟨h, h'⟩; exact ⟨h, fun h2 => h2.elim (fun h3 => by omega) h'⟩
        · rintro ⟨h, h'⟩; exact ⟨h, fun h2 => h' (.inr h2)⟩
    rw [if_neg h1]
    by_cases h2 : y ≤ t.1
    · rw [if_pos h2, wkEnd]
      have hno : ∀ x, x < y → ¬ mem (t :: r) x := fun x hx hm => by
        have := Cn.mem_gt (p := t.1 - 1) (l := t :: r) ⟨by omega, c2, c3⟩ hm
        omega
      by_cases h : p < y
      · rw [if_pos h]
        refine ⟨by simp [sel_one, Cn], ?_, by simp [sel_one], ?_, fun x => ?_, fun x => ?_⟩
        · simp only [sel_one, if_true]; exact ⟨by dsimp only; omega, h, trivial⟩
        · simp [sel_one, sumL_cons, sumL_nil]
        · simp only [sel_one, mem_nil, Bool.false_eq_true, if_false, false_iff]; rintro ⟨h3, h4⟩; exact hno x h3.2 h4
        · simp only [sel_one, if_true, mem_nil, mem_cons, or_false]; exact ⟨fun h3 => ⟨h3, fun h4 => hno x h3.2 ((mem_cons t r x).2 h4)⟩, fun h3 => h3.1⟩
      · rw [if_neg h]
        refine ⟨trivial, trivial, by simp [sel_nil], ?_, fun x => ?_, fun x => ?_⟩
        · simp [sel_nil, sumL_nil]; omega
        · simp only [sel_nil, mem_nil, false_iff]; rintro ⟨h3, h4⟩; omega
        · simp only [sel_nil, mem_nil, false_iff]; rintro ⟨h3, h4⟩; omega
    rw [if_neg h2]
    obtain ⟨i1, i2, i3, i4, i5, i6⟩ := wk_sel y r (min t.2 y) t.2 c3 (by omega)
    have hlt : max p t.1 < min t.2 y ∨ p = y := by omega
    rcases hlt with hlt | hpy
    · rw [if_pos hlt]
      by_cases h3 : p < t.1
      · rw [if_pos h3]
        simp only [sel_append, sel_one, if_true, Bool.false_eq_true, if_false, List.nil_append, reduceCtorEq]
        refine ⟨⟨by dsimp only; omega, hlt, i1.le (by dsimp only; omega)⟩, ⟨by dsimp only; omega, h3, i2.le (by dsimp only; omega)⟩, by simp; omega, ?_, fun x => ?_, fun x => ?_⟩
        · simp only [List.cons_append, List.nil_append, sumL_cons]; omega
        · simp only [List.cons_append, List.nil_append, mem_cons, i5]
          constructor
          · rintro (h | ⟨h, h'⟩)
            · exact ⟨by omega, .inl (by omega)⟩
            · exact ⟨by omega, .inr h'⟩
          · rintro ⟨h, h' | h'⟩
            · exact .inl (by omega)
            · have := Cn.mem_gt c3 h'; exact .inr ⟨by omega, h'⟩
        · simp only [List.cons_append, List.nil_append, mem_cons, i6]
          constructor
          · rintro (h | ⟨h, h'⟩)
            · exact ⟨by omega, fun h4 => h4.elim (fun h5 => by omega) fun h5 => by have := Cn.mem_gt c3 h5; omega⟩
            · exact ⟨by omega, fun h4 => h4.elim (fun h5 => by omega) h'⟩
          · rintro ⟨h, h'⟩
            by_cases h4 : x < t.1
            · exact .inl ⟨h.1, h4⟩
            · exact .inr ⟨⟨by have : ¬ (t.1 ≤ x ∧ x < t.2) := fun h5 => h' (.inl h5); omega, h.2⟩, fun h5 => h' (.inr h5)⟩
      · rw [if_neg h3]
        simp only [sel_append, sel_one, if_true, Bool.false_eq_true, if_false, List.nil_append, reduceCtorEq]
        refine ⟨⟨by dsimp only; omega, hlt, i1.le (by dsimp only; omega)⟩, i2.le (by omega), by simp; omega, ?_, fun x => ?_, fun x => ?_⟩
        · simp only [List.cons_append, List.nil_append, sumL_cons]; omega
        · simp only [List.cons_append, List.nil_append, mem_cons, i5]
          constructor
          · rintro (h | ⟨h, h'⟩)
            · exact ⟨by omega, .inl (by omega)⟩
            · exact ⟨by omega, .inr h'⟩
          · rintro ⟨h, h' | h'⟩
            · exact .inl (by omega)
            · have := Cn.mem_gt c3 h'; exact .inr ⟨by omega, h'⟩
        · simp only [i6, mem_cons]
          constructor
          · rintro ⟨h, h'⟩
            exact ⟨by omega, fun h4 => h4.elim (fun h5 => by omega) h'⟩
          · rintro ⟨h, h'⟩
            exact ⟨⟨by have : ¬ (t.1 ≤ x ∧ x < t.2) := fun h5 => h' (.inl h5); omega, h.2⟩, fun h5 => h' (.inr h5)⟩
    · subst hpy
      rw [if_neg (by omega), if_neg (by omega)]
      simp only [List.nil_append, show min t.2 p = p by omega] at i1 i2 i3 i4 i5 i6 ⊢
      refine ⟨i1.le (by omega), i2.le (by omega), by simp only [List.length_cons]; omega, by omega, fun x => ?_, fun x => ?_⟩
      · rw [i5]; constructor <;> (rintro ⟨h, _⟩; omega)
      · rw [i6]; constructor <;> (rintro ⟨h, _⟩; omega)
section
variable {l : List Sp} {s : Sp}
theorem asked_le (ha : askedB s = true) : 0 ≤ s.1 ∧ s.1 ≤ s.2 ∧ s.2 ≤ 4611686018427387903 := by simpa [askedB] using ha
theorem pieces_is (hl : Right l) (ha : askedB s = true) : pieces l s = wk s.2 l s.1 := if_pos ⟨hl, ha⟩
theorem within_cn (hl : Right l) (ha : askedB s = true) : Cn (-1) (sel (pieces l s) true) := by
  have h := (wk_sel s.2 l s.1 (-1) hl.cn (asked_le ha).2.1).1
  have := asked_le ha
  rw [pieces_is hl ha]; exact h.le (by omega)
theorem gaps_cn (hl : Right l) (ha : askedB s = true) : Cn (-1) (sel (pieces l s) false) := by
  have h := (wk_sel s.2 l s.1 (-1) hl.cn (asked_le ha).2.1).2.1
  have := asked_le ha
  rw [pieces_is hl ha]; exact h.le (by omega)
theorem within_mem (hl : Right l) (ha : askedB s = true) (x : Int) : mem (sel (pieces l s) true) x ↔ (s.1 ≤ x ∧ x < s.2) ∧ mem l x := by
  rw [pieces_is hl ha]; exact (wk_sel s.2 l s.1 (-1) hl.cn (asked_le ha).2.1).2.2.2.2.1 x
theorem gaps_mem (hl : Right l) (ha : askedB s = true) (x : Int) : mem (sel (pieces l s) false) x ↔ (s.1 ≤ x ∧ x < s.2) ∧ ¬ mem l x := by
  rw [pieces_is hl ha]; exact (wk_sel s.2 l s.1 (-1) hl.cn (asked_le ha).2.1).2.2.2.2.2 x
theorem within_len (hl : Right l) (ha : askedB s = true) : (sel (pieces l s) true).length ≤ 2000 := by
  have h := (wk_sel s.2 l s.1 (-1) hl.cn (asked_le ha).2.1).2.2.1
  have := hl.1
  rw [pieces_is hl ha]; omega
theorem part_sum (hl : Right l) (ha : askedB s = true) : sumL (sel (pieces l s) true) + sumL (sel (pieces l s) false) = s.2 - s.1 := by
  rw [pieces_is hl ha]; exact (wk_sel s.2 l s.1 (-1) hl.cn (asked_le ha).2.1).2.2.2.1
theorem within_right (hl : Right l) (ha : askedB s = true) : Right (sel (pieces l s) true) :=
  (within_cn hl ha).right (within_len hl ha) fun x hx => by have := ((within_mem hl ha x).1 hx).1; have := asked_le ha; omega
theorem gaps_right (hl : Right l) (ha : askedB s = true) (hn : (sel (pieces l s) false).length ≤ 2000) : Right (sel (pieces l s) false) :=
  (gaps_cn hl ha).right hn fun x hx => by have := ((gaps_mem hl ha x).1 hx).1; have := asked_le ha; omega
theorem gat_true (hl : Right l) (ha : askedB s = true) : gat l s true = (sel (pieces l s) true, 0) := by
  unfold gat; rw [if_pos ⟨hl, ha⟩, if_neg (by have := within_len hl ha; omega)]
theorem gat_false (hl : Right l) (ha : askedB s = true) (hn : (sel (pieces l s) false).length ≤ 2000) : gat l s false = (sel (pieces l s) false, 0) := by
  unfold gat; rw [if_pos ⟨hl, ha⟩, if_neg (by omega)]
theorem gat_big (hl : Right l) (ha : askedB s = true) (hn : 2000 < (sel (pieces l s) false).length) : gat l s false = ([], 3) := by
  unfold gat; rw [if_pos ⟨hl, ha⟩, if_pos hn]
theorem all_sel (L : List Pc) : L.all (·.2) = decide ((sel L false).length = 0) := by
  induction L with
  | nil => rfl
  | cons q L ih =>
    rw [List.all_cons, sel_cons]
    cases hq : q.2
    · simp
    · simp [ih]
theorem covers_is (hl : Right l) (ha : askedB s = true) : covers l s = decide ((sel (pieces l s) false).length = 0) := by
  unfold covers; rw [ha, show decide (Right l) = true by simp [hl], all_sel]; rfl
theorem one_mem (s : Sp) (x : Int) : mem [s] x ↔ s.1 ≤ x ∧ x < s.2 := by simp [mem]
theorem one_cn (hs : mayB s = true) : Cn (-1) [s] := by
  simp only [mayB, decide_eq_true_eq] at hs
  exact ⟨by omega, by omega, trivial⟩
theorem may_asked (hs : mayB s = true) : askedB s = true := by simp [mayB] at hs; simp [askedB]; omega
/-- both together: the span. -/
theorem part_merged (hl : Right l) (ha : askedB s = true) : merged (sel (pieces l s) true) (sel (pieces l s) false) = if s.1 = s.2 then [] else [s] := by
  have h1 := within_cn hl ha
  have h2 := gaps_cn hl ha
  have hb := asked_le ha
  have hm : ∀ x, mem (merged (sel (pieces l s) true) (sel (pieces l s) false)) x ↔ s.1 ≤ x ∧ x < s.2 := fun x => by
    rw [merged_mem h1.sl0 h2.sl0, within_mem hl ha, gaps_mem hl ha]
    by_cases h : mem l x <;> simp [h]
  split
  · refine Cn.ext (p := -1) (q := -1) (merged_cn h1.sl0 h2.sl0) trivial fun x => ?_
    rw [hm, mem_nil]; constructor
    · intro h; omega
    · intro h; exact h.elim
  · refine Cn.ext (p := -1) (q := -1) (merged_cn h1.sl0 h2.sl0) (one_cn (by simp [mayB]; omega)) fun x => ?_
    rw [hm, one_mem]
theorem gaps_gaps (hl : Right l) (ha : askedB s = true) (hn : (sel (pieces l s) false).length ≤ 2000) : gat (sel (pieces l s) false) s false = (sel (pieces l s) true, 0) := by
  have hg := gaps_right hl ha hn
  have e : sel (pieces (sel (pieces l s) false) s) false = sel (pieces l s) true := by
    refine Cn.ext (gaps_cn hg ha) (within_cn hl ha) fun x => ?_
    rw [gaps_mem hg ha, gaps_mem hl ha, within_mem hl ha]
    by_cases h : mem l x <;> simp [h]
  rw [gat_false hg ha (by rw [e]; exact within_len hl ha), e]
end
/-- of what is apart, bytes are counted one by one. -/
theorem mg2_sum_eq : ∀ (n : Nat) (a b : List Sp) (q : Sp), n = a.length + b.length → SL q.1 a → SL q.1 b → q.1 < q.2 → Cn (-1) a → Cn (-1) b → (∀ x, mem a x → q.2 ≤ x) → (∀ x, mem b x → q.2 ≤ x) → (∀ x, mem a x → ¬ mem b x) →
    sumL (mg2 n a b q) = (q.2 - q.1) + sumL a + sumL b
  | 0, a, b, q, hn, ha, hb, hq, ca, cb, qa, qb, hd => by
    have h1 : a = [] := List.eq_nil_of_length_eq_zero (by omega)
    have h2 : b = [] := List.eq_nil_of_length_eq_zero (by omega)
    subst h1 h2
    rw [mg2, sumL_cons, sumL_nil]; omega
  | n + 1, a, b, q, hn, ha, hb, hq, ca, cb, qa, qb, hd => by
    obtain ⟨h1, h2, h3, h4, h5, h6⟩ := pk_spec (by omega) ha hb
    have hs := pk_sum (a := a) (b := b) (by omega)
    -- the one that is picked lies behind q, and all that is left behind it
    have key : q.2 ≤ (pk a b).1.1 ∧ Cn (-1) (pk a b).2.1 ∧ Cn (-1) (pk a b).2.2 ∧ (∀ x, mem (pk a b).2.1 x → mem a x ∧ (pk a b).1.2 ≤ x) ∧ (∀ x, mem (pk a b).2.2 x → mem b x ∧ (pk a b).1.2 ≤ x) := by
      rcases a with _ | ⟨s, a⟩ <;> rcases b with _ | ⟨t, b⟩
      · simp at hn
      · exact ⟨qb _ ((mem_cons t b t.1).2 (.inl ⟨Int.le_refl _, cb.2.1⟩)), trivial, cb.2.2.le (by have := cb.1; have := cb.2.1; omega), fun x h => by simp [pk, mem_nil] at h, fun x h => ⟨(mem_cons t b x).2 (.inr h), by have := Cn.mem_gt cb.2.2 h; show t.2 ≤ x; omega⟩⟩
      · exact ⟨qa _ ((mem_cons s a s.1).2 (.inl ⟨Int.le_refl _, ca.2.1⟩)), ca.2.2.le (by have := ca.1; have := ca.2.1; omega), trivial, fun x h => ⟨(mem_cons s a x).2 (.inr h), by have := Cn.mem_gt ca.2.2 h; show s.2 ≤ x; omega⟩, fun x h => by simp [pk, mem_nil] at h⟩
      · have ht1 : mem (t :: b) t.1 := (mem_cons t b t.1).2 (.inl ⟨Int.le_refl _, cb.2.1⟩)
        have hs1 : mem (s :: a) s.1 := (mem_cons s a s.1).2 (.inl ⟨Int.le_refl _, ca.2.1⟩)
        by_cases hst : s.1 ≤ t.1
        · simp only [pk, if_pos hst]
          have hts : s.2 ≤ t.1 := by
            have := hd t.1
            have h7 : ¬ mem (s :: a) t.1 := fun h => this h ht1
            rw [mem_cons] at h7
            have : ¬ (s.1 ≤ t.1 ∧ t.1 < s.2) := fun h => h7 (.inl h)
            omega
          refine ⟨qa _ hs1, ca.2.2.le (by have := ca.1; have := ca.2.1; omega), cb, fun x h => ⟨(mem_cons s a x).2 (.inr h), by have := Cn.mem_gt ca.2.2 h; omega⟩, fun x h => ⟨h, ?_⟩⟩
          have := Cn.mem_gt (p := t.1 - 1) (l := t :: b) ⟨by omega, cb.2.1, cb.2.2⟩ h
          omega
        · simp only [pk, if_neg hst]
          have hts : t.2 ≤ s.1 := by
            have h7 : ¬ mem (t :: b) s.1 := fun h => hd s.1 hs1 h
            rw [mem_cons] at h7
            have : ¬ (t.1 ≤ s.1 ∧ s.1 < t.2) := fun h => h7 (.inl h)
            omega
          refine ⟨qb _ ht1, ca, cb.2.2.le (by have := cb.1; have := cb.2.1; omega), fun x h => ⟨h, ?_⟩, fun x h => ⟨(mem_cons t b x).2 (.inr h), by have := Cn.mem_gt cb.2.2 h; omega⟩⟩
          have := Cn.mem_gt (p := s.1 - 1) (l := s :: a) ⟨by omega, ca.2.1, ca.2.2⟩ h
          omega
    obtain ⟨k1, k2, k3, k4, k5⟩ := key
    have hdd : ∀ x, mem (pk a b).2.1 x → ¬ mem (pk a b).2.2 x := fun x h h' => hd x (k4 x h).1 (k5 x h').1
    rw [mg2]
    by_cases h : (pk a b).1.1 ≤ q.2
    · rw [if_pos h]
      have := mg2_sum_eq n (pk a b).2.1 (pk a b).2.2 (q.1, max q.2 (pk a b).1.2) (by omega) (h3.le h1) (h4.le h1) (by dsimp only; omega) k2 k3 (fun x hx => by have := (k4 x hx).2; dsimp only; omega) (fun x hx => by have := (k5 x hx).2; dsimp only; omega) hdd
      dsimp only at this
      omega
    · rw [if_neg h, sumL_cons]
      have := mg2_sum_eq n (pk a b).2.1 (pk a b).2.2 (pk a b).1 (by omega) h3 h4 h2 k2 k3 (fun x hx => (k4 x hx).2) (fun x hx => (k5 x hx).2) hdd
      omega
theorem merged_sum_eq {a b : List Sp} (ca : Cn (-1) a) (cb : Cn (-1) b) (hd : ∀ x, mem a x → ¬ mem b x) : sumL (merged a b) = sumL a + sumL b := by
  rcases a with _ | ⟨s, a⟩
  · have h0 : SL 0 ([] : List Sp) := trivial
    rw [Cn.ext (merged_cn h0 cb.sl0) cb fun x => by rw [merged_mem h0 cb.sl0, mem_nil]; simp]
    simp [sumL_nil]
  rcases b with _ | ⟨t, b⟩
  · have h0 : SL 0 ([] : List Sp) := trivial
    rw [Cn.ext (merged_cn ca.sl0 h0) ca fun x => by rw [merged_mem ca.sl0 h0, mem_nil]; simp]
    simp [sumL_nil]
  -- a first span that takes nothing
  have hS := ca.sl0
  have hT := cb.sl0
  unfold merged
  obtain ⟨n, hn⟩ : ∃ n, (s :: a).length + (t :: b).length = n + 1 := ⟨(s :: a).length + (t :: b).length - 1, by simp; omega⟩
  rw [hn, mg]
  have e : put [] (pk (s :: a) (t :: b)).1 = [] ++ [(pk (s :: a) (t :: b)).1] := by unfold put; simp
  rw [e, mg_mg2, List.nil_append]
  have ht1 : mem (t :: b) t.1 := (mem_cons t b t.1).2 (.inl ⟨Int.le_refl _, cb.2.1⟩)
  have hs1 : mem (s :: a) s.1 := (mem_cons s a s.1).2 (.inl ⟨Int.le_refl _, ca.2.1⟩)
  by_cases hst : s.1 ≤ t.1
  · simp only [pk, if_pos hst]
    have hts : s.2 ≤ t.1 := by
      have h7 : ¬ mem (s :: a) t.1 := fun h => hd t.1 h ht1
      rw [mem_cons] at h7
      have : ¬ (s.1 ≤ t.1 ∧ t.1 < s.2) := fun h => h7 (.inl h)
      omega
    have := mg2_sum_eq n a (t :: b) s (by simp at hn ⊢; omega) hS.2.2 ⟨hst, hT.2.1, hT.2.2⟩ ca.2.1 (ca.2.2.le (by have := ca.1; have := ca.2.1; omega)) cb (fun x h => by have := Cn.mem_gt ca.2.2 h; omega)
      (fun x h => by have := Cn.mem_gt (p := t.1 - 1) (l := t :: b) ⟨by omega, cb.2.1, cb.2.2⟩ h; omega) (fun x h h' => hd x ((mem_cons s a x).2 (.inr h)) h')
    rw [this, sumL_cons s a]
  · simp only [pk, if_neg hst]
    have hts : t.2 ≤ s.1 := by
      have h7 : ¬ mem (t :: b) s.1 := fun h => hd s.1 hs1 h
      rw [mem_cons] at h7
      have : ¬ (t.1 ≤ s.1 ∧ s.1 < t.2) := fun h => h7 (.inl h)
      omega
    have := mg2_sum_eq n (s :: a) b t (by simp at hn ⊢; omega) ⟨by omega, hS.2.1, hS.2.2⟩ hT.2.2 cb.2.1 ca (cb.2.2.le (by have := cb.1; have := cb.2.1; omega))
      (fun x h => by have := Cn.mem_gt (p := s.1 - 1) (l := s :: a) ⟨by omega, ca.2.1, ca.2.2⟩ h; omega) (fun x h => by have := Cn.mem_gt cb.2.2 h; omega) (fun x h h' => hd x h ((mem_cons t b x).2 (.inr h')))
    rw [this, sumL_cons t b]; omega
theorem frs_sel (L : List Pc) : frs L = sumL (sel L false) := by
  induction L with
  | nil => rfl
  | cons q L ih =>
    rw [sel_cons]
    simp only [frs, List.map_cons, List.sum_cons] at ih ⊢
    cases hq : q.2
    · simp only [Bool.false_eq_true, if_false, if_true, sumL_cons, ih]
    · simp only [if_true, Bool.true_eq_false, if_false, ih]; omega
/-- a span more: the bytes that it brings. -/
theorem grown_sum {l : List Sp} {s : Sp} (hl : Right l) (hs : mayB s = true) : sumL (merged l [s]) = sumL l + frs (pieces l s) := by
  have ha := may_asked hs
  have h1 := gaps_cn hl ha
  have e : merged l [s] = merged l (sel (pieces l s) false) := by
    refine Cn.ext (merged_cn hl.sl (one_cn hs).sl0) (merged_cn hl.sl h1.sl0) fun x => ?_
    rw [merged_mem hl.sl (one_cn hs).sl0, merged_mem hl.sl h1.sl0, gaps_mem hl ha, one_mem]
    by_cases h : mem l x <;> simp [h]
  rw [e, merged_sum_eq hl.cn h1 fun x h h' => ((gaps_mem hl ha x).1 h').2 h, frs_sel]
theorem one_right {s : Sp} (hs : mayB s = true) : Right [s] := ⟨by simp, fun j hj => by
  have : j = 0 := by simp at hj; omega
  subst this; exact ⟨hs, fun h => by omega⟩⟩
theorem add_uni {l : List Sp} {s : Sp} (hl : Right l) (hs : mayB s = true) : (add l s).1 = (uni l [s]).1 ∧ (add l s).2.2 = (uni l [s]).2 := by
  unfold add uni
  simp only [if_pos (show Right l ∧ mayB s = true from ⟨hl, hs⟩), if_pos (show Right l ∧ Right [s] from ⟨hl, one_right hs⟩)]
  by_cases h : 2000 < (merged l [s]).length
  · simp only [if_pos h, and_self]
  · simp only [if_neg h, and_self]
end Go.Proofs.Ytdnngagahhleiaa
