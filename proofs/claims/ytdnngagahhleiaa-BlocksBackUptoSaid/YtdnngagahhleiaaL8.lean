/- Plain law: the pieces of a block, and of its gaps, fill the red part. -/
import Derived.Test.YtdnngagahhleiaaB18
import Derived.Test.YtdnngagahhleiaaL6
import Derived.Test.YtdnngagahhleiaaL7
namespace Go.Proofs.Ytdnngagahhleiaa
set_option linter.unusedVariables false
set_option linter.unusedSimpArgs false
theorem room_pos' {h m : Nat} (hh : h ≤ 43) (hm : 80 ≤ m) : 34 ≤ room h m := by
  obtain ⟨a1, a2⟩ := room_is h m
  by_cases hr : room h m < 127
  · rw [sz_lt (by omega)] at a2
    omega
  · omega
theorem hd_le' {s : Ses} {p : Prc} {at' : Int} (hs : sesB s = true) (hp : prcB p = true) (ha : at' ≤ 65536) : hd s p at' ≤ 32 := by
  simp only [sesB, prcB, decide_eq_true_eq] at hs hp
  have h1 := szI_le (z := s.1) (by omega)
  have h2 := szI_le (z := s.2) (by omega)
  have h3 := szI_le (z := p.svc) (by omega)
  have h4 : szI at' ≤ 3 := sz_le 2 _ (by omega)
  unfold hd; omega
theorem roomP_34 {s : Ses} {p : Prc} {at' : Int} (hs : sesB s = true) (hp : prcB p = true) (ha : at' ≤ 65536) : 34 ≤ roomP s p at' := by
  have h1 := hd_le' hs hp ha
  simp only [prcB, decide_eq_true_eq] at hp
  have h2 := room_pos' (h := hd s p at') (m := p.mtu.toNat) (by omega) (by omega)
  unfold roomP; omega
theorem roomC_34 {s : Ses} {p : Prc} {at' ck rp : Int} (hs : sesB s = true) (hp : prcB p = true) (ha : at' ≤ 65536) (hc : ck ≤ 4611686018427387903) (hr : rp ≤ 3) : 34 ≤ roomC s p at' ck rp := by
  have h1 := hd_le' hs hp ha
  have h4 := szI_le hc
  have h5 : szI rp ≤ 1 := sz_le 0 _ (by omega)
  simp only [prcB, decide_eq_true_eq] at hp
  have h2 := room_pos' (h := hd s p at' + szI ck + szI rp) (m := p.mtu.toNat) (by omega) (by omega)
  unfold roomC; omega
/-- a piece of the red part. -/
structure Bit (p : Prc) (y : Pce) : Prop where
  fr : 0 ≤ y.fr
  lt : y.fr < y.to
  to : y.to ≤ p.red
  ok : pieceB p y = true
theorem ends_bit {p : Prc} {a b ck rp : Int} (hp : prcB p = true) (h0 : 0 ≤ a) (h1 : a < b) (h2 : b ≤ p.red) (hc : 1 ≤ ck ∧ ck ≤ 4611686018427387903) (hr : 0 ≤ rp ∧ rp ≤ 4611686018427387903) : Bit p ⟨endsT p b, a, b, ck, rp⟩ := by
  refine ⟨h0, h1, h2, ?_⟩
  simp only [prcB, decide_eq_true_eq] at hp
  unfold pieceB askB nonB endsT
  simp only [Bool.and_eq_true, Bool.or_eq_true, decide_eq_true_eq]
  refine ⟨⟨h0, h1⟩, ?_⟩
  by_cases c : b < p.red
  · rw [if_pos c]; exact .inl (.inl (.inl (.inl (.inr ⟨⟨rfl, by omega⟩, c⟩))))
  · rw [if_neg c]
    by_cases d : p.red < p.size
    · rw [if_pos d]; exact .inl (.inl (.inl (.inr ⟨⟨rfl, by omega⟩, by omega, d⟩)))
    · rw [if_neg d]; exact .inl (.inl (.inr ⟨⟨rfl, by omega⟩, by omega, by omega⟩))
theorem plain_bit {p : Prc} {a b : Int} (h0 : 0 ≤ a) (h1 : a < b) (h2 : b < p.red) : Bit p ⟨0, a, b, 0, 0⟩ := by
  refine ⟨h0, h1, Int.le_of_lt h2, ?_⟩
  unfold pieceB askB nonB
  simp only [Bool.and_eq_true, Bool.or_eq_true, decide_eq_true_eq]
  exact ⟨⟨h0, h1⟩, .inl (.inl (.inl (.inl (.inl ⟨⟨trivial, trivial, trivial⟩, h2⟩))))⟩
theorem cutR_bit {s : Ses} {p : Prc} (hs : sesB s = true) (hp : prcB p = true) : ∀ (f : Nat) (at' plain base : Int), 0 ≤ at' → 0 ≤ base → base + f ≤ 4611686018427387903 → ∀ y ∈ cutR s p f at' plain base, Bit p y ∧ (34 ≤ y.to - y.fr ∨ p.red - 1 ≤ y.to)
  | 0, _, _, _, _, _, _, y, h => by simp [cutR] at h
  | f + 1, at', plain, base, ha, hb, hf, y, h => by
    have hred : p.red ≤ 65536 := by simp only [prcB, decide_eq_true_eq] at hp; omega
    rw [cutR] at h
    split at h
    · cases h
    rename_i h1
    have r1 := roomP_34 hs hp (at' := at') (by omega)
    have r2 := roomC_34 hs hp (at' := at') (ck := base + 1) (rp := 0) (by omega) (by omega) (by omega)
    split at h
    · rcases List.mem_cons.1 h with rfl | h
      · exact ⟨ends_bit hp ha (by omega) (by omega) (by omega) (by omega), by dsimp only; omega⟩
      · exact cutR_bit hs hp f _ _ _ (by omega) (by omega) (by omega) y h
    · rename_i h2
      have h3 : roomC s p at' (base + 1) 0 < p.red - at' := Int.not_le.1 fun h => h2 (.inl h)
      rcases List.mem_cons.1 h with rfl | h
      · exact ⟨plain_bit ha (by omega) (by omega), by dsimp only; omega⟩
      · exact cutR_bit hs hp f _ _ _ (by omega) (by omega) (by omega) y h
theorem cutR_cov {s : Ses} {p : Prc} (hs : sesB s = true) (hp : prcB p = true) : ∀ (f : Nat) (at' plain base : Int), 0 ≤ at' → 0 ≤ base → base + f ≤ 4611686018427387903 → p.red - at' ≤ f → ∀ x, at' ≤ x → x < p.red → ∃ y ∈ cutR s p f at' plain base, y.fr ≤ x ∧ x < y.to
  | 0, _, _, _, _, _, _, _, x, _, _ => by omega
  | f + 1, at', plain, base, ha, hb, hf, hfu, x, h1, h2 => by
    have hred : p.red ≤ 65536 := by simp only [prcB, decide_eq_true_eq] at hp; omega
    rw [cutR, if_neg (by omega)]
    have r1 := roomP_34 hs hp (at' := at') (by omega)
    have r2 := roomC_34 hs hp (at' := at') (ck := base + 1) (rp := 0) (by omega) (by omega) (by omega)
    split
    · by_cases c : x < at' + min (p.red - at') (roomC s p at' (base + 1) 0)
      · exact ⟨_, List.mem_cons_self .., h1, c⟩
      · obtain ⟨y, hy, h⟩ := cutR_cov hs hp f (at' + min (p.red - at') (roomC s p at' (base + 1) 0)) 0 (base + 1) (by omega) (by omega) (by omega) (by omega) x (by omega) h2
        exact ⟨y, List.mem_cons_of_mem _ hy, h⟩
    · rename_i h4
      have h3 : roomC s p at' (base + 1) 0 < p.red - at' := Int.not_le.1 fun h => h4 (.inl h)
      by_cases c : x < at' + min (roomP s p at') (p.red - at' - 1)
      · exact ⟨_, List.mem_cons_self .., h1, c⟩
      · obtain ⟨y, hy, h⟩ := cutR_cov hs hp f (at' + min (roomP s p at') (p.red - at' - 1)) (plain + 1) base (by omega) (by omega) (by omega) (by omega) x (by omega) h2
        exact ⟨y, List.mem_cons_of_mem _ hy, h⟩
theorem cutG_ge {s : Ses} {p : Prc} (hs : sesB s = true) (hp : prcB p = true) : ∀ (f : Nat) (at' : Int), p.red ≤ at' → ∀ y ∈ cutG s p f at', p.red ≤ y.fr
  | 0, _, _, y, h => by simp [cutG] at h
  | f + 1, at', ha, y, h => by
    have hsz : p.size ≤ 65536 := by simp only [prcB, decide_eq_true_eq] at hp; omega
    rw [cutG] at h
    split at h
    · cases h
    have r1 := roomP_34 hs hp (at' := at') (by omega)
    split at h
    · rcases List.mem_cons.1 h with rfl | h
      · exact ha
      · cases h
    · rcases List.mem_cons.1 h with rfl | h
      · exact ha
      · exact cutG_ge hs hp f _ (by omega) y h
/-- what Cut's pieces of the red part are. -/
theorem cut_law {s : Ses} {p : Prc} {base : Int} (hs : sesB s = true) (hp : prcB p = true) (hb : 0 ≤ base ∧ base ≤ 4611686018427322367) (hr : p.red ≠ 0) :
    (cut s p base).2 = 0 ∧ 0 < (cut s p base).1.length ∧ (∀ y ∈ (cut s p base).1, y.fr < p.red → Bit p y ∧ (34 ≤ y.to - y.fr ∨ p.red - 1 ≤ y.to)) ∧ (∀ x, 0 ≤ x → x < p.red → ∃ y ∈ (cut s p base).1, y.fr < p.red ∧ y.fr ≤ x ∧ x < y.to) := by
  have hp' := hp
  simp only [prcB, decide_eq_true_eq] at hp'
  unfold cut
  rw [if_neg (by simp [hs]), if_neg (by simp [hp]), if_neg (by omega)]
  have hc := cutR_cov hs hp p.red.toNat 0 0 base (by omega) hb.1 (by omega) (by omega)
  refine ⟨rfl, ?_, fun y hy hf => ?_, fun x h1 h2 => ?_⟩
  · obtain ⟨y, hy, _⟩ := hc 0 (by omega) (by omega)
    exact List.length_pos_of_mem (List.mem_append.2 (.inl hy))
  · rcases List.mem_append.1 hy with h | h
    · exact cutR_bit hs hp _ _ _ _ (by omega) hb.1 (by omega) y h
    · have := cutG_ge hs hp _ _ (by omega) y h; omega
  · obtain ⟨y, hy, h3⟩ := hc x h1 h2
    exact ⟨y, List.mem_append.2 (.inl hy), by omega, h3⟩
/-! ### gaps cut again -/
def Fill (T : Int → Prop) : List Pce → Prop
  | [] => True
  | y :: ys => (T y.to ∨ ∃ z ∈ ys, z.fr = y.to) ∧ Fill T ys
theorem Fill_app {T : Int → Prop} : ∀ {A B : List Pce}, Fill T A → Fill T B → Fill T (A ++ B)
  | [], _, _, h => h
  | y :: ys, B, ⟨h1, h2⟩, h => by
    refine ⟨?_, Fill_app h2 h⟩
    rcases h1 with h1 | ⟨z, hz, e⟩
    · exact .inl h1
    · exact .inr ⟨z, List.mem_append.2 (.inl hz), e⟩
theorem Fill_get {T : Int → Prop} : ∀ {L : List Pce}, Fill T L → ∀ i (h : i < L.length), T L[i].to ∨ ∃ z ∈ L.drop (i + 1), z.fr = L[i].to
  | y :: ys, ⟨h1, h2⟩, 0, _ => h1
  | y :: ys, ⟨h1, h2⟩, i + 1, h => Fill_get h2 i (by simpa using h)
theorem ag_law {s : Ses} {p : Prc} {ck rp : Int} (hs : sesB s = true) (hp : prcB p = true) (hc : 1 ≤ ck ∧ ck ≤ 4611686018427387903) (hr : 0 ≤ rp ∧ rp ≤ 3) (last : Bool) (T : Int → Prop) (to : Int) (hto : to ≤ p.red) (hl : last = true ∨ to < p.red) (hT : T to) : ∀ (f : Nat) (at' : Int), 0 ≤ at' → to - at' ≤ f →
    (∀ y ∈ ag s p ck rp last f at' to, Bit p y) ∧ Fill T (ag s p ck rp last f at' to) ∧ (∀ x, at' ≤ x → x < to → ∃ y ∈ ag s p ck rp last f at' to, y.fr ≤ x ∧ x < y.to) ∧ (at' < to → ∃ z ∈ ag s p ck rp last f at' to, z.fr = at')
  | 0, at', ha, hf => by
    refine ⟨fun y h => by simp [ag] at h, trivial, fun x _ _ => by omega, fun _ => by omega⟩
  | f + 1, at', ha, hf => by
    have hred : p.red ≤ 65536 := by simp only [prcB, decide_eq_true_eq] at hp; omega
    by_cases h0 : to ≤ at'
    · rw [ag_nil h0]
      exact ⟨fun y h => by simp at h, trivial, fun x _ _ => by omega, fun _ => by omega⟩
    rw [ag, if_neg h0]
    have r1 := roomP_34 hs hp (at' := at') (by omega)
    have r2 := roomC_34 hs hp (at' := at') (ck := ck) (rp := rp) (by omega) hc.2 hr.2
    by_cases h1 : last = true ∧ to - at' ≤ roomC s p at' ck rp
    · rw [if_pos h1, ag_nil (Int.le_refl _)]
      refine ⟨fun y h => ?_, ⟨.inl hT, trivial⟩, fun x h2 h3 => ⟨_, List.mem_cons_self .., h2, h3⟩, fun _ => ⟨_, List.mem_cons_self .., rfl⟩⟩
      rcases List.mem_cons.1 h with rfl | h
      · exact ends_bit hp ha (by omega) hto hc (by omega)
      · cases h
    · rw [if_neg h1]
      obtain ⟨n, hn, hn1, hn2, hn3⟩ : ∃ n, n = min (roomP s p at') (to - at' - (if last = true then 1 else 0)) ∧ 0 < n ∧ at' + n ≤ to ∧ at' + n < p.red := by
        refine ⟨_, rfl, ?_⟩
        by_cases c : last = true
        · have : roomC s p at' ck rp < to - at' := Int.not_le.1 fun h => h1 ⟨c, h⟩
          rw [if_pos c]; omega
        · have : to < p.red := by rcases hl with h | h; exact absurd h c; exact h
          rw [if_neg c]; omega
      rw [← hn]
      obtain ⟨i1, i2, i3, i4⟩ := ag_law hs hp hc hr last T to hto hl hT f (at' + n) (by omega) (by omega)
      refine ⟨fun y h => ?_, ⟨?_, i2⟩, fun x h2 h3 => ?_, fun _ => ⟨_, List.mem_cons_self .., rfl⟩⟩
      · rcases List.mem_cons.1 h with rfl | h
        · exact plain_bit ha (by omega) hn3
        · exact i1 y h
      · by_cases c : at' + n < to
        · exact .inr (i4 c)
        · have : at' + n = to := by omega
          rw [this]; exact .inl hT
      · by_cases c : x < at' + n
        · exact ⟨_, List.mem_cons_self .., h2, c⟩
        · obtain ⟨y, hy, h⟩ := i3 x (by omega) h3
          exact ⟨y, List.mem_cons_of_mem _ hy, h⟩
theorem Right.next_lt {l : List Sp} (h : Right l) {i : Nat} (hi : i + 1 < l.length) : (gp l i).2 < (gp l (l.length - 1)).2 := by
  have h1 := (okAt_iff.1 (h.2 (i + 1) hi)).2 (by omega)
  have h2 := h.bound (l.length - 1 - (i + 1)) (i + 1) (by omega) hi
  rw [Nat.add_sub_cancel] at h1
  omega
theorem agN_law {s : Ses} {p : Prc} {ck rp : Int} {l : List Sp} (hs : sesB s = true) (hp : prcB p = true) (hc : 1 ≤ ck ∧ ck ≤ 4611686018427387903) (hr : 0 ≤ rp ∧ rp ≤ 3) (T : Int → Prop) (hl : Right l) (he : (gp l (l.length - 1)).2 ≤ p.red) (hT : ∀ i, i < l.length → T (gp l i).2) : ∀ i, i ≤ l.length →
    (∀ y ∈ agN s p ck rp l i, Bit p y) ∧ Fill T (agN s p ck rp l i) ∧ (∀ j x, j < i → (gp l j).1 ≤ x → x < (gp l j).2 → ∃ y ∈ agN s p ck rp l i, y.fr ≤ x ∧ x < y.to)
  | 0, _ => ⟨fun y h => by simp [agN] at h, trivial, fun j x h => by omega⟩
  | i + 1, hi => by
    obtain ⟨i1, i2, i3⟩ := agN_law hs hp hc hr T hl he hT i (by omega)
    have hb := hl.bound (l.length - 1 - i) i (by omega) (by omega)
    obtain ⟨a1, a2, a3, _⟩ := ag_law hs hp hc hr (decide (i + 1 = l.length)) T (gp l i).2 (by omega) (by
      by_cases c : i + 1 = l.length
      · exact .inl (decide_eq_true c)
      · have := hl.next_lt (i := i) (by omega)
        exact .inr (by omega)) (hT i (by omega)) ((gp l i).2 - (gp l i).1).toNat (gp l i).1 hb.1 (by omega)
    rw [agN]
    refine ⟨fun y h => ?_, Fill_app i2 a2, fun j x hj h1 h2 => ?_⟩
    · rcases List.mem_append.1 h with h | h
      · exact i1 y h
      · exact a1 y h
    · by_cases c : j < i
      · obtain ⟨y, hy, h⟩ := i3 j x c h1 h2
        exact ⟨y, List.mem_append.2 (.inl hy), h⟩
      · obtain rfl : j = i := by omega
        obtain ⟨y, hy, h⟩ := a3 x h1 h2
        exact ⟨y, List.mem_append.2 (.inr hy), h⟩
/-- what gaps cut again are. -/
theorem again_law {s : Ses} {p : Prc} {ck rp : Int} {l : List Sp} (hs : sesB s = true) (hp : prcB p = true) (hc : 1 ≤ ck ∧ ck ≤ 4611686018427387903) (hr : 0 ≤ rp ∧ rp ≤ 3) (T : Int → Prop) (hl : Right l) (h0 : 0 < l.length) (he : (gp l (l.length - 1)).2 ≤ p.red) (hT : ∀ i, i < l.length → T (gp l i).2) :
    (again s p l ck rp).2 = 0 ∧ 0 < (again s p l ck rp).1.length ∧ (∀ y ∈ (again s p l ck rp).1, Bit p y) ∧ Fill T (again s p l ck rp).1 ∧ (∀ x, mem l x → ∃ y ∈ (again s p l ck rp).1, y.fr ≤ x ∧ x < y.to) := by
  have e : again s p l ck rp = (agN s p ck rp l l.length, 0) := by
    unfold again
    rw [if_neg (by have := hl.1; omega), if_neg (by simp [hs]), if_neg, if_neg (by omega)]
    rintro (h | h | h | h)
    · rw [hp] at h; cases h
    · omega
    · exact h hl
    · omega
  rw [e]
  obtain ⟨i1, i2, i3⟩ := agN_law hs hp hc hr T hl he hT l.length (Nat.le_refl _)
  have hcov : ∀ x, mem l x → ∃ y ∈ agN s p ck rp l l.length, y.fr ≤ x ∧ x < y.to := by
    rintro x ⟨o, ho, h1, h2⟩
    obtain ⟨j, hj, rfl⟩ := List.getElem_of_mem ho
    rw [gp_eq hj] at h1 h2
    exact i3 j x hj h1 h2
  refine ⟨rfl, ?_, i1, i2, hcov⟩
  have hb := hl.bound (l.length - 1) 0 (by omega) h0
  obtain ⟨y, hy, _⟩ := hcov (gp l 0).1 ⟨gp l 0, by rw [← gp_eq h0]; exact List.getElem_mem _, by omega, by omega⟩
  exact List.length_pos_of_mem hy
end Go.Proofs.Ytdnngagahhleiaa
