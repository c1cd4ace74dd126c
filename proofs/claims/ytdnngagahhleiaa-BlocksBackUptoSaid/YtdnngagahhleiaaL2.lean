/- Plain law: unions in any grouping, of a set and itself; how many bytes. -/
import Derived.Test.YtdnngagahhleiaaL1
namespace Go.Proofs.Ytdnngagahhleiaa
set_option linter.unusedVariables false
set_option linter.unusedSimpArgs false
theorem merged_cn {a b : List Sp} (ha : SL 0 a) (hb : SL 0 b) : Cn (-1) (merged a b) := by
  have := (merged_spec ha hb).1
  simpa using this
theorem Right.sl {l : List Sp} (h : Right l) : SL 0 l := by
  have h1 := h.cn
  rcases l with _ | ⟨s, r⟩
  · trivial
  · exact ⟨by have := h1.1; omega, h1.2.1, (Cn.sl h1.2.2).le (by have := h1.2.1; omega)⟩
theorem Cn.sl0 {l : List Sp} (h : Cn (-1) l) : SL 0 l := by
  rcases l with _ | ⟨s, r⟩
  · trivial
  · exact ⟨by have := h.1; omega, h.2.1, (Cn.sl h.2.2).le (by have := h.2.1; omega)⟩
theorem merged_mem {a b : List Sp} (ha : SL 0 a) (hb : SL 0 b) (x : Int) : mem (merged a b) x ↔ mem a x ∨ mem b x := (merged_spec ha hb).2 x
theorem merged_assoc {a b c : List Sp} (ha : Right a) (hb : Right b) (hc : Right c) : merged (merged a b) c = merged a (merged b c) := by
  have h1 := merged_cn ha.sl hb.sl
  have h2 := merged_cn hb.sl hc.sl
  refine Cn.ext (merged_cn h1.sl0 hc.sl) (merged_cn ha.sl h2.sl0) fun x => ?_
  rw [merged_mem h1.sl0 hc.sl, merged_mem ha.sl h2.sl0, merged_mem ha.sl hb.sl, merged_mem hb.sl hc.sl]
  exact or_assoc
theorem merged_self {a : List Sp} (ha : Right a) : merged a a = a :=
  Cn.ext (merged_cn ha.sl ha.sl) ha.cn fun x => by rw [merged_mem ha.sl ha.sl]; exact or_self_iff
/-- a merged list of sets is a set, but for its length. -/
theorem Cn.okAt_aux : ∀ (l : List Sp) (p : Int), Cn p l → ∀ j, j < l.length → (gp l j).1 < (gp l j).2 ∧ p < (gp l j).1 ∧ (0 < j → (gp l (j - 1)).2 < (gp l j).1)
  | [], _, _, j, h => by simp at h
  | s :: r, p, hc, 0, _ => ⟨hc.2.1, hc.1, fun h => by omega⟩
  | s :: r, p, hc, j + 1, h => by
    obtain ⟨h1, h2, h3⟩ := Cn.okAt_aux r s.2 hc.2.2 j (by simpa using h)
    have e : gp (s :: r) (j + 1) = gp r j := by simp [gp]
    rw [e]
    refine ⟨h1, by have := hc.1; have := hc.2.1; omega, fun _ => ?_⟩
    rw [Nat.add_sub_cancel]
    rcases Nat.eq_zero_or_pos j with h4 | h4
    · subst h4; exact h2
    · have e2 : gp (s :: r) j = gp r (j - 1) := by
        obtain ⟨k, rfl⟩ : ∃ k, j = k + 1 := ⟨j - 1, by omega⟩
        simp [gp]
      rw [e2]; exact h3 h4
theorem Cn.right {l : List Sp} (h : Cn (-1) l) (hn : l.length ≤ 2000) (hM : ∀ x, mem l x → x < 4611686018427387903) : Right l := by
  refine ⟨hn, fun j hj => ?_⟩
  obtain ⟨h1, h2, h3⟩ := Cn.okAt_aux l _ h j hj
  refine ⟨?_, h3⟩
  simp only [mayB, decide_eq_true_eq]
  have := hM ((gp l j).2 - 1) ⟨gp l j, by rw [← gp_eq hj]; exact List.getElem_mem _, by omega, by omega⟩
  omega
theorem Right.mem_lt {l : List Sp} (h : Right l) {x : Int} (hx : mem l x) : x < 4611686018427387903 := by
  obtain ⟨s, hs, h1, h2⟩ := hx
  obtain ⟨j, hj, rfl⟩ := List.getElem_of_mem hs
  have := (h.2 j hj).1
  rw [← gp_eq hj] at this
  simp only [mayB, decide_eq_true_eq] at this
  omega
theorem merged_right {a b : List Sp} (ha : Right a) (hb : Right b) (hn : (merged a b).length ≤ 2000) : Right (merged a b) :=
  (merged_cn ha.sl hb.sl).right hn fun x hx => by
    rcases (merged_mem ha.sl hb.sl x).1 hx with h | h
    · exact ha.mem_lt h
    · exact hb.mem_lt h
end Go.Proofs.Ytdnngagahhleiaa
