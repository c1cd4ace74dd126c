/- claims: Add. -/
import Derived.Test.YtdnngagahhleiaaC3
namespace Go.Proofs.Ytdnngagahhleiaa
open Go.Sx
attribute [local irreducible] W WL WP Hv Yl WQ At QP QF
set_option maxRecDepth 10000
set_option linter.unusedVariables false
def frs (L : List Pc) : Int := (L.map fun q => if q.2 then 0 else q.1.2 - q.1.1).sum
def Chain (y : Int) : Int → List Pc → Prop
  | _, [] => True
  | p, q :: r => p ≤ q.1.1 ∧ q.1.1 < q.1.2 ∧ q.1.2 ≤ y ∧ Chain y q.1.2 r
theorem Chain.le {y : Int} : ∀ {L : List Pc} {p p' : Int}, p' ≤ p → Chain y p L → Chain y p' L
  | [], _, _, _, _ => trivial
  | q :: r, p, p', h, hc => ⟨Int.le_trans h hc.1, hc.2⟩
theorem Chain.sum {y : Int} : ∀ {L : List Pc} {p : Int}, p ≤ y → Chain y p L → ∀ i, 0 ≤ frs (L.take i) ∧ frs (L.take i) ≤ y - p
  | L, p, hp, _, 0 => by simp [frs]; omega
  | [], p, hp, _, i + 1 => by simp [frs]; omega
  | q :: r, p, hp, hc, i + 1 => by
    have := Chain.sum hc.2.2.1 hc.2.2.2 i
    have h1 := hc.1
    have h2 := hc.2.1
    have h3 := hc.2.2.1
    have hd : ∀ b : Bool, 0 ≤ (if b = true then 0 else q.1.2 - q.1.1) ∧ (if b = true then 0 else q.1.2 - q.1.1) ≤ q.1.2 - q.1.1 := by intro b; cases b <;> simp <;> omega
    have h4 := hd q.2
    simp only [frs, List.take_succ_cons, List.map_cons, List.sum_cons] at this ⊢
    omega
theorem Chain.nth {y : Int} : ∀ {L : List Pc} {p : Int}, Chain y p L → ∀ {i : Nat}, i < L.length → p ≤ (L.getD i ((0, 0), false)).1.1 ∧ (L.getD i ((0, 0), false)).1.1 < (L.getD i ((0, 0), false)).1.2 ∧ (L.getD i ((0, 0), false)).1.2 ≤ y
  | q :: r, p, hc, 0, _ => ⟨hc.1, hc.2.1, hc.2.2.1⟩
  | q :: r, p, hc, i + 1, h => by
    have := Chain.nth hc.2.2.2 (i := i) (by simpa using h)
    have h1 := hc.1
    have h2 := hc.2.1
    simp only [List.getD_cons_succ]
    omega
theorem wkEnd_chain (y p : Int) : Chain y p (wkEnd y p) := by
  unfold wkEnd
  split
  · exact ⟨Int.le_refl _, by assumption, Int.le_refl _, trivial⟩
  · trivial
theorem wk_chain (y : Int) : ∀ (l : List Sp) (p : Int), (∀ h ∈ l, h.1 < h.2) → p ≤ y → Chain y p (wk y l p)
  | [], p, _, _ => wkEnd_chain y p
  | h :: r, p, hv, hp => by
    have hh := hv h (List.mem_cons_self ..)
    have hr : ∀ h ∈ r, h.1 < h.2 := fun q hq => hv q (List.mem_cons_of_mem _ hq)
    rw [wk]
    by_cases h1 : h.2 ≤ p
    · rw [if_pos h1]; exact wk_chain y r p hr hp
    rw [if_neg h1]
    by_cases h2 : y ≤ h.1
    · rw [if_pos h2]; exact wkEnd_chain y p
    rw [if_neg h2]
    have ih := wk_chain y r (min h.2 y) hr (by omega)
    by_cases h3 : p < h.1
    · rw [if_pos h3, show max p h.1 = h.1 by omega, if_pos (by omega)]
      exact ⟨Int.le_refl _, h3, by dsimp only; omega, Int.le_refl _, by dsimp only; omega, by dsimp only; omega, ih⟩
    · rw [if_neg h3, show max p h.1 = p by omega]
      by_cases h4 : p < min h.2 y
      · rw [if_pos h4]; exact ⟨Int.le_refl _, h4, by dsimp only; omega, ih⟩
      · rw [if_neg h4]; exact ih.le (by omega)
theorem Right.lt {l : List Sp} (h : Right l) : ∀ x ∈ l, x.1 < x.2 := fun x hx => by
  obtain ⟨j, hj, rfl⟩ := List.getElem_of_mem hx
  have := (h.2 j hj).1
  rw [← gp_eq hj] at this
  simp [mayB] at this
  exact this.2.1
theorem pieces_chain (l : List Sp) (s : Sp) : Chain s.2 s.1 (pieces l s) := by
  unfold pieces
  split
  · rename_i h
    refine wk_chain _ _ _ h.1.lt ?_
    have := h.2
    simp [askedB] at this
    exact this.2.1
  · trivial
theorem frs_succ {L : List Pc} {i : Nat} (h : i < L.length) : frs (L.take (i + 1)) = frs (L.take i) + (if (L.getD i ((0, 0), false)).2 then 0 else (L.getD i ((0, 0), false)).1.2 - (L.getD i ((0, 0), false)).1.1) := by
  unfold frs
  rw [List.take_succ_eq_append_getElem h, List.map_append, List.sum_append]
  simp [h]
def add (l : List Sp) (s : Sp) : List Sp × Int × Int := if Right l ∧ mayB s = true then (if 2000 < (merged l [s]).length then ([], 0, 3) else (merged l [s], frs (pieces l s), 0)) else ([], 0, 30)
set_option maxHeartbeats 1000000 in
theorem Add_t (A : Option Addr) (l : List Sp) (cap : Nat) (s : Sp) (w : World) (h : SlO w [] A l.length cap (spC.cells l)) :
    Tr Try.prog 82 #[.slice A l.length cap, spV s] w [] (SpL (add l s).1 [.int .i64 (add l s).2.1, .int .i64 (add l s).2.2]) := by
  refine TrD_intro (rs := [.tmp 4, .tmp 5, .tmp 6]) (args := [.slice A l.length cap, spV s]) Try.func82 rfl rfl 42 rfl rfl ?_
  refine WQ_nilrow 61 2 ?_
  (repeat' (first | refine Zv tb ?_ | (refine Zt (fun ht => ?_) (fun ht => ?_) <;> (dsimp only [cmpP, cmpN] at ht) <;> (try (exfalso; omega))) | refine Z0 ?_ | refine Zq ?_ | refine Zr ?_ | refine Zk ?_ | refine Zy ?_ | refine Zn ?_ | refine Zj ?_ | refine Ze ?_ | refine Zx ?_ | refine Zqr ?_ | refine Zqs ?_ | refine Zqc ?_ | refine Zqx ?_ | refine Zqf ?_ | refine Zm tb fun b => ?_ | refine Zb fun b => ?_ | refine Zs tb ?_ | refine Zu tb ?_))
  refine WL_cons rfl (Hv_call tb (Γ1 := []) rfl rfl rfl (List.Perm.refl _) (fun w hs => right_t A l cap w (h.call hs).rd h.max) rfl ?_)
  rintro v Γ' ⟨rfl, rfl⟩
  cases h1 : decide (Right l)
  · (repeat' (first | refine Zv tb ?_ | (refine Zt (fun ht => ?_) (fun ht => ?_) <;> (dsimp only [cmpP, cmpN] at ht) <;> (try (exfalso; omega))) | refine Z0 ?_ | refine Zq ?_ | refine Zr ?_ | refine Zk ?_ | refine Zy ?_ | refine Zn ?_ | refine Zj ?_ | refine Ze ?_ | refine Zx ?_ | refine Zqr ?_ | refine Zqs ?_ | refine Zqc ?_ | refine Zqx ?_ | refine Zqf ?_ | refine Zm tb fun b => ?_ | refine Zb fun b => ?_ | refine Zs tb ?_ | refine Zu tb ?_))
    have e : add l s = ([], 0, 30) := by unfold add; rw [if_neg (by simp at h1; simp [h1])]
    rw [e]
    exact fin_spl (.tmp rfl (.tmp rfl (.tmp rfl .nil))) (List.perm_append_comm (l₁ := [_])) rfl rfl
  (repeat' (first | refine Zv tb ?_ | (refine Zt (fun ht => ?_) (fun ht => ?_) <;> (dsimp only [cmpP, cmpN] at ht) <;> (try (exfalso; omega))) | refine Z0 ?_ | refine Zq ?_ | refine Zr ?_ | refine Zk ?_ | refine Zy ?_ | refine Zn ?_ | refine Zj ?_ | refine Ze ?_ | refine Zx ?_ | refine Zqr ?_ | refine Zqs ?_ | refine Zqc ?_ | refine Zqx ?_ | refine Zqf ?_ | refine Zm tb fun b => ?_ | refine Zb fun b => ?_ | refine Zs tb ?_ | refine Zu tb ?_))
  refine WL_cons rfl (Hv_call tb (Γ1 := []) rfl rfl rfl (List.Perm.refl _) (fun w hs => may_t s.1 s.2 w) rfl ?_)
  rintro v Γ' ⟨rfl, rfl⟩
  cases h2 : mayB (s.1, s.2)
  · (repeat' (first | refine Zv tb ?_ | (refine Zt (fun ht => ?_) (fun ht => ?_) <;> (dsimp only [cmpP, cmpN] at ht) <;> (try (exfalso; omega))) | refine Z0 ?_ | refine Zq ?_ | refine Zr ?_ | refine Zk ?_ | refine Zy ?_ | refine Zn ?_ | refine Zj ?_ | refine Ze ?_ | refine Zx ?_ | refine Zqr ?_ | refine Zqs ?_ | refine Zqc ?_ | refine Zqx ?_ | refine Zqf ?_ | refine Zm tb fun b => ?_ | refine Zb fun b => ?_ | refine Zs tb ?_ | refine Zu tb ?_))
    have e : add l s = ([], 0, 30) := by unfold add; rw [if_neg (by rw [show s = (s.1, s.2) from rfl, h2]; simp)]
    rw [e]
    exact fin_spl (.tmp rfl (.tmp rfl (.tmp rfl .nil))) (List.perm_append_comm (l₁ := [_])) rfl rfl
  have h2' : mayB s = true := h2
  simp only [decide_eq_true_eq] at h1
  have hl := h1.1
  (repeat' (first | refine Zv tb ?_ | (refine Zt (fun ht => ?_) (fun ht => ?_) <;> (dsimp only [cmpP, cmpN] at ht) <;> (try (exfalso; omega))) | refine Z0 ?_ | refine Zq ?_ | refine Zr ?_ | refine Zk ?_ | refine Zy ?_ | refine Zn ?_ | refine Zj ?_ | refine Ze ?_ | refine Zx ?_ | refine Zqr ?_ | refine Zqs ?_ | refine Zqc ?_ | refine Zqx ?_ | refine Zqf ?_ | refine Zm tb fun b => ?_ | refine Zb fun b => ?_ | refine Zs tb ?_ | refine Zu tb ?_))
  refine WL_cons rfl (Hv_buildSlice tb rfl rfl rfl (by decide) rfl rfl rfl rfl fun q => ?_)
  (repeat' (first | refine Zv tb ?_ | (refine Zt (fun ht => ?_) (fun ht => ?_) <;> (dsimp only [cmpP, cmpN] at ht) <;> (try (exfalso; omega))) | refine Z0 ?_ | refine Zq ?_ | refine Zr ?_ | refine Zk ?_ | refine Zy ?_ | refine Zn ?_ | refine Zj ?_ | refine Ze ?_ | refine Zx ?_ | refine Zqr ?_ | refine Zqs ?_ | refine Zqc ?_ | refine Zqx ?_ | refine Zqf ?_ | refine Zm tb fun b => ?_ | refine Zb fun b => ?_ | refine Zs tb ?_ | refine Zu tb ?_))
  refine WL_cons rfl (Hv_call tb (Γ1 := []) rfl rfl rfl (List.Perm.refl _) (fun w hs => merged_t A (some ⟨q, 0, none⟩) l [s] cap 1 w (h.call hs).rd ((SlO.row hs (List.mem_cons_self ..)).rd) h.le (Nat.le_refl _) (by simp; omega)) rfl ?_)
  rintro v Γ' ⟨V, c, rfl, rfl⟩
  (repeat' (first | refine Zv tb ?_ | (refine Zt (fun ht => ?_) (fun ht => ?_) <;> (dsimp only [cmpP, cmpN] at ht) <;> (try (exfalso; omega))) | refine Z0 ?_ | refine Zq ?_ | refine Zr ?_ | refine Zk ?_ | refine Zy ?_ | refine Zn ?_ | refine Zj ?_ | refine Ze ?_ | refine Zx ?_ | refine Zqr ?_ | refine Zqs ?_ | refine Zqc ?_ | refine Zqx ?_ | refine Zqf ?_ | refine Zm tb fun b => ?_ | refine Zb fun b => ?_ | refine Zs tb ?_ | refine Zu tb ?_))
  · have e : add l s = ([], 0, 3) := by unfold add; rw [if_pos ⟨h1, h2'⟩, if_pos (by omega)]
    rw [e]
    exact fin_spl (.tmp rfl (.tmp rfl (.tmp rfl .nil))) (List.perm_append_comm (l₁ := [_, _, _])) rfl rfl
  have e : add l s = (merged l [s], frs (pieces l s), 0) := by unfold add; rw [if_pos ⟨h1, h2'⟩, if_neg (by omega)]
  rw [e]
  refine WQ_seq2 ?_
  (repeat' (first | refine Zv tb ?_ | (refine Zt (fun ht => ?_) (fun ht => ?_) <;> (dsimp only [cmpP, cmpN] at ht) <;> (try (exfalso; omega))) | refine Z0 ?_ | refine Zq ?_ | refine Zr ?_ | refine Zk ?_ | refine Zy ?_ | refine Zn ?_ | refine Zj ?_ | refine Ze ?_ | refine Zx ?_ | refine Zqr ?_ | refine Zqs ?_ | refine Zqc ?_ | refine Zqx ?_ | refine Zqf ?_ | refine Zm tb fun b => ?_ | refine Zb fun b => ?_ | refine Zs tb ?_ | refine Zu tb ?_))
  refine WL_cons rfl (Hv_call tb (Γ1 := []) rfl rfl rfl (List.Perm.refl _) (fun w hs => Walk_t A l cap s w (h.call hs)) rfl ?_)
  rintro v Kw ⟨gf, u, lb, rfl, hfn, hit⟩
  (repeat' (first | refine Zv tb ?_ | (refine Zt (fun ht => ?_) (fun ht => ?_) <;> (dsimp only [cmpP, cmpN] at ht) <;> (try (exfalso; omega))) | refine Z0 ?_ | refine Zq ?_ | refine Zr ?_ | refine Zk ?_ | refine Zy ?_ | refine Zn ?_ | refine Zj ?_ | refine Ze ?_ | refine Zx ?_ | refine Zqr ?_ | refine Zqs ?_ | refine Zqc ?_ | refine Zqx ?_ | refine Zqf ?_ | refine Zm tb fun b => ?_ | refine Zb fun b => ?_ | refine Zs tb ?_ | refine Zu tb ?_))
  have hch := (pieces_chain l s).sum (by simp [mayB] at h2; omega)
  have hs0 : 0 ≤ s.1 ∧ s.2 ≤ 4611686018427387903 := by simp [mayB] at h2; omega
  refine WQ_block ?_
  refine WQ_range tb (by rfl) hfn hit (fun _ => by rfl) (by rfl) (fun f : Int => [.blk b [.int .i64 f] 3]) (fun i f => f = frs ((pieces l s).take i)) (fun _ _ => False) 0 rfl List.perm_middle ?_ ?_ (fun _ _ _ h => h.elim)
  · rintro i hi f hf lp w1
    have e1 := frs_succ hi
    have e2 := hch i
    have e3 := hch (i + 1)
    rw [← hf] at e1 e2
    obtain ⟨⟨⟨x, y⟩, z⟩, hq⟩ : ∃ q, (pieces l s).getD i ((0, 0), false) = q := ⟨_, rfl⟩
    rw [show pcE (pieces l s) i = [.agg #[.int .i64 x, .int .i64 y], .bool z] from by rw [pcE, hq]; rfl]
    rw [hq] at e1
    dsimp only at e1
    (repeat' (first | refine Zv tb ?_ | (refine Zt (fun ht => ?_) (fun ht => ?_) <;> (dsimp only [cmpP, cmpN] at ht) <;> (try (exfalso; omega))) | refine Z0 ?_ | refine Zq ?_ | refine Zr ?_ | refine Zk ?_ | refine Zy ?_ | refine Zn ?_ | refine Zj ?_ | refine Ze ?_ | refine Zx ?_ | refine Zqr ?_ | refine Zqs ?_ | refine Zqc ?_ | refine Zqx ?_ | refine Zqf ?_ | refine Zm tb fun b => ?_ | refine Zb fun b => ?_ | refine Zs tb ?_ | refine Zu tb ?_))
    intro w2
    cases z
    · have e1' : frs ((pieces l s).take (i + 1)) = f + (y - x) := by simpa using e1
      have hxy := (pieces_chain l s).nth hi
      rw [hq] at hxy
      dsimp only at hxy
      (repeat' (first | refine Zv tb ?_ | (refine Zt (fun ht => ?_) (fun ht => ?_) <;> (dsimp only [cmpP, cmpN] at ht) <;> (try (exfalso; omega))) | refine Z0 ?_ | refine Zq ?_ | refine Zr ?_ | refine Zk ?_ | refine Zy ?_ | refine Zn ?_ | refine Zj ?_ | refine Ze ?_ | refine Zx ?_ | refine Zqr ?_ | refine Zqs ?_ | refine Zqc ?_ | refine Zqx ?_ | refine Zqf ?_ | refine Zm tb fun b => ?_ | refine Zb fun b => ?_ | refine Zs tb ?_ | refine Zu tb ?_))
      exact ⟨f + (y - x), e1'.symm, _, List.perm_append_comm (l₁ := [_])⟩
    · have e1' : frs ((pieces l s).take (i + 1)) = f := by simpa using e1
      (repeat' (first | refine Zv tb ?_ | (refine Zt (fun ht => ?_) (fun ht => ?_) <;> (dsimp only [cmpP, cmpN] at ht) <;> (try (exfalso; omega))) | refine Z0 ?_ | refine Zq ?_ | refine Zr ?_ | refine Zk ?_ | refine Zy ?_ | refine Zn ?_ | refine Zj ?_ | refine Ze ?_ | refine Zx ?_ | refine Zqr ?_ | refine Zqs ?_ | refine Zqc ?_ | refine Zqx ?_ | refine Zqf ?_ | refine Zm tb fun b => ?_ | refine Zb fun b => ?_ | refine Zs tb ?_ | refine Zu tb ?_))
      exact ⟨f, e1'.symm, _, List.perm_append_comm (l₁ := [_])⟩
  · rintro D f hf
    rw [List.take_length] at hf
    subst hf
    refine WQ_at ?_
    refine WQ_seq ?_
    (repeat refine W_seq ?_); refine W_regionD tb [] _ [(0, 0), (1, 1), (2, 0), (3, 0), (4, 0)] (by kernel_rfl) (keepAll _) ?_
    (repeat' (first | refine Zpv tb ?_ | (refine Zpt (fun ht => ?_) (fun ht => ?_) <;> (dsimp only [cmpP, cmpN] at ht) <;> (try (exfalso; omega))) | refine Zpw ?_ | refine Zpu tb ?_ | refine Zps tb ?_ | refine Zpk ?_ | refine Zp0 ?_))
    refine WQ_ret ?_
    exact QF_mid fun D' => fin_spl (.tmp rfl (.tmp rfl (.tmp rfl .nil))) (List.Perm.refl _) rfl rfl
end Go.Proofs.Ytdnngagahhleiaa
