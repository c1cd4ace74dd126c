/- blocks: a piece of a parcel; the document's. -/
import Derived.Test.YtdnngagahhleiaaB9
namespace Go.Proofs.Ytdnngagahhleiaa
open Go.Sx
attribute [local irreducible] W WL WP Hv Yl WQ At QP QF Rnd
set_option maxRecDepth 10000
set_option linter.unusedVariables false
set_option linter.unusedSimpArgs false
def askB (x : Pce) : Bool := decide (1 ≤ x.ck ∧ x.ck ≤ 4611686018427387903 ∧ 0 ≤ x.rp ∧ x.rp ≤ 4611686018427387903)
def nonB (x : Pce) : Bool := decide (x.ck = 0 ∧ x.rp = 0)
def pieceB (p : Prc) (x : Pce) : Bool := decide (0 ≤ x.fr ∧ x.fr < x.to) && (
  (decide (x.ty = 0) && nonB x && decide (x.to < p.red)) || (decide (x.ty = 1) && askB x && decide (x.to < p.red)) || (decide (x.ty = 2) && askB x && decide (x.to = p.red ∧ p.red < p.size)) ||
  (decide (x.ty = 3) && askB x && decide (x.to = p.red ∧ p.red = p.size)) || (decide (x.ty = 4) && nonB x && decide (p.red ≤ x.fr ∧ x.to < p.size)) || (decide (x.ty = 7) && nonB x && decide (p.red ≤ x.fr ∧ x.to = p.size)))
abbrev pcVal (x : Pce) : Value := .agg #[.int .i64 x.ty, .int .i64 x.fr, .int .i64 x.to, .int .i64 x.ck, .int .i64 x.rp]
set_option maxHeartbeats 4000000 in
theorem piece_t (p : Prc) (x : Pce) (w : World) : Tr Try.prog 56 #[prcV p, pcVal x] w [] (fun v Γ => v = .bool (pieceB p x) ∧ Γ = []) := by
  refine Tr_intro (rs := [.tmp 4]) (args := [prcV p, pcVal x]) Try.func56 rfl rfl 128 rfl rfl ?_
  refine Zq ?_
  (repeat' (first | refine Zv tb ?_ | (refine Zt (fun ht => ?_) (fun ht => ?_) <;> (dsimp only [cmpP, cmpN] at ht) <;> (try (exfalso; omega))) | refine Z0 ?_ | refine Zr ?_ | refine Zm tb fun b => ?_ | refine Zb fun b => ?_ | refine Zs tb ?_ | refine Zu tb ?_))
  revert b
  intro b3
  by_cases h0 : 0 ≤ x.fr ∧ x.fr < x.to
  · refine Zq ?_
    refine Zq ?_
    (repeat' (first | refine Zv tb ?_ | (refine Zt (fun ht => ?_) (fun ht => ?_) <;> (dsimp only [cmpP, cmpN] at ht) <;> (try (exfalso; omega))) | refine Z0 ?_ | refine Zr ?_ | refine Zm tb fun b => ?_ | refine Zb fun b => ?_ | refine Zs tb ?_ | refine Zu tb ?_))
    refine Zn ?_
    refine Zj ?_
    refine W_cutS (σ := Unit) (fun _ => [(2, .pointer (some ⟨b, 0, none⟩)), (3, .pointer (some ⟨b3, 0, none⟩)), (5, .bool (askB x)), (6, .bool (nonB x))])
      (fun _ => [.blk b3 [.int .i64 x.ty, .int .i64 x.fr, .int .i64 x.to, .int .i64 x.ck, .int .i64 x.rp] 65, .blk b [.int .i64 p.svc, .int .i64 p.size, .int .i64 p.red, .int .i64 p.mtu, .int .i64 p.every] 25]) (fun _ => True) ?_ ?_
    · by_cases ha : 1 ≤ x.ck
      · (repeat' (first | refine Zv tb ?_ | (refine Zt (fun ht => ?_) (fun ht => ?_) <;> (dsimp only [cmpP, cmpN] at ht) <;> (try (exfalso; omega))) | refine Z0 ?_ | refine Zq ?_ | refine Zr ?_ | refine Zk ?_ | refine Zy ?_ | refine Zn ?_ | refine Zj ?_ | refine Ze ?_ | refine Zx ?_ | refine Zqr ?_ | refine Zqs ?_ | refine Zqc ?_ | refine Zqx ?_ | refine Zqf ?_ | refine Zm tb fun b => ?_ | refine Zb fun b => ?_ | refine Zs tb ?_ | refine Zu tb ?_))
        refine WL_cons rfl (Hv_call tb (Γ1 := []) rfl rfl rfl (List.Perm.refl _) (fun w hs => number_t x.ck w) rfl ?_)
        rintro v Γ' ⟨rfl, rfl⟩
        cases h1 : numB x.ck
        · simp only [numB, decide_eq_false_iff_not] at h1
          have e : askB x = false := by unfold askB; rw [decide_eq_false_iff_not]; omega
          have e2 : nonB x = false := by unfold nonB; rw [decide_eq_false_iff_not]; omega
          rw [e, e2]
          (repeat' (first | refine Zv tb ?_ | (refine Zt (fun ht => ?_) (fun ht => ?_) <;> (dsimp only [cmpP, cmpN] at ht) <;> (try (exfalso; omega))) | refine Z0 ?_ | refine Zq ?_ | refine Zr ?_ | refine Zk ?_ | refine Zy ?_ | refine Zn ?_ | refine Zj ?_ | refine Ze ?_ | refine Zx ?_ | refine Zqr ?_ | refine Zqs ?_ | refine Zqc ?_ | refine Zqx ?_ | refine Zqf ?_ | refine Zm tb fun b => ?_ | refine Zb fun b => ?_ | refine Zs tb ?_ | refine Zu tb ?_))
          exact ⟨(), trivial, (by repeat (first | exact Sub.nil | refine Sub.cons rfl ?_)), keepAll _⟩
        (repeat' (first | refine Zv tb ?_ | (refine Zt (fun ht => ?_) (fun ht => ?_) <;> (dsimp only [cmpP, cmpN] at ht) <;> (try (exfalso; omega))) | refine Z0 ?_ | refine Zq ?_ | refine Zr ?_ | refine Zk ?_ | refine Zy ?_ | refine Zn ?_ | refine Zj ?_ | refine Ze ?_ | refine Zx ?_ | refine Zqr ?_ | refine Zqs ?_ | refine Zqc ?_ | refine Zqx ?_ | refine Zqf ?_ | refine Zm tb fun b => ?_ | refine Zb fun b => ?_ | refine Zs tb ?_ | refine Zu tb ?_))
        refine WL_cons rfl (Hv_call tb (Γ1 := []) rfl rfl rfl (List.Perm.refl _) (fun w hs => number_t x.rp w) rfl ?_)
        rintro v Γ' ⟨rfl, rfl⟩
        have e : askB x = numB x.rp := by
          simp only [numB, decide_eq_true_eq] at h1
          unfold askB numB; rw [Bool.eq_iff_iff, decide_eq_true_eq, decide_eq_true_eq]; omega
        have e2 : nonB x = false := by unfold nonB; rw [decide_eq_false_iff_not]; omega
        rw [e, e2]
        (repeat' (first | refine Zv tb ?_ | (refine Zt (fun ht => ?_) (fun ht => ?_) <;> (dsimp only [cmpP, cmpN] at ht) <;> (try (exfalso; omega))) | refine Z0 ?_ | refine Zq ?_ | refine Zr ?_ | refine Zk ?_ | refine Zy ?_ | refine Zn ?_ | refine Zj ?_ | refine Ze ?_ | refine Zx ?_ | refine Zqr ?_ | refine Zqs ?_ | refine Zqc ?_ | refine Zqx ?_ | refine Zqf ?_ | refine Zm tb fun b => ?_ | refine Zb fun b => ?_ | refine Zs tb ?_ | refine Zu tb ?_))
        exact ⟨(), trivial, (by repeat (first | exact Sub.nil | refine Sub.cons rfl ?_)), keepAll _⟩
      · have e : askB x = false := by unfold askB; rw [decide_eq_false_iff_not]; omega
        rw [e]
        by_cases hb : x.ck = 0 ∧ x.rp = 0
        · have e2 : nonB x = true := by unfold nonB; rw [decide_eq_true_eq]; omega
          rw [e2]
          (repeat' (first | refine Zv tb ?_ | (refine Zt (fun ht => ?_) (fun ht => ?_) <;> (dsimp only [cmpP, cmpN] at ht) <;> (try (exfalso; omega))) | refine Z0 ?_ | refine Zq ?_ | refine Zr ?_ | refine Zk ?_ | refine Zy ?_ | refine Zn ?_ | refine Zj ?_ | refine Ze ?_ | refine Zx ?_ | refine Zqr ?_ | refine Zqs ?_ | refine Zqc ?_ | refine Zqx ?_ | refine Zqf ?_ | refine Zm tb fun b => ?_ | refine Zb fun b => ?_ | refine Zs tb ?_ | refine Zu tb ?_))
          all_goals first | exact ⟨(), trivial, (by repeat (first | exact Sub.nil | refine Sub.cons rfl ?_)), keepAll _⟩ | (exfalso; omega)
        · have e2 : nonB x = false := by unfold nonB; rw [decide_eq_false_iff_not]; omega
          rw [e2]
          (repeat' (first | refine Zv tb ?_ | (refine Zt (fun ht => ?_) (fun ht => ?_) <;> (dsimp only [cmpP, cmpN] at ht) <;> (try (exfalso; omega))) | refine Z0 ?_ | refine Zq ?_ | refine Zr ?_ | refine Zk ?_ | refine Zy ?_ | refine Zn ?_ | refine Zj ?_ | refine Ze ?_ | refine Zx ?_ | refine Zqr ?_ | refine Zqs ?_ | refine Zqc ?_ | refine Zqx ?_ | refine Zqf ?_ | refine Zm tb fun b => ?_ | refine Zb fun b => ?_ | refine Zs tb ?_ | refine Zu tb ?_))
          all_goals first | exact ⟨(), trivial, (by repeat (first | exact Sub.nil | refine Sub.cons rfl ?_)), keepAll _⟩ | (exfalso; omega)
    intro _ _
    cases hA : askB x <;> cases hN : nonB x
    all_goals (repeat' (first | refine Zv tb ?_ | (refine Zt (fun ht => ?_) (fun ht => ?_) <;> (dsimp only [cmpP, cmpN] at ht) <;> (try (exfalso; omega))) | refine Z0 ?_ | refine Zq ?_ | refine Zr ?_ | refine Zk ?_ | refine Zy ?_ | refine Zn ?_ | refine Zj ?_ | refine Ze ?_ | refine Zx ?_ | refine Zqr ?_ | refine Zqs ?_ | refine Zqc ?_ | refine Zqx ?_ | refine Zqf ?_ | refine Zm tb fun b => ?_ | refine Zb fun b => ?_ | refine Zs tb ?_ | refine Zu tb ?_))
    all_goals first | refine ⟨_, [], .tmp rfl .nil, ⟨?_, rfl⟩, _, List.Perm.refl _⟩ | refine ⟨_, _, .tmp rfl .nil, ⟨?_, rfl⟩, _, List.perm_append_comm⟩
    all_goals simp [tup, pieceB, hA, hN]
    all_goals omega
  · (repeat' (first | refine Zv tb ?_ | (refine Zt (fun ht => ?_) (fun ht => ?_) <;> (dsimp only [cmpP, cmpN] at ht) <;> (try (exfalso; omega))) | refine Z0 ?_ | refine Zq ?_ | refine Zr ?_ | refine Zk ?_ | refine Zy ?_ | refine Zn ?_ | refine Zj ?_ | refine Ze ?_ | refine Zx ?_ | refine Zqr ?_ | refine Zqs ?_ | refine Zqc ?_ | refine Zqx ?_ | refine Zqf ?_ | refine Zm tb fun b => ?_ | refine Zb fun b => ?_ | refine Zs tb ?_ | refine Zu tb ?_))
    all_goals first | refine ⟨_, [], .tmp rfl .nil, ⟨?_, rfl⟩, _, List.Perm.refl _⟩ | refine ⟨_, _, .tmp rfl .nil, ⟨?_, rfl⟩, _, List.perm_append_comm⟩
    all_goals simp [tup, pieceB]
    all_goals omega
set_option maxHeartbeats 4000000 in
theorem rpiece_t (p : Prc) (x : Pce) (w : World) : Tr Try.prog 57 #[prcV p, pcVal x] w [] (fun v Γ => v = .bool (pieceB p x) ∧ Γ = []) := by
  refine Tr_intro (rs := [.tmp 4]) (args := [prcV p, pcVal x]) Try.func57 rfl rfl 120 rfl rfl ?_
  by_cases h0 : 0 ≤ x.fr ∧ x.fr < x.to
  · (repeat' (first | refine Zv tb ?_ | (refine Zt (fun ht => ?_) (fun ht => ?_) <;> (dsimp only [cmpP, cmpN] at ht) <;> (try (exfalso; omega))) | refine Z0 ?_ | refine Zq ?_ | refine Zr ?_ | refine Zk ?_ | refine Zy ?_ | refine Zn ?_ | refine Zj ?_ | refine Ze ?_ | refine Zx ?_ | refine Zqr ?_ | refine Zqs ?_ | refine Zqc ?_ | refine Zqx ?_ | refine Zqf ?_ | refine Zm tb fun b => ?_ | refine Zb fun b => ?_ | refine Zs tb ?_ | refine Zu tb ?_))
    refine WL_cons rfl (Hv_call tb (Γ1 := []) rfl rfl rfl (List.Perm.refl _) (fun w hs => check_t x.ty w) rfl ?_)
    rintro v Γ' ⟨rfl, rfl⟩
    have hA : askB x = true ↔ 1 ≤ x.ck ∧ x.ck ≤ 4611686018427387903 ∧ 0 ≤ x.rp ∧ x.rp ≤ 4611686018427387903 := by simp [askB]
    have hN : nonB x = true ↔ x.ck = 0 ∧ x.rp = 0 := by simp [nonB]
    cases hC : chkB x.ty
    · have hc : ¬ (x.ty = 1 ∨ x.ty = 2 ∨ x.ty = 3) := by simpa [chkB] using hC
      cases hn : nonB x
      · have hn' : ¬ (x.ck = 0 ∧ x.rp = 0) := fun h => by rw [hN.2 h] at hn; cases hn
        (repeat' (first | refine Zv tb ?_ | (refine Zt (fun ht => ?_) (fun ht => ?_) <;> (dsimp only [cmpP, cmpN] at ht) <;> (try (exfalso; omega))) | refine Z0 ?_ | refine Zq ?_ | refine Zr ?_ | refine Zk ?_ | refine Zy ?_ | refine Zn ?_ | refine Zj ?_ | refine Ze ?_ | refine Zx ?_ | refine Zqr ?_ | refine Zqs ?_ | refine Zqc ?_ | refine Zqx ?_ | refine Zqf ?_ | refine Zm tb fun b => ?_ | refine Zb fun b => ?_ | refine Zs tb ?_ | refine Zu tb ?_))
        all_goals first | refine ⟨_, [], .tmp rfl .nil, ⟨?_, rfl⟩, _, List.Perm.refl _⟩ | refine ⟨_, _, .tmp rfl .nil, ⟨?_, rfl⟩, _, List.perm_append_comm⟩
        all_goals simp [tup, pieceB, hn]
        all_goals omega
      · have hn' := hN.1 hn
        (repeat' (first | refine Zv tb ?_ | (refine Zt (fun ht => ?_) (fun ht => ?_) <;> (dsimp only [cmpP, cmpN] at ht) <;> (try (exfalso; omega))) | refine Z0 ?_ | refine Zq ?_ | refine Zr ?_ | refine Zk ?_ | refine Zy ?_ | refine Zn ?_ | refine Zj ?_ | refine Ze ?_ | refine Zx ?_ | refine Zqr ?_ | refine Zqs ?_ | refine Zqc ?_ | refine Zqx ?_ | refine Zqf ?_ | refine Zm tb fun b => ?_ | refine Zb fun b => ?_ | refine Zs tb ?_ | refine Zu tb ?_))
        all_goals first | refine ⟨_, [], .tmp rfl .nil, ⟨?_, rfl⟩, _, List.Perm.refl _⟩ | refine ⟨_, _, .tmp rfl .nil, ⟨?_, rfl⟩, _, List.perm_append_comm⟩
        all_goals simp [tup, pieceB, hn]
        all_goals omega
    · have hc : x.ty = 1 ∨ x.ty = 2 ∨ x.ty = 3 := by simpa [chkB] using hC
      cases ha : askB x
      · have ha' : ¬ (1 ≤ x.ck ∧ x.ck ≤ 4611686018427387903 ∧ 0 ≤ x.rp ∧ x.rp ≤ 4611686018427387903) := fun h => by rw [hA.2 h] at ha; cases ha
        (repeat' (first | refine Zv tb ?_ | (refine Zt (fun ht => ?_) (fun ht => ?_) <;> (dsimp only [cmpP, cmpN] at ht) <;> (try (exfalso; omega))) | refine Z0 ?_ | refine Zq ?_ | refine Zr ?_ | refine Zk ?_ | refine Zy ?_ | refine Zn ?_ | refine Zj ?_ | refine Ze ?_ | refine Zx ?_ | refine Zqr ?_ | refine Zqs ?_ | refine Zqc ?_ | refine Zqx ?_ | refine Zqf ?_ | refine Zm tb fun b => ?_ | refine Zb fun b => ?_ | refine Zs tb ?_ | refine Zu tb ?_))
        all_goals first | refine ⟨_, [], .tmp rfl .nil, ⟨?_, rfl⟩, _, List.Perm.refl _⟩ | refine ⟨_, _, .tmp rfl .nil, ⟨?_, rfl⟩, _, List.perm_append_comm⟩
        all_goals simp [tup, pieceB, ha]
        all_goals omega
      · have ha' := hA.1 ha
        (repeat' (first | refine Zv tb ?_ | (refine Zt (fun ht => ?_) (fun ht => ?_) <;> (dsimp only [cmpP, cmpN] at ht) <;> (try (exfalso; omega))) | refine Z0 ?_ | refine Zq ?_ | refine Zr ?_ | refine Zk ?_ | refine Zy ?_ | refine Zn ?_ | refine Zj ?_ | refine Ze ?_ | refine Zx ?_ | refine Zqr ?_ | refine Zqs ?_ | refine Zqc ?_ | refine Zqx ?_ | refine Zqf ?_ | refine Zm tb fun b => ?_ | refine Zb fun b => ?_ | refine Zs tb ?_ | refine Zu tb ?_))
        all_goals first | refine ⟨_, [], .tmp rfl .nil, ⟨?_, rfl⟩, _, List.Perm.refl _⟩ | refine ⟨_, _, .tmp rfl .nil, ⟨?_, rfl⟩, _, List.perm_append_comm⟩
        all_goals simp [tup, pieceB, ha]
        all_goals omega
  · (repeat' (first | refine Zv tb ?_ | (refine Zt (fun ht => ?_) (fun ht => ?_) <;> (dsimp only [cmpP, cmpN] at ht) <;> (try (exfalso; omega))) | refine Z0 ?_ | refine Zq ?_ | refine Zr ?_ | refine Zk ?_ | refine Zy ?_ | refine Zn ?_ | refine Zj ?_ | refine Ze ?_ | refine Zx ?_ | refine Zqr ?_ | refine Zqs ?_ | refine Zqc ?_ | refine Zqx ?_ | refine Zqf ?_ | refine Zm tb fun b => ?_ | refine Zb fun b => ?_ | refine Zs tb ?_ | refine Zu tb ?_))
    all_goals first | refine ⟨_, [], .tmp rfl .nil, ⟨?_, rfl⟩, _, List.Perm.refl _⟩ | refine ⟨_, _, .tmp rfl .nil, ⟨?_, rfl⟩, _, List.perm_append_comm⟩
    all_goals simp [tup, pieceB]
    all_goals omega
end Go.Proofs.Ytdnngagahhleiaa
