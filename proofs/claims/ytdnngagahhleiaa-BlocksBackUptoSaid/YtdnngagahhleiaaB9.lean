/- the document's answer of layer 4: numbers, sessions, parcels, rooms. -/
import Derived.Test.YtdnngagahhleiaaB3
import Derived.Test.YtdnngagahhleiaaY1
namespace Go.Proofs.Ytdnngagahhleiaa
open Go.Sx
attribute [local irreducible] W WL WP Hv Yl WQ At QP QF Rnd
set_option maxRecDepth 10000
set_option linter.unusedVariables false
set_option linter.unusedSimpArgs false
set_option maxHeartbeats 1000000 in
theorem digits_t (n : Nat) (w : World) (hn : n ≤ 9223372036854775807) : Tr Try.prog 89 #[.int .u64 (n : Int)] w [] (fun v Γ => ∃ V c, v = .slice V (sz n) c ∧ Γ = []) := by
  refine Tr_intro (rs := [.tmp 2]) (args := [.int .u64 (n : Int)]) Try.func89 rfl rfl 21 rfl rfl ?_
  (repeat' (first | refine Zv tb ?_ | (refine Zt (fun ht => ?_) (fun ht => ?_) <;> (dsimp only [cmpP, cmpN] at ht) <;> (try (exfalso; omega))) | refine Z0 ?_ | refine Zq ?_ | refine Zr ?_ | refine Zk ?_ | refine Zy ?_ | refine Zn ?_ | refine Zj ?_ | refine Ze ?_ | refine Zx ?_ | refine Zqr ?_ | refine Zqs ?_ | refine Zqc ?_ | refine Zqx ?_ | refine Zqf ?_ | refine Zm tb fun b => ?_ | refine Zb fun b => ?_ | refine Zs tb ?_ | refine WL_u (by first | exact Yl_rem rfl rfl (by omega) (by omega)) rfl rfl ?_ | refine Zu tb ?_))
  refine WL_cons rfl (Hv_buildSlice tb rfl rfl rfl (by decide) rfl rfl rfl rfl fun q => ?_)
  (repeat' (first | refine Zv tb ?_ | (refine Zt (fun ht => ?_) (fun ht => ?_) <;> (dsimp only [cmpP, cmpN] at ht) <;> (try (exfalso; omega))) | refine Z0 ?_ | refine Zq ?_ | refine Zr ?_ | refine Zk ?_ | refine Zy ?_ | refine Zn ?_ | refine Zj ?_ | refine Ze ?_ | refine Zx ?_ | refine Zqr ?_ | refine Zqs ?_ | refine Zqc ?_ | refine Zqx ?_ | refine Zqf ?_ | refine Zm tb fun b => ?_ | refine Zb fun b => ?_ | refine Zs tb ?_ | refine WL_u (by first | exact Yl_quo rfl rfl (by omega) (by omega) (wrap_u64 (by omega) (by omega))) rfl rfl ?_ | refine Zu tb ?_))
  refine W_loop (σ := Nat × List Int × Nat × Addr) (fun | (q, l, c, a) => [(0, .int .u64 (q : Int)), (3, .slice (some a) l.length c)]) (fun | (q, l, c, a) => [.row (.slice (some a) l.length c) 5 1 l.length (byC.cells l)])
    (fun | (q, l, c, a) => q ≤ n ∧ l.length ≤ 100 ∧ l.length + (if q = 0 then 0 else sz q) = sz n) (fun | (q, _) => q) (n / 128, [IntKind.u8.wrap ((n : Int) % 128)], 1, ⟨q, 0, none⟩) ⟨by omega, by simp, ?_⟩ ?_ (keepAll _) ?_
  · by_cases h : n < 128
    · rw [if_pos (by omega), sz_lt h]; rfl
    · rw [if_neg (by omega), sz_ge (n := n) (by omega)]; simp; omega
  · dsimp only
    rw [show ((n / 128 : Nat) : Int) = (n : Int) / 128 by omega]
    exact (by repeat (first | exact Sub.nil | refine Sub.cons rfl ?_))
  rintro ⟨q, l, c, a⟩ ⟨hq, hl, hsz⟩
  dsimp only at hq hl hsz ⊢
  have hsn := sz_le 8 n (by omega)
  by_cases h0 : q = 0
  · subst h0
    (repeat' (first | refine Zv tb ?_ | (refine Zt (fun ht => ?_) (fun ht => ?_) <;> (dsimp only [cmpP, cmpN] at ht) <;> (try (exfalso; omega))) | refine Z0 ?_ | refine Zq ?_ | refine Zr ?_ | refine Zk ?_ | refine Zy ?_ | refine Zn ?_ | refine Zj ?_ | refine Ze ?_ | refine Zx ?_ | refine Zqr ?_ | refine Zqs ?_ | refine Zqc ?_ | refine Zqx ?_ | refine Zqf ?_ | refine Zm tb fun b => ?_ | refine Zb fun b => ?_ | refine Zs tb ?_ | refine Zu tb ?_))
    rw [if_pos rfl] at hsz
    refine ⟨_, [], .tmp rfl .nil, ⟨some a, c, ?_, rfl⟩, _, List.Perm.refl _⟩
    rw [← hsz]; rfl
  · rw [if_neg h0] at hsz
    have h1 := sz_pos q
    (repeat' (first | refine Zv tb ?_ | (refine Zt (fun ht => ?_) (fun ht => ?_) <;> (dsimp only [cmpP, cmpN] at ht) <;> (try (exfalso; omega))) | refine Z0 ?_ | refine Zq ?_ | refine Zr ?_ | refine Zk ?_ | refine Zy ?_ | refine Zn ?_ | refine Zj ?_ | refine Ze ?_ | refine Zx ?_ | refine Zqr ?_ | refine Zqs ?_ | refine Zqc ?_ | refine Zqx ?_ | refine Zqf ?_ | refine Zm tb fun b => ?_ | refine Zb fun b => ?_ | refine Zs tb ?_ | refine WL_u (by first | exact Yl_rem rfl rfl (by omega) (by omega)) rfl rfl ?_ | refine Zu tb ?_))
    refine WL_cons rfl (Hv_buildSlice tb rfl rfl rfl (by decide) rfl rfl rfl rfl fun q1 => ?_)
    (repeat' (first | refine Zv tb ?_ | (refine Zt (fun ht => ?_) (fun ht => ?_) <;> (dsimp only [cmpP, cmpN] at ht) <;> (try (exfalso; omega))) | refine Z0 ?_ | refine Zq ?_ | refine Zr ?_ | refine Zk ?_ | refine Zy ?_ | refine Zn ?_ | refine Zj ?_ | refine Ze ?_ | refine Zx ?_ | refine Zqr ?_ | refine Zqs ?_ | refine Zqc ?_ | refine Zqx ?_ | refine Zqf ?_ | refine Zm tb fun b => ?_ | refine Zb fun b => ?_ | refine Zs tb ?_ | refine Zu tb ?_))
    refine WL_cons rfl (Hv_append tb (k := 0) (m := l.length) (news := byC.cells l) rfl rfl rfl rfl rfl (by decide) rfl (Has.row (by repeat (first | exact List.Mem.head _ | apply List.Mem.tail))) ((by_len _).trans (Nat.mul_one _).symm) (by_all _) (by omega) (by omega) rfl fun V' c' hV' => ?_)
    obtain ⟨v', rfl⟩ : ∃ v, V' = some v := by cases V' with
      | some v => exact ⟨v, rfl⟩
      | none => have := hV'.1 rfl; simp at this
    (repeat' (first | refine Zv tb ?_ | (refine Zt (fun ht => ?_) (fun ht => ?_) <;> (dsimp only [cmpP, cmpN] at ht) <;> (try (exfalso; omega))) | refine Z0 ?_ | refine Zq ?_ | refine Zr ?_ | refine Zk ?_ | refine Zy ?_ | refine Zn ?_ | refine Zj ?_ | refine Ze ?_ | refine Zx ?_ | refine Zqr ?_ | refine Zqs ?_ | refine Zqc ?_ | refine Zqx ?_ | refine Zqf ?_ | refine Zm tb fun b => ?_ | refine Zb fun b => ?_ | refine Zs tb ?_ | refine WL_u (by first | exact Yl_quo rfl rfl (by omega) (by omega) (wrap_u64 (by omega) (by omega))) rfl rfl ?_ | refine Zu tb ?_))
    refine ⟨(q / 128, IntKind.u8.wrap ((q : Int) % 128) :: l, c', v'), ⟨by dsimp only; omega, by simp; omega, ?_⟩, by dsimp only; omega, ?_, ?_⟩
    · dsimp only
      by_cases h : q < 128
      · rw [if_pos (by omega)]; rw [sz_lt h] at hsz; simp; omega
      · rw [if_neg (by omega)]; rw [sz_ge (n := q) (by omega)] at hsz; simp; omega
    · dsimp only
      rw [show ((q / 128 : Nat) : Int) = (q : Int) / 128 by omega, List.length_cons, Nat.add_comm l.length 1]
      exact (by repeat (first | exact Sub.nil | refine Sub.cons rfl ?_))
    · dsimp only
      rw [List.length_cons, Nat.add_comm l.length 1, cells_cons]
      exact ⟨_, List.Perm.refl _⟩
theorem rsizen_t (n : Nat) (w : World) (hn : n ≤ 9223372036854775807) : Tr Try.prog 88 #[.int .u64 (n : Int)] w [] (fun v Γ => v = .int .i64 (sz n) ∧ Γ = []) := by
  refine Tr_intro (rs := [.tmp 2]) (args := [.int .u64 (n : Int)]) Try.func88 rfl rfl 6 rfl rfl ?_
  (repeat' (first | refine Zv tb ?_ | (refine Zt (fun ht => ?_) (fun ht => ?_) <;> (dsimp only [cmpP, cmpN] at ht) <;> (try (exfalso; omega))) | refine Z0 ?_ | refine Zq ?_ | refine Zr ?_ | refine Zk ?_ | refine Zy ?_ | refine Zn ?_ | refine Zj ?_ | refine Ze ?_ | refine Zx ?_ | refine Zqr ?_ | refine Zqs ?_ | refine Zqc ?_ | refine Zqx ?_ | refine Zqf ?_ | refine Zm tb fun b => ?_ | refine Zb fun b => ?_ | refine Zs tb ?_ | refine Zu tb ?_))
  refine WL_cons rfl (Hv_call tb (Γ1 := []) rfl rfl rfl (List.Perm.refl _) (fun w hs => digits_t n w hn) rfl ?_)
  rintro v Γ' ⟨V, c, rfl, rfl⟩
  (repeat' (first | refine Zv tb ?_ | (refine Zt (fun ht => ?_) (fun ht => ?_) <;> (dsimp only [cmpP, cmpN] at ht) <;> (try (exfalso; omega))) | refine Z0 ?_ | refine Zq ?_ | refine Zr ?_ | refine Zk ?_ | refine Zy ?_ | refine Zn ?_ | refine Zj ?_ | refine Ze ?_ | refine Zx ?_ | refine Zqr ?_ | refine Zqs ?_ | refine Zqc ?_ | refine Zqx ?_ | refine Zqf ?_ | refine Zm tb fun b => ?_ | refine Zb fun b => ?_ | refine Zs tb ?_ | refine Zu tb ?_))
  first | refine ⟨_, [], .tmp rfl .nil, ⟨?_, rfl⟩, _, List.Perm.refl _⟩ | refine ⟨_, _, .tmp rfl .nil, ⟨?_, rfl⟩, _, List.perm_append_comm⟩
  rfl
theorem wide_t (z : Int) (w : World) (h0 : 0 ≤ z) (h1 : z ≤ 9223372036854775807) : Tr Try.prog 84 #[.int .i64 z] w [] (fun v Γ => v = .int .i64 (szI z) ∧ Γ = []) := by
  have e : IntKind.u64.wrap z = (z.toNat : Int) := by rw [wrap_u64 h0 (by omega)]; omega
  refine Tr_intro (rs := [.tmp 2]) (args := [.int .i64 z]) Try.func84 rfl rfl 6 rfl rfl ?_
  (repeat' (first | refine Zv tb ?_ | (refine Zt (fun ht => ?_) (fun ht => ?_) <;> (dsimp only [cmpP, cmpN] at ht) <;> (try (exfalso; omega))) | refine Z0 ?_ | refine Zq ?_ | refine Zr ?_ | refine Zk ?_ | refine Zy ?_ | refine Zn ?_ | refine Zj ?_ | refine Ze ?_ | refine Zx ?_ | refine Zqr ?_ | refine Zqs ?_ | refine Zqc ?_ | refine Zqx ?_ | refine Zqf ?_ | refine Zm tb fun b => ?_ | refine Zb fun b => ?_ | refine Zs tb ?_ | refine Zu tb ?_))
  rw [e]
  refine WL_cons rfl (Hv_call tb (Γ1 := []) rfl rfl rfl (List.Perm.refl _) (fun w hs => rsizen_t z.toNat w (by omega)) rfl ?_)
  rintro v Γ' ⟨rfl, rfl⟩
  (repeat' (first | refine Zv tb ?_ | (refine Zt (fun ht => ?_) (fun ht => ?_) <;> (dsimp only [cmpP, cmpN] at ht) <;> (try (exfalso; omega))) | refine Z0 ?_ | refine Zq ?_ | refine Zr ?_ | refine Zk ?_ | refine Zy ?_ | refine Zn ?_ | refine Zj ?_ | refine Ze ?_ | refine Zx ?_ | refine Zqr ?_ | refine Zqs ?_ | refine Zqc ?_ | refine Zqx ?_ | refine Zqf ?_ | refine Zm tb fun b => ?_ | refine Zb fun b => ?_ | refine Zs tb ?_ | refine Zu tb ?_))
  first | refine ⟨_, [], .tmp rfl .nil, ⟨?_, rfl⟩, _, List.Perm.refl _⟩ | refine ⟨_, _, .tmp rfl .nil, ⟨?_, rfl⟩, _, List.perm_append_comm⟩
  rfl
theorem rsession_t (s : Ses) (w : World) : Tr Try.prog 49 #[sesV s] w [] (fun v Γ => v = .bool (sesB s) ∧ Γ = []) := by
  refine Tr_intro (rs := [.tmp 2]) (args := [sesV s]) Try.func49 rfl rfl 21 rfl rfl ?_
  (repeat' (first | refine Zv tb ?_ | (refine Zt (fun ht => ?_) (fun ht => ?_) <;> (dsimp only [cmpP, cmpN] at ht) <;> (try (exfalso; omega))) | refine Z0 ?_ | refine Zq ?_ | refine Zr ?_ | refine Zk ?_ | refine Zy ?_ | refine Zn ?_ | refine Zj ?_ | refine Ze ?_ | refine Zx ?_ | refine Zqr ?_ | refine Zqs ?_ | refine Zqc ?_ | refine Zqx ?_ | refine Zqf ?_ | refine Zm tb fun b => ?_ | refine Zb fun b => ?_ | refine Zs tb ?_ | refine Zu tb ?_))
  all_goals refine ⟨_, [], .tmp rfl .nil, ⟨?_, rfl⟩, _, List.Perm.refl _⟩
  all_goals simp_all [tup, sesB]
  all_goals omega
theorem rparcel_t (p : Prc) (w : World) : Tr Try.prog 50 #[prcV p] w [] (fun v Γ => v = .bool (prcB p) ∧ Γ = []) := by
  refine Tr_intro (rs := [.tmp 2]) (args := [prcV p]) Try.func50 rfl rfl 53 rfl rfl ?_
  (repeat' (first | refine Zv tb ?_ | (refine Zt (fun ht => ?_) (fun ht => ?_) <;> (dsimp only [cmpP, cmpN] at ht) <;> (try (exfalso; omega))) | refine Z0 ?_ | refine Zq ?_ | refine Zr ?_ | refine Zk ?_ | refine Zy ?_ | refine Zn ?_ | refine Zj ?_ | refine Ze ?_ | refine Zx ?_ | refine Zqr ?_ | refine Zqs ?_ | refine Zqc ?_ | refine Zqx ?_ | refine Zqf ?_ | refine Zm tb fun b => ?_ | refine Zb fun b => ?_ | refine Zs tb ?_ | refine Zu tb ?_))
  all_goals refine ⟨_, [], .tmp rfl .nil, ⟨?_, rfl⟩, _, List.Perm.refl _⟩
  all_goals first
    | (have : prcB p = false := by unfold prcB; rw [decide_eq_false_iff_not]; omega
       rw [this]; rfl)
    | (have : prcB p = true := by unfold prcB; rw [decide_eq_true_eq]; omega
       rw [this]; rfl)
theorem ended_t (p : Prc) (to : Int) (w : World) : Tr Try.prog 52 #[prcV p, .int .i64 to] w [] (fun v Γ => v = .int .i64 (endsT p to) ∧ Γ = []) := by
  refine Tr_intro (rs := [.tmp 4]) (args := [prcV p, .int .i64 to]) Try.func52 rfl rfl 14 rfl rfl ?_
  (repeat' (first | refine Zv tb ?_ | (refine Zt (fun ht => ?_) (fun ht => ?_) <;> (dsimp only [cmpP, cmpN] at ht) <;> (try (exfalso; omega))) | refine Z0 ?_ | refine Zq ?_ | refine Zr ?_ | refine Zk ?_ | refine Zy ?_ | refine Zn ?_ | refine Zj ?_ | refine Ze ?_ | refine Zx ?_ | refine Zqr ?_ | refine Zqs ?_ | refine Zqc ?_ | refine Zqx ?_ | refine Zqf ?_ | refine Zm tb fun b => ?_ | refine Zb fun b => ?_ | refine Zs tb ?_ | refine Zu tb ?_))
  all_goals refine ⟨_, [], .tmp rfl .nil, ⟨?_, rfl⟩, _, List.Perm.refl _⟩
  all_goals simp only [tup, endsT]
  all_goals congr 1
  all_goals (repeat' split)
  all_goals first | rfl | omega
def chkB (k : Int) : Bool := decide (k = 1 ∨ k = 2 ∨ k = 3)
theorem check_t (k : Int) (w : World) : Tr Try.prog 77 #[.int .i64 k] w [] (fun v Γ => v = .bool (chkB k) ∧ Γ = []) := by
  refine Tr_intro (rs := [.tmp 2]) (args := [.int .i64 k]) Try.func77 rfl rfl 13 rfl rfl ?_
  (repeat' (first | refine Zv tb ?_ | (refine Zt (fun ht => ?_) (fun ht => ?_) <;> (dsimp only [cmpP, cmpN] at ht) <;> (try (exfalso; omega))) | refine Z0 ?_ | refine Zq ?_ | refine Zr ?_ | refine Zk ?_ | refine Zy ?_ | refine Zn ?_ | refine Zj ?_ | refine Ze ?_ | refine Zx ?_ | refine Zqr ?_ | refine Zqs ?_ | refine Zqc ?_ | refine Zqx ?_ | refine Zqf ?_ | refine Zm tb fun b => ?_ | refine Zb fun b => ?_ | refine Zs tb ?_ | refine Zu tb ?_))
  all_goals refine ⟨_, [], .tmp rfl .nil, ⟨?_, rfl⟩, _, List.Perm.refl _⟩
  all_goals simp_all [tup, chkB]
end Go.Proofs.Ytdnngagahhleiaa
