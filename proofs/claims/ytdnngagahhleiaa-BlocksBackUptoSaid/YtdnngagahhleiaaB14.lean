/- blocks: gaps cut again. The document's set. -/
import Derived.Test.YtdnngagahhleiaaB3
import Derived.Test.YtdnngagahhleiaaL6
namespace Go.Proofs.Ytdnngagahhleiaa
open Go.Sx
attribute [local irreducible] W WL WP Hv Yl
set_option maxRecDepth 10000
set_option linter.unusedVariables false
set_option linter.unusedSimpArgs false
set_option maxHeartbeats 1000000 in
theorem rset_t (A : Option Addr) (l : List Sp) (cap : Nat) (w : World) (h : SlO w [] A l.length cap (spC.cells l)) :
    Tr Try.prog 55 #[.slice A l.length cap] w [] (fun v Γ => v = .bool (decide (Right l)) ∧ Γ = []) := by
  refine Tr_intro (rs := [.tmp 2]) (args := [.slice A l.length cap]) Try.func55 rfl rfl 58 rfl rfl ?_
  have hm := h.max
  (repeat' (first | refine Zv tb ?_ | (refine Zt (fun ht => ?_) (fun ht => ?_) <;> (dsimp only [cmpP, cmpN] at ht) <;> (try (exfalso; omega))) | refine Z0 ?_ | refine Zq ?_ | refine Zr ?_ | refine Zk ?_ | refine Zy ?_ | refine Zn ?_ | refine Zj ?_ | refine Ze ?_ | refine Zx ?_ | refine Zqr ?_ | refine Zqs ?_ | refine Zqc ?_ | refine Zqx ?_ | refine Zqf ?_ | refine Zm tb fun b => ?_ | refine Zb fun b => ?_ | refine Zs tb ?_ | refine Zu tb ?_))
  · refine ⟨_, [], .tmp rfl .nil, ⟨?_, rfl⟩, _, List.Perm.refl _⟩
    have : ¬ Right l := fun h => by have := h.1; omega
    simp [tup, this]
  · refine W_loop (σ := Nat) (fun i => [(0, .slice A l.length cap), (3, .int .i64 i)]) (fun _ => []) (fun i => i ≤ l.length ∧ ∀ j, j < i → okAt l j) (fun i => l.length - i) 0
      ⟨Nat.zero_le _, fun j h => by omega⟩ (by repeat (first | exact Sub.nil | refine Sub.cons rfl ?_)) (keepAll _) ?_
    rintro i ⟨hi, hok⟩
    by_cases hlt : i < l.length
    · obtain ⟨a, rfl, hH0⟩ := h.rd (cells_ne spC (by intro h; simp [h] at hlt) (by decide))
      have hH : ∀ K, Has w [] K a (spC.cells l) := fun K => Has.old hH0
      have hlt1 : i - 1 < l.length := by omega
      have ho := @okAt_iff l i
      (repeat' (first | refine Zv tb ?_ | (refine Zt (fun ht => ?_) (fun ht => ?_) <;> (dsimp only [cmpP, cmpN] at ht) <;> (try (exfalso; omega))) | refine Z0 ?_ | refine Zq ?_ | refine Zr ?_ | refine Zk ?_ | refine Zy ?_ | refine Zn ?_ | refine Zj ?_ | refine Ze ?_ | refine Zx ?_ | refine Zqr ?_ | refine Zqs ?_ | refine Zqc ?_ | refine Zqx ?_ | refine Zqf ?_ | refine Zm tb fun b => ?_ | refine Zb fun b => ?_ | refine Zs tb ?_ | refine Zu tb ?_))
      (repeat refine W_seq ?_); refine W_regionD tb [] _ [(0, 0), (1, 0), (2, 0), (3, 0), (4, 1), (5, 0), (6, 0), (7, 0), (8, 0), (9, 0), (10, 0), (11, 1), (12, 0), (13, 0), (14, 0), (15, 0), (16, 1), (17, 0), (18, 0), (19, 0), (20, 0), (21, 0), (22, 0), (23, 0), (24, 1), (25, 0), (26, 0), (27, 0), (28, 0), (29, 0), (30, 0), (31, 0), (32, 0), (33, 0), (34, 0), (35, 1), (36, 0), (37, 0), (38, 0), (39, 0), (40, 0), (41, 1), (42, 0), (43, 0), (44, 0)] (by kernel_rfl) (keepAll _) ?_
      (repeat' (first | refine Zpv tb ?_ | (refine Zpt (fun ht => ?_) (fun ht => ?_) <;> (dsimp only [cmpP, cmpN] at ht) <;> (try (exfalso; omega))) | refine WP_u0 rfl (by first | exact Yl_indexAddr tb (i - 1) rfl rfl rfl (by omega) (by omega) | exact Yl_indexAddr tb i rfl rfl rfl rfl hlt | exact Yl_load1 tb rfl rfl ((hH _).el (i := i - 1) hlt1) rfl | exact Yl_load1 tb rfl rfl ((hH _).el (i := i) hlt) rfl) rfl rfl ?_ | refine WP_u1 rfl (by first | exact Yl_indexAddr tb (i - 1) rfl rfl rfl (by omega) (by omega) | exact Yl_indexAddr tb i rfl rfl rfl rfl hlt | exact Yl_load1 tb rfl rfl ((hH _).el (i := i - 1) hlt1) rfl | exact Yl_load1 tb rfl rfl ((hH _).el (i := i) hlt) rfl) rfl rfl ?_ | refine Zpw ?_ | refine Zpu tb ?_ | refine Zps tb ?_ | refine Zpk ?_ | refine Zp0 ?_))
      all_goals simp only [gp_eq hlt, gp_eq hlt1] at *
      all_goals (repeat' (first | refine Zv tb ?_ | (refine Zt (fun ht => ?_) (fun ht => ?_) <;> (dsimp only [cmpP, cmpN] at ht) <;> (try (exfalso; omega))) | refine Z0 ?_ | refine Zq ?_ | refine Zr ?_ | refine Zk ?_ | refine Zy ?_ | refine Zn ?_ | refine Zj ?_ | refine Ze ?_ | refine Zx ?_ | refine Zqr ?_ | refine Zqs ?_ | refine Zqc ?_ | refine Zqx ?_ | refine Zqf ?_ | refine Zm tb fun b => ?_ | refine Zb fun b => ?_ | refine Zs tb ?_ | refine Zu tb ?_))
      all_goals first
        | (refine ⟨i + 1, ?_, ?_, (by repeat (first | exact Sub.nil | refine Sub.cons rfl ?_)), (by first | exact ⟨_, List.Perm.refl _⟩ | exact ⟨_, List.perm_append_comm⟩)⟩
           · refine ⟨by omega, fun j hj => ?_⟩
             by_cases hji : j = i
             · subst hji; rw [ho]; omega
             · exact hok j (by omega)
           · omega)
        | (first | refine ⟨_, [], .tmp rfl .nil, ⟨?_, rfl⟩, _, List.Perm.refl _⟩ | refine ⟨_, _, .tmp rfl .nil, ⟨?_, rfl⟩, _, List.perm_append_comm⟩
           have : ¬ Right l := fun h => by have h2 := ho.1 (h.2 i hlt); omega
           simp [tup, this])
    · (repeat' (first | refine Zv tb ?_ | (refine Zt (fun ht => ?_) (fun ht => ?_) <;> (dsimp only [cmpP, cmpN] at ht) <;> (try (exfalso; omega))) | refine Z0 ?_ | refine Zq ?_ | refine Zr ?_ | refine Zk ?_ | refine Zy ?_ | refine Zn ?_ | refine Zj ?_ | refine Ze ?_ | refine Zx ?_ | refine Zqr ?_ | refine Zqs ?_ | refine Zqc ?_ | refine Zqx ?_ | refine Zqf ?_ | refine Zm tb fun b => ?_ | refine Zb fun b => ?_ | refine Zs tb ?_ | refine Zu tb ?_))
      refine ⟨_, [], .tmp rfl .nil, ⟨?_, rfl⟩, _, List.Perm.refl _⟩
      have : Right l := ⟨by omega, fun j hj => hok j (by omega)⟩
      simp [tup, this]
end Go.Proofs.Ytdnngagahhleiaa
