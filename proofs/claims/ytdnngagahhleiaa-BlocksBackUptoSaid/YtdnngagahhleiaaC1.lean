/- claims: may, asked, Right. -/
import Derived.Test.YtdnngagahhleiaaTab
import Derived.Test.YtdnngagahhleiaaSxB
namespace Go.Proofs.Ytdnngagahhleiaa
open Go.Sx
attribute [local irreducible] W WL WP Hv Yl
set_option maxRecDepth 10000
set_option linter.unusedVariables false
def spC : Cod (Int × Int) := ⟨2, fun x => [.int .i64 x.1, .int .i64 x.2], fun _ => rfl⟩
abbrev spV (x : Int × Int) : Value := .agg #[.int .i64 x.1, .int .i64 x.2]
def mayB (x : Int × Int) : Bool := decide (0 ≤ x.1 ∧ x.1 < x.2 ∧ x.2 ≤ 4611686018427387903)
def askedB (x : Int × Int) : Bool := decide (0 ≤ x.1 ∧ x.1 ≤ x.2 ∧ x.2 ≤ 4611686018427387903)
theorem may_t (x y : Int) (w : World) : Tr Try.prog 76 #[.agg #[.int .i64 x, .int .i64 y]] w [] (fun v Γ => v = .bool (mayB (x, y)) ∧ Γ = []) := by
  refine Tr_intro (rs := [.tmp 2]) (args := [.agg #[.int .i64 x, .int .i64 y]]) Try.func76 rfl rfl 18 rfl rfl ?_
  (repeat' (first | refine Zv tb ?_ | (refine Zt (fun ht => ?_) (fun ht => ?_) <;> (dsimp only [cmpP, cmpN] at ht) <;> (try (exfalso; omega))) | refine Z0 ?_ | refine Zq ?_ | refine Zr ?_ | refine Zk ?_ | refine Zy ?_ | refine Zn ?_ | refine Zj ?_ | refine Ze ?_ | refine Zx ?_ | refine Zqr ?_ | refine Zqs ?_ | refine Zqc ?_ | refine Zqx ?_ | refine Zqf ?_ | refine Zm tb fun b => ?_ | refine Zb fun b => ?_ | refine Zs tb ?_ | refine Zu tb ?_))
  all_goals refine ⟨_, [], .tmp rfl .nil, ⟨?_, rfl⟩, _, List.Perm.refl _⟩
  all_goals simp_all [tup, mayB]
  all_goals omega
theorem asked_t (x y : Int) (w : World) : Tr Try.prog 80 #[.agg #[.int .i64 x, .int .i64 y]] w [] (fun v Γ => v = .bool (askedB (x, y)) ∧ Γ = []) := by
  refine Tr_intro (rs := [.tmp 2]) (args := [.agg #[.int .i64 x, .int .i64 y]]) Try.func80 rfl rfl 18 rfl rfl ?_
  (repeat' (first | refine Zv tb ?_ | (refine Zt (fun ht => ?_) (fun ht => ?_) <;> (dsimp only [cmpP, cmpN] at ht) <;> (try (exfalso; omega))) | refine Z0 ?_ | refine Zq ?_ | refine Zr ?_ | refine Zk ?_ | refine Zy ?_ | refine Zn ?_ | refine Zj ?_ | refine Ze ?_ | refine Zx ?_ | refine Zqr ?_ | refine Zqs ?_ | refine Zqc ?_ | refine Zqx ?_ | refine Zqf ?_ | refine Zm tb fun b => ?_ | refine Zb fun b => ?_ | refine Zs tb ?_ | refine Zu tb ?_))
  all_goals refine ⟨_, [], .tmp rfl .nil, ⟨?_, rfl⟩, _, List.Perm.refl _⟩
  all_goals simp_all [tup, askedB]
  all_goals omega
def gp (l : List (Int × Int)) (j : Nat) : Int × Int := l.getD j (0, 0)
theorem gp_eq {l : List (Int × Int)} {j : Nat} (h : j < l.length) : l[j] = gp l j := by simp [gp, h]
def okAt (l : List (Int × Int)) (j : Nat) : Prop := mayB (gp l j) = true ∧ (0 < j → (gp l (j - 1)).2 < (gp l j).1)
instance (l : List (Int × Int)) (j : Nat) : Decidable (okAt l j) := by unfold okAt; infer_instance
def Right (l : List (Int × Int)) : Prop := l.length ≤ 2000 ∧ ∀ j, j < l.length → okAt l j
instance (l : List (Int × Int)) : Decidable (Right l) := by unfold Right; infer_instance
set_option maxHeartbeats 400000 in
theorem right_t (A : Option Addr) (l : List (Int × Int)) (cap : Nat) (w : World) (hR : RdO w [] A (spC.cells l)) (hm : l.length ≤ 9223372036854775807) :
    Tr Try.prog 53 #[.slice A l.length cap] w [] (fun v Γ => v = .bool (decide (Right l)) ∧ Γ = []) := by
  refine Tr_intro (rs := [.tmp 2]) (args := [.slice A l.length cap]) Try.func53 rfl rfl 34 rfl rfl ?_
  (repeat' (first | refine Zv tb ?_ | (refine Zt (fun ht => ?_) (fun ht => ?_) <;> (dsimp only [cmpP, cmpN] at ht) <;> (try (exfalso; omega))) | refine Z0 ?_ | refine Zq ?_ | refine Zr ?_ | refine Zk ?_ | refine Zy ?_ | refine Zn ?_ | refine Zj ?_ | refine Ze ?_ | refine Zx ?_ | refine Zqr ?_ | refine Zqs ?_ | refine Zqc ?_ | refine Zqx ?_ | refine Zqf ?_ | refine Zm tb fun b => ?_ | refine Zb fun b => ?_ | refine Zs tb ?_ | refine Zu tb ?_))
  · refine ⟨_, [], .tmp rfl .nil, ⟨?_, rfl⟩, _, List.Perm.refl _⟩
    have : ¬ Right l := fun h => by have := h.1; omega
    simp [tup, this]
  · refine W_loop (σ := Nat) (fun i => [(0, .slice A l.length cap), (8, .slice A l.length cap), (9, .int .i64 l.length), (10, .int .i64 i)]) (fun _ => []) (fun i => i ≤ l.length ∧ ∀ j, j < i → okAt l j) (fun i => l.length - i) 0
      ⟨Nat.zero_le _, fun j h => by omega⟩ (by repeat (first | exact Sub.nil | refine Sub.cons rfl ?_)) (keepAll _) ?_
    rintro i ⟨hi, hok⟩
    by_cases hlt : i < l.length
    · obtain ⟨a, rfl, hH0⟩ := hR (cells_ne spC (by intro h; simp [h] at hlt) (by decide))
      have hH : ∀ K, Has w [] K a (spC.cells l) := fun K => Has.old hH0
      (repeat' (first | refine Zv tb ?_ | (refine Zt (fun ht => ?_) (fun ht => ?_) <;> (dsimp only [cmpP, cmpN] at ht) <;> (try (exfalso; omega))) | refine Z0 ?_ | refine Zq ?_ | refine Zr ?_ | refine Zk ?_ | refine Zy ?_ | refine Zn ?_ | refine Zj ?_ | refine Ze ?_ | refine Zx ?_ | refine Zqr ?_ | refine Zqs ?_ | refine Zqc ?_ | refine Zqx ?_ | refine Zqf ?_ | refine Zm tb fun b => ?_ | refine Zb fun b => ?_ | refine Zs tb ?_ | refine WL_u (by first | exact Yl_indexAddr tb i rfl rfl rfl rfl hlt | exact Yl_loadA tb _ rfl rfl (hH _) (cells_seg spC hlt) rfl) rfl rfl ?_ | refine Zu tb ?_))
      refine W_regionD tb [] _ [(0, 1), (1, 2), (2, 0), (3, 0), (4, 0), (5, 0), (6, 0), (7, 0), (8, 1), (9, 0), (10, 0), (11, 0), (12, 0), (13, 0), (14, 1), (15, 0), (16, 0), (17, 0)] (by kernel_rfl) (keepAll _) ?_
      (repeat' (first | refine Zpv tb ?_ | (refine Zpt (fun ht => ?_) (fun ht => ?_) <;> (dsimp only [cmpP, cmpN] at ht) <;> (try (exfalso; omega))) | refine Zpw ?_ | refine Zpu tb ?_ | refine Zps tb ?_ | refine Zpk ?_ | refine Zp0 ?_))
      refine WP_2 rfl rfl (Hv_call tb (Γ1 := []) rfl rfl rfl (List.Perm.refl _) (fun w _ => may_t _ _ w) rfl ?_)
      rintro v Γ' ⟨rfl, rfl⟩
      refine ⟨.inr (keepAll _), ?_⟩
      (repeat' (first | refine Zpv tb ?_ | (refine Zpt (fun ht => ?_) (fun ht => ?_) <;> (dsimp only [cmpP, cmpN] at ht) <;> (try (exfalso; omega))) | refine Zpw ?_ | refine Zpu tb ?_ | refine Zps tb ?_ | refine Zpk ?_ | refine Zp0 ?_))
      cases hB : mayB (l[i].1, l[i].2)
      · (repeat' (first | refine Zpv tb ?_ | (refine Zpt (fun ht => ?_) (fun ht => ?_) <;> (dsimp only [cmpP, cmpN] at ht) <;> (try (exfalso; omega))) | refine Zpw ?_ | refine Zpu tb ?_ | refine Zps tb ?_ | refine Zpk ?_ | refine Zp0 ?_))
        (repeat' (first | refine Zv tb ?_ | (refine Zt (fun ht => ?_) (fun ht => ?_) <;> (dsimp only [cmpP, cmpN] at ht) <;> (try (exfalso; omega))) | refine Z0 ?_ | refine Zq ?_ | refine Zr ?_ | refine Zk ?_ | refine Zy ?_ | refine Zn ?_ | refine Zj ?_ | refine Ze ?_ | refine Zx ?_ | refine Zqr ?_ | refine Zqs ?_ | refine Zqc ?_ | refine Zqx ?_ | refine Zqf ?_ | refine Zm tb fun b => ?_ | refine Zb fun b => ?_ | refine Zs tb ?_ | refine Zu tb ?_))
        refine ⟨_, _, .tmp rfl .nil, ⟨?_, rfl⟩, _, List.perm_append_comm⟩
        have : ¬ Right l := fun h => by have h2 := (h.2 i hlt).1; rw [← gp_eq hlt] at h2; rw [show l[i] = (l[i].1, l[i].2) from rfl, hB] at h2; cases h2
        simp [tup, this]
      · (repeat' (first | refine Zpv tb ?_ | (refine Zpt (fun ht => ?_) (fun ht => ?_) <;> (dsimp only [cmpP, cmpN] at ht) <;> (try (exfalso; omega))) | refine WP_u0 rfl (by first | exact Yl_indexAddr tb (i - 1) rfl rfl rfl (by omega) (by omega) | exact Yl_load1 tb rfl rfl ((hH _).el (i := i - 1) (by omega)) rfl) rfl rfl ?_ | refine WP_u1 rfl (by first | exact Yl_indexAddr tb (i - 1) rfl rfl rfl (by omega) (by omega) | exact Yl_load1 tb rfl rfl ((hH _).el (i := i - 1) (by omega)) rfl) rfl rfl ?_ | refine Zpw ?_ | refine Zpu tb ?_ | refine Zps tb ?_ | refine Zpk ?_ | refine Zp0 ?_))
        all_goals (repeat' (first | refine Zv tb ?_ | (refine Zt (fun ht => ?_) (fun ht => ?_) <;> (dsimp only [cmpP, cmpN] at ht) <;> (try (exfalso; omega))) | refine Z0 ?_ | refine Zq ?_ | refine Zr ?_ | refine Zk ?_ | refine Zy ?_ | refine Zn ?_ | refine Zj ?_ | refine Ze ?_ | refine Zx ?_ | refine Zqr ?_ | refine Zqs ?_ | refine Zqc ?_ | refine Zqx ?_ | refine Zqf ?_ | refine Zm tb fun b => ?_ | refine Zb fun b => ?_ | refine Zs tb ?_ | refine Zu tb ?_))
        · first | refine ⟨_, [], .tmp rfl .nil, ⟨?_, rfl⟩, _, List.Perm.refl _⟩ | refine ⟨_, _, .tmp rfl .nil, ⟨?_, rfl⟩, _, List.perm_append_comm⟩
          have : ¬ Right l := fun h => by
            have h2 := (h.2 i hlt).2 (by omega); rw [← gp_eq hlt, ← gp_eq (by omega)] at h2; omega
          simp [tup, this]
        all_goals refine ⟨i + 1, ?_, ?_, (by repeat (first | exact Sub.nil | refine Sub.cons rfl ?_)), (by first | exact ⟨_, List.Perm.refl _⟩ | exact ⟨_, List.perm_append_comm⟩)⟩
        all_goals first | omega | skip
        all_goals refine ⟨by omega, fun j hj => ?_⟩
        all_goals by_cases hji : j = i
        all_goals first | exact hok j (by omega) | subst hji
        all_goals exact ⟨by rw [← gp_eq hlt]; exact hB, fun h0 => by first | omega | (rw [← gp_eq hlt, ← gp_eq (by omega)]; assumption)⟩
    · (repeat' (first | refine Zv tb ?_ | (refine Zt (fun ht => ?_) (fun ht => ?_) <;> (dsimp only [cmpP, cmpN] at ht) <;> (try (exfalso; omega))) | refine Z0 ?_ | refine Zq ?_ | refine Zr ?_ | refine Zk ?_ | refine Zy ?_ | refine Zn ?_ | refine Zj ?_ | refine Ze ?_ | refine Zx ?_ | refine Zqr ?_ | refine Zqs ?_ | refine Zqc ?_ | refine Zqx ?_ | refine Zqf ?_ | refine Zm tb fun b => ?_ | refine Zb fun b => ?_ | refine Zs tb ?_ | refine Zu tb ?_))
      refine ⟨_, [], .tmp rfl .nil, ⟨?_, rfl⟩, _, List.Perm.refl _⟩
      have : Right l := ⟨by omega, fun j hj => hok j (by omega)⟩
      simp [tup, this]
end Go.Proofs.Ytdnngagahhleiaa
