/- the law's World: makes; what a World holds. -/
import Derived.Test.YtdnngagahhleiaaB26
import Derived.Test.YtdnngagahhleiaaB19
import Derived.Test.YtdnngagahhleiaaSx18
namespace Go.Proofs.Ytdnngagahhleiaa
open Go.Sx
attribute [local irreducible] W WL WP Hv Yl WQ At QP QF Rnd
set_option maxRecDepth 10000
set_option linter.unusedVariables false
set_option linter.unusedSimpArgs false
theorem arrB : arrInfo Try.prog 79 = some (2, 1) := by kernel_rfl
theorem arrR : arrInfo Try.prog 81 = some (2, 1) := by kernel_rfl
abbrev ptV (b : Nat) : Value := .pointer (some ⟨b, 0, none⟩)
def wdC (two : Bool) (p q po qo v4 v5 v6 v7 : Value) : List Value := match two with | false => [p, po, q, qo, v4, v5, v6, v7] | true => [po, p, qo, q, v4, v5, v6, v7]
abbrev wdI (bw : Nat) (two : Bool) (p q po qo v4 v5 v6 v7 : Value) : It := .blk bw (wdC two p q po qo v4 v5 v6 v7) 85
def kOf (two : Bool) : Int := match two with | false => 0 | true => 1
set_option maxHeartbeats 1000000 in
theorem makes_w (bw : Nat) (two : Bool) (p q po qo v4 v5 v6 v7 : Value) (w : World) :
    Tr Try.prog 29 #[ptV bw, .int .i64 (kOf two)] w [wdI bw two p q po qo v4 v5 v6 v7]
      (fun v Γ => v = .bool true ∧ ∃ bb rb, Γ = wdI bw two (ptV bb) (ptV rb) po qo v4 v5 v6 v7 :: (bufI bb eB none 0 none 0 ++ refI rb ⟨[], false⟩ none 0)) := by
  cases two
  · show Tr Try.prog 29 #[.pointer (some ⟨bw, 0, none⟩), .int .i64 0] w [.blk bw [p, po, q, qo, v4, v5, v6, v7] 85] _
    refine Tr_intro (rs := [.tmp 4]) (args := [.pointer (some ⟨bw, 0, none⟩), .int .i64 0]) Try.func29 rfl rfl 24 rfl rfl ?_
    (repeat' (first | refine Zv tb ?_ | (refine Zt (fun ht => ?_) (fun ht => ?_) <;> (dsimp only [cmpP, cmpN] at ht) <;> (try (exfalso; omega))) | refine Z0 ?_ | refine Zq ?_ | refine Zr ?_ | refine Zk ?_ | refine Zy ?_ | refine Zn ?_ | refine Zj ?_ | refine Ze ?_ | refine Zx ?_ | refine Zqr ?_ | refine Zqs ?_ | refine Zqc ?_ | refine Zqx ?_ | refine Zqf ?_ | refine Zm tb fun b => ?_ | refine Zb fun b => ?_ | refine Zs tb ?_ | refine Zu tb ?_))
    (repeat refine W_seq ?_); refine W_regionD tb [2, 6] _ [(0, 0), (1, 0), (3, 0), (4, 0), (2, 2), (5, 0), (6, 2)] (by kernel_rfl) (keepAll _) ?_
    (repeat' (first | refine Zpv tb ?_ | (refine Zpt (fun ht => ?_) (fun ht => ?_) <;> (dsimp only [cmpP, cmpN] at ht) <;> (try (exfalso; omega))) | refine Zpw ?_ | refine Zpu tb ?_ | refine Zps tb ?_ | refine Zpk ?_ | refine Zp0 ?_))
    refine WP_2 rfl rfl (Hv_call tb (Γ1 := []) rfl rfl rfl (List.Perm.refl _) (fun w hs => New_t w) rfl ?_)
    rintro v Γ' ⟨bb, rfl, rfl⟩
    refine ⟨.inl rfl, ?_⟩
    (repeat' (first | refine Zpv tb ?_ | (refine Zpt (fun ht => ?_) (fun ht => ?_) <;> (dsimp only [cmpP, cmpN] at ht) <;> (try (exfalso; omega))) | refine WP_u0 rfl (by first | exact Yl_indexArr 0 rfl rfl arrB rfl (by decide)) rfl rfl ?_ | refine WP_u1 rfl (by first | exact Yl_indexArr 0 rfl rfl arrB rfl (by decide)) rfl rfl ?_ | refine Zpw ?_ | refine Zpu tb ?_ | refine Zps tb ?_ | refine Zpk ?_ | refine Zp0 ?_))
    (repeat' (first | refine Zv tb ?_ | (refine Zt (fun ht => ?_) (fun ht => ?_) <;> (dsimp only [cmpP, cmpN] at ht) <;> (try (exfalso; omega))) | refine Z0 ?_ | refine Zq ?_ | refine Zr ?_ | refine Zk ?_ | refine Zy ?_ | refine Zn ?_ | refine Zj ?_ | refine Ze ?_ | refine Zx ?_ | refine Zqr ?_ | refine Zqs ?_ | refine Zqc ?_ | refine Zqx ?_ | refine Zqf ?_ | refine Zm tb fun b => ?_ | refine Zb fun b => ?_ | refine Zs tb ?_ | refine Zu tb ?_))
    (repeat refine W_seq ?_); refine W_regionD tb [2, 6] _ [(0, 0), (1, 0), (3, 0), (4, 0), (2, 2), (5, 0), (6, 2)] (by kernel_rfl) (keepAll _) ?_
    (repeat' (first | refine Zpv tb ?_ | (refine Zpt (fun ht => ?_) (fun ht => ?_) <;> (dsimp only [cmpP, cmpN] at ht) <;> (try (exfalso; omega))) | refine Zpw ?_ | refine Zpu tb ?_ | refine Zps tb ?_ | refine Zpk ?_ | refine Zp0 ?_))
    refine WP_2 rfl rfl (Hv_call tb (Γ1 := []) rfl rfl rfl (List.Perm.refl _) (fun w hs => rNew_t w) rfl ?_)
    rintro v Γ' ⟨rb, rfl, rfl⟩
    refine ⟨.inl rfl, ?_⟩
    (repeat' (first | refine Zpv tb ?_ | (refine Zpt (fun ht => ?_) (fun ht => ?_) <;> (dsimp only [cmpP, cmpN] at ht) <;> (try (exfalso; omega))) | refine WP_u0 rfl (by first | exact Yl_indexArr 0 rfl rfl arrR rfl (by decide)) rfl rfl ?_ | refine WP_u1 rfl (by first | exact Yl_indexArr 0 rfl rfl arrR rfl (by decide)) rfl rfl ?_ | refine Zpw ?_ | refine Zpu tb ?_ | refine Zps tb ?_ | refine Zpk ?_ | refine Zp0 ?_))
    (repeat' (first | refine Zv tb ?_ | (refine Zt (fun ht => ?_) (fun ht => ?_) <;> (dsimp only [cmpP, cmpN] at ht) <;> (try (exfalso; omega))) | refine Z0 ?_ | refine Zq ?_ | refine Zr ?_ | refine Zk ?_ | refine Zy ?_ | refine Zn ?_ | refine Zj ?_ | refine Ze ?_ | refine Zx ?_ | refine Zqr ?_ | refine Zqs ?_ | refine Zqc ?_ | refine Zqx ?_ | refine Zqf ?_ | refine Zm tb fun b => ?_ | refine Zb fun b => ?_ | refine Zs tb ?_ | refine WL_u (by first | exact Yl_indexArr 0 rfl rfl arrB rfl (by decide) | exact Yl_nePN rfl rfl Try.underlying78) rfl rfl ?_ | refine Zu tb ?_))
    exact ⟨_, _, .tmp rfl .nil, ⟨rfl, bb, rb, rfl⟩, _, perm_picks [5, 2, 2, 2, 0, 0] rfl⟩
  · show Tr Try.prog 29 #[.pointer (some ⟨bw, 0, none⟩), .int .i64 1] w [.blk bw [po, p, qo, q, v4, v5, v6, v7] 85] _
    refine Tr_intro (rs := [.tmp 4]) (args := [.pointer (some ⟨bw, 0, none⟩), .int .i64 1]) Try.func29 rfl rfl 24 rfl rfl ?_
    (repeat' (first | refine Zv tb ?_ | (refine Zt (fun ht => ?_) (fun ht => ?_) <;> (dsimp only [cmpP, cmpN] at ht) <;> (try (exfalso; omega))) | refine Z0 ?_ | refine Zq ?_ | refine Zr ?_ | refine Zk ?_ | refine Zy ?_ | refine Zn ?_ | refine Zj ?_ | refine Ze ?_ | refine Zx ?_ | refine Zqr ?_ | refine Zqs ?_ | refine Zqc ?_ | refine Zqx ?_ | refine Zqf ?_ | refine Zm tb fun b => ?_ | refine Zb fun b => ?_ | refine Zs tb ?_ | refine Zu tb ?_))
    (repeat refine W_seq ?_); refine W_regionD tb [2, 6] _ [(0, 0), (1, 0), (3, 0), (4, 0), (2, 2), (5, 0), (6, 2)] (by kernel_rfl) (keepAll _) ?_
    (repeat' (first | refine Zpv tb ?_ | (refine Zpt (fun ht => ?_) (fun ht => ?_) <;> (dsimp only [cmpP, cmpN] at ht) <;> (try (exfalso; omega))) | refine Zpw ?_ | refine Zpu tb ?_ | refine Zps tb ?_ | refine Zpk ?_ | refine Zp0 ?_))
    refine WP_2 rfl rfl (Hv_call tb (Γ1 := []) rfl rfl rfl (List.Perm.refl _) (fun w hs => New_t w) rfl ?_)
    rintro v Γ' ⟨bb, rfl, rfl⟩
    refine ⟨.inl rfl, ?_⟩
    (repeat' (first | refine Zpv tb ?_ | (refine Zpt (fun ht => ?_) (fun ht => ?_) <;> (dsimp only [cmpP, cmpN] at ht) <;> (try (exfalso; omega))) | refine WP_u0 rfl (by first | exact Yl_indexArr 1 rfl rfl arrB rfl (by decide)) rfl rfl ?_ | refine WP_u1 rfl (by first | exact Yl_indexArr 1 rfl rfl arrB rfl (by decide)) rfl rfl ?_ | refine Zpw ?_ | refine Zpu tb ?_ | refine Zps tb ?_ | refine Zpk ?_ | refine Zp0 ?_))
    (repeat' (first | refine Zv tb ?_ | (refine Zt (fun ht => ?_) (fun ht => ?_) <;> (dsimp only [cmpP, cmpN] at ht) <;> (try (exfalso; omega))) | refine Z0 ?_ | refine Zq ?_ | refine Zr ?_ | refine Zk ?_ | refine Zy ?_ | refine Zn ?_ | refine Zj ?_ | refine Ze ?_ | refine Zx ?_ | refine Zqr ?_ | refine Zqs ?_ | refine Zqc ?_ | refine Zqx ?_ | refine Zqf ?_ | refine Zm tb fun b => ?_ | refine Zb fun b => ?_ | refine Zs tb ?_ | refine Zu tb ?_))
    (repeat refine W_seq ?_); refine W_regionD tb [2, 6] _ [(0, 0), (1, 0), (3, 0), (4, 0), (2, 2), (5, 0), (6, 2)] (by kernel_rfl) (keepAll _) ?_
    (repeat' (first | refine Zpv tb ?_ | (refine Zpt (fun ht => ?_) (fun ht => ?_) <;> (dsimp only [cmpP, cmpN] at ht) <;> (try (exfalso; omega))) | refine Zpw ?_ | refine Zpu tb ?_ | refine Zps tb ?_ | refine Zpk ?_ | refine Zp0 ?_))
    refine WP_2 rfl rfl (Hv_call tb (Γ1 := []) rfl rfl rfl (List.Perm.refl _) (fun w hs => rNew_t w) rfl ?_)
    rintro v Γ' ⟨rb, rfl, rfl⟩
    refine ⟨.inl rfl, ?_⟩
    (repeat' (first | refine Zpv tb ?_ | (refine Zpt (fun ht => ?_) (fun ht => ?_) <;> (dsimp only [cmpP, cmpN] at ht) <;> (try (exfalso; omega))) | refine WP_u0 rfl (by first | exact Yl_indexArr 1 rfl rfl arrR rfl (by decide)) rfl rfl ?_ | refine WP_u1 rfl (by first | exact Yl_indexArr 1 rfl rfl arrR rfl (by decide)) rfl rfl ?_ | refine Zpw ?_ | refine Zpu tb ?_ | refine Zps tb ?_ | refine Zpk ?_ | refine Zp0 ?_))
    (repeat' (first | refine Zv tb ?_ | (refine Zt (fun ht => ?_) (fun ht => ?_) <;> (dsimp only [cmpP, cmpN] at ht) <;> (try (exfalso; omega))) | refine Z0 ?_ | refine Zq ?_ | refine Zr ?_ | refine Zk ?_ | refine Zy ?_ | refine Zn ?_ | refine Zj ?_ | refine Ze ?_ | refine Zx ?_ | refine Zqr ?_ | refine Zqs ?_ | refine Zqc ?_ | refine Zqx ?_ | refine Zqf ?_ | refine Zm tb fun b => ?_ | refine Zb fun b => ?_ | refine Zs tb ?_ | refine WL_u (by first | exact Yl_indexArr 1 rfl rfl arrB rfl (by decide) | exact Yl_nePN rfl rfl Try.underlying78) rfl rfl ?_ | refine Zu tb ?_))
    exact ⟨_, _, .tmp rfl .nil, ⟨rfl, bb, rb, rfl⟩, _, perm_picks [5, 2, 2, 2, 0, 0] rfl⟩
end Go.Proofs.Ytdnngagahhleiaa
