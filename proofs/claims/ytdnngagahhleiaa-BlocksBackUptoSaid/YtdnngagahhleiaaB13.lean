/- BlocksCuts: the walk. -/
import Derived.Test.YtdnngagahhleiaaB12
namespace Go.Proofs.Ytdnngagahhleiaa
open Go.Sx
attribute [local irreducible] W WL WP Hv Yl WQ At QP QF Rnd
set_option maxRecDepth 10000
set_option linter.unusedVariables false
set_option linter.unusedSimpArgs false
theorem cutR_len (s : Ses) (p : Prc) : ∀ (f : Nat) (at' plain base : Int), (cutR s p f at' plain base).length ≤ f
  | 0, _, _, _ => Nat.le_refl _
  | f + 1, at', plain, base => by
    rw [cutR]
    split
    · simp
    · split <;> (simp only [List.length_cons]; exact Nat.succ_le_succ (cutR_len s p f _ _ _))
theorem cutG_len (s : Ses) (p : Prc) : ∀ (f : Nat) (at' : Int), (cutG s p f at').length ≤ f
  | 0, _ => Nat.le_refl _
  | f + 1, at' => by
    rw [cutG]
    split
    · simp
    · split
      · simp
      · simp only [List.length_cons]; exact Nat.succ_le_succ (cutG_len s p f _)
theorem cut_len (s : Ses) (p : Prc) (base : Int) : (cut s p base).1.length ≤ 65536 := by
  unfold cut
  split
  · simp
  split
  · simp
  split
  · simp
  rename_i h2 _
  simp only [Bool.not_eq_false] at h2
  simp only [prcB, decide_eq_true_eq] at h2
  have h3 := cutR_len s p p.red.toNat 0 0 base
  have h4 := cutG_len s p (p.size - p.red).toNat p.red
  simp only [List.length_append]
  omega
abbrev askV (s : Ses) (p : Prc) (b : Int) : Value := .agg #[.int .i64 s.1, .int .i64 s.2, .int .i64 p.svc, .int .i64 p.size, .int .i64 p.red, .int .i64 p.mtu, .int .i64 p.every, .int .i64 b]
abbrev f3 {α : Type} (a b c : α) : Nat → α := fun j => match j with | 0 => a | 1 => b | _ => c
set_option maxHeartbeats 4000000 in
theorem cuts_t (s s' : Ses) (p p' : Prc) (b0 b1 : Int) (w : World) :
    Tr Try.prog 5 #[askV s p b0, askV s' p' b1] w [] (fun v Γ => v = .bool true ∧ Γ = []) := by
  refine Tr_intro (rs := [.tmp 4]) (args := [askV s p b0, askV s' p' b1]) Try.func5 rfl rfl 113 rfl rfl ?_
  (repeat' (first | refine Zv tb ?_ | (refine Zt (fun ht => ?_) (fun ht => ?_) <;> (dsimp only [cmpP, cmpN] at ht) <;> (try (exfalso; omega))) | refine Z0 ?_ | refine Zq ?_ | refine Zr ?_ | refine Zk ?_ | refine Zy ?_ | refine Zn ?_ | refine Zj ?_ | refine Ze ?_ | refine Zx ?_ | refine Zqr ?_ | refine Zqs ?_ | refine Zqc ?_ | refine Zqx ?_ | refine Zqf ?_ | refine Zm tb fun b => ?_ | refine Zb fun b => ?_ | refine Zs tb ?_ | refine Zu tb ?_))
  refine WL_cons rfl (Hv_call tb (Γ1 := []) rfl rfl rfl (List.Perm.refl _) (fun w hs => awake_t w) rfl ?_)
  rintro v Γ' ⟨rfl, rfl⟩
  (repeat' (first | refine Zv tb ?_ | (refine Zt (fun ht => ?_) (fun ht => ?_) <;> (dsimp only [cmpP, cmpN] at ht) <;> (try (exfalso; omega))) | refine Z0 ?_ | refine Zq ?_ | refine Zr ?_ | refine Zk ?_ | refine Zy ?_ | refine Zn ?_ | refine Zj ?_ | refine Ze ?_ | refine Zx ?_ | refine Zqr ?_ | refine Zqs ?_ | refine Zqc ?_ | refine Zqx ?_ | refine Zqf ?_ | refine Zm tb fun b => ?_ | refine Zb fun b => ?_ | refine Zs tb ?_ | refine WL_u (by first | exact Yl_ldBA tb rfl rfl (by repeat (first | exact List.Mem.head _ | apply List.Mem.tail)) rfl) rfl rfl ?_ | refine Zu tb ?_))
  refine WL_cons rfl (Hv_call tb (Γ1 := []) rfl rfl rfl (List.Perm.refl _) (fun w hs => Cut_t s p b0 w) rfl ?_)
  rintro v Γ' ⟨V1, c1, rfl, rfl⟩
  refine WL_fact (fun w hs => row_shape hs (List.mem_cons_self ..)) ?_
  rintro ⟨A1, rfl⟩
  (repeat' (first | refine Zv tb ?_ | (refine Zt (fun ht => ?_) (fun ht => ?_) <;> (dsimp only [cmpP, cmpN] at ht) <;> (try (exfalso; omega))) | refine Z0 ?_ | refine Zq ?_ | refine Zr ?_ | refine Zk ?_ | refine Zy ?_ | refine Zn ?_ | refine Zj ?_ | refine Ze ?_ | refine Zx ?_ | refine Zqr ?_ | refine Zqs ?_ | refine Zqc ?_ | refine Zqx ?_ | refine Zqf ?_ | refine Zm tb fun b => ?_ | refine Zb fun b => ?_ | refine Zs tb ?_ | refine WL_u (by first | exact Yl_ldBA tb rfl rfl (by repeat (first | exact List.Mem.head _ | apply List.Mem.tail)) rfl) rfl rfl ?_ | refine Zu tb ?_))
  refine WL_cons rfl (Hv_call tb (Γ1 := []) rfl rfl rfl (List.Perm.refl _) (fun w hs => Cut_t s' p' b1 w) rfl ?_)
  rintro v Γ' ⟨V2, c2, rfl, rfl⟩
  refine WL_fact (fun w hs => row_shape hs (List.mem_cons_self ..)) ?_
  rintro ⟨A2, rfl⟩
  (repeat' (first | refine Zv tb ?_ | (refine Zt (fun ht => ?_) (fun ht => ?_) <;> (dsimp only [cmpP, cmpN] at ht) <;> (try (exfalso; omega))) | refine Z0 ?_ | refine Zq ?_ | refine Zr ?_ | refine Zk ?_ | refine Zy ?_ | refine Zn ?_ | refine Zj ?_ | refine Ze ?_ | refine Zx ?_ | refine Zqr ?_ | refine Zqs ?_ | refine Zqc ?_ | refine Zqx ?_ | refine Zqf ?_ | refine Zm tb fun b => ?_ | refine Zb fun b => ?_ | refine Zs tb ?_ | refine WL_u (by first | exact Yl_ldBA tb rfl rfl (by repeat (first | exact List.Mem.head _ | apply List.Mem.tail)) rfl) rfl rfl ?_ | refine Zu tb ?_))
  refine WL_cons rfl (Hv_call tb (Γ1 := []) rfl rfl rfl (List.Perm.refl _) (fun w hs => Cut_t s p b0 w) rfl ?_)
  rintro v Γ' ⟨V3, c3, rfl, rfl⟩
  refine WL_fact (fun w hs => row_shape hs (List.mem_cons_self ..)) ?_
  rintro ⟨A3, rfl⟩
  (repeat' (first | refine Zv tb ?_ | (refine Zt (fun ht => ?_) (fun ht => ?_) <;> (dsimp only [cmpP, cmpN] at ht) <;> (try (exfalso; omega))) | refine Z0 ?_ | refine Zq ?_ | refine Zr ?_ | refine Zk ?_ | refine Zy ?_ | refine Zn ?_ | refine Zj ?_ | refine Ze ?_ | refine Zx ?_ | refine Zqr ?_ | refine Zqs ?_ | refine Zqc ?_ | refine Zqx ?_ | refine Zqf ?_ | refine Zm tb fun b => ?_ | refine Zb fun b => ?_ | refine Zs tb ?_ | refine WL_u (by first | exact Yl_ldBA tb rfl rfl (by repeat (first | exact List.Mem.head _ | apply List.Mem.tail)) rfl) rfl rfl ?_ | refine Zu tb ?_))
  refine WL_cons rfl (Hv_call tb (Γ1 := []) rfl rfl rfl (List.Perm.refl _) (fun w hs => rcut_t s p b0 w) rfl ?_)
  rintro v Γ' ⟨V4, c4, rfl, rfl⟩
  (repeat' (first | refine Zv tb ?_ | (refine Zt (fun ht => ?_) (fun ht => ?_) <;> (dsimp only [cmpP, cmpN] at ht) <;> (try (exfalso; omega))) | refine Z0 ?_ | refine Zq ?_ | refine Zr ?_ | refine Zk ?_ | refine Zy ?_ | refine Zn ?_ | refine Zj ?_ | refine Ze ?_ | refine Zx ?_ | refine Zqr ?_ | refine Zqs ?_ | refine Zqc ?_ | refine Zqx ?_ | refine Zqf ?_ | refine Zm tb fun b => ?_ | refine Zb fun b => ?_ | refine Zs tb ?_ | refine WL_u (by first | exact Yl_ldBA tb rfl rfl (by repeat (first | exact List.Mem.head _ | apply List.Mem.tail)) rfl) rfl rfl ?_ | refine Zu tb ?_))
  refine WL_cons rfl (Hv_call tb (Γ1 := []) rfl rfl rfl (List.Perm.refl _) (fun w hs => rcut_t s' p' b1 w) rfl ?_)
  rintro v Γ' ⟨V5, c5, rfl, rfl⟩
  (repeat' (first | refine Zv tb ?_ | (refine Zt (fun ht => ?_) (fun ht => ?_) <;> (dsimp only [cmpP, cmpN] at ht) <;> (try (exfalso; omega))) | refine Z0 ?_ | refine Zq ?_ | refine Zr ?_ | refine Zk ?_ | refine Zy ?_ | refine Zn ?_ | refine Zj ?_ | refine Ze ?_ | refine Zx ?_ | refine Zqr ?_ | refine Zqs ?_ | refine Zqc ?_ | refine Zqx ?_ | refine Zqf ?_ | refine Zm tb fun b => ?_ | refine Zb fun b => ?_ | refine Zs tb ?_ | refine Zu tb ?_))
  refine WL_cons rfl (Hv_call tb (Γ1 := []) rfl rfl rfl (List.Perm.refl _) (fun w hs => samePieces_t _ V4 (cut s p b0).1 c1 c4 w (SlO.row hs (by repeat (first | exact List.Mem.head _ | apply List.Mem.tail))) (SlO.row hs (by repeat (first | exact List.Mem.head _ | apply List.Mem.tail)))) rfl ?_)
  rintro v Γ' ⟨rfl, rfl⟩
  (repeat' (first | refine Zv tb ?_ | (refine Zt (fun ht => ?_) (fun ht => ?_) <;> (dsimp only [cmpP, cmpN] at ht) <;> (try (exfalso; omega))) | refine Z0 ?_ | refine Zq ?_ | refine Zr ?_ | refine Zk ?_ | refine Zy ?_ | refine Zn ?_ | refine Zj ?_ | refine Ze ?_ | refine Zx ?_ | refine Zqr ?_ | refine Zqs ?_ | refine Zqc ?_ | refine Zqx ?_ | refine Zqf ?_ | refine Zm tb fun b => ?_ | refine Zb fun b => ?_ | refine Zs tb ?_ | refine Zu tb ?_))
  refine WL_cons rfl (Hv_call tb (Γ1 := []) rfl rfl rfl (List.Perm.refl _) (fun w hs => samePieces_t _ V5 (cut s' p' b1).1 c2 c5 w (SlO.row hs (by repeat (first | exact List.Mem.head _ | apply List.Mem.tail))) (SlO.row hs (by repeat (first | exact List.Mem.head _ | apply List.Mem.tail)))) rfl ?_)
  rintro v Γ' ⟨rfl, rfl⟩
  (repeat' (first | refine Zv tb ?_ | (refine Zt (fun ht => ?_) (fun ht => ?_) <;> (dsimp only [cmpP, cmpN] at ht) <;> (try (exfalso; omega))) | refine Z0 ?_ | refine Zq ?_ | refine Zr ?_ | refine Zk ?_ | refine Zy ?_ | refine Zn ?_ | refine Zj ?_ | refine Ze ?_ | refine Zx ?_ | refine Zqr ?_ | refine Zqs ?_ | refine Zqc ?_ | refine Zqx ?_ | refine Zqf ?_ | refine Zm tb fun b => ?_ | refine Zb fun b => ?_ | refine Zs tb ?_ | refine Zu tb ?_))
  refine WL_cons rfl (Hv_call tb (Γ1 := []) rfl rfl rfl (List.Perm.refl _) (fun w hs => samePieces_t _ V4 (cut s p b0).1 c3 c4 w (SlO.row hs (by repeat (first | exact List.Mem.head _ | apply List.Mem.tail))) (SlO.row hs (by repeat (first | exact List.Mem.head _ | apply List.Mem.tail)))) rfl ?_)
  rintro v Γ' ⟨rfl, rfl⟩
  (repeat' (first | refine Zv tb ?_ | (refine Zt (fun ht => ?_) (fun ht => ?_) <;> (dsimp only [cmpP, cmpN] at ht) <;> (try (exfalso; omega))) | refine Z0 ?_ | refine Zq ?_ | refine Zr ?_ | refine Zk ?_ | refine Zy ?_ | refine Zn ?_ | refine Zj ?_ | refine Ze ?_ | refine Zx ?_ | refine Zqr ?_ | refine Zqs ?_ | refine Zqc ?_ | refine Zqx ?_ | refine Zqf ?_ | refine Zm tb fun b => ?_ | refine Zb fun b => ?_ | refine Zs tb ?_ | refine Zu tb ?_))
  all_goals first | (exfalso; exact ht rfl) | skip
  refine WL_cons rfl (Hv_buildSlice tb rfl rfl rfl (by decide) rfl rfl rfl rfl fun q => ?_)
  (repeat' (first | refine Zv tb ?_ | (refine Zt (fun ht => ?_) (fun ht => ?_) <;> (dsimp only [cmpP, cmpN] at ht) <;> (try (exfalso; omega))) | refine Z0 ?_ | refine Zq ?_ | refine Zr ?_ | refine Zk ?_ | refine Zy ?_ | refine Zn ?_ | refine Zj ?_ | refine Ze ?_ | refine Zx ?_ | refine Zqr ?_ | refine Zqs ?_ | refine Zqc ?_ | refine Zqx ?_ | refine Zqf ?_ | refine Zm tb fun b => ?_ | refine Zb fun b => ?_ | refine Zs tb ?_ | refine Zu tb ?_))
  have k1 := cut_len s p b0
  have k2 := cut_len s' p' b1
  refine WL_cons rfl (Hv_call tb  rfl rfl rfl (perm_picks [0, 4, 3, 2] rfl) (fun w hs => mine_t (some ⟨q, 0, none⟩) 3 3 (f3 A1 A2 A3) (f3 (cut s p b0).1.length (cut s' p' b1).1.length (cut s p b0).1.length) (f3 c1 c2 c3) (f3 (cut s p b0).1 (cut s' p' b1).1 (cut s p b0).1) w (by omega) (fun i hi => by unfold f3; split <;> omega) (fun i hi => by unfold f3; split <;> rfl)) rfl ?_)
  rintro v Γ' ⟨rfl, rfl⟩
  (repeat' (first | refine Zv tb ?_ | (refine Zt (fun ht => ?_) (fun ht => ?_) <;> (dsimp only [cmpP, cmpN] at ht) <;> (try (exfalso; omega))) | refine Z0 ?_ | refine Zq ?_ | refine Zr ?_ | refine Zk ?_ | refine Zy ?_ | refine Zn ?_ | refine Zj ?_ | refine Ze ?_ | refine Zx ?_ | refine Zqr ?_ | refine Zqs ?_ | refine Zqc ?_ | refine Zqx ?_ | refine Zqf ?_ | refine Zm tb fun b => ?_ | refine Zb fun b => ?_ | refine Zs tb ?_ | refine Zu tb ?_))
  exact ⟨_, [], .tmp rfl .nil, ⟨rfl, rfl⟩, _, List.Perm.refl _⟩
end Go.Proofs.Ytdnngagahhleiaa
