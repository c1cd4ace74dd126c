/- blocks: a piece's room. -/
import Derived.Test.YtdnngagahhleiaaB1
namespace Go.Proofs.Ytdnngagahhleiaa
open Go.Sx
attribute [local irreducible] W WL WP Hv Yl
set_option maxRecDepth 10000
set_option linter.unusedVariables false
set_option linter.unusedSimpArgs false
set_option maxHeartbeats 1000000 in
theorem fits_t (bh b5 b : Nat) (s : Ses) (p : Prc) (v : Value) (h n : Int) (w : World) (hn : 0 ≤ n ∧ n ≤ 100000) (hh : 0 ≤ h ∧ h ≤ 1000) :
    Tr Try.prog 74 #[.int .i64 n, .pointer (some ⟨bh, 0, none⟩), .pointer (some ⟨b5, 0, none⟩)] w [.blk bh [.int .i64 h] 3, .blk b5 [.pointer (some ⟨b, 0, none⟩)] 117, cutI b s p v]
      (fun u Γ => u = .bool (decide (h + szI n + n ≤ p.mtu)) ∧ Γ = [.blk bh [.int .i64 h] 3, .blk b5 [.pointer (some ⟨b, 0, none⟩)] 117, cutI b s p v]) := by
  have hz := szI_le (z := n) (by omega)
  refine Tr_intro (rs := [.tmp 4]) (args := [.int .i64 n, .pointer (some ⟨bh, 0, none⟩), .pointer (some ⟨b5, 0, none⟩)]) Try.func74 rfl rfl 18 rfl rfl ?_
  (repeat' (first | refine Zv tb ?_ | (refine Zt (fun ht => ?_) (fun ht => ?_) <;> (dsimp only [cmpP, cmpN] at ht) <;> (try (exfalso; omega))) | refine Z0 ?_ | refine Zq ?_ | refine Zr ?_ | refine Zk ?_ | refine Zy ?_ | refine Zn ?_ | refine Zj ?_ | refine Ze ?_ | refine Zx ?_ | refine Zqr ?_ | refine Zqs ?_ | refine Zqc ?_ | refine Zqx ?_ | refine Zqf ?_ | refine Zm tb fun b => ?_ | refine Zb fun b => ?_ | refine Zs tb ?_ | refine Zu tb ?_))
  (repeat refine W_seq ?_); refine W_regionD tb [] _ [(0, 1), (1, 0), (2, 0), (5, 0), (7, 1), (8, 0), (9, 0), (10, 0), (11, 1), (3, 2), (4, 0), (6, 0), (12, 0), (13, 0)] (by kernel_rfl) (keepAll _) ?_
  (repeat' (first | refine Zpv tb ?_ | (refine Zpt (fun ht => ?_) (fun ht => ?_) <;> (dsimp only [cmpP, cmpN] at ht) <;> (try (exfalso; omega))) | refine Zpw ?_ | refine Zpu tb ?_ | refine Zps tb ?_ | refine Zpk ?_ | refine Zp0 ?_))
  refine WP_2 rfl rfl (Hv_call tb (Γ1 := []) rfl rfl rfl (List.Perm.refl _) (fun w hs => Size_w n w hn.1 (by omega)) rfl ?_)
  rintro u Γ' ⟨rfl, rfl⟩
  refine ⟨.inr (keepAll _), ?_⟩
  (repeat' (first | refine Zpv tb ?_ | (refine Zpt (fun ht => ?_) (fun ht => ?_) <;> (dsimp only [cmpP, cmpN] at ht) <;> (try (exfalso; omega))) | refine Zpw ?_ | refine Zpu tb ?_ | refine Zps tb ?_ | refine Zpk ?_ | refine Zp0 ?_))
  all_goals (repeat' (first | refine Zv tb ?_ | (refine Zt (fun ht => ?_) (fun ht => ?_) <;> (dsimp only [cmpP, cmpN] at ht) <;> (try (exfalso; omega))) | refine Z0 ?_ | refine Zq ?_ | refine Zr ?_ | refine Zk ?_ | refine Zy ?_ | refine Zn ?_ | refine Zj ?_ | refine Ze ?_ | refine Zx ?_ | refine Zqr ?_ | refine Zqs ?_ | refine Zqc ?_ | refine Zqx ?_ | refine Zqf ?_ | refine Zm tb fun b => ?_ | refine Zb fun b => ?_ | refine Zs tb ?_ | refine Zu tb ?_))
  all_goals refine ⟨_, _, .tmp rfl .nil, ⟨?_, rfl⟩, keepAll _⟩
  all_goals simp only [tup]
  all_goals congr 1
  all_goals symm
  all_goals first | (rw [decide_eq_true_eq]; omega) | (rw [decide_eq_false_iff_not]; omega)
set_option maxHeartbeats 4000000 in
theorem room_t (bc : Nat) (s : Ses) (p : Prc) (v : Value) (at' ck rp : Int) (cp : Bool) (w : World) (hs0 : sesB s = true) (hp0 : prcB p = true) (ha : 0 ≤ at' ∧ at' ≤ 65536) (hck : 0 ≤ ck ∧ ck ≤ 4611686018427387903) (hrp : 0 ≤ rp ∧ rp ≤ 4611686018427387903) :
    Tr Try.prog 46 #[.pointer (some ⟨bc, 0, none⟩), .int .i64 at', .bool cp, .int .i64 ck, .int .i64 rp] w [cutI bc s p v] (fun u Γ => u = .int .i64 (if cp = true then roomC s p at' ck rp else roomP s p at') ∧ Γ = [cutI bc s p v]) := by
  have hsb : 1 ≤ s.1 ∧ s.1 ≤ 4611686018427387903 ∧ 1 ≤ s.2 ∧ s.2 < 4611686018427387903 := by simpa [sesB] using hs0
  have hpb : 0 ≤ p.svc ∧ p.svc ≤ 4611686018427387903 ∧ 80 ≤ p.mtu ∧ p.mtu ≤ 4096 := by simp only [prcB, decide_eq_true_eq] at hp0; omega
  have z1 := szI_le (z := s.1) (by omega)
  have z2 := szI_le (z := s.2) (by omega)
  have z3 := szI_le (z := p.svc) (by omega)
  have z4 := szI_le (z := at') (by omega)
  have z5 := szI_le (z := ck) (by omega)
  have z6 := szI_le (z := rp) (by omega)
  refine Tr_intro (rs := [.tmp 10]) (args := [.pointer (some ⟨bc, 0, none⟩), .int .i64 at', .bool cp, .int .i64 ck, .int .i64 rp]) Try.func46 rfl rfl 73 rfl rfl ?_
  (repeat' (first | refine Zv tb ?_ | (refine Zt (fun ht => ?_) (fun ht => ?_) <;> (dsimp only [cmpP, cmpN] at ht) <;> (try (exfalso; omega))) | refine Z0 ?_ | refine Zq ?_ | refine Zr ?_ | refine Zk ?_ | refine Zy ?_ | refine Zn ?_ | refine Zj ?_ | refine Ze ?_ | refine Zx ?_ | refine Zqr ?_ | refine Zqs ?_ | refine Zqc ?_ | refine Zqx ?_ | refine Zqf ?_ | refine Zm tb fun b => ?_ | refine Zb fun b => ?_ | refine Zs tb ?_ | refine Zu tb ?_))
  revert b
  intro b5
  (repeat' (first | refine Zv tb ?_ | (refine Zt (fun ht => ?_) (fun ht => ?_) <;> (dsimp only [cmpP, cmpN] at ht) <;> (try (exfalso; omega))) | refine Z0 ?_ | refine Zq ?_ | refine Zr ?_ | refine Zk ?_ | refine Zy ?_ | refine Zn ?_ | refine Zj ?_ | refine Ze ?_ | refine Zx ?_ | refine Zqr ?_ | refine Zqs ?_ | refine Zqc ?_ | refine Zqx ?_ | refine Zqf ?_ | refine Zm tb fun b => ?_ | refine Zb fun b => ?_ | refine Zs tb ?_ | refine Zu tb ?_))
  (repeat refine W_seq ?_); refine W_regionD tb [] _ [(0, 1), (1, 0), (2, 0), (3, 0), (4, 1), (5, 1), (6, 0), (7, 0), (8, 0), (9, 1), (10, 1), (11, 0), (12, 0), (13, 0), (14, 1), (15, 0), (18, 0), (16, 2), (17, 0)] (by kernel_rfl) (keepAll _) ?_
  (repeat' (first | refine Zpv tb ?_ | (refine Zpt (fun ht => ?_) (fun ht => ?_) <;> (dsimp only [cmpP, cmpN] at ht) <;> (try (exfalso; omega))) | refine Zpw ?_ | refine Zpu tb ?_ | refine Zps tb ?_ | refine Zpk ?_ | refine Zp0 ?_))
  refine WP_2 rfl rfl (Hv_buildSlice tb rfl rfl rfl (by decide) rfl rfl rfl rfl fun q => ⟨.inr (keep1 _ _), ?_⟩)
  (repeat' (first | refine Zpv tb ?_ | (refine Zpt (fun ht => ?_) (fun ht => ?_) <;> (dsimp only [cmpP, cmpN] at ht) <;> (try (exfalso; omega))) | refine Zpw ?_ | refine Zpu tb ?_ | refine Zps tb ?_ | refine Zpk ?_ | refine Zp0 ?_))
  (repeat' (first | refine Zv tb ?_ | (refine Zt (fun ht => ?_) (fun ht => ?_) <;> (dsimp only [cmpP, cmpN] at ht) <;> (try (exfalso; omega))) | refine Z0 ?_ | refine Zq ?_ | refine Zr ?_ | refine Zk ?_ | refine Zy ?_ | refine Zn ?_ | refine Zj ?_ | refine Ze ?_ | refine Zx ?_ | refine Zqr ?_ | refine Zqs ?_ | refine Zqc ?_ | refine Zqx ?_ | refine Zqf ?_ | refine Zm tb fun b => ?_ | refine Zb fun b => ?_ | refine Zs tb ?_ | refine Zu tb ?_))
  refine W_cutB (σ := Unit) (fun _ => [(0, .pointer (some ⟨bc, 0, none⟩)), (1, .int .i64 at'), (2, .bool cp), (3, .int .i64 ck), (4, .int .i64 rp), (5, .pointer (some ⟨b, 0, none⟩)), (11, .pointer (some ⟨b5, 0, none⟩))])
    (fun _ => [.blk b5 [.int .i64 (hd s p at')] 3, .blk b [.pointer (some ⟨bc, 0, none⟩)] 117, cutI bc s p v]) (fun _ => True) ?_ ?_
  · refine W_loop (σ := Nat × Int) (fun | (i, h) => [(0, .pointer (some ⟨bc, 0, none⟩)), (1, .int .i64 at'), (2, .bool cp), (3, .int .i64 ck), (4, .int .i64 rp), (5, .pointer (some ⟨b, 0, none⟩)), (11, .pointer (some ⟨b5, 0, none⟩)), (32, .slice (some ⟨q, 0, none⟩) 4 4), (33, .int .i64 4), (34, .int .i64 i)])
      (fun | (i, h) => [.row (.slice (some ⟨q, 0, none⟩) 4 4) 3 1 4 [.int .i64 s.1, .int .i64 s.2, .int .i64 p.svc, .int .i64 at'], .blk b5 [.int .i64 h] 3, .blk b [.pointer (some ⟨bc, 0, none⟩)] 117, cutI bc s p v])
      (fun | (i, h) => (i = 0 ∧ h = 2) ∨ (i = 1 ∧ h = 2 + szI s.1) ∨ (i = 2 ∧ h = 2 + szI s.1 + szI s.2) ∨ (i = 3 ∧ h = 2 + szI s.1 + szI s.2 + szI p.svc) ∨ (i = 4 ∧ h = 2 + szI s.1 + szI s.2 + szI p.svc + szI at')) (fun | (i, _) => 4 - i) (0, 2) (.inl ⟨rfl, rfl⟩) (by repeat (first | exact Sub.nil | refine Sub.cons rfl ?_)) (keepAll _) ?_
    rintro ⟨i, h⟩ hI
    dsimp only at hI ⊢
    rcases hI with ⟨rfl, rfl⟩ | ⟨rfl, rfl⟩ | ⟨rfl, rfl⟩ | ⟨rfl, rfl⟩ | ⟨rfl, rfl⟩
    · (repeat' (first | refine Zv tb ?_ | (refine Zt (fun ht => ?_) (fun ht => ?_) <;> (dsimp only [cmpP, cmpN] at ht) <;> (try (exfalso; omega))) | refine Z0 ?_ | refine Zq ?_ | refine Zr ?_ | refine Zk ?_ | refine Zy ?_ | refine Zn ?_ | refine Zj ?_ | refine Ze ?_ | refine Zx ?_ | refine Zqr ?_ | refine Zqs ?_ | refine Zqc ?_ | refine Zqx ?_ | refine Zqf ?_ | refine Zm tb fun b => ?_ | refine Zb fun b => ?_ | refine Zs tb ?_ | refine WL_u (by first | exact Yl_indexAddr tb 0 rfl rfl rfl rfl (by decide) | exact Yl_load1 tb rfl rfl (Has.row (List.mem_cons_self ..)) rfl) rfl rfl ?_ | refine Zu tb ?_))
      (repeat refine W_seq ?_); refine W_regionD tb [5] _ [(0, 1), (1, 0), (2, 0), (3, 2), (4, 0), (5, 2)] (by kernel_rfl) (keepAll _) ?_
      (repeat' (first | refine Zpv tb ?_ | (refine Zpt (fun ht => ?_) (fun ht => ?_) <;> (dsimp only [cmpP, cmpN] at ht) <;> (try (exfalso; omega))) | refine Zpw ?_ | refine Zpu tb ?_ | refine Zps tb ?_ | refine Zpk ?_ | refine Zp0 ?_))
      refine WP_2 rfl rfl (Hv_call tb (Γ1 := []) rfl rfl rfl (List.Perm.refl _) (fun w hs => Size_w (s.1) w (by omega) (by omega)) rfl ?_)
      rintro u Γ' ⟨rfl, rfl⟩
      refine ⟨.inr (keepAll _), ?_⟩
      (repeat' (first | refine Zpv tb ?_ | (refine Zpt (fun ht => ?_) (fun ht => ?_) <;> (dsimp only [cmpP, cmpN] at ht) <;> (try (exfalso; omega))) | refine Zpw ?_ | refine Zpu tb ?_ | refine Zps tb ?_ | refine Zpk ?_ | refine Zp0 ?_))
      (repeat' (first | refine Zv tb ?_ | (refine Zt (fun ht => ?_) (fun ht => ?_) <;> (dsimp only [cmpP, cmpN] at ht) <;> (try (exfalso; omega))) | refine Z0 ?_ | refine Zq ?_ | refine Zr ?_ | refine Zk ?_ | refine Zy ?_ | refine Zn ?_ | refine Zj ?_ | refine Ze ?_ | refine Zx ?_ | refine Zqr ?_ | refine Zqs ?_ | refine Zqc ?_ | refine Zqx ?_ | refine Zqf ?_ | refine Zm tb fun b => ?_ | refine Zb fun b => ?_ | refine Zs tb ?_ | refine Zu tb ?_))
      exact ⟨(1, 2 + szI s.1), .inr (.inl ⟨rfl, rfl⟩), by dsimp only; omega, (by repeat (first | exact Sub.nil | refine Sub.cons rfl ?_)), keepAll _⟩
    · (repeat' (first | refine Zv tb ?_ | (refine Zt (fun ht => ?_) (fun ht => ?_) <;> (dsimp only [cmpP, cmpN] at ht) <;> (try (exfalso; omega))) | refine Z0 ?_ | refine Zq ?_ | refine Zr ?_ | refine Zk ?_ | refine Zy ?_ | refine Zn ?_ | refine Zj ?_ | refine Ze ?_ | refine Zx ?_ | refine Zqr ?_ | refine Zqs ?_ | refine Zqc ?_ | refine Zqx ?_ | refine Zqf ?_ | refine Zm tb fun b => ?_ | refine Zb fun b => ?_ | refine Zs tb ?_ | refine WL_u (by first | exact Yl_indexAddr tb 1 rfl rfl rfl rfl (by decide) | exact Yl_load1 tb rfl rfl (Has.row (List.mem_cons_self ..)) rfl) rfl rfl ?_ | refine Zu tb ?_))
      (repeat refine W_seq ?_); refine W_regionD tb [5] _ [(0, 1), (1, 0), (2, 0), (3, 2), (4, 0), (5, 2)] (by kernel_rfl) (keepAll _) ?_
      (repeat' (first | refine Zpv tb ?_ | (refine Zpt (fun ht => ?_) (fun ht => ?_) <;> (dsimp only [cmpP, cmpN] at ht) <;> (try (exfalso; omega))) | refine Zpw ?_ | refine Zpu tb ?_ | refine Zps tb ?_ | refine Zpk ?_ | refine Zp0 ?_))
      refine WP_2 rfl rfl (Hv_call tb (Γ1 := []) rfl rfl rfl (List.Perm.refl _) (fun w hs => Size_w (s.2) w (by omega) (by omega)) rfl ?_)
      rintro u Γ' ⟨rfl, rfl⟩
      refine ⟨.inr (keepAll _), ?_⟩
      (repeat' (first | refine Zpv tb ?_ | (refine Zpt (fun ht => ?_) (fun ht => ?_) <;> (dsimp only [cmpP, cmpN] at ht) <;> (try (exfalso; omega))) | refine Zpw ?_ | refine Zpu tb ?_ | refine Zps tb ?_ | refine Zpk ?_ | refine Zp0 ?_))
      (repeat' (first | refine Zv tb ?_ | (refine Zt (fun ht => ?_) (fun ht => ?_) <;> (dsimp only [cmpP, cmpN] at ht) <;> (try (exfalso; omega))) | refine Z0 ?_ | refine Zq ?_ | refine Zr ?_ | refine Zk ?_ | refine Zy ?_ | refine Zn ?_ | refine Zj ?_ | refine Ze ?_ | refine Zx ?_ | refine Zqr ?_ | refine Zqs ?_ | refine Zqc ?_ | refine Zqx ?_ | refine Zqf ?_ | refine Zm tb fun b => ?_ | refine Zb fun b => ?_ | refine Zs tb ?_ | refine Zu tb ?_))
      exact ⟨(2, 2 + szI s.1 + szI s.2), .inr (.inr (.inl ⟨rfl, rfl⟩)), by dsimp only; omega, (by repeat (first | exact Sub.nil | refine Sub.cons rfl ?_)), keepAll _⟩
    · (repeat' (first | refine Zv tb ?_ | (refine Zt (fun ht => ?_) (fun ht => ?_) <;> (dsimp only [cmpP, cmpN] at ht) <;> (try (exfalso; omega))) | refine Z0 ?_ | refine Zq ?_ | refine Zr ?_ | refine Zk ?_ | refine Zy ?_ | refine Zn ?_ | refine Zj ?_ | refine Ze ?_ | refine Zx ?_ | refine Zqr ?_ | refine Zqs ?_ | refine Zqc ?_ | refine Zqx ?_ | refine Zqf ?_ | refine Zm tb fun b => ?_ | refine Zb fun b => ?_ | refine Zs tb ?_ | refine WL_u (by first | exact Yl_indexAddr tb 2 rfl rfl rfl rfl (by decide) | exact Yl_load1 tb rfl rfl (Has.row (List.mem_cons_self ..)) rfl) rfl rfl ?_ | refine Zu tb ?_))
      (repeat refine W_seq ?_); refine W_regionD tb [5] _ [(0, 1), (1, 0), (2, 0), (3, 2), (4, 0), (5, 2)] (by kernel_rfl) (keepAll _) ?_
      (repeat' (first | refine Zpv tb ?_ | (refine Zpt (fun ht => ?_) (fun ht => ?_) <;> (dsimp only [cmpP, cmpN] at ht) <;> (try (exfalso; omega))) | refine Zpw ?_ | refine Zpu tb ?_ | refine Zps tb ?_ | refine Zpk ?_ | refine Zp0 ?_))
      refine WP_2 rfl rfl (Hv_call tb (Γ1 := []) rfl rfl rfl (List.Perm.refl _) (fun w hs => Size_w (p.svc) w (by omega) (by omega)) rfl ?_)
      rintro u Γ' ⟨rfl, rfl⟩
      refine ⟨.inr (keepAll _), ?_⟩
      (repeat' (first | refine Zpv tb ?_ | (refine Zpt (fun ht => ?_) (fun ht => ?_) <;> (dsimp only [cmpP, cmpN] at ht) <;> (try (exfalso; omega))) | refine Zpw ?_ | refine Zpu tb ?_ | refine Zps tb ?_ | refine Zpk ?_ | refine Zp0 ?_))
      (repeat' (first | refine Zv tb ?_ | (refine Zt (fun ht => ?_) (fun ht => ?_) <;> (dsimp only [cmpP, cmpN] at ht) <;> (try (exfalso; omega))) | refine Z0 ?_ | refine Zq ?_ | refine Zr ?_ | refine Zk ?_ | refine Zy ?_ | refine Zn ?_ | refine Zj ?_ | refine Ze ?_ | refine Zx ?_ | refine Zqr ?_ | refine Zqs ?_ | refine Zqc ?_ | refine Zqx ?_ | refine Zqf ?_ | refine Zm tb fun b => ?_ | refine Zb fun b => ?_ | refine Zs tb ?_ | refine Zu tb ?_))
      exact ⟨(3, 2 + szI s.1 + szI s.2 + szI p.svc), .inr (.inr (.inr (.inl ⟨rfl, rfl⟩))), by dsimp only; omega, (by repeat (first | exact Sub.nil | refine Sub.cons rfl ?_)), keepAll _⟩
    · (repeat' (first | refine Zv tb ?_ | (refine Zt (fun ht => ?_) (fun ht => ?_) <;> (dsimp only [cmpP, cmpN] at ht) <;> (try (exfalso; omega))) | refine Z0 ?_ | refine Zq ?_ | refine Zr ?_ | refine Zk ?_ | refine Zy ?_ | refine Zn ?_ | refine Zj ?_ | refine Ze ?_ | refine Zx ?_ | refine Zqr ?_ | refine Zqs ?_ | refine Zqc ?_ | refine Zqx ?_ | refine Zqf ?_ | refine Zm tb fun b => ?_ | refine Zb fun b => ?_ | refine Zs tb ?_ | refine WL_u (by first | exact Yl_indexAddr tb 3 rfl rfl rfl rfl (by decide) | exact Yl_load1 tb rfl rfl (Has.row (List.mem_cons_self ..)) rfl) rfl rfl ?_ | refine Zu tb ?_))
      (repeat refine W_seq ?_); refine W_regionD tb [5] _ [(0, 1), (1, 0), (2, 0), (3, 2), (4, 0), (5, 2)] (by kernel_rfl) (keepAll _) ?_
      (repeat' (first | refine Zpv tb ?_ | (refine Zpt (fun ht => ?_) (fun ht => ?_) <;> (dsimp only [cmpP, cmpN] at ht) <;> (try (exfalso; omega))) | refine Zpw ?_ | refine Zpu tb ?_ | refine Zps tb ?_ | refine Zpk ?_ | refine Zp0 ?_))
      refine WP_2 rfl rfl (Hv_call tb (Γ1 := []) rfl rfl rfl (List.Perm.refl _) (fun w hs => Size_w (at') w (by omega) (by omega)) rfl ?_)
      rintro u Γ' ⟨rfl, rfl⟩
      refine ⟨.inr (keepAll _), ?_⟩
      (repeat' (first | refine Zpv tb ?_ | (refine Zpt (fun ht => ?_) (fun ht => ?_) <;> (dsimp only [cmpP, cmpN] at ht) <;> (try (exfalso; omega))) | refine Zpw ?_ | refine Zpu tb ?_ | refine Zps tb ?_ | refine Zpk ?_ | refine Zp0 ?_))
      (repeat' (first | refine Zv tb ?_ | (refine Zt (fun ht => ?_) (fun ht => ?_) <;> (dsimp only [cmpP, cmpN] at ht) <;> (try (exfalso; omega))) | refine Z0 ?_ | refine Zq ?_ | refine Zr ?_ | refine Zk ?_ | refine Zy ?_ | refine Zn ?_ | refine Zj ?_ | refine Ze ?_ | refine Zx ?_ | refine Zqr ?_ | refine Zqs ?_ | refine Zqc ?_ | refine Zqx ?_ | refine Zqf ?_ | refine Zm tb fun b => ?_ | refine Zb fun b => ?_ | refine Zs tb ?_ | refine Zu tb ?_))
      exact ⟨(4, 2 + szI s.1 + szI s.2 + szI p.svc + szI at'), .inr (.inr (.inr (.inr (⟨rfl, rfl⟩)))), by dsimp only; omega, (by repeat (first | exact Sub.nil | refine Sub.cons rfl ?_)), keepAll _⟩
    · have e : (hd s p at' : Int) = 2 + szI s.1 + szI s.2 + szI p.svc + szI at' := by unfold hd; omega
      (repeat' (first | refine Zv tb ?_ | (refine Zt (fun ht => ?_) (fun ht => ?_) <;> (dsimp only [cmpP, cmpN] at ht) <;> (try (exfalso; omega))) | refine Z0 ?_ | refine Zq ?_ | refine Zr ?_ | refine Zk ?_ | refine Zy ?_ | refine Zn ?_ | refine Zj ?_ | refine Ze ?_ | refine Zx ?_ | refine Zqr ?_ | refine Zqs ?_ | refine Zqc ?_ | refine Zqx ?_ | refine Zqf ?_ | refine Zm tb fun b => ?_ | refine Zb fun b => ?_ | refine Zs tb ?_ | refine Zu tb ?_))
      refine ⟨(), trivial, (by repeat (first | exact Sub.nil | refine Sub.cons rfl ?_)), ?_⟩
      rw [e]
      exact ⟨_, perm_picks [1, 1, 1] rfl⟩
  intro _ _
  have hh : hd s p at' ≤ 38 := by unfold hd; omega
  cases cp
  · (repeat' (first | refine Zv tb ?_ | (refine Zt (fun ht => ?_) (fun ht => ?_) <;> (dsimp only [cmpP, cmpN] at ht) <;> (try (exfalso; omega))) | refine Z0 ?_ | refine Zq ?_ | refine Zr ?_ | refine Zk ?_ | refine Zy ?_ | refine Zn ?_ | refine Zj ?_ | refine Ze ?_ | refine Zx ?_ | refine Zqr ?_ | refine Zqs ?_ | refine Zqc ?_ | refine Zqx ?_ | refine Zqf ?_ | refine Zm tb fun b => ?_ | refine Zb fun b => ?_ | refine Zs tb ?_ | refine Zu tb ?_))
    obtain ⟨H, hH⟩ : ∃ H, H = hd s p at' := ⟨_, rfl⟩
    have hR : (if false = true then roomC s p at' ck rp else roomP s p at') = (room H p.mtu.toNat : Int) := by rw [hH]; rfl
    rw [hR, ← hH]
    rw [← hH] at hh
    clear hH
    (repeat refine W_seq ?_); refine W_regionD tb [] _ [(0, 1), (1, 0), (2, 0), (3, 0), (4, 1), (5, 1), (6, 0), (7, 0)] (by kernel_rfl) (keepAll _) ?_
    (repeat' (first | refine Zpv tb ?_ | (refine Zpt (fun ht => ?_) (fun ht => ?_) <;> (dsimp only [cmpP, cmpN] at ht) <;> (try (exfalso; omega))) | refine Zpw ?_ | refine Zpu tb ?_ | refine Zps tb ?_ | refine Zpk ?_ | refine Zp0 ?_))
    (repeat' (first | refine Zv tb ?_ | (refine Zt (fun ht => ?_) (fun ht => ?_) <;> (dsimp only [cmpP, cmpN] at ht) <;> (try (exfalso; omega))) | refine Z0 ?_ | refine Zq ?_ | refine Zr ?_ | refine Zk ?_ | refine Zy ?_ | refine Zn ?_ | refine Zj ?_ | refine Ze ?_ | refine Zx ?_ | refine Zqr ?_ | refine Zqs ?_ | refine Zqc ?_ | refine Zqx ?_ | refine Zqf ?_ | refine Zm tb fun b => ?_ | refine Zb fun b => ?_ | refine Zs tb ?_ | refine Zu tb ?_))
    rw [show p.mtu - (H : Int) = ((p.mtu.toNat - H : Nat) : Int) by omega]
    refine W_loop (σ := Nat) (fun n => [(14, .func (.func 74) #[] #[.pointer (some ⟨b5, 0, none⟩), .pointer (some ⟨b, 0, none⟩)]), (15, .int .i64 n)])
      (fun _ => [.blk b5 [.int .i64 H] 3, .blk b [.pointer (some ⟨bc, 0, none⟩)] 117, cutI bc s p v]) (fun n => n ≤ 4096 ∧ p.mtu.toNat < H + sz (n + 1) + (n + 1)) (fun n => n) (p.mtu.toNat - H) ⟨by omega, by have := sz_pos (p.mtu.toNat - H + 1); omega⟩ (by repeat (first | exact Sub.nil | refine Sub.cons rfl ?_)) (keepAll _) ?_
    rintro n ⟨hn, hlow⟩
    by_cases hn0 : n = 0
    · subst hn0
      have hr : room H p.mtu.toNat = 0 := (room_uniq ⟨.inl rfl, hlow⟩).symm
      (repeat' (first | refine Zv tb ?_ | (refine Zt (fun ht => ?_) (fun ht => ?_) <;> (dsimp only [cmpP, cmpN] at ht) <;> (try (exfalso; omega))) | refine Z0 ?_ | refine Zq ?_ | refine Zr ?_ | refine Zk ?_ | refine Zy ?_ | refine Zn ?_ | refine Zj ?_ | refine Ze ?_ | refine Zx ?_ | refine Zqr ?_ | refine Zqs ?_ | refine Zqc ?_ | refine Zqx ?_ | refine Zqf ?_ | refine Zm tb fun b => ?_ | refine Zb fun b => ?_ | refine Zs tb ?_ | refine Zu tb ?_))
      refine ⟨_, _, .tmp rfl .nil, ⟨?_, rfl⟩, _, perm_picks [2] rfl⟩
      rw [hr]; rfl
    · (repeat' (first | refine Zv tb ?_ | (refine Zt (fun ht => ?_) (fun ht => ?_) <;> (dsimp only [cmpP, cmpN] at ht) <;> (try (exfalso; omega))) | refine Z0 ?_ | refine Zq ?_ | refine Zr ?_ | refine Zk ?_ | refine Zy ?_ | refine Zn ?_ | refine Zj ?_ | refine Ze ?_ | refine Zx ?_ | refine Zqr ?_ | refine Zqs ?_ | refine Zqc ?_ | refine Zqx ?_ | refine Zqf ?_ | refine Zm tb fun b => ?_ | refine Zb fun b => ?_ | refine Zs tb ?_ | refine Zu tb ?_))
      refine WL_cons rfl (Hv_call tb  rfl rfl rfl (perm_picks [0, 0, 0] rfl) (fun w hs => fits_t b5 b bc s p v H n w ⟨by omega, by omega⟩ ⟨by omega, by omega⟩) rfl ?_)
      rintro u Γ' ⟨rfl, rfl⟩
      have hzn : szI (n : Int) = sz n := by unfold szI; rw [Int.toNat_natCast]
      cases hf : decide ((H : Int) + szI (n : Int) + n ≤ p.mtu)
      · simp only [decide_eq_false_iff_not] at hf
        (repeat' (first | refine Zv tb ?_ | (refine Zt (fun ht => ?_) (fun ht => ?_) <;> (dsimp only [cmpP, cmpN] at ht) <;> (try (exfalso; omega))) | refine Z0 ?_ | refine Zq ?_ | refine Zr ?_ | refine Zk ?_ | refine Zy ?_ | refine Zn ?_ | refine Zj ?_ | refine Ze ?_ | refine Zx ?_ | refine Zqr ?_ | refine Zqs ?_ | refine Zqc ?_ | refine Zqx ?_ | refine Zqf ?_ | refine Zm tb fun b => ?_ | refine Zb fun b => ?_ | refine Zs tb ?_ | refine Zu tb ?_))
        obtain ⟨n1, rfl⟩ : ∃ n1, n = n1 + 1 := ⟨n - 1, by omega⟩
        refine ⟨n1, ⟨by omega, by omega⟩, by omega, ?_, keepAll _⟩
        rw [show (n1 : Int) = ((n1 + 1 : Nat) : Int) - 1 by omega]
        exact (by repeat (first | exact Sub.nil | refine Sub.cons rfl ?_))
      · simp only [decide_eq_true_eq] at hf
        have hr : room H p.mtu.toNat = n := (room_uniq ⟨.inr (by omega), hlow⟩).symm
        (repeat' (first | refine Zv tb ?_ | (refine Zt (fun ht => ?_) (fun ht => ?_) <;> (dsimp only [cmpP, cmpN] at ht) <;> (try (exfalso; omega))) | refine Z0 ?_ | refine Zq ?_ | refine Zr ?_ | refine Zk ?_ | refine Zy ?_ | refine Zn ?_ | refine Zj ?_ | refine Ze ?_ | refine Zx ?_ | refine Zqr ?_ | refine Zqs ?_ | refine Zqc ?_ | refine Zqx ?_ | refine Zqf ?_ | refine Zm tb fun b => ?_ | refine Zb fun b => ?_ | refine Zs tb ?_ | refine Zu tb ?_))
        refine ⟨_, _, .tmp rfl .nil, ⟨?_, rfl⟩, _, perm_picks [2] rfl⟩
        rw [hr]; rfl
  · (repeat' (first | refine Zv tb ?_ | (refine Zt (fun ht => ?_) (fun ht => ?_) <;> (dsimp only [cmpP, cmpN] at ht) <;> (try (exfalso; omega))) | refine Z0 ?_ | refine Zq ?_ | refine Zr ?_ | refine Zk ?_ | refine Zy ?_ | refine Zn ?_ | refine Zj ?_ | refine Ze ?_ | refine Zx ?_ | refine Zqr ?_ | refine Zqs ?_ | refine Zqc ?_ | refine Zqx ?_ | refine Zqf ?_ | refine Zm tb fun b => ?_ | refine Zb fun b => ?_ | refine Zs tb ?_ | refine Zu tb ?_))
    (repeat refine W_seq ?_); refine W_regionD tb [9] _ [(0, 1), (1, 0), (2, 0), (4, 0), (5, 0), (3, 2), (6, 2), (7, 0), (8, 0), (9, 2)] (by kernel_rfl) (keepAll _) ?_
    (repeat' (first | refine Zpv tb ?_ | (refine Zpt (fun ht => ?_) (fun ht => ?_) <;> (dsimp only [cmpP, cmpN] at ht) <;> (try (exfalso; omega))) | refine Zpw ?_ | refine Zpu tb ?_ | refine Zps tb ?_ | refine Zpk ?_ | refine Zp0 ?_))
    refine WP_2 rfl rfl (Hv_call tb (Γ1 := []) rfl rfl rfl (List.Perm.refl _) (fun w hs => Size_w ck w (by omega) (by omega)) rfl ?_)
    rintro u Γ' ⟨rfl, rfl⟩
    refine ⟨.inr (keepAll _), ?_⟩
    (repeat' (first | refine Zpv tb ?_ | (refine Zpt (fun ht => ?_) (fun ht => ?_) <;> (dsimp only [cmpP, cmpN] at ht) <;> (try (exfalso; omega))) | refine Zpw ?_ | refine Zpu tb ?_ | refine Zps tb ?_ | refine Zpk ?_ | refine Zp0 ?_))
    refine WP_2 rfl rfl (Hv_call tb (Γ1 := []) rfl rfl rfl (List.Perm.refl _) (fun w hs => Size_w rp w (by omega) (by omega)) rfl ?_)
    rintro u Γ' ⟨rfl, rfl⟩
    refine ⟨.inr (keepAll _), ?_⟩
    (repeat' (first | refine Zpv tb ?_ | (refine Zpt (fun ht => ?_) (fun ht => ?_) <;> (dsimp only [cmpP, cmpN] at ht) <;> (try (exfalso; omega))) | refine Zpw ?_ | refine Zpu tb ?_ | refine Zps tb ?_ | refine Zpk ?_ | refine Zp0 ?_))
    (repeat' (first | refine Zv tb ?_ | (refine Zt (fun ht => ?_) (fun ht => ?_) <;> (dsimp only [cmpP, cmpN] at ht) <;> (try (exfalso; omega))) | refine Z0 ?_ | refine Zq ?_ | refine Zr ?_ | refine Zk ?_ | refine Zy ?_ | refine Zn ?_ | refine Zj ?_ | refine Ze ?_ | refine Zx ?_ | refine Zqr ?_ | refine Zqs ?_ | refine Zqc ?_ | refine Zqx ?_ | refine Zqf ?_ | refine Zm tb fun b => ?_ | refine Zb fun b => ?_ | refine Zs tb ?_ | refine Zu tb ?_))
    obtain ⟨H, hH⟩ : ∃ H, H = hd s p at' + szI ck + szI rp := ⟨_, rfl⟩
    have hR : (if true = true then roomC s p at' ck rp else roomP s p at') = (room H p.mtu.toNat : Int) := by rw [hH]; rfl
    have hH' : (hd s p at' : Int) + ((szI ck : Int) + (szI rp : Int)) = (H : Int) := by omega
    rw [hR, hH']
    replace hh : H ≤ 56 := by omega
    clear hH hH'
    (repeat refine W_seq ?_); refine W_regionD tb [] _ [(0, 1), (1, 0), (2, 0), (3, 0), (4, 1), (5, 1), (6, 0), (7, 0)] (by kernel_rfl) (keepAll _) ?_
    (repeat' (first | refine Zpv tb ?_ | (refine Zpt (fun ht => ?_) (fun ht => ?_) <;> (dsimp only [cmpP, cmpN] at ht) <;> (try (exfalso; omega))) | refine Zpw ?_ | refine Zpu tb ?_ | refine Zps tb ?_ | refine Zpk ?_ | refine Zp0 ?_))
    (repeat' (first | refine Zv tb ?_ | (refine Zt (fun ht => ?_) (fun ht => ?_) <;> (dsimp only [cmpP, cmpN] at ht) <;> (try (exfalso; omega))) | refine Z0 ?_ | refine Zq ?_ | refine Zr ?_ | refine Zk ?_ | refine Zy ?_ | refine Zn ?_ | refine Zj ?_ | refine Ze ?_ | refine Zx ?_ | refine Zqr ?_ | refine Zqs ?_ | refine Zqc ?_ | refine Zqx ?_ | refine Zqf ?_ | refine Zm tb fun b => ?_ | refine Zb fun b => ?_ | refine Zs tb ?_ | refine Zu tb ?_))
    rw [show p.mtu - (H : Int) = ((p.mtu.toNat - H : Nat) : Int) by omega]
    refine W_loop (σ := Nat) (fun n => [(14, .func (.func 74) #[] #[.pointer (some ⟨b5, 0, none⟩), .pointer (some ⟨b, 0, none⟩)]), (15, .int .i64 n)])
      (fun _ => [.blk b5 [.int .i64 H] 3, .blk b [.pointer (some ⟨bc, 0, none⟩)] 117, cutI bc s p v]) (fun n => n ≤ 4096 ∧ p.mtu.toNat < H + sz (n + 1) + (n + 1)) (fun n => n) (p.mtu.toNat - H) ⟨by omega, by have := sz_pos (p.mtu.toNat - H + 1); omega⟩ (by repeat (first | exact Sub.nil | refine Sub.cons rfl ?_)) (keepAll _) ?_
    rintro n ⟨hn, hlow⟩
    by_cases hn0 : n = 0
    · subst hn0
      have hr : room H p.mtu.toNat = 0 := (room_uniq ⟨.inl rfl, hlow⟩).symm
      (repeat' (first | refine Zv tb ?_ | (refine Zt (fun ht => ?_) (fun ht => ?_) <;> (dsimp only [cmpP, cmpN] at ht) <;> (try (exfalso; omega))) | refine Z0 ?_ | refine Zq ?_ | refine Zr ?_ | refine Zk ?_ | refine Zy ?_ | refine Zn ?_ | refine Zj ?_ | refine Ze ?_ | refine Zx ?_ | refine Zqr ?_ | refine Zqs ?_ | refine Zqc ?_ | refine Zqx ?_ | refine Zqf ?_ | refine Zm tb fun b => ?_ | refine Zb fun b => ?_ | refine Zs tb ?_ | refine Zu tb ?_))
      refine ⟨_, _, .tmp rfl .nil, ⟨?_, rfl⟩, _, perm_picks [2] rfl⟩
      rw [hr]; rfl
    · (repeat' (first | refine Zv tb ?_ | (refine Zt (fun ht => ?_) (fun ht => ?_) <;> (dsimp only [cmpP, cmpN] at ht) <;> (try (exfalso; omega))) | refine Z0 ?_ | refine Zq ?_ | refine Zr ?_ | refine Zk ?_ | refine Zy ?_ | refine Zn ?_ | refine Zj ?_ | refine Ze ?_ | refine Zx ?_ | refine Zqr ?_ | refine Zqs ?_ | refine Zqc ?_ | refine Zqx ?_ | refine Zqf ?_ | refine Zm tb fun b => ?_ | refine Zb fun b => ?_ | refine Zs tb ?_ | refine Zu tb ?_))
      refine WL_cons rfl (Hv_call tb  rfl rfl rfl (perm_picks [0, 0, 0] rfl) (fun w hs => fits_t b5 b bc s p v H n w ⟨by omega, by omega⟩ ⟨by omega, by omega⟩) rfl ?_)
      rintro u Γ' ⟨rfl, rfl⟩
      have hzn : szI (n : Int) = sz n := by unfold szI; rw [Int.toNat_natCast]
      cases hf : decide ((H : Int) + szI (n : Int) + n ≤ p.mtu)
      · simp only [decide_eq_false_iff_not] at hf
        (repeat' (first | refine Zv tb ?_ | (refine Zt (fun ht => ?_) (fun ht => ?_) <;> (dsimp only [cmpP, cmpN] at ht) <;> (try (exfalso; omega))) | refine Z0 ?_ | refine Zq ?_ | refine Zr ?_ | refine Zk ?_ | refine Zy ?_ | refine Zn ?_ | refine Zj ?_ | refine Ze ?_ | refine Zx ?_ | refine Zqr ?_ | refine Zqs ?_ | refine Zqc ?_ | refine Zqx ?_ | refine Zqf ?_ | refine Zm tb fun b => ?_ | refine Zb fun b => ?_ | refine Zs tb ?_ | refine Zu tb ?_))
        obtain ⟨n1, rfl⟩ : ∃ n1, n = n1 + 1 := ⟨n - 1, by omega⟩
        refine ⟨n1, ⟨by omega, by omega⟩, by omega, ?_, keepAll _⟩
        rw [show (n1 : Int) = ((n1 + 1 : Nat) : Int) - 1 by omega]
        exact (by repeat (first | exact Sub.nil | refine Sub.cons rfl ?_))
      · simp only [decide_eq_true_eq] at hf
        have hr : room H p.mtu.toNat = n := (room_uniq ⟨.inr (by omega), hlow⟩).symm
        (repeat' (first | refine Zv tb ?_ | (refine Zt (fun ht => ?_) (fun ht => ?_) <;> (dsimp only [cmpP, cmpN] at ht) <;> (try (exfalso; omega))) | refine Z0 ?_ | refine Zq ?_ | refine Zr ?_ | refine Zk ?_ | refine Zy ?_ | refine Zn ?_ | refine Zj ?_ | refine Ze ?_ | refine Zx ?_ | refine Zqr ?_ | refine Zqs ?_ | refine Zqc ?_ | refine Zqx ?_ | refine Zqf ?_ | refine Zm tb fun b => ?_ | refine Zb fun b => ?_ | refine Zs tb ?_ | refine Zu tb ?_))
        refine ⟨_, _, .tmp rfl .nil, ⟨?_, rfl⟩, _, perm_picks [2] rfl⟩
        rw [hr]; rfl
end Go.Proofs.Ytdnngagahhleiaa
