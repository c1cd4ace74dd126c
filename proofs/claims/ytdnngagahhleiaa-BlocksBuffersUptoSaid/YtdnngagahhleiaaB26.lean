/- the document's buffer: Read; two sets. -/
import Derived.Test.YtdnngagahhleiaaB25
namespace Go.Proofs.Ytdnngagahhleiaa
open Go.Sx
attribute [local irreducible] W WL WP Hv Yl WQ At QP QF Rnd
set_option maxRecDepth 10000
set_option linter.unusedVariables false
set_option linter.unusedSimpArgs false
set_option maxHeartbeats 1000000 in
theorem rRead_t (rb : Nat) (R : Rf) (V : Option Addr) (c : Nat) (s : Sp) (w : World) (hpl : R.pl.length ≤ 65536) :
    Tr Try.prog 65 #[.pointer (some ⟨rb, 0, none⟩), spV s] w (refI rb R V c) (fun v Γ => ∃ A ca, v = tup [.slice A (readR R s).1.length ca, .bool (readR R s).2] ∧ Γ = refI rb R V c ++ [byI A (readR R s).1.length ca (readR R s).1]) := by
  obtain ⟨s1, s2⟩ := s
  show Tr Try.prog 65 #[.pointer (some ⟨rb, 0, none⟩), .agg #[.int .i64 s1, .int .i64 s2]] w _ _
  have bad : ¬ (0 ≤ s1 ∧ s1 < s2 ∧ s2 ≤ R.pl.length ∧ R.dr = false ∧ ∀ j, j < (s2 - s1).toNat → 0 ≤ pz R.pl (s1 + j).toNat) → readR R (s1, s2) = ([], false) := fun h => if_neg h
  refine Tr_intro (rs := [.tmp 4, .tmp 5]) (args := [.pointer (some ⟨rb, 0, none⟩), .agg #[.int .i64 s1, .int .i64 s2]]) Try.func65 rfl rfl 62 rfl rfl ?_
  refine W_fact (p := V = none → R.pl.length = 0) (fun w hs h => ((hs.row_fact (List.mem_cons_of_mem _ (List.mem_cons_self ..))).1 h).2) fun hV => ?_
  refine W_nilrow 5 1 ?_
  refine W_nilrow 5 1 ?_
  (repeat' (first | refine Zv tb ?_ | (refine Zt (fun ht => ?_) (fun ht => ?_) <;> (dsimp only [cmpP, cmpN] at ht) <;> (try (exfalso; omega))) | refine Z0 ?_ | refine Zq ?_ | refine Zr ?_ | refine Zk ?_ | refine Zy ?_ | refine Zn ?_ | refine Zj ?_ | refine Ze ?_ | refine Zx ?_ | refine Zqr ?_ | refine Zqs ?_ | refine Zqc ?_ | refine Zqx ?_ | refine Zqf ?_ | refine Zm tb fun b => ?_ | refine Zb fun b => ?_ | refine Zs tb ?_ | refine Zu tb ?_))
  (repeat refine W_seq ?_); refine W_regionD tb [] _ [(0, 0), (1, 1), (2, 0), (3, 0), (4, 0), (5, 1), (6, 0), (7, 1), (8, 0), (9, 0), (10, 0), (11, 0), (12, 1), (13, 0), (14, 0), (15, 0), (16, 1), (17, 0), (18, 0), (19, 0), (20, 0), (21, 0), (22, 0), (23, 0), (24, 1), (25, 0)] (by kernel_rfl) (keepAll _) ?_
  by_cases h1 : 0 ≤ s1 ∧ s1 < s2 ∧ s2 ≤ R.pl.length
  rotate_left
  · rw [bad (fun h => h1 ⟨h.1, h.2.1, h.2.2.1⟩)]
    (repeat' (first | refine Zpv tb ?_ | (refine Zpt (fun ht => ?_) (fun ht => ?_) <;> (dsimp only [cmpP, cmpN] at ht) <;> (try (exfalso; omega))) | refine Zpw ?_ | refine Zpu tb ?_ | refine Zps tb ?_ | refine Zpk ?_ | refine Zp0 ?_))
    all_goals (repeat' (first | refine Zv tb ?_ | (refine Zt (fun ht => ?_) (fun ht => ?_) <;> (dsimp only [cmpP, cmpN] at ht) <;> (try (exfalso; omega))) | refine Z0 ?_ | refine Zq ?_ | refine Zr ?_ | refine Zk ?_ | refine Zy ?_ | refine Zn ?_ | refine Zj ?_ | refine Ze ?_ | refine Zx ?_ | refine Zqr ?_ | refine Zqs ?_ | refine Zqc ?_ | refine Zqx ?_ | refine Zqf ?_ | refine Zm tb fun b => ?_ | refine Zb fun b => ?_ | refine Zs tb ?_ | refine Zu tb ?_))
    all_goals exact ⟨_, _, .tmp rfl (.tmp rfl .nil), ⟨none, 0, rfl, rfl⟩, _, perm_picks [3, 3, 1] rfl⟩
  (repeat' (first | refine Zpv tb ?_ | (refine Zpt (fun ht => ?_) (fun ht => ?_) <;> (dsimp only [cmpP, cmpN] at ht) <;> (try (exfalso; omega))) | refine Zpw ?_ | refine Zpu tb ?_ | refine Zps tb ?_ | refine Zpk ?_ | refine Zp0 ?_))
  (repeat' (first | refine Zv tb ?_ | (refine Zt (fun ht => ?_) (fun ht => ?_) <;> (dsimp only [cmpP, cmpN] at ht) <;> (try (exfalso; omega))) | refine Z0 ?_ | refine Zq ?_ | refine Zr ?_ | refine Zk ?_ | refine Zy ?_ | refine Zn ?_ | refine Zj ?_ | refine Ze ?_ | refine Zx ?_ | refine Zqr ?_ | refine Zqs ?_ | refine Zqc ?_ | refine Zqx ?_ | refine Zqf ?_ | refine Zm tb fun b => ?_ | refine Zb fun b => ?_ | refine Zs tb ?_ | refine Zu tb ?_))
  cases hdr : R.dr
  rotate_left
  · rw [bad (fun h => by rw [hdr] at h; cases h.2.2.2.1)]
    (repeat' (first | refine Zv tb ?_ | (refine Zt (fun ht => ?_) (fun ht => ?_) <;> (dsimp only [cmpP, cmpN] at ht) <;> (try (exfalso; omega))) | refine Z0 ?_ | refine Zq ?_ | refine Zr ?_ | refine Zk ?_ | refine Zy ?_ | refine Zn ?_ | refine Zj ?_ | refine Ze ?_ | refine Zx ?_ | refine Zqr ?_ | refine Zqs ?_ | refine Zqc ?_ | refine Zqx ?_ | refine Zqf ?_ | refine Zm tb fun b => ?_ | refine Zb fun b => ?_ | refine Zs tb ?_ | refine Zu tb ?_))
    exact ⟨_, _, .tmp rfl (.tmp rfl .nil), ⟨none, 0, rfl, rfl⟩, _, perm_picks [3, 3, 1] rfl⟩
  obtain ⟨a, rfl⟩ : ∃ v, V = some v := by cases V with
    | some v => exact ⟨v, rfl⟩
    | none => have := hV rfl; omega
  (repeat' (first | refine Zv tb ?_ | (refine Zt (fun ht => ?_) (fun ht => ?_) <;> (dsimp only [cmpP, cmpN] at ht) <;> (try (exfalso; omega))) | refine Z0 ?_ | refine Zq ?_ | refine Zr ?_ | refine Zk ?_ | refine Zy ?_ | refine Zn ?_ | refine Zj ?_ | refine Ze ?_ | refine Zx ?_ | refine Zqr ?_ | refine Zqs ?_ | refine Zqc ?_ | refine Zqx ?_ | refine Zqf ?_ | refine Zm tb fun b => ?_ | refine Zb fun b => ?_ | refine Zs tb ?_ | refine Zu tb ?_))
  refine W_loop (σ := Nat × Option Addr × Nat) (fun | (k, A, ca) => [(0, .pointer (some ⟨rb, 0, none⟩)), (3, .pointer (some ⟨b, 0, none⟩)), (6, .slice A k ca), (7, .int .i64 (s1 + k))]) (fun | (k, A, ca) => byI A k ca (rdL R.pl s1 k) :: byI none 0 0 [] :: .blk b [.int .i64 s1, .int .i64 s2] 61 :: refI rb R (some a) c)
    (fun | (k, A, ca) => k ≤ (s2 - s1).toNat ∧ ∀ j, j < k → 0 ≤ pz R.pl (s1 + j).toNat) (fun | (k, _) => (s2 - s1).toNat - k) (0, none, 0) ⟨Nat.zero_le _, fun j h => by omega⟩ (Sub.cons rfl (Sub.cons rfl (Sub.cons rfl (Sub.cons (by show _ = some (Value.int .i64 (s1 + 0)); rw [Int.add_zero]; rfl) Sub.nil)))) ⟨_, perm_picks [1, 1, 0, 0, 0] rfl⟩ ?_
  rintro ⟨k, A, ca⟩ ⟨hk, hall⟩
  dsimp only at hk hall ⊢
  by_cases hlt : k < (s2 - s1).toNat
  · have hjl : (s1 + k).toNat < R.pl.length := by omega
    by_cases hz : pz R.pl (s1 + k).toNat < 0
    · rw [bad (fun h => by have := h.2.2.2.2 k hlt; omega)]
      (repeat' (first | refine Zv tb ?_ | (refine Zt (fun ht => ?_) (fun ht => ?_) <;> (dsimp only [cmpP, cmpN] at ht) <;> (try (exfalso; omega))) | refine Z0 ?_ | refine Zq ?_ | refine Zr ?_ | refine Zk ?_ | refine Zy ?_ | refine Zn ?_ | refine Zj ?_ | refine Ze ?_ | refine Zx ?_ | refine Zqr ?_ | refine Zqs ?_ | refine Zqc ?_ | refine Zqx ?_ | refine Zqf ?_ | refine Zm tb fun b => ?_ | refine Zb fun b => ?_ | refine Zs tb ?_ | refine WL_u (by first | exact Yl_indexAddr tb (s1 + k).toNat rfl rfl rfl (by omega) hjl | exact Yl_load1 tb rfl rfl (Has.row (by repeat (first | exact List.Mem.head _ | apply List.Mem.tail))) (in_get hjl)) rfl rfl ?_ | refine Zu tb ?_))
      exact ⟨_, _, .tmp rfl (.tmp rfl .nil), ⟨none, 0, rfl, rfl⟩, _, perm_picks [3, 3, 1] rfl⟩
    · (repeat' (first | refine Zv tb ?_ | (refine Zt (fun ht => ?_) (fun ht => ?_) <;> (dsimp only [cmpP, cmpN] at ht) <;> (try (exfalso; omega))) | refine Z0 ?_ | refine Zq ?_ | refine Zr ?_ | refine Zk ?_ | refine Zy ?_ | refine Zn ?_ | refine Zj ?_ | refine Ze ?_ | refine Zx ?_ | refine Zqr ?_ | refine Zqs ?_ | refine Zqc ?_ | refine Zqx ?_ | refine Zqf ?_ | refine Zm tb fun b => ?_ | refine Zb fun b => ?_ | refine Zs tb ?_ | refine WL_u (by first | exact Yl_indexAddr tb (s1 + k).toNat rfl rfl rfl (by omega) hjl | exact Yl_load1 tb rfl rfl (Has.row (by repeat (first | exact List.Mem.head _ | apply List.Mem.tail))) (in_get hjl)) rfl rfl ?_ | refine Zu tb ?_))
      refine WL_cons rfl (Hv_buildSlice tb rfl rfl rfl (by decide) rfl rfl rfl rfl fun q => ?_); (repeat' (first | refine Zv tb ?_ | (refine Zt (fun ht => ?_) (fun ht => ?_) <;> (dsimp only [cmpP, cmpN] at ht) <;> (try (exfalso; omega))) | refine Z0 ?_ | refine Zq ?_ | refine Zr ?_ | refine Zk ?_ | refine Zy ?_ | refine Zn ?_ | refine Zj ?_ | refine Ze ?_ | refine Zx ?_ | refine Zqr ?_ | refine Zqs ?_ | refine Zqc ?_ | refine Zqx ?_ | refine Zqf ?_ | refine Zm tb fun b => ?_ | refine Zb fun b => ?_ | refine Zs tb ?_ | refine Zu tb ?_)); refine WL_cons rfl (Hv_append tb (k := 1) (m := 1) rfl rfl rfl rfl rfl (by decide) rfl (Has.row (List.mem_cons_self ..)) rfl rfl (by omega) (by omega) rfl fun V' c' hV' => ?_)
      (repeat' (first | refine Zv tb ?_ | (refine Zt (fun ht => ?_) (fun ht => ?_) <;> (dsimp only [cmpP, cmpN] at ht) <;> (try (exfalso; omega))) | refine Z0 ?_ | refine Zq ?_ | refine Zr ?_ | refine Zk ?_ | refine Zy ?_ | refine Zn ?_ | refine Zj ?_ | refine Ze ?_ | refine Zx ?_ | refine Zqr ?_ | refine Zqs ?_ | refine Zqc ?_ | refine Zqx ?_ | refine Zqf ?_ | refine Zm tb fun b => ?_ | refine Zb fun b => ?_ | refine Zs tb ?_ | refine Zu tb ?_))
      refine ⟨(k + 1, V', c'), ⟨by dsimp only; omega, fun j hj => ?_⟩, by dsimp only; omega, Sub.cons rfl (Sub.cons rfl (Sub.cons rfl (Sub.cons (by dsimp only; rw [show s1 + ((k + 1 : Nat) : Int) = s1 + k + 1 by push_cast; omega]; rfl) Sub.nil))), ?_⟩
      · dsimp only at hj
        by_cases hjk : j = k
        · subst hjk; omega
        · exact hall j (by omega)
      · dsimp only
        rw [rdL_succ]
        unfold byI
        rw [cells_append, cells_one]
        exact ⟨_, perm_picks [1, 1, 1, 1, 1] rfl⟩
  · obtain rfl : k = (s2 - s1).toNat := by omega
    have e : readR R (s1, s2) = (rdL R.pl s1 (s2 - s1).toNat, true) := if_pos ⟨h1.1, h1.2.1, h1.2.2, hdr, hall⟩
    rw [e]
    have hl := rdL_len R.pl s1 (s2 - s1).toNat
    obtain ⟨Y, hY⟩ : ∃ Y, Y = rdL R.pl s1 (s2 - s1).toNat := ⟨_, rfl⟩
    rw [← hY] at hl ⊢
    rw [← hl]
    (repeat' (first | refine Zv tb ?_ | (refine Zt (fun ht => ?_) (fun ht => ?_) <;> (dsimp only [cmpP, cmpN] at ht) <;> (try (exfalso; omega))) | refine Z0 ?_ | refine Zq ?_ | refine Zr ?_ | refine Zk ?_ | refine Zy ?_ | refine Zn ?_ | refine Zj ?_ | refine Ze ?_ | refine Zx ?_ | refine Zqr ?_ | refine Zqs ?_ | refine Zqc ?_ | refine Zqx ?_ | refine Zqf ?_ | refine Zm tb fun b => ?_ | refine Zb fun b => ?_ | refine Zs tb ?_ | refine Zu tb ?_))
    exact ⟨_, _, .tmp rfl (.tmp rfl .nil), ⟨A, ca, rfl, rfl⟩, _, perm_picks [3, 3, 0] rfl⟩
set_option maxHeartbeats 1000000 in
theorem sameSpans_t (A B : Option Addr) (l : List Sp) (ca cb : Nat) (w : World) (hA : SlO w [] A l.length ca (spC.cells l)) (hB : SlO w [] B l.length cb (spC.cells l)) :
    Tr Try.prog 63 #[.slice A l.length ca, .slice B l.length cb] w [] (fun v Γ => v = .bool true ∧ Γ = []) := by
  refine Tr_intro (rs := [.tmp 4]) (args := [.slice A l.length ca, .slice B l.length cb]) Try.func63 rfl rfl 26 rfl rfl ?_
  have hm1 := hA.max
  (repeat' (first | refine Zv tb ?_ | (refine Zt (fun ht => ?_) (fun ht => ?_) <;> (dsimp only [cmpP, cmpN] at ht) <;> (try (exfalso; omega))) | refine Z0 ?_ | refine Zq ?_ | refine Zr ?_ | refine Zk ?_ | refine Zy ?_ | refine Zn ?_ | refine Zj ?_ | refine Ze ?_ | refine Zx ?_ | refine Zqr ?_ | refine Zqs ?_ | refine Zqc ?_ | refine Zqx ?_ | refine Zqf ?_ | refine Zm tb fun b => ?_ | refine Zb fun b => ?_ | refine Zs tb ?_ | refine Zu tb ?_))
  refine W_loop (σ := Nat) (fun i => [(0, .slice A l.length ca), (1, .slice B l.length cb), (5, .int .i64 i)]) (fun _ => []) (fun i => i ≤ l.length) (fun i => l.length - i) 0 (Nat.zero_le _) (by repeat (first | exact Sub.nil | refine Sub.cons rfl ?_)) (keepAll _) ?_
  intro i hi
  by_cases hlt : i < l.length
  · obtain ⟨a, rfl, hHa⟩ := hA.rd (cells_ne spC (by intro h; simp [h] at hlt) (by decide))
    obtain ⟨b, rfl, hHb⟩ := hB.rd (cells_ne spC (by intro h; simp [h] at hlt) (by decide))
    have heq : EqS Try.prog 61 (spC.enc l[i]) (spC.enc l[i]) true := by
      have := span_eq l[i] l[i]
      rwa [show decide (l[i] = l[i]) = true by simp] at this
    (repeat' (first | refine Zv tb ?_ | (refine Zt (fun ht => ?_) (fun ht => ?_) <;> (dsimp only [cmpP, cmpN] at ht) <;> (try (exfalso; omega))) | refine Z0 ?_ | refine Zq ?_ | refine Zr ?_ | refine Zk ?_ | refine Zy ?_ | refine Zn ?_ | refine Zj ?_ | refine Ze ?_ | refine Zx ?_ | refine Zqr ?_ | refine Zqs ?_ | refine Zqc ?_ | refine Zqx ?_ | refine Zqf ?_ | refine Zm tb fun b => ?_ | refine Zb fun b => ?_ | refine Zs tb ?_ | refine Zu tb ?_))
    (repeat refine W_seq ?_); refine W_regionD tb [] _ [(0, 0), (1, 0), (2, 0), (3, 1), (4, 0), (5, 0), (6, 0), (7, 1), (8, 0)] (by kernel_rfl) (keepAll _) ?_
    (repeat' (first | refine Zpv tb ?_ | (refine Zpt (fun ht => ?_) (fun ht => ?_) <;> (dsimp only [cmpP, cmpN] at ht) <;> (try (exfalso; omega))) | refine WP_u0 rfl (by first | exact Yl_indexAddr tb i rfl rfl rfl rfl hlt | exact Yl_loadA tb _ rfl rfl (Has.old hHa) (cells_seg spC hlt) rfl | exact Yl_loadA tb _ rfl rfl (Has.old hHb) (cells_seg spC hlt) rfl | exact Yl_neS rfl rfl span_fi heq) rfl rfl ?_ | refine WP_u1 rfl (by first | exact Yl_indexAddr tb i rfl rfl rfl rfl hlt | exact Yl_loadA tb _ rfl rfl (Has.old hHa) (cells_seg spC hlt) rfl | exact Yl_loadA tb _ rfl rfl (Has.old hHb) (cells_seg spC hlt) rfl | exact Yl_neS rfl rfl span_fi heq) rfl rfl ?_ | refine Zpw ?_ | refine Zpu tb ?_ | refine Zps tb ?_ | refine Zpk ?_ | refine Zp0 ?_))
    (repeat' (first | refine Zv tb ?_ | (refine Zt (fun ht => ?_) (fun ht => ?_) <;> (dsimp only [cmpP, cmpN] at ht) <;> (try (exfalso; omega))) | refine Z0 ?_ | refine Zq ?_ | refine Zr ?_ | refine Zk ?_ | refine Zy ?_ | refine Zn ?_ | refine Zj ?_ | refine Ze ?_ | refine Zx ?_ | refine Zqr ?_ | refine Zqs ?_ | refine Zqc ?_ | refine Zqx ?_ | refine Zqf ?_ | refine Zm tb fun b => ?_ | refine Zb fun b => ?_ | refine Zs tb ?_ | refine Zu tb ?_))
    exact ⟨i + 1, by omega, by omega, (by repeat (first | exact Sub.nil | refine Sub.cons rfl ?_)), keepAll _⟩
  · (repeat' (first | refine Zv tb ?_ | (refine Zt (fun ht => ?_) (fun ht => ?_) <;> (dsimp only [cmpP, cmpN] at ht) <;> (try (exfalso; omega))) | refine Z0 ?_ | refine Zq ?_ | refine Zr ?_ | refine Zk ?_ | refine Zy ?_ | refine Zn ?_ | refine Zj ?_ | refine Ze ?_ | refine Zx ?_ | refine Zqr ?_ | refine Zqs ?_ | refine Zqc ?_ | refine Zqx ?_ | refine Zqf ?_ | refine Zm tb fun b => ?_ | refine Zb fun b => ?_ | refine Zs tb ?_ | refine Zu tb ?_))
    first | refine ⟨_, [], .tmp rfl .nil, ⟨?_, rfl⟩, _, List.Perm.refl _⟩ | refine ⟨_, _, .tmp rfl .nil, ⟨?_, rfl⟩, _, List.perm_append_comm⟩
    rfl
end Go.Proofs.Ytdnngagahhleiaa
