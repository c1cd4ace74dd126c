/- blocks: Again. -/
import Derived.Test.YtdnngagahhleiaaB14
namespace Go.Proofs.Ytdnngagahhleiaa
open Go.Sx
attribute [local irreducible] W WL WP Hv Yl
set_option maxRecDepth 10000
set_option linter.unusedVariables false
set_option linter.unusedSimpArgs false
theorem again_bad {s : Ses} {p : Prc} {l : List Sp} {ck rp : Int} (h0 : ¬ 2000 < l.length) (h1 : sesB s = true) (h : agBad p l) : again s p l ck rp = ([], 40) := by unfold again; rw [if_neg h0, if_neg (by simp [h1]), if_pos h]
set_option maxHeartbeats 4000000 in
theorem Again_t (A : Option Addr) (l : List Sp) (cap : Nat) (s : Ses) (p : Prc) (ck rp : Int) (w : World) (h : SlO w [] A l.length cap (spC.cells l)) :
    Tr Try.prog 21 #[sesV s, prcV p, .slice A l.length cap, .int .i64 ck, .int .i64 rp] w [] (PceL (again s p l ck rp).1 [.int .i64 (again s p l ck rp).2]) := by
  refine Tr_intro (rs := [.tmp 10, .tmp 11]) (args := [sesV s, prcV p, .slice A l.length cap, .int .i64 ck, .int .i64 rp]) Try.func21 rfl rfl 131 rfl rfl ?_
  refine W_nilrow 65 5 ?_
  by_cases h0 : 2000 < l.length
  · (repeat' (first | refine Zv tb ?_ | (refine Zt (fun ht => ?_) (fun ht => ?_) <;> (dsimp only [cmpP, cmpN] at ht) <;> (try (exfalso; omega))) | refine Z0 ?_ | refine Zq ?_ | refine Zr ?_ | refine Zk ?_ | refine Zy ?_ | refine Zn ?_ | refine Zj ?_ | refine Ze ?_ | refine Zx ?_ | refine Zqr ?_ | refine Zqs ?_ | refine Zqc ?_ | refine Zqx ?_ | refine Zqf ?_ | refine Zm tb fun b => ?_ | refine Zb fun b => ?_ | refine Zs tb ?_ | refine Zu tb ?_))
    have e : again s p l ck rp = ([], 2) := by unfold again; rw [if_pos h0]
    rw [e]
    exact ⟨_, _, .tmp rfl (.tmp rfl .nil), ⟨none, 0, rfl, rfl⟩, _, perm_picks [2] rfl⟩
  (repeat' (first | refine Zv tb ?_ | (refine Zt (fun ht => ?_) (fun ht => ?_) <;> (dsimp only [cmpP, cmpN] at ht) <;> (try (exfalso; omega))) | refine Z0 ?_ | refine Zq ?_ | refine Zr ?_ | refine Zk ?_ | refine Zy ?_ | refine Zn ?_ | refine Zj ?_ | refine Ze ?_ | refine Zx ?_ | refine Zqr ?_ | refine Zqs ?_ | refine Zqc ?_ | refine Zqx ?_ | refine Zqf ?_ | refine Zm tb fun b => ?_ | refine Zb fun b => ?_ | refine Zs tb ?_ | refine Zu tb ?_))
  rename_i b3
  revert b
  intro b4
  refine WL_cons rfl (Hv_call tb (Γ1 := []) rfl rfl rfl (List.Perm.refl _) (fun w hs => session_t s w) rfl ?_)
  rintro v Γ' ⟨rfl, rfl⟩
  cases h1 : sesB s
  · (repeat' (first | refine Zv tb ?_ | (refine Zt (fun ht => ?_) (fun ht => ?_) <;> (dsimp only [cmpP, cmpN] at ht) <;> (try (exfalso; omega))) | refine Z0 ?_ | refine Zq ?_ | refine Zr ?_ | refine Zk ?_ | refine Zy ?_ | refine Zn ?_ | refine Zj ?_ | refine Ze ?_ | refine Zx ?_ | refine Zqr ?_ | refine Zqs ?_ | refine Zqc ?_ | refine Zqx ?_ | refine Zqf ?_ | refine Zm tb fun b => ?_ | refine Zb fun b => ?_ | refine Zs tb ?_ | refine Zu tb ?_))
    have e : again s p l ck rp = ([], 1) := by unfold again; rw [if_neg h0, if_pos h1]
    rw [e]
    exact ⟨_, _, .tmp rfl (.tmp rfl .nil), ⟨none, 0, rfl, rfl⟩, _, perm_picks [2] rfl⟩
  (repeat' (first | refine Zv tb ?_ | (refine Zt (fun ht => ?_) (fun ht => ?_) <;> (dsimp only [cmpP, cmpN] at ht) <;> (try (exfalso; omega))) | refine Z0 ?_ | refine Zq ?_ | refine Zr ?_ | refine Zk ?_ | refine Zy ?_ | refine Zn ?_ | refine Zj ?_ | refine Ze ?_ | refine Zx ?_ | refine Zqr ?_ | refine Zqs ?_ | refine Zqc ?_ | refine Zqx ?_ | refine Zqf ?_ | refine Zm tb fun b => ?_ | refine Zb fun b => ?_ | refine Zs tb ?_ | refine Zu tb ?_))
  (repeat refine W_seq ?_); refine W_regionD tb [] _ [(0, 1), (1, 2), (2, 0), (3, 0), (4, 0), (5, 0), (6, 0), (7, 0), (8, 0), (9, 0), (10, 2), (11, 0), (12, 0), (13, 0), (14, 0), (15, 0), (16, 0), (17, 0), (18, 0), (19, 0), (20, 1), (21, 0), (22, 1), (23, 0), (24, 0), (25, 0)] (by kernel_rfl) (keepAll _) ?_
  (repeat' (first | refine Zpv tb ?_ | (refine Zpt (fun ht => ?_) (fun ht => ?_) <;> (dsimp only [cmpP, cmpN] at ht) <;> (try (exfalso; omega))) | refine Zpw ?_ | refine Zpu tb ?_ | refine Zps tb ?_ | refine Zpk ?_ | refine Zp0 ?_))
  refine WP_2 rfl rfl (Hv_call tb (Γ1 := []) rfl rfl rfl (List.Perm.refl _) (fun w hs => parcel_t p w) rfl ?_)
  rintro v Γ' ⟨rfl, rfl⟩
  refine ⟨.inr (keepAll _), ?_⟩
  cases h2 : prcB p
  · (repeat' (first | refine Zpv tb ?_ | (refine Zpt (fun ht => ?_) (fun ht => ?_) <;> (dsimp only [cmpP, cmpN] at ht) <;> (try (exfalso; omega))) | refine Zpw ?_ | refine Zpu tb ?_ | refine Zps tb ?_ | refine Zpk ?_ | refine Zp0 ?_))
    (repeat' (first | refine Zv tb ?_ | (refine Zt (fun ht => ?_) (fun ht => ?_) <;> (dsimp only [cmpP, cmpN] at ht) <;> (try (exfalso; omega))) | refine Z0 ?_ | refine Zq ?_ | refine Zr ?_ | refine Zk ?_ | refine Zy ?_ | refine Zn ?_ | refine Zj ?_ | refine Ze ?_ | refine Zx ?_ | refine Zqr ?_ | refine Zqs ?_ | refine Zqc ?_ | refine Zqx ?_ | refine Zqf ?_ | refine Zm tb fun b => ?_ | refine Zb fun b => ?_ | refine Zs tb ?_ | refine Zu tb ?_))
    rw [again_bad h0 h1 (.inl h2)]
    exact ⟨_, _, .tmp rfl (.tmp rfl .nil), ⟨none, 0, rfl, rfl⟩, _, perm_picks [2] rfl⟩
  by_cases h3 : l.length = 0
  · (repeat' (first | refine Zpv tb ?_ | (refine Zpt (fun ht => ?_) (fun ht => ?_) <;> (dsimp only [cmpP, cmpN] at ht) <;> (try (exfalso; omega))) | refine Zpw ?_ | refine Zpu tb ?_ | refine Zps tb ?_ | refine Zpk ?_ | refine Zp0 ?_))
    (repeat' (first | refine Zv tb ?_ | (refine Zt (fun ht => ?_) (fun ht => ?_) <;> (dsimp only [cmpP, cmpN] at ht) <;> (try (exfalso; omega))) | refine Z0 ?_ | refine Zq ?_ | refine Zr ?_ | refine Zk ?_ | refine Zy ?_ | refine Zn ?_ | refine Zj ?_ | refine Ze ?_ | refine Zx ?_ | refine Zqr ?_ | refine Zqs ?_ | refine Zqc ?_ | refine Zqx ?_ | refine Zqf ?_ | refine Zm tb fun b => ?_ | refine Zb fun b => ?_ | refine Zs tb ?_ | refine Zu tb ?_))
    rw [again_bad h0 h1 (.inr (.inl h3))]
    exact ⟨_, _, .tmp rfl (.tmp rfl .nil), ⟨none, 0, rfl, rfl⟩, _, perm_picks [2] rfl⟩
  (repeat' (first | refine Zpv tb ?_ | (refine Zpt (fun ht => ?_) (fun ht => ?_) <;> (dsimp only [cmpP, cmpN] at ht) <;> (try (exfalso; omega))) | refine Zpw ?_ | refine Zpu tb ?_ | refine Zps tb ?_ | refine Zpk ?_ | refine Zp0 ?_))
  refine WP_2 rfl rfl (Hv_call tb (Γ1 := []) rfl rfl rfl (List.Perm.refl _) (fun w hs => right_t A l cap w (h.call hs).rd h.max) rfl ?_)
  rintro v Γ' ⟨rfl, rfl⟩
  refine ⟨.inr (keepAll _), ?_⟩
  cases h4 : decide (Right l)
  · (repeat' (first | refine Zpv tb ?_ | (refine Zpt (fun ht => ?_) (fun ht => ?_) <;> (dsimp only [cmpP, cmpN] at ht) <;> (try (exfalso; omega))) | refine Zpw ?_ | refine Zpu tb ?_ | refine Zps tb ?_ | refine Zpk ?_ | refine Zp0 ?_))
    (repeat' (first | refine Zv tb ?_ | (refine Zt (fun ht => ?_) (fun ht => ?_) <;> (dsimp only [cmpP, cmpN] at ht) <;> (try (exfalso; omega))) | refine Z0 ?_ | refine Zq ?_ | refine Zr ?_ | refine Zk ?_ | refine Zy ?_ | refine Zn ?_ | refine Zj ?_ | refine Ze ?_ | refine Zx ?_ | refine Zqr ?_ | refine Zqs ?_ | refine Zqc ?_ | refine Zqx ?_ | refine Zqf ?_ | refine Zm tb fun b => ?_ | refine Zb fun b => ?_ | refine Zs tb ?_ | refine Zu tb ?_))
    rw [again_bad h0 h1 (.inr (.inr (.inl (by simpa using h4))))]
    exact ⟨_, _, .tmp rfl (.tmp rfl .nil), ⟨none, 0, rfl, rfl⟩, _, perm_picks [2] rfl⟩
  simp only [decide_eq_true_eq] at h4
  obtain ⟨a, rfl, hH0⟩ := h.rd (cells_ne spC (by intro h; simp [h] at h3) (by decide))
  have hH : ∀ K, Has w [] K a (spC.cells l) := fun K => Has.old hH0
  have hl1 : l.length - 1 < l.length := by omega
  have hmx := h.max
  have hp := h2
  simp only [prcB, decide_eq_true_eq] at hp
  by_cases h5 : p.red < (gp l (l.length - 1)).2
  · (repeat' (first | refine Zpv tb ?_ | (refine Zpt (fun ht => ?_) (fun ht => ?_) <;> (dsimp only [cmpP, cmpN] at ht) <;> (try (exfalso; omega))) | refine WP_u0 rfl (by first | exact Yl_indexAddr tb (l.length - 1) rfl rfl rfl (by omega) hl1 | exact Yl_load1 tb rfl rfl ((hH _).el (i := l.length - 1) hl1) rfl) rfl rfl ?_ | refine WP_u1 rfl (by first | exact Yl_indexAddr tb (l.length - 1) rfl rfl rfl (by omega) hl1 | exact Yl_load1 tb rfl rfl ((hH _).el (i := l.length - 1) hl1) rfl) rfl rfl ?_ | refine Zpw ?_ | refine Zpu tb ?_ | refine Zps tb ?_ | refine Zpk ?_ | refine Zp0 ?_))
    · (repeat' (first | refine Zv tb ?_ | (refine Zt (fun ht => ?_) (fun ht => ?_) <;> (dsimp only [cmpP, cmpN] at ht) <;> (try (exfalso; omega))) | refine Z0 ?_ | refine Zq ?_ | refine Zr ?_ | refine Zk ?_ | refine Zy ?_ | refine Zn ?_ | refine Zj ?_ | refine Ze ?_ | refine Zx ?_ | refine Zqr ?_ | refine Zqs ?_ | refine Zqc ?_ | refine Zqx ?_ | refine Zqf ?_ | refine Zm tb fun b => ?_ | refine Zb fun b => ?_ | refine Zs tb ?_ | refine Zu tb ?_))
      rw [again_bad h0 h1 (.inr (.inr (.inr h5)))]
      exact ⟨_, _, .tmp rfl (.tmp rfl .nil), ⟨none, 0, rfl, rfl⟩, _, perm_picks [2] rfl⟩
    · exfalso; rw [gp_eq hl1] at ht; omega
  (repeat' (first | refine Zpv tb ?_ | (refine Zpt (fun ht => ?_) (fun ht => ?_) <;> (dsimp only [cmpP, cmpN] at ht) <;> (try (exfalso; omega))) | refine WP_u0 rfl (by first | exact Yl_indexAddr tb (l.length - 1) rfl rfl rfl (by omega) hl1 | exact Yl_load1 tb rfl rfl ((hH _).el (i := l.length - 1) hl1) rfl) rfl rfl ?_ | refine WP_u1 rfl (by first | exact Yl_indexAddr tb (l.length - 1) rfl rfl rfl (by omega) hl1 | exact Yl_load1 tb rfl rfl ((hH _).el (i := l.length - 1) hl1) rfl) rfl rfl ?_ | refine Zpw ?_ | refine Zpu tb ?_ | refine Zps tb ?_ | refine Zpk ?_ | refine Zp0 ?_))
  · exfalso; rw [gp_eq hl1] at ht; omega
  clear ht
  have hL : (gp l (l.length - 1)).2 ≤ 65536 := by omega
  have hng : ¬ agBad p l := by
    rintro (hh | hh | hh | hh)
    · rw [h2] at hh; cases hh
    · exact h3 hh
    · exact hh h4
    · exact h5 hh
  by_cases h6 : ck < 1 ∨ 4611686018427387903 < ck ∨ rp < 0 ∨ 4611686018427387903 < rp
  · have e : again s p l ck rp = ([], 1) := by unfold again; rw [if_neg h0, if_neg (by simp [h1]), if_neg hng, if_pos h6]
    rw [e]
    (repeat' (first | refine Zv tb ?_ | (refine Zt (fun ht => ?_) (fun ht => ?_) <;> (dsimp only [cmpP, cmpN] at ht) <;> (try (exfalso; omega))) | refine Z0 ?_ | refine Zq ?_ | refine Zr ?_ | refine Zk ?_ | refine Zy ?_ | refine Zn ?_ | refine Zj ?_ | refine Ze ?_ | refine Zx ?_ | refine Zqr ?_ | refine Zqs ?_ | refine Zqc ?_ | refine Zqx ?_ | refine Zqf ?_ | refine Zm tb fun b => ?_ | refine Zb fun b => ?_ | refine Zs tb ?_ | refine Zu tb ?_))
    · exact ⟨_, _, .tmp rfl (.tmp rfl .nil), ⟨none, 0, rfl, rfl⟩, _, perm_picks [2] rfl⟩
    refine WL_cons rfl (Hv_call tb (Γ1 := []) rfl rfl rfl (List.Perm.refl _) (fun w hs => number_t ck w) rfl ?_)
    rintro v Γ' ⟨rfl, rfl⟩
    cases h7 : numB ck
    · (repeat' (first | refine Zv tb ?_ | (refine Zt (fun ht => ?_) (fun ht => ?_) <;> (dsimp only [cmpP, cmpN] at ht) <;> (try (exfalso; omega))) | refine Z0 ?_ | refine Zq ?_ | refine Zr ?_ | refine Zk ?_ | refine Zy ?_ | refine Zn ?_ | refine Zj ?_ | refine Ze ?_ | refine Zx ?_ | refine Zqr ?_ | refine Zqs ?_ | refine Zqc ?_ | refine Zqx ?_ | refine Zqf ?_ | refine Zm tb fun b => ?_ | refine Zb fun b => ?_ | refine Zs tb ?_ | refine Zu tb ?_))
      exact ⟨_, _, .tmp rfl (.tmp rfl .nil), ⟨none, 0, rfl, rfl⟩, _, perm_picks [2] rfl⟩
    (repeat' (first | refine Zv tb ?_ | (refine Zt (fun ht => ?_) (fun ht => ?_) <;> (dsimp only [cmpP, cmpN] at ht) <;> (try (exfalso; omega))) | refine Z0 ?_ | refine Zq ?_ | refine Zr ?_ | refine Zk ?_ | refine Zy ?_ | refine Zn ?_ | refine Zj ?_ | refine Ze ?_ | refine Zx ?_ | refine Zqr ?_ | refine Zqs ?_ | refine Zqc ?_ | refine Zqx ?_ | refine Zqf ?_ | refine Zm tb fun b => ?_ | refine Zb fun b => ?_ | refine Zs tb ?_ | refine Zu tb ?_))
    refine WL_cons rfl (Hv_call tb (Γ1 := []) rfl rfl rfl (List.Perm.refl _) (fun w hs => number_t rp w) rfl ?_)
    rintro v Γ' ⟨rfl, rfl⟩
    cases h8 : numB rp
    · (repeat' (first | refine Zv tb ?_ | (refine Zt (fun ht => ?_) (fun ht => ?_) <;> (dsimp only [cmpP, cmpN] at ht) <;> (try (exfalso; omega))) | refine Z0 ?_ | refine Zq ?_ | refine Zr ?_ | refine Zk ?_ | refine Zy ?_ | refine Zn ?_ | refine Zj ?_ | refine Ze ?_ | refine Zx ?_ | refine Zqr ?_ | refine Zqs ?_ | refine Zqc ?_ | refine Zqx ?_ | refine Zqf ?_ | refine Zm tb fun b => ?_ | refine Zb fun b => ?_ | refine Zs tb ?_ | refine Zu tb ?_))
      exact ⟨_, _, .tmp rfl (.tmp rfl .nil), ⟨none, 0, rfl, rfl⟩, _, perm_picks [2] rfl⟩
    simp only [numB, decide_eq_true_eq] at h7 h8
    omega
  have h7 : numB ck = true := by unfold numB; rw [decide_eq_true_eq]; omega
  have h8 : numB rp = true := by unfold numB; rw [decide_eq_true_eq]; omega
  have e : again s p l ck rp = (agN s p ck rp l l.length, 0) := by unfold again; rw [if_neg h0, if_neg (by simp [h1]), if_neg hng, if_neg h6]
  rw [e]
  (repeat' (first | refine Zv tb ?_ | (refine Zt (fun ht => ?_) (fun ht => ?_) <;> (dsimp only [cmpP, cmpN] at ht) <;> (try (exfalso; omega))) | refine Z0 ?_ | refine Zq ?_ | refine Zr ?_ | refine Zk ?_ | refine Zy ?_ | refine Zn ?_ | refine Zj ?_ | refine Ze ?_ | refine Zx ?_ | refine Zqr ?_ | refine Zqs ?_ | refine Zqc ?_ | refine Zqx ?_ | refine Zqf ?_ | refine Zm tb fun b => ?_ | refine Zb fun b => ?_ | refine Zs tb ?_ | refine Zu tb ?_))
  refine WL_cons rfl (Hv_call tb (Γ1 := []) rfl rfl rfl (List.Perm.refl _) (fun w hs => number_t ck w) rfl ?_)
  rw [h7]
  rintro v Γ' ⟨rfl, rfl⟩
  (repeat' (first | refine Zv tb ?_ | (refine Zt (fun ht => ?_) (fun ht => ?_) <;> (dsimp only [cmpP, cmpN] at ht) <;> (try (exfalso; omega))) | refine Z0 ?_ | refine Zq ?_ | refine Zr ?_ | refine Zk ?_ | refine Zy ?_ | refine Zn ?_ | refine Zj ?_ | refine Ze ?_ | refine Zx ?_ | refine Zqr ?_ | refine Zqs ?_ | refine Zqc ?_ | refine Zqx ?_ | refine Zqf ?_ | refine Zm tb fun b => ?_ | refine Zb fun b => ?_ | refine Zs tb ?_ | refine Zu tb ?_))
  refine WL_cons rfl (Hv_call tb (Γ1 := []) rfl rfl rfl (List.Perm.refl _) (fun w hs => number_t rp w) rfl ?_)
  rw [h8]
  rintro v Γ' ⟨rfl, rfl⟩
  (repeat' (first | refine Zv tb ?_ | (refine Zt (fun ht => ?_) (fun ht => ?_) <;> (dsimp only [cmpP, cmpN] at ht) <;> (try (exfalso; omega))) | refine Z0 ?_ | refine Zq ?_ | refine Zr ?_ | refine Zk ?_ | refine Zy ?_ | refine Zn ?_ | refine Zj ?_ | refine Ze ?_ | refine Zx ?_ | refine Zqr ?_ | refine Zqs ?_ | refine Zqc ?_ | refine Zqx ?_ | refine Zqf ?_ | refine Zm tb fun b => ?_ | refine Zb fun b => ?_ | refine Zs tb ?_ | refine Zu tb ?_))
  revert b
  intro bc
  have hbd : ∀ i, i < l.length → 0 ≤ (gp l i).1 ∧ (gp l i).1 < (gp l i).2 ∧ (gp l i).2 ≤ (gp l (l.length - 1)).2 := fun i hi => h4.bound (l.length - 1 - i) i (by omega) hi
  refine W_cutB (σ := List Pce × Option Addr × Nat × Nat) (fun | (out, V, n, c) => [(12, .pointer (some ⟨bc, 0, none⟩))])
    (fun | (out, V, n, c) => [cutI bc s p (.slice V n c), .row (.slice V n c) 65 5 n (pcC5.cells out)]) (fun | (out, V, n, c) => out = agN s p ck rp l l.length ∧ n = out.length) ?_ ?_
  · refine W_loop (σ := Nat × List Pce × Option Addr × Nat × Nat) (fun | (i, out, V, n, c) => [(2, .slice (some a) l.length cap), (3, .int .i64 ck), (4, .int .i64 rp), (12, .pointer (some ⟨bc, 0, none⟩)), (69, .slice (some a) l.length cap), (70, .int .i64 l.length), (71, .int .i64 i)])
      (fun | (i, out, V, n, c) => [cutI bc s p (.slice V n c), .row (.slice V n c) 65 5 n (pcC5.cells out)])
      (fun | (i, out, V, n, c) => i ≤ l.length ∧ out = agN s p ck rp l i ∧ n = out.length) (fun | (i, _) => l.length - i)
      (0, [], none, 0, 0) ⟨by omega, rfl, rfl⟩ (by repeat (first | exact Sub.nil | refine Sub.cons rfl ?_)) ⟨_, perm_picks [0, 2] rfl⟩ ?_
    rintro ⟨i, out, V, n, c⟩ ⟨hi, hout, hn⟩
    dsimp only at hi hout hn ⊢
    by_cases hlt : i < l.length
    · obtain ⟨hb0, hb1, hb2⟩ := hbd i hlt
      have hln := agN_len s p ck rp l h4 hL i (by omega)
      (repeat' (first | refine Zv tb ?_ | (refine Zt (fun ht => ?_) (fun ht => ?_) <;> (dsimp only [cmpP, cmpN] at ht) <;> (try (exfalso; omega))) | refine Z0 ?_ | refine Zq ?_ | refine Zr ?_ | refine Zk ?_ | refine Zy ?_ | refine Zn ?_ | refine Zj ?_ | refine Ze ?_ | refine Zx ?_ | refine Zqr ?_ | refine Zqs ?_ | refine Zqc ?_ | refine Zqx ?_ | refine Zqf ?_ | refine Zm tb fun b => ?_ | refine Zb fun b => ?_ | refine Zs tb ?_ | refine WL_u (by first | exact Yl_indexAddr tb i rfl rfl rfl rfl hlt | exact Yl_loadA tb _ rfl rfl (hH _) (cells_seg spC hlt) rfl) rfl rfl ?_ | refine Zu tb ?_))
      obtain ⟨⟨g1, g2⟩, hg⟩ : ∃ g, gp l i = g := ⟨_, rfl⟩
      rw [gp_eq hlt, hg]
      rw [hg] at hb0 hb1 hb2
      dsimp only at hb0 hb1 hb2
      have hagN : agN s p ck rp l (i + 1) = out ++ ag s p ck rp (decide (i + 1 = l.length)) (g2 - g1).toNat g1 g2 := by rw [agN, hg, ← hout]
      have hn0 : (n : Int) ≤ g1 := by
        rw [hn, hout]
        split at hln
        · omega
        · have h9 := (okAt_iff.1 (h4.2 i hlt)).2 (by omega)
          rw [hg] at h9
          dsimp only at h9
          omega
      refine W_cutB (σ := List Pce × Option Addr × Nat × Nat) (fun | (out, V, n, c) => [(2, .slice (some a) l.length cap), (3, .int .i64 ck), (4, .int .i64 rp), (12, .pointer (some ⟨bc, 0, none⟩)), (69, .slice (some a) l.length cap), (70, .int .i64 l.length), (71, .int .i64 i)])
        (fun | (out, V, n, c) => [cutI bc s p (.slice V n c), .row (.slice V n c) 65 5 n (pcC5.cells out)]) (fun | (out, V, n, c) => out = agN s p ck rp l (i + 1) ∧ n = out.length) ?_ ?_
      · refine W_loop (σ := Nat × Int × List Pce × Option Addr × Nat × Nat) (fun | (f, at', out, V, n, c) => [(2, .slice (some a) l.length cap), (3, .int .i64 ck), (4, .int .i64 rp), (12, .pointer (some ⟨bc, 0, none⟩)), (13, .int .i64 i), (14, .pointer (some ⟨b, 0, none⟩)), (15, .int .i64 at'), (69, .slice (some a) l.length cap), (70, .int .i64 l.length), (71, .int .i64 i)])
          (fun | (f, at', out, V, n, c) => [.blk b [.int .i64 g1, .int .i64 g2] 61, cutI bc s p (.slice V n c), .row (.slice V n c) 65 5 n (pcC5.cells out)])
          (fun | (f, at', out, V, n, c) => g1 ≤ at' ∧ at' ≤ g2 ∧ g2 - at' ≤ f ∧ out ++ ag s p ck rp (decide (i + 1 = l.length)) f at' g2 = agN s p ck rp l (i + 1) ∧ n = out.length ∧ (n : Int) ≤ at') (fun | (f, _) => f)
          ((g2 - g1).toNat, g1, out, V, n, c) ⟨by omega, by omega, by omega, hagN.symm, hn, hn0⟩ (by repeat (first | exact Sub.nil | refine Sub.cons rfl ?_)) (keepAll _) ?_
        clear hln hn0 hagN hout hn
        clear out V n c
        rintro ⟨f, at', out, V, n, c⟩ ⟨ha0, ha1, hf, he, hn, hna⟩
        dsimp only at ha0 ha1 hf he hn hna ⊢
        by_cases hat : at' < g2
        · obtain ⟨f, rfl⟩ : ∃ f', f = f' + 1 := ⟨f - 1, by omega⟩
          have hrb := roomC_bd (at' := at') (ck := ck) (rp := rp) h1 h2 (by omega) (by omega) (by omega)
          have hrp := roomP_bd (at' := at') h1 h2 (by omega)
          rw [ag, if_neg (by omega)] at he
          obtain ⟨rc, hrc⟩ : ∃ rc, rc = roomC s p at' ck rp := ⟨_, rfl⟩
          obtain ⟨rq, hrq⟩ : ∃ rq, rq = roomP s p at' := ⟨_, rfl⟩
          rw [← hrc, ← hrq] at he
          rw [← hrc] at hrb
          rw [← hrq] at hrp
          (repeat' (first | refine Zv tb ?_ | (refine Zt (fun ht => ?_) (fun ht => ?_) <;> (dsimp only [cmpP, cmpN] at ht) <;> (try (exfalso; omega))) | refine Z0 ?_ | refine Zq ?_ | refine Zr ?_ | refine Zk ?_ | refine Zy ?_ | refine Zn ?_ | refine Zj ?_ | refine Ze ?_ | refine Zx ?_ | refine Zqr ?_ | refine Zqs ?_ | refine Zqc ?_ | refine Zqx ?_ | refine Zqf ?_ | refine Zm tb fun b => ?_ | refine Zb fun b => ?_ | refine Zs tb ?_ | refine Zu tb ?_))
          refine WL_cons rfl (Hv_call tb  rfl rfl rfl (perm_picks [1] rfl) (fun w hs => room_t bc s p _ at' 0 0 false w h1 h2 ⟨by omega, by omega⟩ ⟨by omega, by omega⟩ ⟨by omega, by omega⟩) rfl ?_)
          rw [if_neg (by decide), ← hrq]
          rintro v Γ' ⟨rfl, rfl⟩
          by_cases hla : i + 1 = l.length
          · rw [decide_eq_true hla] at he
            (repeat' (first | refine Zv tb ?_ | (refine Zt (fun ht => ?_) (fun ht => ?_) <;> (dsimp only [cmpP, cmpN] at ht) <;> (try (exfalso; omega))) | refine Z0 ?_ | refine Zq ?_ | refine Zr ?_ | refine Zk ?_ | refine Zy ?_ | refine Zn ?_ | refine Zj ?_ | refine Ze ?_ | refine Zx ?_ | refine Zqr ?_ | refine Zqs ?_ | refine Zqc ?_ | refine Zqx ?_ | refine Zqf ?_ | refine Zm tb fun b => ?_ | refine Zb fun b => ?_ | refine Zs tb ?_ | refine Zu tb ?_))
            refine WL_cons rfl (Hv_call tb  rfl rfl rfl (perm_picks [0] rfl) (fun w hs => room_t bc s p _ at' ck rp true w h1 h2 ⟨by omega, by omega⟩ ⟨by omega, by omega⟩ ⟨by omega, by omega⟩) rfl ?_)
            rw [if_pos rfl, ← hrc]
            rintro v Γ' ⟨rfl, rfl⟩
            by_cases hc : g2 - at' ≤ rc
            · rw [if_pos ⟨rfl, hc⟩, ag_nil (Int.le_refl _)] at he
              (repeat' (first | refine Zv tb ?_ | (refine Zt (fun ht => ?_) (fun ht => ?_) <;> (dsimp only [cmpP, cmpN] at ht) <;> (try (exfalso; omega))) | refine Z0 ?_ | refine Zq ?_ | refine Zr ?_ | refine Zk ?_ | refine Zy ?_ | refine Zn ?_ | refine Zj ?_ | refine Ze ?_ | refine Zx ?_ | refine Zqr ?_ | refine Zqs ?_ | refine Zqc ?_ | refine Zqx ?_ | refine Zqf ?_ | refine Zm tb fun b => ?_ | refine Zb fun b => ?_ | refine Zs tb ?_ | refine Zu tb ?_))
              refine WL_cons rfl (Hv_call tb  rfl rfl rfl (perm_picks [0] rfl) (fun w hs => ends_t bc s p _ g2 w) rfl ?_)
              rintro v Γ' ⟨rfl, rfl⟩
              (repeat' (first | refine Zv tb ?_ | (refine Zt (fun ht => ?_) (fun ht => ?_) <;> (dsimp only [cmpP, cmpN] at ht) <;> (try (exfalso; omega))) | refine Z0 ?_ | refine Zq ?_ | refine Zr ?_ | refine Zk ?_ | refine Zy ?_ | refine Zn ?_ | refine Zj ?_ | refine Ze ?_ | refine Zx ?_ | refine Zqr ?_ | refine Zqs ?_ | refine Zqc ?_ | refine Zqx ?_ | refine Zqf ?_ | refine Zm tb fun b => ?_ | refine Zb fun b => ?_ | refine Zs tb ?_ | refine Zu tb ?_))
              refine WL_cons rfl (Hv_call tb  rfl rfl rfl (perm_picks [0, 1] rfl) (fun w hs => put_t bc s p out V n c (endsT p g2) at' (g2 - at') ck rp w (by omega) ⟨by omega, by omega⟩ ⟨by omega, by omega⟩) rfl ?_)
              rintro v Γ' ⟨rfl, V', c', rfl⟩
              (repeat' (first | refine Zv tb ?_ | (refine Zt (fun ht => ?_) (fun ht => ?_) <;> (dsimp only [cmpP, cmpN] at ht) <;> (try (exfalso; omega))) | refine Z0 ?_ | refine Zq ?_ | refine Zr ?_ | refine Zk ?_ | refine Zy ?_ | refine Zn ?_ | refine Zj ?_ | refine Ze ?_ | refine Zx ?_ | refine Zqr ?_ | refine Zqs ?_ | refine Zqc ?_ | refine Zqx ?_ | refine Zqf ?_ | refine Zm tb fun b => ?_ | refine Zb fun b => ?_ | refine Zs tb ?_ | refine Zu tb ?_))
              refine ⟨(f, at' + (g2 - at'), out ++ [⟨endsT p g2, at', at' + (g2 - at'), ck, rp⟩], V', n + 1, c'), ⟨by dsimp only; omega, by dsimp only; omega, by dsimp only; omega, ?_, by simp; omega, by dsimp only; omega⟩, by dsimp only; omega, (by repeat (first | exact Sub.nil | refine Sub.cons rfl ?_)), ⟨_, perm_picks [2, 0, 0] rfl⟩⟩
              dsimp only
              rw [show at' + (g2 - at') = g2 by omega, decide_eq_true hla, ag_nil (Int.le_refl _), ← he]
              simp
            · rw [if_neg (fun hh => hc hh.2), if_pos rfl] at he
              (repeat' (first | refine Zv tb ?_ | (refine Zt (fun ht => ?_) (fun ht => ?_) <;> (dsimp only [cmpP, cmpN] at ht) <;> (try (exfalso; omega))) | refine Z0 ?_ | refine Zq ?_ | refine Zr ?_ | refine Zk ?_ | refine Zy ?_ | refine Zn ?_ | refine Zj ?_ | refine Ze ?_ | refine Zx ?_ | refine Zqr ?_ | refine Zqs ?_ | refine Zqc ?_ | refine Zqx ?_ | refine Zqf ?_ | refine Zm tb fun b => ?_ | refine Zb fun b => ?_ | refine Zs tb ?_ | refine Zu tb ?_))
              refine WL_cons rfl (Hv_call tb  rfl rfl rfl (perm_picks [0, 1] rfl) (fun w hs => put_t bc s p out V n c 0 at' (min rq (g2 - at' - 1)) 0 0 w (by omega) ⟨by omega, by omega⟩ ⟨by omega, by omega⟩) rfl ?_)
              rintro v Γ' ⟨rfl, V', c', rfl⟩
              (repeat' (first | refine Zv tb ?_ | (refine Zt (fun ht => ?_) (fun ht => ?_) <;> (dsimp only [cmpP, cmpN] at ht) <;> (try (exfalso; omega))) | refine Z0 ?_ | refine Zq ?_ | refine Zr ?_ | refine Zk ?_ | refine Zy ?_ | refine Zn ?_ | refine Zj ?_ | refine Ze ?_ | refine Zx ?_ | refine Zqr ?_ | refine Zqs ?_ | refine Zqc ?_ | refine Zqx ?_ | refine Zqf ?_ | refine Zm tb fun b => ?_ | refine Zb fun b => ?_ | refine Zs tb ?_ | refine Zu tb ?_))
              exact ⟨(f, at' + min rq (g2 - at' - 1), out ++ [⟨0, at', at' + min rq (g2 - at' - 1), 0, 0⟩], V', n + 1, c'), ⟨by dsimp only; omega, by dsimp only; omega, by dsimp only; omega, by dsimp only; rw [decide_eq_true hla, ← he]; simp, by simp; omega, by dsimp only; omega⟩, by dsimp only; omega, (by repeat (first | exact Sub.nil | refine Sub.cons rfl ?_)), ⟨_, perm_picks [2, 0, 0] rfl⟩⟩
          · rw [decide_eq_false hla, if_neg (fun hh => by cases hh.1), if_neg (by decide), Int.sub_zero] at he
            (repeat' (first | refine Zv tb ?_ | (refine Zt (fun ht => ?_) (fun ht => ?_) <;> (dsimp only [cmpP, cmpN] at ht) <;> (try (exfalso; omega))) | refine Z0 ?_ | refine Zq ?_ | refine Zr ?_ | refine Zk ?_ | refine Zy ?_ | refine Zn ?_ | refine Zj ?_ | refine Ze ?_ | refine Zx ?_ | refine Zqr ?_ | refine Zqs ?_ | refine Zqc ?_ | refine Zqx ?_ | refine Zqf ?_ | refine Zm tb fun b => ?_ | refine Zb fun b => ?_ | refine Zs tb ?_ | refine Zu tb ?_))
            refine WL_cons rfl (Hv_call tb  rfl rfl rfl (perm_picks [0, 1] rfl) (fun w hs => put_t bc s p out V n c 0 at' (min rq (g2 - at')) 0 0 w (by omega) ⟨by omega, by omega⟩ ⟨by omega, by omega⟩) rfl ?_)
            rintro v Γ' ⟨rfl, V', c', rfl⟩
            (repeat' (first | refine Zv tb ?_ | (refine Zt (fun ht => ?_) (fun ht => ?_) <;> (dsimp only [cmpP, cmpN] at ht) <;> (try (exfalso; omega))) | refine Z0 ?_ | refine Zq ?_ | refine Zr ?_ | refine Zk ?_ | refine Zy ?_ | refine Zn ?_ | refine Zj ?_ | refine Ze ?_ | refine Zx ?_ | refine Zqr ?_ | refine Zqs ?_ | refine Zqc ?_ | refine Zqx ?_ | refine Zqf ?_ | refine Zm tb fun b => ?_ | refine Zb fun b => ?_ | refine Zs tb ?_ | refine Zu tb ?_))
            exact ⟨(f, at' + min rq (g2 - at'), out ++ [⟨0, at', at' + min rq (g2 - at'), 0, 0⟩], V', n + 1, c'), ⟨by dsimp only; omega, by dsimp only; omega, by dsimp only; omega, by dsimp only; rw [decide_eq_false hla, ← he]; simp, by simp; omega, by dsimp only; omega⟩, by dsimp only; omega, (by repeat (first | exact Sub.nil | refine Sub.cons rfl ?_)), ⟨_, perm_picks [2, 0, 0] rfl⟩⟩
        · rw [ag_nil (by omega), List.append_nil] at he
          (repeat' (first | refine Zv tb ?_ | (refine Zt (fun ht => ?_) (fun ht => ?_) <;> (dsimp only [cmpP, cmpN] at ht) <;> (try (exfalso; omega))) | refine Z0 ?_ | refine Zq ?_ | refine Zr ?_ | refine Zk ?_ | refine Zy ?_ | refine Zn ?_ | refine Zj ?_ | refine Ze ?_ | refine Zx ?_ | refine Zqr ?_ | refine Zqs ?_ | refine Zqc ?_ | refine Zqx ?_ | refine Zqf ?_ | refine Zm tb fun b => ?_ | refine Zb fun b => ?_ | refine Zs tb ?_ | refine Zu tb ?_))
          exact ⟨(out, V, n, c), ⟨he, hn⟩, (by repeat (first | exact Sub.nil | refine Sub.cons rfl ?_)), ⟨_, perm_picks [1, 1] rfl⟩⟩
      clear hln hn0 hagN hout hn
      clear out V n c
      rintro ⟨out, V, n, c⟩ ⟨hout, hn⟩
      dsimp only
      (repeat' (first | refine Zv tb ?_ | (refine Zt (fun ht => ?_) (fun ht => ?_) <;> (dsimp only [cmpP, cmpN] at ht) <;> (try (exfalso; omega))) | refine Z0 ?_ | refine Zq ?_ | refine Zr ?_ | refine Zk ?_ | refine Zy ?_ | refine Zn ?_ | refine Zj ?_ | refine Ze ?_ | refine Zx ?_ | refine Zqr ?_ | refine Zqs ?_ | refine Zqc ?_ | refine Zqx ?_ | refine Zqf ?_ | refine Zm tb fun b => ?_ | refine Zb fun b => ?_ | refine Zs tb ?_ | refine Zu tb ?_))
      exact ⟨(i + 1, out, V, n, c), ⟨by dsimp only; omega, hout, hn⟩, by dsimp only; omega, (by repeat (first | exact Sub.nil | refine Sub.cons rfl ?_)), keepAll _⟩
    · obtain rfl : i = l.length := by omega
      (repeat' (first | refine Zv tb ?_ | (refine Zt (fun ht => ?_) (fun ht => ?_) <;> (dsimp only [cmpP, cmpN] at ht) <;> (try (exfalso; omega))) | refine Z0 ?_ | refine Zq ?_ | refine Zr ?_ | refine Zk ?_ | refine Zy ?_ | refine Zn ?_ | refine Zj ?_ | refine Ze ?_ | refine Zx ?_ | refine Zqr ?_ | refine Zqs ?_ | refine Zqc ?_ | refine Zqx ?_ | refine Zqf ?_ | refine Zm tb fun b => ?_ | refine Zb fun b => ?_ | refine Zs tb ?_ | refine Zu tb ?_))
      exact ⟨(out, V, n, c), ⟨hout, hn⟩, (by repeat (first | exact Sub.nil | refine Sub.cons rfl ?_)), keepAll _⟩
  rintro ⟨out, V, n, c⟩ ⟨hout, hn⟩
  dsimp only at hout hn ⊢
  rw [← hout]
  subst hn
  (repeat' (first | refine Zv tb ?_ | (refine Zt (fun ht => ?_) (fun ht => ?_) <;> (dsimp only [cmpP, cmpN] at ht) <;> (try (exfalso; omega))) | refine Z0 ?_ | refine Zq ?_ | refine Zr ?_ | refine Zk ?_ | refine Zy ?_ | refine Zn ?_ | refine Zj ?_ | refine Ze ?_ | refine Zx ?_ | refine Zqr ?_ | refine Zqs ?_ | refine Zqc ?_ | refine Zqx ?_ | refine Zqf ?_ | refine Zm tb fun b => ?_ | refine Zb fun b => ?_ | refine Zs tb ?_ | refine Zu tb ?_))
  exact ⟨_, _, .tmp rfl (.tmp rfl .nil), ⟨V, c, rfl, rfl⟩, _, perm_picks [1] rfl⟩
end Go.Proofs.Ytdnngagahhleiaa
