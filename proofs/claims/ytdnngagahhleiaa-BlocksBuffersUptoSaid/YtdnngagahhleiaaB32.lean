/- a World's step: the other kinds. -/
import Derived.Test.YtdnngagahhleiaaB28
namespace Go.Proofs.Ytdnngagahhleiaa
open Go.Sx
attribute [local irreducible] W WL WP Hv Yl WQ At QP QF Rnd
set_option maxRecDepth 10000
set_option linter.unusedVariables false
set_option linter.unusedSimpArgs false
set_option maxHeartbeats 4000000 in
theorem stepHeld0 (bw bb rb dc c cu c' N : Nat) (B : Bf) (R : Rf) (V U V' D : Option Addr) (po qo : Value) (s : Sst) (at' s1 s2 : Int) (data : List Int) (w : World) (hR : Rel B R) (hs0 : s.Ok N) (hN : N ≤ 2000000) (hdb : ∀ k, k < data.length → 0 ≤ bz data k ∧ bz data k ≤ 255) (hdm : data.length ≤ 1048576)
    (hD : SlO w (fps (stI bw false bb B V c U cu rb R V' c' po qo s)) D data.length dc (byC.cells data)) :
    Tr Try.prog 30 #[.pointer (some ⟨bw, 0, none⟩), .agg #[.int .i64 4, .bool false, .int .i64 at', .slice D data.length dc, .int .i64 s1, .int .i64 s2]] w (stI bw false bb B V c U cu rb R V' c' po qo s) (StP bw false po qo N) := by
  have hpl := hR.pl_le
  have hp1 := hs0.p1
  have hp2 := hs0.p2
  show Tr _ _ _ w (.blk bw [ptV bb, po, ptV rb, qo, .slice s.RV (2 * s.p1) s.rc, .slice s.WV (2 * s.p1) s.wc, .slice s.SV (2 * s.p2) s.sc, .slice s.AV (2 * s.p2) s.ac] 85 :: (bufI bb B V c U cu ++ (refI rb R V' c' ++ (s.rowR :: s.rowW :: s.rowS :: s.rowA :: s.T)))) _
  refine Tr_intro (rs := [.tmp 4]) (args := [.pointer (some ⟨bw, 0, none⟩), .agg #[.int .i64 4, .bool false, .int .i64 at', .slice D data.length dc, .int .i64 s1, .int .i64 s2]]) Try.func30 rfl rfl 245 rfl rfl ?_
  (repeat' (first | refine Zv tb ?_ | (refine Zt (fun ht => ?_) (fun ht => ?_) <;> (dsimp only [cmpP, cmpN] at ht) <;> (try (exfalso; omega))) | refine Z0 ?_ | refine Zq ?_ | refine Zr ?_ | refine Zk ?_ | refine Zy ?_ | refine Zn ?_ | refine Zj ?_ | refine Ze ?_ | refine Zx ?_ | refine Zqr ?_ | refine Zqs ?_ | refine Zqc ?_ | refine Zqx ?_ | refine Zqf ?_ | refine Zm tb fun b => ?_ | refine Zb fun b => ?_ | refine Zs tb ?_ | refine WL_u (by first | exact Yl_indexArr 0 rfl rfl arrB rfl (by decide) | exact Yl_indexArr 0 rfl rfl arrR rfl (by decide)) rfl rfl ?_ | refine Zu tb ?_))
  refine WL_cons rfl (Hv_call tb  rfl rfl rfl (perm_picks [2, 2, 2] rfl) (fun w hs => Held_t bb B V U c cu w hR.wb) rfl ?_)
  rintro v Γ' ⟨rfl, rfl⟩
  (repeat' (first | refine Zv tb ?_ | (refine Zt (fun ht => ?_) (fun ht => ?_) <;> (dsimp only [cmpP, cmpN] at ht) <;> (try (exfalso; omega))) | refine Z0 ?_ | refine Zq ?_ | refine Zr ?_ | refine Zk ?_ | refine Zy ?_ | refine Zn ?_ | refine Zj ?_ | refine Ze ?_ | refine Zx ?_ | refine Zqr ?_ | refine Zqs ?_ | refine Zqc ?_ | refine Zqx ?_ | refine Zqf ?_ | refine Zm tb fun b => ?_ | refine Zb fun b => ?_ | refine Zs tb ?_ | refine Zu tb ?_))
  refine WL_cons rfl (Hv_call tb  rfl rfl rfl (perm_picks [5, 5] rfl) (fun w hs => rHeld_t rb R V' c' w hpl) rfl ?_)
  rw [hR.heldEq]
  rintro v Γ' ⟨rfl, rfl⟩
  (repeat' (first | refine Zv tb ?_ | (refine Zt (fun ht => ?_) (fun ht => ?_) <;> (dsimp only [cmpP, cmpN] at ht) <;> (try (exfalso; omega))) | refine Z0 ?_ | refine Zq ?_ | refine Zr ?_ | refine Zk ?_ | refine Zy ?_ | refine Zn ?_ | refine Zj ?_ | refine Ze ?_ | refine Zx ?_ | refine Zqr ?_ | refine Zqs ?_ | refine Zqc ?_ | refine Zqx ?_ | refine Zqf ?_ | refine Zm tb fun b => ?_ | refine Zb fun b => ?_ | refine Zs tb ?_ | refine Zu tb ?_))
  · exact ⟨_, _, .tmp rfl .nil, ⟨rfl, bb, B, V, c, U, cu, rb, R, V', c', s, hR, hs0.mono, rfl⟩, perm_fin (xs := [_, _, _, _, _, _, _, _, _, _]) (T := s.T) [_] (perm_picks [6, 2, 2, 2, 0, 0, 1, 1, 1, 1] rfl)⟩
set_option maxHeartbeats 4000000 in
theorem stepDrop0 (bw bb rb dc c cu c' N : Nat) (B : Bf) (R : Rf) (V U V' D : Option Addr) (po qo : Value) (s : Sst) (at' s1 s2 : Int) (data : List Int) (w : World) (hR : Rel B R) (hs0 : s.Ok N) (hN : N ≤ 2000000) (hdb : ∀ k, k < data.length → 0 ≤ bz data k ∧ bz data k ≤ 255) (hdm : data.length ≤ 1048576)
    (hD : SlO w (fps (stI bw false bb B V c U cu rb R V' c' po qo s)) D data.length dc (byC.cells data)) :
    Tr Try.prog 30 #[.pointer (some ⟨bw, 0, none⟩), .agg #[.int .i64 6, .bool false, .int .i64 at', .slice D data.length dc, .int .i64 s1, .int .i64 s2]] w (stI bw false bb B V c U cu rb R V' c' po qo s) (StP bw false po qo N) := by
  have hpl := hR.pl_le
  have hp1 := hs0.p1
  have hp2 := hs0.p2
  show Tr _ _ _ w (.blk bw [ptV bb, po, ptV rb, qo, .slice s.RV (2 * s.p1) s.rc, .slice s.WV (2 * s.p1) s.wc, .slice s.SV (2 * s.p2) s.sc, .slice s.AV (2 * s.p2) s.ac] 85 :: (bufI bb B V c U cu ++ (refI rb R V' c' ++ (s.rowR :: s.rowW :: s.rowS :: s.rowA :: s.T)))) _
  refine Tr_intro (rs := [.tmp 4]) (args := [.pointer (some ⟨bw, 0, none⟩), .agg #[.int .i64 6, .bool false, .int .i64 at', .slice D data.length dc, .int .i64 s1, .int .i64 s2]]) Try.func30 rfl rfl 245 rfl rfl ?_
  (repeat' (first | refine Zv tb ?_ | (refine Zt (fun ht => ?_) (fun ht => ?_) <;> (dsimp only [cmpP, cmpN] at ht) <;> (try (exfalso; omega))) | refine Z0 ?_ | refine Zq ?_ | refine Zr ?_ | refine Zk ?_ | refine Zy ?_ | refine Zn ?_ | refine Zj ?_ | refine Ze ?_ | refine Zx ?_ | refine Zqr ?_ | refine Zqs ?_ | refine Zqc ?_ | refine Zqx ?_ | refine Zqf ?_ | refine Zm tb fun b => ?_ | refine Zb fun b => ?_ | refine Zs tb ?_ | refine WL_u (by first | exact Yl_indexArr 0 rfl rfl arrB rfl (by decide) | exact Yl_indexArr 0 rfl rfl arrR rfl (by decide)) rfl rfl ?_ | refine Zu tb ?_))
  refine WL_cons rfl (Hv_call tb  rfl rfl rfl (perm_picks [2, 2, 2] rfl) (fun w hs => Drop_t bb B V U c cu w) rfl ?_)
  rintro v Γ' rfl
  (repeat' (first | refine Zv tb ?_ | (refine Zt (fun ht => ?_) (fun ht => ?_) <;> (dsimp only [cmpP, cmpN] at ht) <;> (try (exfalso; omega))) | refine Z0 ?_ | refine Zq ?_ | refine Zr ?_ | refine Zk ?_ | refine Zy ?_ | refine Zn ?_ | refine Zj ?_ | refine Ze ?_ | refine Zx ?_ | refine Zqr ?_ | refine Zqs ?_ | refine Zqc ?_ | refine Zqx ?_ | refine Zqf ?_ | refine Zm tb fun b => ?_ | refine Zb fun b => ?_ | refine Zs tb ?_ | refine Zu tb ?_))
  refine WL_cons rfl (Hv_call tb  rfl rfl rfl (perm_picks [5, 5] rfl) (fun w hs => rDrop_t rb R V' c' w) rfl ?_)
  rintro v Γ' rfl
  (repeat' (first | refine Zv tb ?_ | (refine Zt (fun ht => ?_) (fun ht => ?_) <;> (dsimp only [cmpP, cmpN] at ht) <;> (try (exfalso; omega))) | refine Z0 ?_ | refine Zq ?_ | refine Zr ?_ | refine Zk ?_ | refine Zy ?_ | refine Zn ?_ | refine Zj ?_ | refine Ze ?_ | refine Zx ?_ | refine Zqr ?_ | refine Zqs ?_ | refine Zqc ?_ | refine Zqx ?_ | refine Zqf ?_ | refine Zm tb fun b => ?_ | refine Zb fun b => ?_ | refine Zs tb ?_ | refine Zu tb ?_))
  exact ⟨_, _, .tmp rfl .nil, ⟨rfl, bb, ⟨B.came, [], true⟩, V, c, none, 0, rb, ⟨R.pl, true⟩, V', c', s, hR.drop, hs0.mono, rfl⟩, perm_fin (xs := [_, _, _, _, _, _, _, _, _, _]) (T := s.T) [_] (perm_picks [6, 2, 2, 2, 0, 0, 1, 1, 1, 1] rfl)⟩
set_option maxHeartbeats 4000000 in
theorem stepNew0 (bw bb rb dc c cu c' N : Nat) (B : Bf) (R : Rf) (V U V' D : Option Addr) (po qo : Value) (s : Sst) (at' s1 s2 : Int) (data : List Int) (w : World) (hR : Rel B R) (hs0 : s.Ok N) (hN : N ≤ 2000000) (hdb : ∀ k, k < data.length → 0 ≤ bz data k ∧ bz data k ≤ 255) (hdm : data.length ≤ 1048576)
    (hD : SlO w (fps (stI bw false bb B V c U cu rb R V' c' po qo s)) D data.length dc (byC.cells data)) :
    Tr Try.prog 30 #[.pointer (some ⟨bw, 0, none⟩), .agg #[.int .i64 7, .bool false, .int .i64 at', .slice D data.length dc, .int .i64 s1, .int .i64 s2]] w (stI bw false bb B V c U cu rb R V' c' po qo s) (StP bw false po qo N) := by
  have hpl := hR.pl_le
  have hp1 := hs0.p1
  have hp2 := hs0.p2
  show Tr _ _ _ w (.blk bw [ptV bb, po, ptV rb, qo, .slice s.RV (2 * s.p1) s.rc, .slice s.WV (2 * s.p1) s.wc, .slice s.SV (2 * s.p2) s.sc, .slice s.AV (2 * s.p2) s.ac] 85 :: (bufI bb B V c U cu ++ (refI rb R V' c' ++ (s.rowR :: s.rowW :: s.rowS :: s.rowA :: s.T)))) _
  refine Tr_intro (rs := [.tmp 4]) (args := [.pointer (some ⟨bw, 0, none⟩), .agg #[.int .i64 7, .bool false, .int .i64 at', .slice D data.length dc, .int .i64 s1, .int .i64 s2]]) Try.func30 rfl rfl 245 rfl rfl ?_
  (repeat' (first | refine Zv tb ?_ | (refine Zt (fun ht => ?_) (fun ht => ?_) <;> (dsimp only [cmpP, cmpN] at ht) <;> (try (exfalso; omega))) | refine Z0 ?_ | refine Zq ?_ | refine Zr ?_ | refine Zk ?_ | refine Zy ?_ | refine Zn ?_ | refine Zj ?_ | refine Ze ?_ | refine Zx ?_ | refine Zqr ?_ | refine Zqs ?_ | refine Zqc ?_ | refine Zqx ?_ | refine Zqf ?_ | refine Zm tb fun b => ?_ | refine Zb fun b => ?_ | refine Zs tb ?_ | refine WL_u (by first | exact Yl_indexArr 0 rfl rfl arrB rfl (by decide) | exact Yl_indexArr 0 rfl rfl arrR rfl (by decide)) rfl rfl ?_ | refine Zu tb ?_))
  refine WL_cons rfl (Hv_call tb  rfl rfl rfl (perm_picks [1] rfl) (fun w hs => makes_w bw false (ptV bb) (ptV rb) po qo _ _ _ _ w) rfl ?_)
  rintro v Γ' ⟨rfl, bb', rb', rfl⟩
  (repeat' (first | refine Zv tb ?_ | (refine Zt (fun ht => ?_) (fun ht => ?_) <;> (dsimp only [cmpP, cmpN] at ht) <;> (try (exfalso; omega))) | refine Z0 ?_ | refine Zq ?_ | refine Zr ?_ | refine Zk ?_ | refine Zy ?_ | refine Zn ?_ | refine Zj ?_ | refine Ze ?_ | refine Zx ?_ | refine Zqr ?_ | refine Zqs ?_ | refine Zqc ?_ | refine Zqx ?_ | refine Zqf ?_ | refine Zm tb fun b => ?_ | refine Zb fun b => ?_ | refine Zs tb ?_ | refine Zu tb ?_))
  exact ⟨_, _, .tmp rfl .nil, ⟨rfl, bb', eB, none, 0, none, 0, rb', ⟨[], false⟩, none, 0, s, Rel.new, hs0.mono, rfl⟩, perm_fin (xs := [_, _, _, _, _, _, _, _, _, _]) (T := s.T) [_, _, _, _, _, _] (perm_picks [0, 0, 0, 0, 0, 0, 6, 6, 6, 6] rfl)⟩
set_option maxHeartbeats 4000000 in
theorem stepOther0 (bw bb rb dc c cu c' N : Nat) (B : Bf) (R : Rf) (V U V' D : Option Addr) (po qo : Value) (s : Sst) (kind at' s1 s2 : Int) (data : List Int) (w : World) (hR : Rel B R) (hs0 : s.Ok N) (hN : N ≤ 2000000) (hdb : ∀ k, k < data.length → 0 ≤ bz data k ∧ bz data k ≤ 255) (hdm : data.length ≤ 1048576)
    (hD : SlO w (fps (stI bw false bb B V c U cu rb R V' c' po qo s)) D data.length dc (byC.cells data)) (hk : kind ≠ 1 ∧ kind ≠ 2 ∧ kind ≠ 3 ∧ kind ≠ 4 ∧ kind ≠ 5 ∧ kind ≠ 6 ∧ kind ≠ 7) :
    Tr Try.prog 30 #[.pointer (some ⟨bw, 0, none⟩), .agg #[.int .i64 kind, .bool false, .int .i64 at', .slice D data.length dc, .int .i64 s1, .int .i64 s2]] w (stI bw false bb B V c U cu rb R V' c' po qo s) (StP bw false po qo N) := by
  have hpl := hR.pl_le
  have hp1 := hs0.p1
  have hp2 := hs0.p2
  show Tr _ _ _ w (.blk bw [ptV bb, po, ptV rb, qo, .slice s.RV (2 * s.p1) s.rc, .slice s.WV (2 * s.p1) s.wc, .slice s.SV (2 * s.p2) s.sc, .slice s.AV (2 * s.p2) s.ac] 85 :: (bufI bb B V c U cu ++ (refI rb R V' c' ++ (s.rowR :: s.rowW :: s.rowS :: s.rowA :: s.T)))) _
  refine Tr_intro (rs := [.tmp 4]) (args := [.pointer (some ⟨bw, 0, none⟩), .agg #[.int .i64 kind, .bool false, .int .i64 at', .slice D data.length dc, .int .i64 s1, .int .i64 s2]]) Try.func30 rfl rfl 245 rfl rfl ?_
  (repeat' (first | refine Zv tb ?_ | (refine Zt (fun ht => ?_) (fun ht => ?_) <;> (dsimp only [cmpP, cmpN] at ht) <;> (try (exfalso; omega))) | refine Z0 ?_ | refine Zq ?_ | refine Zr ?_ | refine Zk ?_ | refine Zy ?_ | refine Zn ?_ | refine Zj ?_ | refine Ze ?_ | refine Zx ?_ | refine Zqr ?_ | refine Zqs ?_ | refine Zqc ?_ | refine Zqx ?_ | refine Zqf ?_ | refine Zm tb fun b => ?_ | refine Zb fun b => ?_ | refine Zs tb ?_ | refine WL_u (by first | exact Yl_indexArr 0 rfl rfl arrB rfl (by decide) | exact Yl_indexArr 0 rfl rfl arrR rfl (by decide)) rfl rfl ?_ | refine Zu tb ?_))
  exact ⟨_, _, .tmp rfl .nil, ⟨rfl, bb, B, V, c, U, cu, rb, R, V', c', s, hR, hs0.mono, rfl⟩, perm_fin (xs := [_, _, _, _, _, _, _, _, _, _]) (T := s.T) [_] (perm_picks [1, 1, 1, 1, 1, 1, 1, 1, 1, 1] rfl)⟩
set_option maxHeartbeats 4000000 in
theorem stepHeld1 (bw bb rb dc c cu c' N : Nat) (B : Bf) (R : Rf) (V U V' D : Option Addr) (po qo : Value) (s : Sst) (at' s1 s2 : Int) (data : List Int) (w : World) (hR : Rel B R) (hs0 : s.Ok N) (hN : N ≤ 2000000) (hdb : ∀ k, k < data.length → 0 ≤ bz data k ∧ bz data k ≤ 255) (hdm : data.length ≤ 1048576)
    (hD : SlO w (fps (stI bw true bb B V c U cu rb R V' c' po qo s)) D data.length dc (byC.cells data)) :
    Tr Try.prog 30 #[.pointer (some ⟨bw, 0, none⟩), .agg #[.int .i64 4, .bool true, .int .i64 at', .slice D data.length dc, .int .i64 s1, .int .i64 s2]] w (stI bw true bb B V c U cu rb R V' c' po qo s) (StP bw true po qo N) := by
  have hpl := hR.pl_le
  have hp1 := hs0.p1
  have hp2 := hs0.p2
  show Tr _ _ _ w (.blk bw [po, ptV bb, qo, ptV rb, .slice s.RV (2 * s.p1) s.rc, .slice s.WV (2 * s.p1) s.wc, .slice s.SV (2 * s.p2) s.sc, .slice s.AV (2 * s.p2) s.ac] 85 :: (bufI bb B V c U cu ++ (refI rb R V' c' ++ (s.rowR :: s.rowW :: s.rowS :: s.rowA :: s.T)))) _
  refine Tr_intro (rs := [.tmp 4]) (args := [.pointer (some ⟨bw, 0, none⟩), .agg #[.int .i64 4, .bool true, .int .i64 at', .slice D data.length dc, .int .i64 s1, .int .i64 s2]]) Try.func30 rfl rfl 245 rfl rfl ?_
  (repeat' (first | refine Zv tb ?_ | (refine Zt (fun ht => ?_) (fun ht => ?_) <;> (dsimp only [cmpP, cmpN] at ht) <;> (try (exfalso; omega))) | refine Z0 ?_ | refine Zq ?_ | refine Zr ?_ | refine Zk ?_ | refine Zy ?_ | refine Zn ?_ | refine Zj ?_ | refine Ze ?_ | refine Zx ?_ | refine Zqr ?_ | refine Zqs ?_ | refine Zqc ?_ | refine Zqx ?_ | refine Zqf ?_ | refine Zm tb fun b => ?_ | refine Zb fun b => ?_ | refine Zs tb ?_ | refine WL_u (by first | exact Yl_indexArr 1 rfl rfl arrB rfl (by decide) | exact Yl_indexArr 1 rfl rfl arrR rfl (by decide)) rfl rfl ?_ | refine Zu tb ?_))
  refine WL_cons rfl (Hv_call tb  rfl rfl rfl (perm_picks [2, 2, 2] rfl) (fun w hs => Held_t bb B V U c cu w hR.wb) rfl ?_)
  rintro v Γ' ⟨rfl, rfl⟩
  (repeat' (first | refine Zv tb ?_ | (refine Zt (fun ht => ?_) (fun ht => ?_) <;> (dsimp only [cmpP, cmpN] at ht) <;> (try (exfalso; omega))) | refine Z0 ?_ | refine Zq ?_ | refine Zr ?_ | refine Zk ?_ | refine Zy ?_ | refine Zn ?_ | refine Zj ?_ | refine Ze ?_ | refine Zx ?_ | refine Zqr ?_ | refine Zqs ?_ | refine Zqc ?_ | refine Zqx ?_ | refine Zqf ?_ | refine Zm tb fun b => ?_ | refine Zb fun b => ?_ | refine Zs tb ?_ | refine Zu tb ?_))
  refine WL_cons rfl (Hv_call tb  rfl rfl rfl (perm_picks [5, 5] rfl) (fun w hs => rHeld_t rb R V' c' w hpl) rfl ?_)
  rw [hR.heldEq]
  rintro v Γ' ⟨rfl, rfl⟩
  (repeat' (first | refine Zv tb ?_ | (refine Zt (fun ht => ?_) (fun ht => ?_) <;> (dsimp only [cmpP, cmpN] at ht) <;> (try (exfalso; omega))) | refine Z0 ?_ | refine Zq ?_ | refine Zr ?_ | refine Zk ?_ | refine Zy ?_ | refine Zn ?_ | refine Zj ?_ | refine Ze ?_ | refine Zx ?_ | refine Zqr ?_ | refine Zqs ?_ | refine Zqc ?_ | refine Zqx ?_ | refine Zqf ?_ | refine Zm tb fun b => ?_ | refine Zb fun b => ?_ | refine Zs tb ?_ | refine Zu tb ?_))
  · exact ⟨_, _, .tmp rfl .nil, ⟨rfl, bb, B, V, c, U, cu, rb, R, V', c', s, hR, hs0.mono, rfl⟩, perm_fin (xs := [_, _, _, _, _, _, _, _, _, _]) (T := s.T) [_] (perm_picks [6, 2, 2, 2, 0, 0, 1, 1, 1, 1] rfl)⟩
set_option maxHeartbeats 4000000 in
theorem stepDrop1 (bw bb rb dc c cu c' N : Nat) (B : Bf) (R : Rf) (V U V' D : Option Addr) (po qo : Value) (s : Sst) (at' s1 s2 : Int) (data : List Int) (w : World) (hR : Rel B R) (hs0 : s.Ok N) (hN : N ≤ 2000000) (hdb : ∀ k, k < data.length → 0 ≤ bz data k ∧ bz data k ≤ 255) (hdm : data.length ≤ 1048576)
    (hD : SlO w (fps (stI bw true bb B V c U cu rb R V' c' po qo s)) D data.length dc (byC.cells data)) :
    Tr Try.prog 30 #[.pointer (some ⟨bw, 0, none⟩), .agg #[.int .i64 6, .bool true, .int .i64 at', .slice D data.length dc, .int .i64 s1, .int .i64 s2]] w (stI bw true bb B V c U cu rb R V' c' po qo s) (StP bw true po qo N) := by
  have hpl := hR.pl_le
  have hp1 := hs0.p1
  have hp2 := hs0.p2
  show Tr _ _ _ w (.blk bw [po, ptV bb, qo, ptV rb, .slice s.RV (2 * s.p1) s.rc, .slice s.WV (2 * s.p1) s.wc, .slice s.SV (2 * s.p2) s.sc, .slice s.AV (2 * s.p2) s.ac] 85 :: (bufI bb B V c U cu ++ (refI rb R V' c' ++ (s.rowR :: s.rowW :: s.rowS :: s.rowA :: s.T)))) _
  refine Tr_intro (rs := [.tmp 4]) (args := [.pointer (some ⟨bw, 0, none⟩), .agg #[.int .i64 6, .bool true, .int .i64 at', .slice D data.length dc, .int .i64 s1, .int .i64 s2]]) Try.func30 rfl rfl 245 rfl rfl ?_
  (repeat' (first | refine Zv tb ?_ | (refine Zt (fun ht => ?_) (fun ht => ?_) <;> (dsimp only [cmpP, cmpN] at ht) <;> (try (exfalso; omega))) | refine Z0 ?_ | refine Zq ?_ | refine Zr ?_ | refine Zk ?_ | refine Zy ?_ | refine Zn ?_ | refine Zj ?_ | refine Ze ?_ | refine Zx ?_ | refine Zqr ?_ | refine Zqs ?_ | refine Zqc ?_ | refine Zqx ?_ | refine Zqf ?_ | refine Zm tb fun b => ?_ | refine Zb fun b => ?_ | refine Zs tb ?_ | refine WL_u (by first | exact Yl_indexArr 1 rfl rfl arrB rfl (by decide) | exact Yl_indexArr 1 rfl rfl arrR rfl (by decide)) rfl rfl ?_ | refine Zu tb ?_))
  refine WL_cons rfl (Hv_call tb  rfl rfl rfl (perm_picks [2, 2, 2] rfl) (fun w hs => Drop_t bb B V U c cu w) rfl ?_)
  rintro v Γ' rfl
  (repeat' (first | refine Zv tb ?_ | (refine Zt (fun ht => ?_) (fun ht => ?_) <;> (dsimp only [cmpP, cmpN] at ht) <;> (try (exfalso; omega))) | refine Z0 ?_ | refine Zq ?_ | refine Zr ?_ | refine Zk ?_ | refine Zy ?_ | refine Zn ?_ | refine Zj ?_ | refine Ze ?_ | refine Zx ?_ | refine Zqr ?_ | refine Zqs ?_ | refine Zqc ?_ | refine Zqx ?_ | refine Zqf ?_ | refine Zm tb fun b => ?_ | refine Zb fun b => ?_ | refine Zs tb ?_ | refine Zu tb ?_))
  refine WL_cons rfl (Hv_call tb  rfl rfl rfl (perm_picks [5, 5] rfl) (fun w hs => rDrop_t rb R V' c' w) rfl ?_)
  rintro v Γ' rfl
  (repeat' (first | refine Zv tb ?_ | (refine Zt (fun ht => ?_) (fun ht => ?_) <;> (dsimp only [cmpP, cmpN] at ht) <;> (try (exfalso; omega))) | refine Z0 ?_ | refine Zq ?_ | refine Zr ?_ | refine Zk ?_ | refine Zy ?_ | refine Zn ?_ | refine Zj ?_ | refine Ze ?_ | refine Zx ?_ | refine Zqr ?_ | refine Zqs ?_ | refine Zqc ?_ | refine Zqx ?_ | refine Zqf ?_ | refine Zm tb fun b => ?_ | refine Zb fun b => ?_ | refine Zs tb ?_ | refine Zu tb ?_))
  exact ⟨_, _, .tmp rfl .nil, ⟨rfl, bb, ⟨B.came, [], true⟩, V, c, none, 0, rb, ⟨R.pl, true⟩, V', c', s, hR.drop, hs0.mono, rfl⟩, perm_fin (xs := [_, _, _, _, _, _, _, _, _, _]) (T := s.T) [_] (perm_picks [6, 2, 2, 2, 0, 0, 1, 1, 1, 1] rfl)⟩
set_option maxHeartbeats 4000000 in
theorem stepNew1 (bw bb rb dc c cu c' N : Nat) (B : Bf) (R : Rf) (V U V' D : Option Addr) (po qo : Value) (s : Sst) (at' s1 s2 : Int) (data : List Int) (w : World) (hR : Rel B R) (hs0 : s.Ok N) (hN : N ≤ 2000000) (hdb : ∀ k, k < data.length → 0 ≤ bz data k ∧ bz data k ≤ 255) (hdm : data.length ≤ 1048576)
    (hD : SlO w (fps (stI bw true bb B V c U cu rb R V' c' po qo s)) D data.length dc (byC.cells data)) :
    Tr Try.prog 30 #[.pointer (some ⟨bw, 0, none⟩), .agg #[.int .i64 7, .bool true, .int .i64 at', .slice D data.length dc, .int .i64 s1, .int .i64 s2]] w (stI bw true bb B V c U cu rb R V' c' po qo s) (StP bw true po qo N) := by
  have hpl := hR.pl_le
  have hp1 := hs0.p1
  have hp2 := hs0.p2
  show Tr _ _ _ w (.blk bw [po, ptV bb, qo, ptV rb, .slice s.RV (2 * s.p1) s.rc, .slice s.WV (2 * s.p1) s.wc, .slice s.SV (2 * s.p2) s.sc, .slice s.AV (2 * s.p2) s.ac] 85 :: (bufI bb B V c U cu ++ (refI rb R V' c' ++ (s.rowR :: s.rowW :: s.rowS :: s.rowA :: s.T)))) _
  refine Tr_intro (rs := [.tmp 4]) (args := [.pointer (some ⟨bw, 0, none⟩), .agg #[.int .i64 7, .bool true, .int .i64 at', .slice D data.length dc, .int .i64 s1, .int .i64 s2]]) Try.func30 rfl rfl 245 rfl rfl ?_
  (repeat' (first | refine Zv tb ?_ | (refine Zt (fun ht => ?_) (fun ht => ?_) <;> (dsimp only [cmpP, cmpN] at ht) <;> (try (exfalso; omega))) | refine Z0 ?_ | refine Zq ?_ | refine Zr ?_ | refine Zk ?_ | refine Zy ?_ | refine Zn ?_ | refine Zj ?_ | refine Ze ?_ | refine Zx ?_ | refine Zqr ?_ | refine Zqs ?_ | refine Zqc ?_ | refine Zqx ?_ | refine Zqf ?_ | refine Zm tb fun b => ?_ | refine Zb fun b => ?_ | refine Zs tb ?_ | refine WL_u (by first | exact Yl_indexArr 1 rfl rfl arrB rfl (by decide) | exact Yl_indexArr 1 rfl rfl arrR rfl (by decide)) rfl rfl ?_ | refine Zu tb ?_))
  refine WL_cons rfl (Hv_call tb  rfl rfl rfl (perm_picks [1] rfl) (fun w hs => makes_w bw true (ptV bb) (ptV rb) po qo _ _ _ _ w) rfl ?_)
  rintro v Γ' ⟨rfl, bb', rb', rfl⟩
  (repeat' (first | refine Zv tb ?_ | (refine Zt (fun ht => ?_) (fun ht => ?_) <;> (dsimp only [cmpP, cmpN] at ht) <;> (try (exfalso; omega))) | refine Z0 ?_ | refine Zq ?_ | refine Zr ?_ | refine Zk ?_ | refine Zy ?_ | refine Zn ?_ | refine Zj ?_ | refine Ze ?_ | refine Zx ?_ | refine Zqr ?_ | refine Zqs ?_ | refine Zqc ?_ | refine Zqx ?_ | refine Zqf ?_ | refine Zm tb fun b => ?_ | refine Zb fun b => ?_ | refine Zs tb ?_ | refine Zu tb ?_))
  exact ⟨_, _, .tmp rfl .nil, ⟨rfl, bb', eB, none, 0, none, 0, rb', ⟨[], false⟩, none, 0, s, Rel.new, hs0.mono, rfl⟩, perm_fin (xs := [_, _, _, _, _, _, _, _, _, _]) (T := s.T) [_, _, _, _, _, _] (perm_picks [0, 0, 0, 0, 0, 0, 6, 6, 6, 6] rfl)⟩
set_option maxHeartbeats 4000000 in
theorem stepOther1 (bw bb rb dc c cu c' N : Nat) (B : Bf) (R : Rf) (V U V' D : Option Addr) (po qo : Value) (s : Sst) (kind at' s1 s2 : Int) (data : List Int) (w : World) (hR : Rel B R) (hs0 : s.Ok N) (hN : N ≤ 2000000) (hdb : ∀ k, k < data.length → 0 ≤ bz data k ∧ bz data k ≤ 255) (hdm : data.length ≤ 1048576)
    (hD : SlO w (fps (stI bw true bb B V c U cu rb R V' c' po qo s)) D data.length dc (byC.cells data)) (hk : kind ≠ 1 ∧ kind ≠ 2 ∧ kind ≠ 3 ∧ kind ≠ 4 ∧ kind ≠ 5 ∧ kind ≠ 6 ∧ kind ≠ 7) :
    Tr Try.prog 30 #[.pointer (some ⟨bw, 0, none⟩), .agg #[.int .i64 kind, .bool true, .int .i64 at', .slice D data.length dc, .int .i64 s1, .int .i64 s2]] w (stI bw true bb B V c U cu rb R V' c' po qo s) (StP bw true po qo N) := by
  have hpl := hR.pl_le
  have hp1 := hs0.p1
  have hp2 := hs0.p2
  show Tr _ _ _ w (.blk bw [po, ptV bb, qo, ptV rb, .slice s.RV (2 * s.p1) s.rc, .slice s.WV (2 * s.p1) s.wc, .slice s.SV (2 * s.p2) s.sc, .slice s.AV (2 * s.p2) s.ac] 85 :: (bufI bb B V c U cu ++ (refI rb R V' c' ++ (s.rowR :: s.rowW :: s.rowS :: s.rowA :: s.T)))) _
  refine Tr_intro (rs := [.tmp 4]) (args := [.pointer (some ⟨bw, 0, none⟩), .agg #[.int .i64 kind, .bool true, .int .i64 at', .slice D data.length dc, .int .i64 s1, .int .i64 s2]]) Try.func30 rfl rfl 245 rfl rfl ?_
  (repeat' (first | refine Zv tb ?_ | (refine Zt (fun ht => ?_) (fun ht => ?_) <;> (dsimp only [cmpP, cmpN] at ht) <;> (try (exfalso; omega))) | refine Z0 ?_ | refine Zq ?_ | refine Zr ?_ | refine Zk ?_ | refine Zy ?_ | refine Zn ?_ | refine Zj ?_ | refine Ze ?_ | refine Zx ?_ | refine Zqr ?_ | refine Zqs ?_ | refine Zqc ?_ | refine Zqx ?_ | refine Zqf ?_ | refine Zm tb fun b => ?_ | refine Zb fun b => ?_ | refine Zs tb ?_ | refine WL_u (by first | exact Yl_indexArr 1 rfl rfl arrB rfl (by decide) | exact Yl_indexArr 1 rfl rfl arrR rfl (by decide)) rfl rfl ?_ | refine Zu tb ?_))
  exact ⟨_, _, .tmp rfl .nil, ⟨rfl, bb, B, V, c, U, cu, rb, R, V', c', s, hR, hs0.mono, rfl⟩, perm_fin (xs := [_, _, _, _, _, _, _, _, _, _]) (T := s.T) [_] (perm_picks [1, 1, 1, 1, 1, 1, 1, 1, 1, 1] rfl)⟩
end Go.Proofs.Ytdnngagahhleiaa
