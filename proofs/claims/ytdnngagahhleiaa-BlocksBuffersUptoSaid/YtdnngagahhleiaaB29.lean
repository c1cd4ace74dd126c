/- a World's step: Put, Look. -/
import Derived.Test.YtdnngagahhleiaaB28
namespace Go.Proofs.Ytdnngagahhleiaa
open Go.Sx
attribute [local irreducible] W WL WP Hv Yl WQ At QP QF Rnd
set_option maxRecDepth 10000
set_option linter.unusedVariables false
set_option linter.unusedSimpArgs false
set_option maxHeartbeats 4000000 in
theorem stepPut0 (bw bb rb dc c cu c' N : Nat) (B : Bf) (R : Rf) (V U V' D : Option Addr) (po qo : Value) (s : Sst) (at' s1 s2 : Int) (data : List Int) (w : World) (hR : Rel B R) (hs0 : s.Ok N) (hN : N ≤ 2000000) (hdb : ∀ k, k < data.length → 0 ≤ bz data k ∧ bz data k ≤ 255) (hdm : data.length ≤ 1048576)
    (hD : SlO w (fps (stI bw false bb B V c U cu rb R V' c' po qo s)) D data.length dc (byC.cells data)) :
    Tr Try.prog 30 #[.pointer (some ⟨bw, 0, none⟩), .agg #[.int .i64 1, .bool false, .int .i64 at', .slice D data.length dc, .int .i64 s1, .int .i64 s2]] w (stI bw false bb B V c U cu rb R V' c' po qo s) (StP bw false po qo N) := by
  have hpl := hR.pl_le
  have hp1 := hs0.p1
  have hp2 := hs0.p2
  show Tr _ _ _ w (.blk bw [ptV bb, po, ptV rb, qo, .slice s.RV (2 * s.p1) s.rc, .slice s.WV (2 * s.p1) s.wc, .slice s.SV (2 * s.p2) s.sc, .slice s.AV (2 * s.p2) s.ac] 85 :: (bufI bb B V c U cu ++ (refI rb R V' c' ++ (s.rowR :: s.rowW :: s.rowS :: s.rowA :: s.T)))) _
  refine Tr_intro (rs := [.tmp 4]) (args := [.pointer (some ⟨bw, 0, none⟩), .agg #[.int .i64 1, .bool false, .int .i64 at', .slice D data.length dc, .int .i64 s1, .int .i64 s2]]) Try.func30 rfl rfl 245 rfl rfl ?_
  (repeat' (first | refine Zv tb ?_ | (refine Zt (fun ht => ?_) (fun ht => ?_) <;> (dsimp only [cmpP, cmpN] at ht) <;> (try (exfalso; omega))) | refine Z0 ?_ | refine Zq ?_ | refine Zr ?_ | refine Zk ?_ | refine Zy ?_ | refine Zn ?_ | refine Zj ?_ | refine Ze ?_ | refine Zx ?_ | refine Zqr ?_ | refine Zqs ?_ | refine Zqc ?_ | refine Zqx ?_ | refine Zqf ?_ | refine Zm tb fun b => ?_ | refine Zb fun b => ?_ | refine Zs tb ?_ | refine WL_u (by first | exact Yl_indexArr 0 rfl rfl arrB rfl (by decide) | exact Yl_indexArr 0 rfl rfl arrR rfl (by decide)) rfl rfl ?_ | refine Zu tb ?_))
  refine WL_cons rfl (Hv_call tb (Γ1 := []) rfl rfl rfl (List.Perm.refl _) (fun w hs => lent_t D data dc w (hD.call hs) hdm) rfl ?_)
  rintro v Γ' ⟨q, rfl, rfl⟩
  have htk : (lentB data).take data.length = data := by simp [lentB]
  have hq : ∀ {w0 w1 : World} {X : List Nat} {K Γ1 Γ2 : List It}, St w0 X K w1 → K.Perm (Γ1 ++ Γ2) → byI (some ⟨q, 0, none⟩) (data.length + 9) (data.length + 9) (lentB data) ∈ Γ2 → SlO w1 (fps Γ1) (some ⟨q, 0, none⟩) data.length (data.length + 9) (byC.cells data) := fun hs hp hm => by
    have := SlO.head byC (xs := lentB data) (k := data.length) (SlO.rowX hs hp hm) (Nat.le_add_right _ _)
    rwa [htk] at this
  obtain ⟨hp1', hp2'⟩ := hR.put (at' := at') (data := data) hdb
  obtain ⟨⟨B2, x, y, z⟩, hP⟩ : ∃ r, r = putF B at' data := ⟨_, rfl⟩
  obtain ⟨⟨l2, x', y', z'⟩, hW⟩ : ∃ r, r = withF R at' data := ⟨_, rfl⟩
  rw [← hP, ← hW] at hp1' hp2'
  obtain ⟨rfl, rfl, rfl⟩ : x = x' ∧ y = y' ∧ z = z' := by simpa using hp1'
  dsimp only at hp2'
  (repeat' (first | refine Zv tb ?_ | (refine Zt (fun ht => ?_) (fun ht => ?_) <;> (dsimp only [cmpP, cmpN] at ht) <;> (try (exfalso; omega))) | refine Z0 ?_ | refine Zq ?_ | refine Zr ?_ | refine Zk ?_ | refine Zy ?_ | refine Zn ?_ | refine Zj ?_ | refine Ze ?_ | refine Zx ?_ | refine Zqr ?_ | refine Zqs ?_ | refine Zqc ?_ | refine Zqx ?_ | refine Zqf ?_ | refine Zm tb fun b => ?_ | refine Zb fun b => ?_ | refine Zs tb ?_ | refine Zu tb ?_))
  (repeat refine W_seq ?_); refine W_regionD tb [8] _ [(0, 0), (1, 0), (2, 1), (3, 0), (4, 0), (5, 1), (6, 0), (7, 0), (8, 2), (9, 0), (10, 0), (11, 0), (12, 0), (13, 0), (14, 0), (15, 0)] (by kernel_rfl) (keepAll _) ?_
  (repeat' (first | refine Zpv tb ?_ | (refine Zpt (fun ht => ?_) (fun ht => ?_) <;> (dsimp only [cmpP, cmpN] at ht) <;> (try (exfalso; omega))) | refine WP_u0 rfl (by first | exact Yl_sliceH tb data.length rfl rfl rfl rfl (by omega)) rfl rfl ?_ | refine WP_u1 rfl (by first | exact Yl_sliceH tb data.length rfl rfl rfl rfl (by omega)) rfl rfl ?_ | refine Zpw ?_ | refine Zpu tb ?_ | refine Zps tb ?_ | refine Zpk ?_ | refine Zp0 ?_))
  refine WP_2 rfl rfl (Hv_call tb  rfl rfl rfl (perm_picks [3, 3, 3] rfl) (fun w hs => Put_t bb B V U (some ⟨q, 0, none⟩) c cu (data.length + 9) at' data w hR.wb (hq hs (perm_picks [3, 3, 3] rfl) (by repeat (first | exact List.Mem.head _ | apply List.Mem.tail)))) rfl ?_)
  rw [← hP]
  rintro v Γ' ⟨rfl, V2, c2, U2, cu2, rfl⟩
  refine ⟨.inl rfl, ?_⟩
  (repeat' (first | refine Zpv tb ?_ | (refine Zpt (fun ht => ?_) (fun ht => ?_) <;> (dsimp only [cmpP, cmpN] at ht) <;> (try (exfalso; omega))) | refine Zpw ?_ | refine Zpu tb ?_ | refine Zps tb ?_ | refine Zpk ?_ | refine Zp0 ?_))
  (repeat' (first | refine Zv tb ?_ | (refine Zt (fun ht => ?_) (fun ht => ?_) <;> (dsimp only [cmpP, cmpN] at ht) <;> (try (exfalso; omega))) | refine Z0 ?_ | refine Zq ?_ | refine Zr ?_ | refine Zk ?_ | refine Zy ?_ | refine Zn ?_ | refine Zj ?_ | refine Ze ?_ | refine Zx ?_ | refine Zqr ?_ | refine Zqs ?_ | refine Zqc ?_ | refine Zqx ?_ | refine Zqf ?_ | refine Zm tb fun b => ?_ | refine Zb fun b => ?_ | refine Zs tb ?_ | refine Zu tb ?_))
  refine WL_cons rfl (Hv_call tb  rfl rfl rfl (perm_picks [6, 6] rfl) (fun w hs => rPut_t rb R V' D c' dc at' data w hpl hdb (hD.callP hs (perm_picks [6, 6] rfl))) rfl ?_)
  rw [← hW]
  rintro v Γ' ⟨rfl, V3, c3, rfl⟩
  (repeat' (first | refine Zv tb ?_ | (refine Zt (fun ht => ?_) (fun ht => ?_) <;> (dsimp only [cmpP, cmpN] at ht) <;> (try (exfalso; omega))) | refine Z0 ?_ | refine Zq ?_ | refine Zr ?_ | refine Zk ?_ | refine Zy ?_ | refine Zn ?_ | refine Zj ?_ | refine Ze ?_ | refine Zx ?_ | refine Zqr ?_ | refine Zqs ?_ | refine Zqc ?_ | refine Zqx ?_ | refine Zqf ?_ | refine Zm tb fun b => ?_ | refine Zb fun b => ?_ | refine Zs tb ?_ | refine Zu tb ?_))
  refine WL_cons rfl (Hv_call tb  rfl rfl rfl (perm_picks [5] rfl) (fun w hs => back_t q D data (data.length + 9) dc w (hD.callP hs (perm_picks [5] rfl)) hdm) rfl ?_)
  rintro v Γ' ⟨rfl, Z, hZ, rfl⟩
  (repeat' (first | refine Zv tb ?_ | (refine Zt (fun ht => ?_) (fun ht => ?_) <;> (dsimp only [cmpP, cmpN] at ht) <;> (try (exfalso; omega))) | refine Z0 ?_ | refine Zq ?_ | refine Zr ?_ | refine Zk ?_ | refine Zy ?_ | refine Zn ?_ | refine Zj ?_ | refine Ze ?_ | refine Zx ?_ | refine Zqr ?_ | refine Zqs ?_ | refine Zqc ?_ | refine Zqx ?_ | refine Zqf ?_ | refine Zm tb fun b => ?_ | refine Zb fun b => ?_ | refine Zs tb ?_ | refine Zu tb ?_))
  exact ⟨_, _, .tmp rfl .nil, ⟨rfl, bb, B2, V2, c2, U2, cu2, rb, _, V3, c3, s, hp2', hs0.mono, rfl⟩, perm_fin (xs := [_, _, _, _, _, _, _, _, _, _]) (T := s.T) [_, _] (perm_picks [7, 3, 3, 3, 1, 1, 2, 2, 2, 2] rfl)⟩
set_option maxHeartbeats 4000000 in
theorem stepLook0 (bw bb rb dc c cu c' N : Nat) (B : Bf) (R : Rf) (V U V' D : Option Addr) (po qo : Value) (s : Sst) (at' s1 s2 : Int) (data : List Int) (w : World) (hR : Rel B R) (hs0 : s.Ok N) (hN : N ≤ 2000000) (hdb : ∀ k, k < data.length → 0 ≤ bz data k ∧ bz data k ≤ 255) (hdm : data.length ≤ 1048576)
    (hD : SlO w (fps (stI bw false bb B V c U cu rb R V' c' po qo s)) D data.length dc (byC.cells data)) :
    Tr Try.prog 30 #[.pointer (some ⟨bw, 0, none⟩), .agg #[.int .i64 2, .bool false, .int .i64 at', .slice D data.length dc, .int .i64 s1, .int .i64 s2]] w (stI bw false bb B V c U cu rb R V' c' po qo s) (StP bw false po qo N) := by
  have hpl := hR.pl_le
  have hp1 := hs0.p1
  have hp2 := hs0.p2
  show Tr _ _ _ w (.blk bw [ptV bb, po, ptV rb, qo, .slice s.RV (2 * s.p1) s.rc, .slice s.WV (2 * s.p1) s.wc, .slice s.SV (2 * s.p2) s.sc, .slice s.AV (2 * s.p2) s.ac] 85 :: (bufI bb B V c U cu ++ (refI rb R V' c' ++ (s.rowR :: s.rowW :: s.rowS :: s.rowA :: s.T)))) _
  refine Tr_intro (rs := [.tmp 4]) (args := [.pointer (some ⟨bw, 0, none⟩), .agg #[.int .i64 2, .bool false, .int .i64 at', .slice D data.length dc, .int .i64 s1, .int .i64 s2]]) Try.func30 rfl rfl 245 rfl rfl ?_
  (repeat' (first | refine Zv tb ?_ | (refine Zt (fun ht => ?_) (fun ht => ?_) <;> (dsimp only [cmpP, cmpN] at ht) <;> (try (exfalso; omega))) | refine Z0 ?_ | refine Zq ?_ | refine Zr ?_ | refine Zk ?_ | refine Zy ?_ | refine Zn ?_ | refine Zj ?_ | refine Ze ?_ | refine Zx ?_ | refine Zqr ?_ | refine Zqs ?_ | refine Zqc ?_ | refine Zqx ?_ | refine Zqf ?_ | refine Zm tb fun b => ?_ | refine Zb fun b => ?_ | refine Zs tb ?_ | refine WL_u (by first | exact Yl_indexArr 0 rfl rfl arrB rfl (by decide) | exact Yl_indexArr 0 rfl rfl arrR rfl (by decide)) rfl rfl ?_ | refine Zu tb ?_))
  refine WL_cons rfl (Hv_call tb (Γ1 := []) rfl rfl rfl (List.Perm.refl _) (fun w hs => lent_t D data dc w (hD.call hs) hdm) rfl ?_)
  rintro v Γ' ⟨q, rfl, rfl⟩
  have htk : (lentB data).take data.length = data := by simp [lentB]
  have hq : ∀ {w0 w1 : World} {X : List Nat} {K Γ1 Γ2 : List It}, St w0 X K w1 → K.Perm (Γ1 ++ Γ2) → byI (some ⟨q, 0, none⟩) (data.length + 9) (data.length + 9) (lentB data) ∈ Γ2 → SlO w1 (fps Γ1) (some ⟨q, 0, none⟩) data.length (data.length + 9) (byC.cells data) := fun hs hp hm => by
    have := SlO.head byC (xs := lentB data) (k := data.length) (SlO.rowX hs hp hm) (Nat.le_add_right _ _)
    rwa [htk] at this
  have hp1' := (with_look (at' := at') (data := data) hR hdb).1
  obtain ⟨⟨B2, x, y, z⟩, hP⟩ : ∃ r, r = lookF B at' data := ⟨_, rfl⟩
  obtain ⟨⟨l2, x', y', z'⟩, hW⟩ : ∃ r, r = withF R at' data := ⟨_, rfl⟩
  rw [← hP, ← hW] at hp1'
  obtain ⟨rfl, rfl, rfl⟩ : x' = x ∧ y' = y ∧ z' = z := by simpa using hp1'
  (repeat' (first | refine Zv tb ?_ | (refine Zt (fun ht => ?_) (fun ht => ?_) <;> (dsimp only [cmpP, cmpN] at ht) <;> (try (exfalso; omega))) | refine Z0 ?_ | refine Zq ?_ | refine Zr ?_ | refine Zk ?_ | refine Zy ?_ | refine Zn ?_ | refine Zj ?_ | refine Ze ?_ | refine Zx ?_ | refine Zqr ?_ | refine Zqs ?_ | refine Zqc ?_ | refine Zqx ?_ | refine Zqf ?_ | refine Zm tb fun b => ?_ | refine Zb fun b => ?_ | refine Zs tb ?_ | refine Zu tb ?_))
  (repeat refine W_seq ?_); refine W_regionD tb [8] _ [(0, 0), (1, 0), (2, 1), (3, 0), (4, 0), (5, 1), (6, 0), (7, 0), (8, 2), (9, 0), (10, 0), (11, 0), (12, 0), (13, 0), (14, 0), (15, 0)] (by kernel_rfl) (keepAll _) ?_
  (repeat' (first | refine Zpv tb ?_ | (refine Zpt (fun ht => ?_) (fun ht => ?_) <;> (dsimp only [cmpP, cmpN] at ht) <;> (try (exfalso; omega))) | refine WP_u0 rfl (by first | exact Yl_sliceH tb data.length rfl rfl rfl rfl (by omega)) rfl rfl ?_ | refine WP_u1 rfl (by first | exact Yl_sliceH tb data.length rfl rfl rfl rfl (by omega)) rfl rfl ?_ | refine Zpw ?_ | refine Zpu tb ?_ | refine Zps tb ?_ | refine Zpk ?_ | refine Zp0 ?_))
  refine WP_2 rfl rfl (Hv_call tb  rfl rfl rfl (perm_picks [3, 3, 3] rfl) (fun w hs => Look_t bb B V U (some ⟨q, 0, none⟩) c cu (data.length + 9) at' data w hR.wb (hq hs (perm_picks [3, 3, 3] rfl) (by repeat (first | exact List.Mem.head _ | apply List.Mem.tail)))) rfl ?_)
  rw [← hP]
  rintro v Γ' ⟨rfl, rfl⟩
  refine ⟨.inl rfl, ?_⟩
  (repeat' (first | refine Zpv tb ?_ | (refine Zpt (fun ht => ?_) (fun ht => ?_) <;> (dsimp only [cmpP, cmpN] at ht) <;> (try (exfalso; omega))) | refine Zpw ?_ | refine Zpu tb ?_ | refine Zps tb ?_ | refine Zpk ?_ | refine Zp0 ?_))
  (repeat' (first | refine Zv tb ?_ | (refine Zt (fun ht => ?_) (fun ht => ?_) <;> (dsimp only [cmpP, cmpN] at ht) <;> (try (exfalso; omega))) | refine Z0 ?_ | refine Zq ?_ | refine Zr ?_ | refine Zk ?_ | refine Zy ?_ | refine Zn ?_ | refine Zj ?_ | refine Ze ?_ | refine Zx ?_ | refine Zqr ?_ | refine Zqs ?_ | refine Zqc ?_ | refine Zqx ?_ | refine Zqf ?_ | refine Zm tb fun b => ?_ | refine Zb fun b => ?_ | refine Zs tb ?_ | refine Zu tb ?_))
  refine WL_cons rfl (Hv_call tb  rfl rfl rfl (perm_picks [6, 6] rfl) (fun w hs => rLook_t rb R V' D c' dc at' data w hpl hdb (hD.callP hs (perm_picks [6, 6] rfl))) rfl ?_)
  rw [← hW]
  rintro v Γ' ⟨rfl, rfl⟩
  (repeat' (first | refine Zv tb ?_ | (refine Zt (fun ht => ?_) (fun ht => ?_) <;> (dsimp only [cmpP, cmpN] at ht) <;> (try (exfalso; omega))) | refine Z0 ?_ | refine Zq ?_ | refine Zr ?_ | refine Zk ?_ | refine Zy ?_ | refine Zn ?_ | refine Zj ?_ | refine Ze ?_ | refine Zx ?_ | refine Zqr ?_ | refine Zqs ?_ | refine Zqc ?_ | refine Zqx ?_ | refine Zqf ?_ | refine Zm tb fun b => ?_ | refine Zb fun b => ?_ | refine Zs tb ?_ | refine Zu tb ?_))
  refine WL_cons rfl (Hv_call tb  rfl rfl rfl (perm_picks [5] rfl) (fun w hs => back_t q D data (data.length + 9) dc w (hD.callP hs (perm_picks [5] rfl)) hdm) rfl ?_)
  rintro v Γ' ⟨rfl, Z, hZ, rfl⟩
  (repeat' (first | refine Zv tb ?_ | (refine Zt (fun ht => ?_) (fun ht => ?_) <;> (dsimp only [cmpP, cmpN] at ht) <;> (try (exfalso; omega))) | refine Z0 ?_ | refine Zq ?_ | refine Zr ?_ | refine Zk ?_ | refine Zy ?_ | refine Zn ?_ | refine Zj ?_ | refine Ze ?_ | refine Zx ?_ | refine Zqr ?_ | refine Zqs ?_ | refine Zqc ?_ | refine Zqx ?_ | refine Zqf ?_ | refine Zm tb fun b => ?_ | refine Zb fun b => ?_ | refine Zs tb ?_ | refine Zu tb ?_))
  exact ⟨_, _, .tmp rfl .nil, ⟨rfl, bb, B, V, c, U, cu, rb, R, V', c', s, hR, hs0.mono, rfl⟩, perm_fin (xs := [_, _, _, _, _, _, _, _, _, _]) (T := s.T) [_, _] (perm_picks [7, 3, 3, 3, 1, 1, 2, 2, 2, 2] rfl)⟩
set_option maxHeartbeats 4000000 in
theorem stepPut1 (bw bb rb dc c cu c' N : Nat) (B : Bf) (R : Rf) (V U V' D : Option Addr) (po qo : Value) (s : Sst) (at' s1 s2 : Int) (data : List Int) (w : World) (hR : Rel B R) (hs0 : s.Ok N) (hN : N ≤ 2000000) (hdb : ∀ k, k < data.length → 0 ≤ bz data k ∧ bz data k ≤ 255) (hdm : data.length ≤ 1048576)
    (hD : SlO w (fps (stI bw true bb B V c U cu rb R V' c' po qo s)) D data.length dc (byC.cells data)) :
    Tr Try.prog 30 #[.pointer (some ⟨bw, 0, none⟩), .agg #[.int .i64 1, .bool true, .int .i64 at', .slice D data.length dc, .int .i64 s1, .int .i64 s2]] w (stI bw true bb B V c U cu rb R V' c' po qo s) (StP bw true po qo N) := by
  have hpl := hR.pl_le
  have hp1 := hs0.p1
  have hp2 := hs0.p2
  show Tr _ _ _ w (.blk bw [po, ptV bb, qo, ptV rb, .slice s.RV (2 * s.p1) s.rc, .slice s.WV (2 * s.p1) s.wc, .slice s.SV (2 * s.p2) s.sc, .slice s.AV (2 * s.p2) s.ac] 85 :: (bufI bb B V c U cu ++ (refI rb R V' c' ++ (s.rowR :: s.rowW :: s.rowS :: s.rowA :: s.T)))) _
  refine Tr_intro (rs := [.tmp 4]) (args := [.pointer (some ⟨bw, 0, none⟩), .agg #[.int .i64 1, .bool true, .int .i64 at', .slice D data.length dc, .int .i64 s1, .int .i64 s2]]) Try.func30 rfl rfl 245 rfl rfl ?_
  (repeat' (first | refine Zv tb ?_ | (refine Zt (fun ht => ?_) (fun ht => ?_) <;> (dsimp only [cmpP, cmpN] at ht) <;> (try (exfalso; omega))) | refine Z0 ?_ | refine Zq ?_ | refine Zr ?_ | refine Zk ?_ | refine Zy ?_ | refine Zn ?_ | refine Zj ?_ | refine Ze ?_ | refine Zx ?_ | refine Zqr ?_ | refine Zqs ?_ | refine Zqc ?_ | refine Zqx ?_ | refine Zqf ?_ | refine Zm tb fun b => ?_ | refine Zb fun b => ?_ | refine Zs tb ?_ | refine WL_u (by first | exact Yl_indexArr 1 rfl rfl arrB rfl (by decide) | exact Yl_indexArr 1 rfl rfl arrR rfl (by decide)) rfl rfl ?_ | refine Zu tb ?_))
  refine WL_cons rfl (Hv_call tb (Γ1 := []) rfl rfl rfl (List.Perm.refl _) (fun w hs => lent_t D data dc w (hD.call hs) hdm) rfl ?_)
  rintro v Γ' ⟨q, rfl, rfl⟩
  have htk : (lentB data).take data.length = data := by simp [lentB]
  have hq : ∀ {w0 w1 : World} {X : List Nat} {K Γ1 Γ2 : List It}, St w0 X K w1 → K.Perm (Γ1 ++ Γ2) → byI (some ⟨q, 0, none⟩) (data.length + 9) (data.length + 9) (lentB data) ∈ Γ2 → SlO w1 (fps Γ1) (some ⟨q, 0, none⟩) data.length (data.length + 9) (byC.cells data) := fun hs hp hm => by
    have := SlO.head byC (xs := lentB data) (k := data.length) (SlO.rowX hs hp hm) (Nat.le_add_right _ _)
    rwa [htk] at this
  obtain ⟨hp1', hp2'⟩ := hR.put (at' := at') (data := data) hdb
  obtain ⟨⟨B2, x, y, z⟩, hP⟩ : ∃ r, r = putF B at' data := ⟨_, rfl⟩
  obtain ⟨⟨l2, x', y', z'⟩, hW⟩ : ∃ r, r = withF R at' data := ⟨_, rfl⟩
  rw [← hP, ← hW] at hp1' hp2'
  obtain ⟨rfl, rfl, rfl⟩ : x = x' ∧ y = y' ∧ z = z' := by simpa using hp1'
  dsimp only at hp2'
  (repeat' (first | refine Zv tb ?_ | (refine Zt (fun ht => ?_) (fun ht => ?_) <;> (dsimp only [cmpP, cmpN] at ht) <;> (try (exfalso; omega))) | refine Z0 ?_ | refine Zq ?_ | refine Zr ?_ | refine Zk ?_ | refine Zy ?_ | refine Zn ?_ | refine Zj ?_ | refine Ze ?_ | refine Zx ?_ | refine Zqr ?_ | refine Zqs ?_ | refine Zqc ?_ | refine Zqx ?_ | refine Zqf ?_ | refine Zm tb fun b => ?_ | refine Zb fun b => ?_ | refine Zs tb ?_ | refine Zu tb ?_))
  (repeat refine W_seq ?_); refine W_regionD tb [8] _ [(0, 0), (1, 0), (2, 1), (3, 0), (4, 0), (5, 1), (6, 0), (7, 0), (8, 2), (9, 0), (10, 0), (11, 0), (12, 0), (13, 0), (14, 0), (15, 0)] (by kernel_rfl) (keepAll _) ?_
  (repeat' (first | refine Zpv tb ?_ | (refine Zpt (fun ht => ?_) (fun ht => ?_) <;> (dsimp only [cmpP, cmpN] at ht) <;> (try (exfalso; omega))) | refine WP_u0 rfl (by first | exact Yl_sliceH tb data.length rfl rfl rfl rfl (by omega)) rfl rfl ?_ | refine WP_u1 rfl (by first | exact Yl_sliceH tb data.length rfl rfl rfl rfl (by omega)) rfl rfl ?_ | refine Zpw ?_ | refine Zpu tb ?_ | refine Zps tb ?_ | refine Zpk ?_ | refine Zp0 ?_))
  refine WP_2 rfl rfl (Hv_call tb  rfl rfl rfl (perm_picks [3, 3, 3] rfl) (fun w hs => Put_t bb B V U (some ⟨q, 0, none⟩) c cu (data.length + 9) at' data w hR.wb (hq hs (perm_picks [3, 3, 3] rfl) (by repeat (first | exact List.Mem.head _ | apply List.Mem.tail)))) rfl ?_)
  rw [← hP]
  rintro v Γ' ⟨rfl, V2, c2, U2, cu2, rfl⟩
  refine ⟨.inl rfl, ?_⟩
  (repeat' (first | refine Zpv tb ?_ | (refine Zpt (fun ht => ?_) (fun ht => ?_) <;> (dsimp only [cmpP, cmpN] at ht) <;> (try (exfalso; omega))) | refine Zpw ?_ | refine Zpu tb ?_ | refine Zps tb ?_ | refine Zpk ?_ | refine Zp0 ?_))
  (repeat' (first | refine Zv tb ?_ | (refine Zt (fun ht => ?_) (fun ht => ?_) <;> (dsimp only [cmpP, cmpN] at ht) <;> (try (exfalso; omega))) | refine Z0 ?_ | refine Zq ?_ | refine Zr ?_ | refine Zk ?_ | refine Zy ?_ | refine Zn ?_ | refine Zj ?_ | refine Ze ?_ | refine Zx ?_ | refine Zqr ?_ | refine Zqs ?_ | refine Zqc ?_ | refine Zqx ?_ | refine Zqf ?_ | refine Zm tb fun b => ?_ | refine Zb fun b => ?_ | refine Zs tb ?_ | refine Zu tb ?_))
  refine WL_cons rfl (Hv_call tb  rfl rfl rfl (perm_picks [6, 6] rfl) (fun w hs => rPut_t rb R V' D c' dc at' data w hpl hdb (hD.callP hs (perm_picks [6, 6] rfl))) rfl ?_)
  rw [← hW]
  rintro v Γ' ⟨rfl, V3, c3, rfl⟩
  (repeat' (first | refine Zv tb ?_ | (refine Zt (fun ht => ?_) (fun ht => ?_) <;> (dsimp only [cmpP, cmpN] at ht) <;> (try (exfalso; omega))) | refine Z0 ?_ | refine Zq ?_ | refine Zr ?_ | refine Zk ?_ | refine Zy ?_ | refine Zn ?_ | refine Zj ?_ | refine Ze ?_ | refine Zx ?_ | refine Zqr ?_ | refine Zqs ?_ | refine Zqc ?_ | refine Zqx ?_ | refine Zqf ?_ | refine Zm tb fun b => ?_ | refine Zb fun b => ?_ | refine Zs tb ?_ | refine Zu tb ?_))
  refine WL_cons rfl (Hv_call tb  rfl rfl rfl (perm_picks [5] rfl) (fun w hs => back_t q D data (data.length + 9) dc w (hD.callP hs (perm_picks [5] rfl)) hdm) rfl ?_)
  rintro v Γ' ⟨rfl, Z, hZ, rfl⟩
  (repeat' (first | refine Zv tb ?_ | (refine Zt (fun ht => ?_) (fun ht => ?_) <;> (dsimp only [cmpP, cmpN] at ht) <;> (try (exfalso; omega))) | refine Z0 ?_ | refine Zq ?_ | refine Zr ?_ | refine Zk ?_ | refine Zy ?_ | refine Zn ?_ | refine Zj ?_ | refine Ze ?_ | refine Zx ?_ | refine Zqr ?_ | refine Zqs ?_ | refine Zqc ?_ | refine Zqx ?_ | refine Zqf ?_ | refine Zm tb fun b => ?_ | refine Zb fun b => ?_ | refine Zs tb ?_ | refine Zu tb ?_))
  exact ⟨_, _, .tmp rfl .nil, ⟨rfl, bb, B2, V2, c2, U2, cu2, rb, _, V3, c3, s, hp2', hs0.mono, rfl⟩, perm_fin (xs := [_, _, _, _, _, _, _, _, _, _]) (T := s.T) [_, _] (perm_picks [7, 3, 3, 3, 1, 1, 2, 2, 2, 2] rfl)⟩
set_option maxHeartbeats 4000000 in
theorem stepLook1 (bw bb rb dc c cu c' N : Nat) (B : Bf) (R : Rf) (V U V' D : Option Addr) (po qo : Value) (s : Sst) (at' s1 s2 : Int) (data : List Int) (w : World) (hR : Rel B R) (hs0 : s.Ok N) (hN : N ≤ 2000000) (hdb : ∀ k, k < data.length → 0 ≤ bz data k ∧ bz data k ≤ 255) (hdm : data.length ≤ 1048576)
    (hD : SlO w (fps (stI bw true bb B V c U cu rb R V' c' po qo s)) D data.length dc (byC.cells data)) :
    Tr Try.prog 30 #[.pointer (some ⟨bw, 0, none⟩), .agg #[.int .i64 2, .bool true, .int .i64 at', .slice D data.length dc, .int .i64 s1, .int .i64 s2]] w (stI bw true bb B V c U cu rb R V' c' po qo s) (StP bw true po qo N) := by
  have hpl := hR.pl_le
  have hp1 := hs0.p1
  have hp2 := hs0.p2
  show Tr _ _ _ w (.blk bw [po, ptV bb, qo, ptV rb, .slice s.RV (2 * s.p1) s.rc, .slice s.WV (2 * s.p1) s.wc, .slice s.SV (2 * s.p2) s.sc, .slice s.AV (2 * s.p2) s.ac] 85 :: (bufI bb B V c U cu ++ (refI rb R V' c' ++ (s.rowR :: s.rowW :: s.rowS :: s.rowA :: s.T)))) _
  refine Tr_intro (rs := [.tmp 4]) (args := [.pointer (some ⟨bw, 0, none⟩), .agg #[.int .i64 2, .bool true, .int .i64 at', .slice D data.length dc, .int .i64 s1, .int .i64 s2]]) Try.func30 rfl rfl 245 rfl rfl ?_
  (repeat' (first | refine Zv tb ?_ | (refine Zt (fun ht => ?_) (fun ht => ?_) <;> (dsimp only [cmpP, cmpN] at ht) <;> (try (exfalso; omega))) | refine Z0 ?_ | refine Zq ?_ | refine Zr ?_ | refine Zk ?_ | refine Zy ?_ | refine Zn ?_ | refine Zj ?_ | refine Ze ?_ | refine Zx ?_ | refine Zqr ?_ | refine Zqs ?_ | refine Zqc ?_ | refine Zqx ?_ | refine Zqf ?_ | refine Zm tb fun b => ?_ | refine Zb fun b => ?_ | refine Zs tb ?_ | refine WL_u (by first | exact Yl_indexArr 1 rfl rfl arrB rfl (by decide) | exact Yl_indexArr 1 rfl rfl arrR rfl (by decide)) rfl rfl ?_ | refine Zu tb ?_))
  refine WL_cons rfl (Hv_call tb (Γ1 := []) rfl rfl rfl (List.Perm.refl _) (fun w hs => lent_t D data dc w (hD.call hs) hdm) rfl ?_)
  rintro v Γ' ⟨q, rfl, rfl⟩
  have htk : (lentB data).take data.length = data := by simp [lentB]
  have hq : ∀ {w0 w1 : World} {X : List Nat} {K Γ1 Γ2 : List It}, St w0 X K w1 → K.Perm (Γ1 ++ Γ2) → byI (some ⟨q, 0, none⟩) (data.length + 9) (data.length + 9) (lentB data) ∈ Γ2 → SlO w1 (fps Γ1) (some ⟨q, 0, none⟩) data.length (data.length + 9) (byC.cells data) := fun hs hp hm => by
    have := SlO.head byC (xs := lentB data) (k := data.length) (SlO.rowX hs hp hm) (Nat.le_add_right _ _)
    rwa [htk] at this
  have hp1' := (with_look (at' := at') (data := data) hR hdb).1
  obtain ⟨⟨B2, x, y, z⟩, hP⟩ : ∃ r, r = lookF B at' data := ⟨_, rfl⟩
  obtain ⟨⟨l2, x', y', z'⟩, hW⟩ : ∃ r, r = withF R at' data := ⟨_, rfl⟩
  rw [← hP, ← hW] at hp1'
  obtain ⟨rfl, rfl, rfl⟩ : x' = x ∧ y' = y ∧ z' = z := by simpa using hp1'
  (repeat' (first | refine Zv tb ?_ | (refine Zt (fun ht => ?_) (fun ht => ?_) <;> (dsimp only [cmpP, cmpN] at ht) <;> (try (exfalso; omega))) | refine Z0 ?_ | refine Zq ?_ | refine Zr ?_ | refine Zk ?_ | refine Zy ?_ | refine Zn ?_ | refine Zj ?_ | refine Ze ?_ | refine Zx ?_ | refine Zqr ?_ | refine Zqs ?_ | refine Zqc ?_ | refine Zqx ?_ | refine Zqf ?_ | refine Zm tb fun b => ?_ | refine Zb fun b => ?_ | refine Zs tb ?_ | refine Zu tb ?_))
  (repeat refine W_seq ?_); refine W_regionD tb [8] _ [(0, 0), (1, 0), (2, 1), (3, 0), (4, 0), (5, 1), (6, 0), (7, 0), (8, 2), (9, 0), (10, 0), (11, 0), (12, 0), (13, 0), (14, 0), (15, 0)] (by kernel_rfl) (keepAll _) ?_
  (repeat' (first | refine Zpv tb ?_ | (refine Zpt (fun ht => ?_) (fun ht => ?_) <;> (dsimp only [cmpP, cmpN] at ht) <;> (try (exfalso; omega))) | refine WP_u0 rfl (by first | exact Yl_sliceH tb data.length rfl rfl rfl rfl (by omega)) rfl rfl ?_ | refine WP_u1 rfl (by first | exact Yl_sliceH tb data.length rfl rfl rfl rfl (by omega)) rfl rfl ?_ | refine Zpw ?_ | refine Zpu tb ?_ | refine Zps tb ?_ | refine Zpk ?_ | refine Zp0 ?_))
  refine WP_2 rfl rfl (Hv_call tb  rfl rfl rfl (perm_picks [3, 3, 3] rfl) (fun w hs => Look_t bb B V U (some ⟨q, 0, none⟩) c cu (data.length + 9) at' data w hR.wb (hq hs (perm_picks [3, 3, 3] rfl) (by repeat (first | exact List.Mem.head _ | apply List.Mem.tail)))) rfl ?_)
  rw [← hP]
  rintro v Γ' ⟨rfl, rfl⟩
  refine ⟨.inl rfl, ?_⟩
  (repeat' (first | refine Zpv tb ?_ | (refine Zpt (fun ht => ?_) (fun ht => ?_) <;> (dsimp only [cmpP, cmpN] at ht) <;> (try (exfalso; omega))) | refine Zpw ?_ | refine Zpu tb ?_ | refine Zps tb ?_ | refine Zpk ?_ | refine Zp0 ?_))
  (repeat' (first | refine Zv tb ?_ | (refine Zt (fun ht => ?_) (fun ht => ?_) <;> (dsimp only [cmpP, cmpN] at ht) <;> (try (exfalso; omega))) | refine Z0 ?_ | refine Zq ?_ | refine Zr ?_ | refine Zk ?_ | refine Zy ?_ | refine Zn ?_ | refine Zj ?_ | refine Ze ?_ | refine Zx ?_ | refine Zqr ?_ | refine Zqs ?_ | refine Zqc ?_ | refine Zqx ?_ | refine Zqf ?_ | refine Zm tb fun b => ?_ | refine Zb fun b => ?_ | refine Zs tb ?_ | refine Zu tb ?_))
  refine WL_cons rfl (Hv_call tb  rfl rfl rfl (perm_picks [6, 6] rfl) (fun w hs => rLook_t rb R V' D c' dc at' data w hpl hdb (hD.callP hs (perm_picks [6, 6] rfl))) rfl ?_)
  rw [← hW]
  rintro v Γ' ⟨rfl, rfl⟩
  (repeat' (first | refine Zv tb ?_ | (refine Zt (fun ht => ?_) (fun ht => ?_) <;> (dsimp only [cmpP, cmpN] at ht) <;> (try (exfalso; omega))) | refine Z0 ?_ | refine Zq ?_ | refine Zr ?_ | refine Zk ?_ | refine Zy ?_ | refine Zn ?_ | refine Zj ?_ | refine Ze ?_ | refine Zx ?_ | refine Zqr ?_ | refine Zqs ?_ | refine Zqc ?_ | refine Zqx ?_ | refine Zqf ?_ | refine Zm tb fun b => ?_ | refine Zb fun b => ?_ | refine Zs tb ?_ | refine Zu tb ?_))
  refine WL_cons rfl (Hv_call tb  rfl rfl rfl (perm_picks [5] rfl) (fun w hs => back_t q D data (data.length + 9) dc w (hD.callP hs (perm_picks [5] rfl)) hdm) rfl ?_)
  rintro v Γ' ⟨rfl, Z, hZ, rfl⟩
  (repeat' (first | refine Zv tb ?_ | (refine Zt (fun ht => ?_) (fun ht => ?_) <;> (dsimp only [cmpP, cmpN] at ht) <;> (try (exfalso; omega))) | refine Z0 ?_ | refine Zq ?_ | refine Zr ?_ | refine Zk ?_ | refine Zy ?_ | refine Zn ?_ | refine Zj ?_ | refine Ze ?_ | refine Zx ?_ | refine Zqr ?_ | refine Zqs ?_ | refine Zqc ?_ | refine Zqx ?_ | refine Zqf ?_ | refine Zm tb fun b => ?_ | refine Zb fun b => ?_ | refine Zs tb ?_ | refine Zu tb ?_))
  exact ⟨_, _, .tmp rfl .nil, ⟨rfl, bb, B, V, c, U, cu, rb, R, V', c', s, hR, hs0.mono, rfl⟩, perm_fin (xs := [_, _, _, _, _, _, _, _, _, _]) (T := s.T) [_, _] (perm_picks [7, 3, 3, 3, 1, 1, 2, 2, 2, 2] rfl)⟩
end Go.Proofs.Ytdnngagahhleiaa
