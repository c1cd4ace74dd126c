/- a World's step: Have. -/
import Derived.Test.YtdnngagahhleiaaB28
namespace Go.Proofs.Ytdnngagahhleiaa
open Go.Sx
attribute [local irreducible] W WL WP Hv Yl WQ At QP QF Rnd
set_option maxRecDepth 10000
set_option linter.unusedVariables false
set_option linter.unusedSimpArgs false
set_option maxHeartbeats 4000000 in
theorem stepHave0 (bw bb rb dc c cu c' N : Nat) (B : Bf) (R : Rf) (V U V' D : Option Addr) (po qo : Value) (s : Sst) (at' s1 s2 : Int) (data : List Int) (w : World) (hR : Rel B R) (hs0 : s.Ok N) (hN : N ≤ 2000000) (hdb : ∀ k, k < data.length → 0 ≤ bz data k ∧ bz data k ≤ 255) (hdm : data.length ≤ 1048576)
    (hD : SlO w (fps (stI bw false bb B V c U cu rb R V' c' po qo s)) D data.length dc (byC.cells data)) :
    Tr Try.prog 30 #[.pointer (some ⟨bw, 0, none⟩), .agg #[.int .i64 3, .bool false, .int .i64 at', .slice D data.length dc, .int .i64 s1, .int .i64 s2]] w (stI bw false bb B V c U cu rb R V' c' po qo s) (StP bw false po qo N) := by
  have hpl := hR.pl_le
  have hp1 := hs0.p1
  have hp2 := hs0.p2
  show Tr _ _ _ w (.blk bw [ptV bb, po, ptV rb, qo, .slice s.RV (2 * s.p1) s.rc, .slice s.WV (2 * s.p1) s.wc, .slice s.SV (2 * s.p2) s.sc, .slice s.AV (2 * s.p2) s.ac] 85 :: (bufI bb B V c U cu ++ (refI rb R V' c' ++ (s.rowR :: s.rowW :: s.rowS :: s.rowA :: s.T)))) _
  refine Tr_intro (rs := [.tmp 4]) (args := [.pointer (some ⟨bw, 0, none⟩), .agg #[.int .i64 3, .bool false, .int .i64 at', .slice D data.length dc, .int .i64 s1, .int .i64 s2]]) Try.func30 rfl rfl 245 rfl rfl ?_
  (repeat' (first | refine Zv tb ?_ | (refine Zt (fun ht => ?_) (fun ht => ?_) <;> (dsimp only [cmpP, cmpN] at ht) <;> (try (exfalso; omega))) | refine Z0 ?_ | refine Zq ?_ | refine Zr ?_ | refine Zk ?_ | refine Zy ?_ | refine Zn ?_ | refine Zj ?_ | refine Ze ?_ | refine Zx ?_ | refine Zqr ?_ | refine Zqs ?_ | refine Zqc ?_ | refine Zqx ?_ | refine Zqf ?_ | refine Zm tb fun b => ?_ | refine Zb fun b => ?_ | refine Zs tb ?_ | refine WL_u (by first | exact Yl_indexArr 0 rfl rfl arrB rfl (by decide) | exact Yl_indexArr 0 rfl rfl arrR rfl (by decide)) rfl rfl ?_ | refine Zu tb ?_))
  refine WL_cons rfl (Hv_call tb  rfl rfl rfl (perm_picks [2, 2, 2] rfl) (fun w hs => Have_t bb B V U c cu w hR.wb) rfl ?_)
  rintro v Γ' ⟨Va, ca, rfl, rfl⟩
  refine WL_fact (fun w hs => row_shape (V := Va) (c := ca) (m := B.came.length) hs (by repeat (first | exact List.Mem.head _ | apply List.Mem.tail))) ?_
  rintro ⟨a, rfl⟩
  (repeat' (first | refine Zv tb ?_ | (refine Zt (fun ht => ?_) (fun ht => ?_) <;> (dsimp only [cmpP, cmpN] at ht) <;> (try (exfalso; omega))) | refine Z0 ?_ | refine Zq ?_ | refine Zr ?_ | refine Zk ?_ | refine Zy ?_ | refine Zn ?_ | refine Zj ?_ | refine Ze ?_ | refine Zx ?_ | refine Zqr ?_ | refine Zqs ?_ | refine Zqc ?_ | refine Zqx ?_ | refine Zqf ?_ | refine Zm tb fun b => ?_ | refine Zb fun b => ?_ | refine Zs tb ?_ | refine Zu tb ?_))
  refine WL_cons rfl (Hv_call tb  rfl rfl rfl (perm_picks [0, 0, 0] rfl) (fun w hs => Have_t bb B V U c cu w hR.wb) rfl ?_)
  rintro v Γ' ⟨Vb, cb, rfl, rfl⟩
  refine WL_fact (fun w hs => row_shape (V := Vb) (c := cb) (m := B.came.length) hs (by repeat (first | exact List.Mem.head _ | apply List.Mem.tail))) ?_
  rintro ⟨b, rfl⟩
  (repeat' (first | refine Zv tb ?_ | (refine Zt (fun ht => ?_) (fun ht => ?_) <;> (dsimp only [cmpP, cmpN] at ht) <;> (try (exfalso; omega))) | refine Z0 ?_ | refine Zq ?_ | refine Zr ?_ | refine Zk ?_ | refine Zy ?_ | refine Zn ?_ | refine Zj ?_ | refine Ze ?_ | refine Zx ?_ | refine Zqr ?_ | refine Zqs ?_ | refine Zqc ?_ | refine Zqx ?_ | refine Zqf ?_ | refine Zm tb fun b => ?_ | refine Zb fun b => ?_ | refine Zs tb ?_ | refine Zu tb ?_))
  refine WL_cons rfl (Hv_call tb  rfl rfl rfl (perm_picks [7, 7] rfl) (fun w hs => rHave_t rb R V' c' w hpl) rfl ?_)
  rw [hR.spans]
  rintro v Γ' ⟨Vd, cd, rfl, rfl⟩
  refine WL_fact (fun w hs => row_shape (V := Vd) (c := cd) (m := B.came.length) hs (by repeat (first | exact List.Mem.head _ | apply List.Mem.tail))) ?_
  rintro ⟨d, rfl⟩
  (repeat' (first | refine Zv tb ?_ | (refine Zt (fun ht => ?_) (fun ht => ?_) <;> (dsimp only [cmpP, cmpN] at ht) <;> (try (exfalso; omega))) | refine Z0 ?_ | refine Zq ?_ | refine Zr ?_ | refine Zk ?_ | refine Zy ?_ | refine Zn ?_ | refine Zj ?_ | refine Ze ?_ | refine Zx ?_ | refine Zqr ?_ | refine Zqs ?_ | refine Zqc ?_ | refine Zqx ?_ | refine Zqf ?_ | refine Zm tb fun b => ?_ | refine Zb fun b => ?_ | refine Zs tb ?_ | refine Zu tb ?_))
  refine WL_cons rfl (Hv_call tb (Γ1 := []) rfl rfl rfl (List.Perm.refl _) (fun w hs => sameSpans_t _ _ B.came ca cd w (SlO.row hs (by repeat (first | exact List.Mem.head _ | apply List.Mem.tail))) (SlO.row hs (by repeat (first | exact List.Mem.head _ | apply List.Mem.tail)))) rfl ?_)
  rintro v Γ' ⟨rfl, rfl⟩
  (repeat' (first | refine Zv tb ?_ | (refine Zt (fun ht => ?_) (fun ht => ?_) <;> (dsimp only [cmpP, cmpN] at ht) <;> (try (exfalso; omega))) | refine Z0 ?_ | refine Zq ?_ | refine Zr ?_ | refine Zk ?_ | refine Zy ?_ | refine Zn ?_ | refine Zj ?_ | refine Ze ?_ | refine Zx ?_ | refine Zqr ?_ | refine Zqs ?_ | refine Zqc ?_ | refine Zqx ?_ | refine Zqf ?_ | refine Zm tb fun b => ?_ | refine Zb fun b => ?_ | refine Zs tb ?_ | refine Zu tb ?_))
  refine WL_cons rfl (Hv_call tb (Γ1 := []) rfl rfl rfl (List.Perm.refl _) (fun w hs => sameSpans_t _ _ B.came cb cd w (SlO.row hs (by repeat (first | exact List.Mem.head _ | apply List.Mem.tail))) (SlO.row hs (by repeat (first | exact List.Mem.head _ | apply List.Mem.tail)))) rfl ?_)
  rintro v Γ' ⟨rfl, rfl⟩
  (repeat' (first | refine Zv tb ?_ | (refine Zt (fun ht => ?_) (fun ht => ?_) <;> (dsimp only [cmpP, cmpN] at ht) <;> (try (exfalso; omega))) | refine Z0 ?_ | refine Zq ?_ | refine Zr ?_ | refine Zk ?_ | refine Zy ?_ | refine Zn ?_ | refine Zj ?_ | refine Ze ?_ | refine Zx ?_ | refine Zqr ?_ | refine Zqs ?_ | refine Zqc ?_ | refine Zqx ?_ | refine Zqf ?_ | refine Zm tb fun b => ?_ | refine Zb fun b => ?_ | refine Zs tb ?_ | refine Zu tb ?_))
  refine WL_cons rfl (Hv_buildSlice tb rfl rfl rfl (by decide) rfl rfl rfl rfl fun q => ?_)
  (repeat' (first | refine Zv tb ?_ | (refine Zt (fun ht => ?_) (fun ht => ?_) <;> (dsimp only [cmpP, cmpN] at ht) <;> (try (exfalso; omega))) | refine Z0 ?_ | refine Zq ?_ | refine Zr ?_ | refine Zk ?_ | refine Zy ?_ | refine Zn ?_ | refine Zj ?_ | refine Ze ?_ | refine Zx ?_ | refine Zqr ?_ | refine Zqs ?_ | refine Zqc ?_ | refine Zqx ?_ | refine Zqf ?_ | refine Zm tb fun b => ?_ | refine Zb fun b => ?_ | refine Zs tb ?_ | refine Zu tb ?_))
  refine WL_cons rfl (Hv_append tb (k := 13) (m := 2) rfl rfl rfl rfl rfl (by decide) rfl (Has.row (List.mem_cons_self ..)) rfl rfl (by omega) (by omega) rfl fun S1 k1 hS1 => ?_)
  (repeat' (first | refine Zv tb ?_ | (refine Zt (fun ht => ?_) (fun ht => ?_) <;> (dsimp only [cmpP, cmpN] at ht) <;> (try (exfalso; omega))) | refine Z0 ?_ | refine Zq ?_ | refine Zr ?_ | refine Zk ?_ | refine Zy ?_ | refine Zn ?_ | refine Zj ?_ | refine Ze ?_ | refine Zx ?_ | refine Zqr ?_ | refine Zqs ?_ | refine Zqc ?_ | refine Zqx ?_ | refine Zqf ?_ | refine Zm tb fun b => ?_ | refine Zb fun b => ?_ | refine Zs tb ?_ | refine Zu tb ?_))
  refine WL_cons rfl (Hv_buildSlice tb rfl rfl rfl (by decide) rfl rfl rfl rfl fun q2 => ?_)
  (repeat' (first | refine Zv tb ?_ | (refine Zt (fun ht => ?_) (fun ht => ?_) <;> (dsimp only [cmpP, cmpN] at ht) <;> (try (exfalso; omega))) | refine Z0 ?_ | refine Zq ?_ | refine Zr ?_ | refine Zk ?_ | refine Zy ?_ | refine Zn ?_ | refine Zj ?_ | refine Ze ?_ | refine Zx ?_ | refine Zqr ?_ | refine Zqs ?_ | refine Zqc ?_ | refine Zqx ?_ | refine Zqf ?_ | refine Zm tb fun b => ?_ | refine Zb fun b => ?_ | refine Zs tb ?_ | refine Zu tb ?_))
  refine WL_cons rfl (Hv_append tb (k := 15) (m := 2) rfl rfl rfl rfl rfl (by decide) rfl (Has.row (List.mem_cons_self ..)) rfl rfl (by omega) (by omega) rfl fun S2 k2 hS2 => ?_)
  (repeat' (first | refine Zv tb ?_ | (refine Zt (fun ht => ?_) (fun ht => ?_) <;> (dsimp only [cmpP, cmpN] at ht) <;> (try (exfalso; omega))) | refine Z0 ?_ | refine Zq ?_ | refine Zr ?_ | refine Zk ?_ | refine Zy ?_ | refine Zn ?_ | refine Zj ?_ | refine Ze ?_ | refine Zx ?_ | refine Zqr ?_ | refine Zqs ?_ | refine Zqc ?_ | refine Zqx ?_ | refine Zqf ?_ | refine Zm tb fun b => ?_ | refine Zb fun b => ?_ | refine Zs tb ?_ | refine Zu tb ?_))
  have e : stI bw false bb B V c U cu rb R V' c' po qo (s.addS S1 S2 k1 k2 a b d ca cb cd B.came) = (.blk bw [ptV bb, po, ptV rb, qo, .slice s.RV (2 * s.p1) s.rc, .slice s.WV (2 * s.p1) s.wc, .slice S1 (2 * s.p2 + 2) k1, .slice S2 (2 * s.p2 + 2) k2] 85 :: (bufI bb B V c U cu ++ (refI rb R V' c' ++ [s.rowR, s.rowW, .row (.slice S1 (2 * s.p2 + 2) k1) 43 1 (2 * s.p2 + 2) (s.hS ++ [.slice (adr a) B.came.length ca, .slice (adr b) B.came.length cb]), .row (.slice S2 (2 * s.p2 + 2) k2) 43 1 (2 * s.p2 + 2) (s.hA ++ [.slice (adr d) B.came.length cd, .slice (adr d) B.came.length cd])]))) ++ (s.FR ++ ((s.FS ++ [spI (adr a) B.came.length ca B.came, spI (adr b) B.came.length cb B.came]) ++ (s.FA ++ [spI (adr d) B.came.length cd B.came]))) := by
    unfold stI Sst.T Sst.rowS Sst.rowA
    rw [addS_hS, addS_hA, addS_FS, addS_FA]
    rfl
  refine ⟨_, _, .tmp rfl .nil, ⟨rfl, bb, B, V, c, U, cu, rb, R, V', c', s.addS S1 S2 k1 k2 a b d ca cb cd B.came, hR, addS_ok _ _ _ _ _ _ _ _ _ _ _ _ hs0 hR.wb.right.1, rfl⟩, ?_⟩
  rw [e]
  clear e
  dsimp only [bufI, refI, List.eraseIdx_cons_succ, List.eraseIdx_cons_zero, List.set_cons_succ, List.set_cons_zero, List.nil_append, List.cons_append, List.append_eq]
  exact perm_fin3 (xs := [_, _, _, _, _, _, _, _, _, _]) (F := s.FR) (G := s.FS) (H := s.FA) [_, _, _] _ _ _ (perm_picks [11, 5, 5, 5, 2, 2, 6, 6, 6, 6, 4, 3, 2] rfl)
set_option maxHeartbeats 4000000 in
theorem stepHave1 (bw bb rb dc c cu c' N : Nat) (B : Bf) (R : Rf) (V U V' D : Option Addr) (po qo : Value) (s : Sst) (at' s1 s2 : Int) (data : List Int) (w : World) (hR : Rel B R) (hs0 : s.Ok N) (hN : N ≤ 2000000) (hdb : ∀ k, k < data.length → 0 ≤ bz data k ∧ bz data k ≤ 255) (hdm : data.length ≤ 1048576)
    (hD : SlO w (fps (stI bw true bb B V c U cu rb R V' c' po qo s)) D data.length dc (byC.cells data)) :
    Tr Try.prog 30 #[.pointer (some ⟨bw, 0, none⟩), .agg #[.int .i64 3, .bool true, .int .i64 at', .slice D data.length dc, .int .i64 s1, .int .i64 s2]] w (stI bw true bb B V c U cu rb R V' c' po qo s) (StP bw true po qo N) := by
  have hpl := hR.pl_le
  have hp1 := hs0.p1
  have hp2 := hs0.p2
  show Tr _ _ _ w (.blk bw [po, ptV bb, qo, ptV rb, .slice s.RV (2 * s.p1) s.rc, .slice s.WV (2 * s.p1) s.wc, .slice s.SV (2 * s.p2) s.sc, .slice s.AV (2 * s.p2) s.ac] 85 :: (bufI bb B V c U cu ++ (refI rb R V' c' ++ (s.rowR :: s.rowW :: s.rowS :: s.rowA :: s.T)))) _
  refine Tr_intro (rs := [.tmp 4]) (args := [.pointer (some ⟨bw, 0, none⟩), .agg #[.int .i64 3, .bool true, .int .i64 at', .slice D data.length dc, .int .i64 s1, .int .i64 s2]]) Try.func30 rfl rfl 245 rfl rfl ?_
  (repeat' (first | refine Zv tb ?_ | (refine Zt (fun ht => ?_) (fun ht => ?_) <;> (dsimp only [cmpP, cmpN] at ht) <;> (try (exfalso; omega))) | refine Z0 ?_ | refine Zq ?_ | refine Zr ?_ | refine Zk ?_ | refine Zy ?_ | refine Zn ?_ | refine Zj ?_ | refine Ze ?_ | refine Zx ?_ | refine Zqr ?_ | refine Zqs ?_ | refine Zqc ?_ | refine Zqx ?_ | refine Zqf ?_ | refine Zm tb fun b => ?_ | refine Zb fun b => ?_ | refine Zs tb ?_ | refine WL_u (by first | exact Yl_indexArr 1 rfl rfl arrB rfl (by decide) | exact Yl_indexArr 1 rfl rfl arrR rfl (by decide)) rfl rfl ?_ | refine Zu tb ?_))
  refine WL_cons rfl (Hv_call tb  rfl rfl rfl (perm_picks [2, 2, 2] rfl) (fun w hs => Have_t bb B V U c cu w hR.wb) rfl ?_)
  rintro v Γ' ⟨Va, ca, rfl, rfl⟩
  refine WL_fact (fun w hs => row_shape (V := Va) (c := ca) (m := B.came.length) hs (by repeat (first | exact List.Mem.head _ | apply List.Mem.tail))) ?_
  rintro ⟨a, rfl⟩
  (repeat' (first | refine Zv tb ?_ | (refine Zt (fun ht => ?_) (fun ht => ?_) <;> (dsimp only [cmpP, cmpN] at ht) <;> (try (exfalso; omega))) | refine Z0 ?_ | refine Zq ?_ | refine Zr ?_ | refine Zk ?_ | refine Zy ?_ | refine Zn ?_ | refine Zj ?_ | refine Ze ?_ | refine Zx ?_ | refine Zqr ?_ | refine Zqs ?_ | refine Zqc ?_ | refine Zqx ?_ | refine Zqf ?_ | refine Zm tb fun b => ?_ | refine Zb fun b => ?_ | refine Zs tb ?_ | refine Zu tb ?_))
  refine WL_cons rfl (Hv_call tb  rfl rfl rfl (perm_picks [0, 0, 0] rfl) (fun w hs => Have_t bb B V U c cu w hR.wb) rfl ?_)
  rintro v Γ' ⟨Vb, cb, rfl, rfl⟩
  refine WL_fact (fun w hs => row_shape (V := Vb) (c := cb) (m := B.came.length) hs (by repeat (first | exact List.Mem.head _ | apply List.Mem.tail))) ?_
  rintro ⟨b, rfl⟩
  (repeat' (first | refine Zv tb ?_ | (refine Zt (fun ht => ?_) (fun ht => ?_) <;> (dsimp only [cmpP, cmpN] at ht) <;> (try (exfalso; omega))) | refine Z0 ?_ | refine Zq ?_ | refine Zr ?_ | refine Zk ?_ | refine Zy ?_ | refine Zn ?_ | refine Zj ?_ | refine Ze ?_ | refine Zx ?_ | refine Zqr ?_ | refine Zqs ?_ | refine Zqc ?_ | refine Zqx ?_ | refine Zqf ?_ | refine Zm tb fun b => ?_ | refine Zb fun b => ?_ | refine Zs tb ?_ | refine Zu tb ?_))
  refine WL_cons rfl (Hv_call tb  rfl rfl rfl (perm_picks [7, 7] rfl) (fun w hs => rHave_t rb R V' c' w hpl) rfl ?_)
  rw [hR.spans]
  rintro v Γ' ⟨Vd, cd, rfl, rfl⟩
  refine WL_fact (fun w hs => row_shape (V := Vd) (c := cd) (m := B.came.length) hs (by repeat (first | exact List.Mem.head _ | apply List.Mem.tail))) ?_
  rintro ⟨d, rfl⟩
  (repeat' (first | refine Zv tb ?_ | (refine Zt (fun ht => ?_) (fun ht => ?_) <;> (dsimp only [cmpP, cmpN] at ht) <;> (try (exfalso; omega))) | refine Z0 ?_ | refine Zq ?_ | refine Zr ?_ | refine Zk ?_ | refine Zy ?_ | refine Zn ?_ | refine Zj ?_ | refine Ze ?_ | refine Zx ?_ | refine Zqr ?_ | refine Zqs ?_ | refine Zqc ?_ | refine Zqx ?_ | refine Zqf ?_ | refine Zm tb fun b => ?_ | refine Zb fun b => ?_ | refine Zs tb ?_ | refine Zu tb ?_))
  refine WL_cons rfl (Hv_call tb (Γ1 := []) rfl rfl rfl (List.Perm.refl _) (fun w hs => sameSpans_t _ _ B.came ca cd w (SlO.row hs (by repeat (first | exact List.Mem.head _ | apply List.Mem.tail))) (SlO.row hs (by repeat (first | exact List.Mem.head _ | apply List.Mem.tail)))) rfl ?_)
  rintro v Γ' ⟨rfl, rfl⟩
  (repeat' (first | refine Zv tb ?_ | (refine Zt (fun ht => ?_) (fun ht => ?_) <;> (dsimp only [cmpP, cmpN] at ht) <;> (try (exfalso; omega))) | refine Z0 ?_ | refine Zq ?_ | refine Zr ?_ | refine Zk ?_ | refine Zy ?_ | refine Zn ?_ | refine Zj ?_ | refine Ze ?_ | refine Zx ?_ | refine Zqr ?_ | refine Zqs ?_ | refine Zqc ?_ | refine Zqx ?_ | refine Zqf ?_ | refine Zm tb fun b => ?_ | refine Zb fun b => ?_ | refine Zs tb ?_ | refine Zu tb ?_))
  refine WL_cons rfl (Hv_call tb (Γ1 := []) rfl rfl rfl (List.Perm.refl _) (fun w hs => sameSpans_t _ _ B.came cb cd w (SlO.row hs (by repeat (first | exact List.Mem.head _ | apply List.Mem.tail))) (SlO.row hs (by repeat (first | exact List.Mem.head _ | apply List.Mem.tail)))) rfl ?_)
  rintro v Γ' ⟨rfl, rfl⟩
  (repeat' (first | refine Zv tb ?_ | (refine Zt (fun ht => ?_) (fun ht => ?_) <;> (dsimp only [cmpP, cmpN] at ht) <;> (try (exfalso; omega))) | refine Z0 ?_ | refine Zq ?_ | refine Zr ?_ | refine Zk ?_ | refine Zy ?_ | refine Zn ?_ | refine Zj ?_ | refine Ze ?_ | refine Zx ?_ | refine Zqr ?_ | refine Zqs ?_ | refine Zqc ?_ | refine Zqx ?_ | refine Zqf ?_ | refine Zm tb fun b => ?_ | refine Zb fun b => ?_ | refine Zs tb ?_ | refine Zu tb ?_))
  refine WL_cons rfl (Hv_buildSlice tb rfl rfl rfl (by decide) rfl rfl rfl rfl fun q => ?_)
  (repeat' (first | refine Zv tb ?_ | (refine Zt (fun ht => ?_) (fun ht => ?_) <;> (dsimp only [cmpP, cmpN] at ht) <;> (try (exfalso; omega))) | refine Z0 ?_ | refine Zq ?_ | refine Zr ?_ | refine Zk ?_ | refine Zy ?_ | refine Zn ?_ | refine Zj ?_ | refine Ze ?_ | refine Zx ?_ | refine Zqr ?_ | refine Zqs ?_ | refine Zqc ?_ | refine Zqx ?_ | refine Zqf ?_ | refine Zm tb fun b => ?_ | refine Zb fun b => ?_ | refine Zs tb ?_ | refine Zu tb ?_))
  refine WL_cons rfl (Hv_append tb (k := 13) (m := 2) rfl rfl rfl rfl rfl (by decide) rfl (Has.row (List.mem_cons_self ..)) rfl rfl (by omega) (by omega) rfl fun S1 k1 hS1 => ?_)
  (repeat' (first | refine Zv tb ?_ | (refine Zt (fun ht => ?_) (fun ht => ?_) <;> (dsimp only [cmpP, cmpN] at ht) <;> (try (exfalso; omega))) | refine Z0 ?_ | refine Zq ?_ | refine Zr ?_ | refine Zk ?_ | refine Zy ?_ | refine Zn ?_ | refine Zj ?_ | refine Ze ?_ | refine Zx ?_ | refine Zqr ?_ | refine Zqs ?_ | refine Zqc ?_ | refine Zqx ?_ | refine Zqf ?_ | refine Zm tb fun b => ?_ | refine Zb fun b => ?_ | refine Zs tb ?_ | refine Zu tb ?_))
  refine WL_cons rfl (Hv_buildSlice tb rfl rfl rfl (by decide) rfl rfl rfl rfl fun q2 => ?_)
  (repeat' (first | refine Zv tb ?_ | (refine Zt (fun ht => ?_) (fun ht => ?_) <;> (dsimp only [cmpP, cmpN] at ht) <;> (try (exfalso; omega))) | refine Z0 ?_ | refine Zq ?_ | refine Zr ?_ | refine Zk ?_ | refine Zy ?_ | refine Zn ?_ | refine Zj ?_ | refine Ze ?_ | refine Zx ?_ | refine Zqr ?_ | refine Zqs ?_ | refine Zqc ?_ | refine Zqx ?_ | refine Zqf ?_ | refine Zm tb fun b => ?_ | refine Zb fun b => ?_ | refine Zs tb ?_ | refine Zu tb ?_))
  refine WL_cons rfl (Hv_append tb (k := 15) (m := 2) rfl rfl rfl rfl rfl (by decide) rfl (Has.row (List.mem_cons_self ..)) rfl rfl (by omega) (by omega) rfl fun S2 k2 hS2 => ?_)
  (repeat' (first | refine Zv tb ?_ | (refine Zt (fun ht => ?_) (fun ht => ?_) <;> (dsimp only [cmpP, cmpN] at ht) <;> (try (exfalso; omega))) | refine Z0 ?_ | refine Zq ?_ | refine Zr ?_ | refine Zk ?_ | refine Zy ?_ | refine Zn ?_ | refine Zj ?_ | refine Ze ?_ | refine Zx ?_ | refine Zqr ?_ | refine Zqs ?_ | refine Zqc ?_ | refine Zqx ?_ | refine Zqf ?_ | refine Zm tb fun b => ?_ | refine Zb fun b => ?_ | refine Zs tb ?_ | refine Zu tb ?_))
  have e : stI bw true bb B V c U cu rb R V' c' po qo (s.addS S1 S2 k1 k2 a b d ca cb cd B.came) = (.blk bw [po, ptV bb, qo, ptV rb, .slice s.RV (2 * s.p1) s.rc, .slice s.WV (2 * s.p1) s.wc, .slice S1 (2 * s.p2 + 2) k1, .slice S2 (2 * s.p2 + 2) k2] 85 :: (bufI bb B V c U cu ++ (refI rb R V' c' ++ [s.rowR, s.rowW, .row (.slice S1 (2 * s.p2 + 2) k1) 43 1 (2 * s.p2 + 2) (s.hS ++ [.slice (adr a) B.came.length ca, .slice (adr b) B.came.length cb]), .row (.slice S2 (2 * s.p2 + 2) k2) 43 1 (2 * s.p2 + 2) (s.hA ++ [.slice (adr d) B.came.length cd, .slice (adr d) B.came.length cd])]))) ++ (s.FR ++ ((s.FS ++ [spI (adr a) B.came.length ca B.came, spI (adr b) B.came.length cb B.came]) ++ (s.FA ++ [spI (adr d) B.came.length cd B.came]))) := by
    unfold stI Sst.T Sst.rowS Sst.rowA
    rw [addS_hS, addS_hA, addS_FS, addS_FA]
    rfl
  refine ⟨_, _, .tmp rfl .nil, ⟨rfl, bb, B, V, c, U, cu, rb, R, V', c', s.addS S1 S2 k1 k2 a b d ca cb cd B.came, hR, addS_ok _ _ _ _ _ _ _ _ _ _ _ _ hs0 hR.wb.right.1, rfl⟩, ?_⟩
  rw [e]
  clear e
  dsimp only [bufI, refI, List.eraseIdx_cons_succ, List.eraseIdx_cons_zero, List.set_cons_succ, List.set_cons_zero, List.nil_append, List.cons_append, List.append_eq]
  exact perm_fin3 (xs := [_, _, _, _, _, _, _, _, _, _]) (F := s.FR) (G := s.FS) (H := s.FA) [_, _, _] _ _ _ (perm_picks [11, 5, 5, 5, 2, 2, 6, 6, 6, 6, 4, 3, 2] rfl)
end Go.Proofs.Ytdnngagahhleiaa
