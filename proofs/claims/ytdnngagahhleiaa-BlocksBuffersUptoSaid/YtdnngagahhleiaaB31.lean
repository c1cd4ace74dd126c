/- a World's step: Read. -/
import Derived.Test.YtdnngagahhleiaaB28
namespace Go.Proofs.Ytdnngagahhleiaa
open Go.Sx
attribute [local irreducible] W WL WP Hv Yl WQ At QP QF Rnd
set_option maxRecDepth 10000
set_option linter.unusedVariables false
set_option linter.unusedSimpArgs false
set_option maxHeartbeats 4000000 in
theorem stepRead0 (bw bb rb dc c cu c' N : Nat) (B : Bf) (R : Rf) (V U V' D : Option Addr) (po qo : Value) (s : Sst) (at' s1 s2 : Int) (data : List Int) (w : World) (hR : Rel B R) (hs0 : s.Ok N) (hN : N ≤ 2000000) (hdb : ∀ k, k < data.length → 0 ≤ bz data k ∧ bz data k ≤ 255) (hdm : data.length ≤ 1048576)
    (hD : SlO w (fps (stI bw false bb B V c U cu rb R V' c' po qo s)) D data.length dc (byC.cells data)) :
    Tr Try.prog 30 #[.pointer (some ⟨bw, 0, none⟩), .agg #[.int .i64 5, .bool false, .int .i64 at', .slice D data.length dc, .int .i64 s1, .int .i64 s2]] w (stI bw false bb B V c U cu rb R V' c' po qo s) (StP bw false po qo N) := by
  have hpl := hR.pl_le
  have hp1 := hs0.p1
  have hp2 := hs0.p2
  show Tr _ _ _ w (.blk bw [ptV bb, po, ptV rb, qo, .slice s.RV (2 * s.p1) s.rc, .slice s.WV (2 * s.p1) s.wc, .slice s.SV (2 * s.p2) s.sc, .slice s.AV (2 * s.p2) s.ac] 85 :: (bufI bb B V c U cu ++ (refI rb R V' c' ++ (s.rowR :: s.rowW :: s.rowS :: s.rowA :: s.T)))) _
  refine Tr_intro (rs := [.tmp 4]) (args := [.pointer (some ⟨bw, 0, none⟩), .agg #[.int .i64 5, .bool false, .int .i64 at', .slice D data.length dc, .int .i64 s1, .int .i64 s2]]) Try.func30 rfl rfl 245 rfl rfl ?_
  (repeat' (first | refine Zv tb ?_ | (refine Zt (fun ht => ?_) (fun ht => ?_) <;> (dsimp only [cmpP, cmpN] at ht) <;> (try (exfalso; omega))) | refine Z0 ?_ | refine Zq ?_ | refine Zr ?_ | refine Zk ?_ | refine Zy ?_ | refine Zn ?_ | refine Zj ?_ | refine Ze ?_ | refine Zx ?_ | refine Zqr ?_ | refine Zqs ?_ | refine Zqc ?_ | refine Zqx ?_ | refine Zqf ?_ | refine Zm tb fun b => ?_ | refine Zb fun b => ?_ | refine Zs tb ?_ | refine WL_u (by first | exact Yl_indexArr 0 rfl rfl arrB rfl (by decide) | exact Yl_indexArr 0 rfl rfl arrR rfl (by decide)) rfl rfl ?_ | refine Zu tb ?_))
  obtain ⟨⟨z, ok⟩, hz⟩ : ∃ r, r = readF B (s1, s2) := ⟨_, rfl⟩
  have hzl : z.length ≤ 65536 := by
    have h1 : z = (readF B (s1, s2)).1 := by rw [← hz]
    have h2 := hR.wb.len
    rw [h1]; unfold readF
    split
    · simp; omega
    · simp
  (repeat' (first | refine Zv tb ?_ | (refine Zt (fun ht => ?_) (fun ht => ?_) <;> (dsimp only [cmpP, cmpN] at ht) <;> (try (exfalso; omega))) | refine Z0 ?_ | refine Zq ?_ | refine Zr ?_ | refine Zk ?_ | refine Zy ?_ | refine Zn ?_ | refine Zj ?_ | refine Ze ?_ | refine Zx ?_ | refine Zqr ?_ | refine Zqs ?_ | refine Zqc ?_ | refine Zqx ?_ | refine Zqf ?_ | refine Zm tb fun b => ?_ | refine Zb fun b => ?_ | refine Zs tb ?_ | refine WL_u (by first | exact Yl_ldBA tb rfl rfl (by repeat (first | exact List.Mem.head _ | apply List.Mem.tail)) rfl) rfl rfl ?_ | refine Zu tb ?_))
  refine WL_cons rfl (Hv_call tb  rfl rfl rfl (perm_picks [2, 2, 2] rfl) (fun w hs => Read_t bb B V U c cu (s1, s2) w hR.wb) rfl ?_)
  rw [← hz]
  rintro v Γ' ⟨Va, ca, rfl, rfl⟩
  refine WL_fact (fun w hs => row_shape (V := Va) (c := ca) (m := z.length) hs (by repeat (first | exact List.Mem.head _ | apply List.Mem.tail))) ?_
  rintro ⟨aa, rfl⟩
  (repeat' (first | refine Zv tb ?_ | (refine Zt (fun ht => ?_) (fun ht => ?_) <;> (dsimp only [cmpP, cmpN] at ht) <;> (try (exfalso; omega))) | refine Z0 ?_ | refine Zq ?_ | refine Zr ?_ | refine Zk ?_ | refine Zy ?_ | refine Zn ?_ | refine Zj ?_ | refine Ze ?_ | refine Zx ?_ | refine Zqr ?_ | refine Zqs ?_ | refine Zqc ?_ | refine Zqx ?_ | refine Zqf ?_ | refine Zm tb fun b => ?_ | refine Zb fun b => ?_ | refine Zs tb ?_ | refine WL_u (by first | exact Yl_ldBA tb rfl rfl (by repeat (first | exact List.Mem.head _ | apply List.Mem.tail)) rfl) rfl rfl ?_ | refine Zu tb ?_))
  refine WL_cons rfl (Hv_call tb  rfl rfl rfl (perm_picks [0, 0, 0] rfl) (fun w hs => Read_t bb B V U c cu (s1, s2) w hR.wb) rfl ?_)
  rw [← hz]
  rintro v Γ' ⟨Vb, cb, rfl, rfl⟩
  refine WL_fact (fun w hs => row_shape (V := Vb) (c := cb) (m := z.length) hs (by repeat (first | exact List.Mem.head _ | apply List.Mem.tail))) ?_
  rintro ⟨ab, rfl⟩
  (repeat' (first | refine Zv tb ?_ | (refine Zt (fun ht => ?_) (fun ht => ?_) <;> (dsimp only [cmpP, cmpN] at ht) <;> (try (exfalso; omega))) | refine Z0 ?_ | refine Zq ?_ | refine Zr ?_ | refine Zk ?_ | refine Zy ?_ | refine Zn ?_ | refine Zj ?_ | refine Ze ?_ | refine Zx ?_ | refine Zqr ?_ | refine Zqs ?_ | refine Zqc ?_ | refine Zqx ?_ | refine Zqf ?_ | refine Zm tb fun b => ?_ | refine Zb fun b => ?_ | refine Zs tb ?_ | refine WL_u (by first | exact Yl_ldBA tb rfl rfl (by repeat (first | exact List.Mem.head _ | apply List.Mem.tail)) rfl) rfl rfl ?_ | refine Zu tb ?_))
  refine WL_cons rfl (Hv_call tb  rfl rfl rfl (perm_picks [7, 7] rfl) (fun w hs => rRead_t rb R V' c' (s1, s2) w hpl) rfl ?_)
  rw [hR.read, ← hz]
  rintro v Γ' ⟨Vd, cd, rfl, rfl⟩
  refine WL_fact (fun w hs => row_shape (V := Vd) (c := cd) (m := z.length) hs (by repeat (first | exact List.Mem.head _ | apply List.Mem.tail))) ?_
  rintro ⟨ad, rfl⟩
  refine WL_fact (p := (aa : Option Nat).map (fun b => (⟨b, 0, none⟩ : Addr)) = none → z.length = 0) (fun w hs h => ((hs.row_fact (A := aa.map (fun b => (⟨b, 0, none⟩ : Addr))) (c := ca) (m := z.length) (by repeat (first | exact List.Mem.head _ | apply List.Mem.tail))).1 h).2) fun hna => ?_
  have hba : ∀ {w0 : World} {X : List Nat} {K : List It}, byI (aa.map (fun b => (⟨b, 0, none⟩ : Addr))) z.length ca z ∈ K → RdA w0 X K (aa.map (fun b => (⟨b, 0, none⟩ : Addr))) (z.map (Value.int .u8)) := fun hm => by
    rw [← by_map]; exact RdA.row hm (fun h => by rw [List.eq_nil_of_length_eq_zero (hna h)]; rfl)
  refine WL_fact (p := (ab : Option Nat).map (fun b => (⟨b, 0, none⟩ : Addr)) = none → z.length = 0) (fun w hs h => ((hs.row_fact (A := ab.map (fun b => (⟨b, 0, none⟩ : Addr))) (c := cb) (m := z.length) (by repeat (first | exact List.Mem.head _ | apply List.Mem.tail))).1 h).2) fun hnb => ?_
  have hbb : ∀ {w0 : World} {X : List Nat} {K : List It}, byI (ab.map (fun b => (⟨b, 0, none⟩ : Addr))) z.length cb z ∈ K → RdA w0 X K (ab.map (fun b => (⟨b, 0, none⟩ : Addr))) (z.map (Value.int .u8)) := fun hm => by
    rw [← by_map]; exact RdA.row hm (fun h => by rw [List.eq_nil_of_length_eq_zero (hnb h)]; rfl)
  refine WL_fact (p := (ad : Option Nat).map (fun b => (⟨b, 0, none⟩ : Addr)) = none → z.length = 0) (fun w hs h => ((hs.row_fact (A := ad.map (fun b => (⟨b, 0, none⟩ : Addr))) (c := cd) (m := z.length) (by repeat (first | exact List.Mem.head _ | apply List.Mem.tail))).1 h).2) fun hnd => ?_
  have hbd : ∀ {w0 : World} {X : List Nat} {K : List It}, byI (ad.map (fun b => (⟨b, 0, none⟩ : Addr))) z.length cd z ∈ K → RdA w0 X K (ad.map (fun b => (⟨b, 0, none⟩ : Addr))) (z.map (Value.int .u8)) := fun hm => by
    rw [← by_map]; exact RdA.row hm (fun h => by rw [List.eq_nil_of_length_eq_zero (hnd h)]; rfl)
  (repeat' (first | refine Zv tb ?_ | (refine Zt (fun ht => ?_) (fun ht => ?_) <;> (dsimp only [cmpP, cmpN] at ht) <;> (try (exfalso; omega))) | refine Z0 ?_ | refine Zq ?_ | refine Zr ?_ | refine Zk ?_ | refine Zy ?_ | refine Zn ?_ | refine Zj ?_ | refine Ze ?_ | refine Zx ?_ | refine Zqr ?_ | refine Zqs ?_ | refine Zqc ?_ | refine Zqx ?_ | refine Zqf ?_ | refine Zm tb fun b => ?_ | refine Zb fun b => ?_ | refine Zs tb ?_ | refine Zu tb ?_))
  refine WL_cons rfl (Hv_buildSlice tb rfl rfl rfl (by decide) rfl rfl rfl rfl fun q => ?_)
  (repeat' (first | refine Zv tb ?_ | (refine Zt (fun ht => ?_) (fun ht => ?_) <;> (dsimp only [cmpP, cmpN] at ht) <;> (try (exfalso; omega))) | refine Z0 ?_ | refine Zq ?_ | refine Zr ?_ | refine Zk ?_ | refine Zy ?_ | refine Zn ?_ | refine Zj ?_ | refine Ze ?_ | refine Zx ?_ | refine Zqr ?_ | refine Zqs ?_ | refine Zqc ?_ | refine Zqx ?_ | refine Zqf ?_ | refine Zm tb fun b => ?_ | refine Zb fun b => ?_ | refine Zs tb ?_ | refine Zu tb ?_))
  refine WL_cons rfl (Hv_append tb (k := 11) (m := 2) rfl rfl rfl rfl rfl (by decide) rfl (Has.row (List.mem_cons_self ..)) rfl rfl (by omega) (by omega) rfl fun S1 k1 hS1 => ?_)
  (repeat' (first | refine Zv tb ?_ | (refine Zt (fun ht => ?_) (fun ht => ?_) <;> (dsimp only [cmpP, cmpN] at ht) <;> (try (exfalso; omega))) | refine Z0 ?_ | refine Zq ?_ | refine Zr ?_ | refine Zk ?_ | refine Zy ?_ | refine Zn ?_ | refine Zj ?_ | refine Ze ?_ | refine Zx ?_ | refine Zqr ?_ | refine Zqs ?_ | refine Zqc ?_ | refine Zqx ?_ | refine Zqf ?_ | refine Zm tb fun b => ?_ | refine Zb fun b => ?_ | refine Zs tb ?_ | refine Zu tb ?_))
  (repeat refine W_seq ?_); refine W_regionD tb [10, 13] _ [(0, 0), (1, 0), (2, 0), (3, 0), (4, 1), (5, 0), (6, 1), (7, 0), (8, 1), (9, 2), (10, 2), (11, 0), (12, 0), (13, 2)] (by kernel_rfl) (keepAll _) ?_
  (repeat' (first | refine Zpv tb ?_ | (refine Zpt (fun ht => ?_) (fun ht => ?_) <;> (dsimp only [cmpP, cmpN] at ht) <;> (try (exfalso; omega))) | refine WP_u0 rfl (by first | exact Yl_bstr Try.underlying26 Try.underlying5 Try.underlying9 rfl hnd (hbd (by repeat (first | exact List.Mem.head _ | apply List.Mem.tail))) rfl | exact Yl_bstr Try.underlying26 Try.underlying5 Try.underlying9 rfl hna (hba (by repeat (first | exact List.Mem.head _ | apply List.Mem.tail))) rfl | exact Yl_bstr Try.underlying26 Try.underlying5 Try.underlying9 rfl hnb (hbb (by repeat (first | exact List.Mem.head _ | apply List.Mem.tail))) rfl) rfl rfl ?_ | refine WP_u1 rfl (by first | exact Yl_bstr Try.underlying26 Try.underlying5 Try.underlying9 rfl hnd (hbd (by repeat (first | exact List.Mem.head _ | apply List.Mem.tail))) rfl | exact Yl_bstr Try.underlying26 Try.underlying5 Try.underlying9 rfl hna (hba (by repeat (first | exact List.Mem.head _ | apply List.Mem.tail))) rfl | exact Yl_bstr Try.underlying26 Try.underlying5 Try.underlying9 rfl hnb (hbb (by repeat (first | exact List.Mem.head _ | apply List.Mem.tail))) rfl) rfl rfl ?_ | refine Zpw ?_ | refine Zpu tb ?_ | refine Zps tb ?_ | refine Zpk ?_ | refine Zp0 ?_))
  refine WP_2 rfl rfl (Hv_buildSlice tb rfl rfl rfl (by decide) rfl rfl rfl rfl fun q2 => ⟨.inr (keep1 _ _), ?_⟩)
  (repeat' (first | refine Zpv tb ?_ | (refine Zpt (fun ht => ?_) (fun ht => ?_) <;> (dsimp only [cmpP, cmpN] at ht) <;> (try (exfalso; omega))) | refine Zpw ?_ | refine Zpu tb ?_ | refine Zps tb ?_ | refine Zpk ?_ | refine Zp0 ?_))
  refine WP_2 rfl rfl (Hv_append tb (k := 13) (m := 2) rfl rfl rfl rfl rfl (by decide) rfl (Has.row (List.mem_cons_self ..)) rfl rfl (by omega) (by omega) rfl fun S2 k2 hS2 => ⟨.inl rfl, ?_⟩)
  (repeat' (first | refine Zpv tb ?_ | (refine Zpt (fun ht => ?_) (fun ht => ?_) <;> (dsimp only [cmpP, cmpN] at ht) <;> (try (exfalso; omega))) | refine Zpw ?_ | refine Zpu tb ?_ | refine Zps tb ?_ | refine Zpk ?_ | refine Zp0 ?_))
  refine WP_2 rfl rfl (Hv_store tb (k := 11) rfl rfl rfl rfl rfl (Nat.le_of_ble_eq_true rfl) rfl rfl rfl ⟨.inl rfl, ?_⟩)
  (repeat' (first | refine Zpv tb ?_ | (refine Zpt (fun ht => ?_) (fun ht => ?_) <;> (dsimp only [cmpP, cmpN] at ht) <;> (try (exfalso; omega))) | refine Zpw ?_ | refine Zpu tb ?_ | refine Zps tb ?_ | refine Zpk ?_ | refine Zp0 ?_))
  (repeat' (first | refine Zv tb ?_ | (refine Zt (fun ht => ?_) (fun ht => ?_) <;> (dsimp only [cmpP, cmpN] at ht) <;> (try (exfalso; omega))) | refine Z0 ?_ | refine Zq ?_ | refine Zr ?_ | refine Zk ?_ | refine Zy ?_ | refine Zn ?_ | refine Zj ?_ | refine Ze ?_ | refine Zx ?_ | refine Zqr ?_ | refine Zqs ?_ | refine Zqc ?_ | refine Zqx ?_ | refine Zqf ?_ | refine Zm tb fun b => ?_ | refine Zb fun b => ?_ | refine Zs tb ?_ | refine WL_u (by first | exact Yl_bstr Try.underlying26 Try.underlying5 Try.underlying9 rfl hnd (hbd (by repeat (first | exact List.Mem.head _ | apply List.Mem.tail))) rfl | exact Yl_bstr Try.underlying26 Try.underlying5 Try.underlying9 rfl hna (hba (by repeat (first | exact List.Mem.head _ | apply List.Mem.tail))) rfl | exact Yl_bstr Try.underlying26 Try.underlying5 Try.underlying9 rfl hnb (hbb (by repeat (first | exact List.Mem.head _ | apply List.Mem.tail))) rfl | exact Yl_eqBT rfl rfl Try.underlying4 | exact Yl_eqStrT rfl rfl) rfl rfl ?_ | refine Zu tb ?_))
  have e : stI bw false bb B V c U cu rb R V' c' po qo (s.addR S1 S2 k1 k2 aa ab ca cb z) = (.blk bw [ptV bb, po, ptV rb, qo, .slice S1 (2 * s.p1 + 2) k1, .slice S2 (2 * s.p1 + 2) k2, .slice s.SV (2 * s.p2) s.sc, .slice s.AV (2 * s.p2) s.ac] 85 :: (bufI bb B V c U cu ++ (refI rb R V' c' ++ [.row (.slice S1 (2 * s.p1 + 2) k1) 26 1 (2 * s.p1 + 2) (s.hR ++ [.slice (adr aa) z.length ca, .slice (adr ab) z.length cb]), .row (.slice S2 (2 * s.p1 + 2) k2) 9 1 (2 * s.p1 + 2) (s.hW ++ [.string (strOfNums z), .string (strOfNums z)]), s.rowS, s.rowA]))) ++ ((s.FR ++ [byI (adr aa) z.length ca z, byI (adr ab) z.length cb z]) ++ (s.FS ++ s.FA)) := by
    unfold stI Sst.T Sst.rowR Sst.rowW
    rw [addR_hR, addR_hW, addR_FR]
    rfl
  refine ⟨_, _, .tmp rfl .nil, ⟨rfl, bb, B, V, c, U, cu, rb, R, V', c', s.addR S1 S2 k1 k2 aa ab ca cb z, hR, addR_ok _ _ _ _ _ _ _ _ _ _ hs0 hzl, rfl⟩, ?_⟩
  rw [e]
  clear e
  dsimp only [bufI, refI, List.eraseIdx_cons_succ, List.eraseIdx_cons_zero, List.set_cons_succ, List.set_cons_zero, List.nil_append, List.cons_append, List.append_eq]
  exact perm_fin2 (xs := [_, _, _, _, _, _, _, _, _, _]) (F := s.FR) (G := s.FS ++ s.FA) [_, _, _, _] _ _ (perm_picks [11, 5, 5, 5, 2, 2, 6, 6, 6, 6, 4, 3] rfl)
set_option maxHeartbeats 4000000 in
theorem stepRead1 (bw bb rb dc c cu c' N : Nat) (B : Bf) (R : Rf) (V U V' D : Option Addr) (po qo : Value) (s : Sst) (at' s1 s2 : Int) (data : List Int) (w : World) (hR : Rel B R) (hs0 : s.Ok N) (hN : N ≤ 2000000) (hdb : ∀ k, k < data.length → 0 ≤ bz data k ∧ bz data k ≤ 255) (hdm : data.length ≤ 1048576)
    (hD : SlO w (fps (stI bw true bb B V c U cu rb R V' c' po qo s)) D data.length dc (byC.cells data)) :
    Tr Try.prog 30 #[.pointer (some ⟨bw, 0, none⟩), .agg #[.int .i64 5, .bool true, .int .i64 at', .slice D data.length dc, .int .i64 s1, .int .i64 s2]] w (stI bw true bb B V c U cu rb R V' c' po qo s) (StP bw true po qo N) := by
  have hpl := hR.pl_le
  have hp1 := hs0.p1
  have hp2 := hs0.p2
  show Tr _ _ _ w (.blk bw [po, ptV bb, qo, ptV rb, .slice s.RV (2 * s.p1) s.rc, .slice s.WV (2 * s.p1) s.wc, .slice s.SV (2 * s.p2) s.sc, .slice s.AV (2 * s.p2) s.ac] 85 :: (bufI bb B V c U cu ++ (refI rb R V' c' ++ (s.rowR :: s.rowW :: s.rowS :: s.rowA :: s.T)))) _
  refine Tr_intro (rs := [.tmp 4]) (args := [.pointer (some ⟨bw, 0, none⟩), .agg #[.int .i64 5, .bool true, .int .i64 at', .slice D data.length dc, .int .i64 s1, .int .i64 s2]]) Try.func30 rfl rfl 245 rfl rfl ?_
  (repeat' (first | refine Zv tb ?_ | (refine Zt (fun ht => ?_) (fun ht => ?_) <;> (dsimp only [cmpP, cmpN] at ht) <;> (try (exfalso; omega))) | refine Z0 ?_ | refine Zq ?_ | refine Zr ?_ | refine Zk ?_ | refine Zy ?_ | refine Zn ?_ | refine Zj ?_ | refine Ze ?_ | refine Zx ?_ | refine Zqr ?_ | refine Zqs ?_ | refine Zqc ?_ | refine Zqx ?_ | refine Zqf ?_ | refine Zm tb fun b => ?_ | refine Zb fun b => ?_ | refine Zs tb ?_ | refine WL_u (by first | exact Yl_indexArr 1 rfl rfl arrB rfl (by decide) | exact Yl_indexArr 1 rfl rfl arrR rfl (by decide)) rfl rfl ?_ | refine Zu tb ?_))
  obtain ⟨⟨z, ok⟩, hz⟩ : ∃ r, r = readF B (s1, s2) := ⟨_, rfl⟩
  have hzl : z.length ≤ 65536 := by
    have h1 : z = (readF B (s1, s2)).1 := by rw [← hz]
    have h2 := hR.wb.len
    rw [h1]; unfold readF
    split
    · simp; omega
    · simp
  (repeat' (first | refine Zv tb ?_ | (refine Zt (fun ht => ?_) (fun ht => ?_) <;> (dsimp only [cmpP, cmpN] at ht) <;> (try (exfalso; omega))) | refine Z0 ?_ | refine Zq ?_ | refine Zr ?_ | refine Zk ?_ | refine Zy ?_ | refine Zn ?_ | refine Zj ?_ | refine Ze ?_ | refine Zx ?_ | refine Zqr ?_ | refine Zqs ?_ | refine Zqc ?_ | refine Zqx ?_ | refine Zqf ?_ | refine Zm tb fun b => ?_ | refine Zb fun b => ?_ | refine Zs tb ?_ | refine WL_u (by first | exact Yl_ldBA tb rfl rfl (by repeat (first | exact List.Mem.head _ | apply List.Mem.tail)) rfl) rfl rfl ?_ | refine Zu tb ?_))
  refine WL_cons rfl (Hv_call tb  rfl rfl rfl (perm_picks [2, 2, 2] rfl) (fun w hs => Read_t bb B V U c cu (s1, s2) w hR.wb) rfl ?_)
  rw [← hz]
  rintro v Γ' ⟨Va, ca, rfl, rfl⟩
  refine WL_fact (fun w hs => row_shape (V := Va) (c := ca) (m := z.length) hs (by repeat (first | exact List.Mem.head _ | apply List.Mem.tail))) ?_
  rintro ⟨aa, rfl⟩
  (repeat' (first | refine Zv tb ?_ | (refine Zt (fun ht => ?_) (fun ht => ?_) <;> (dsimp only [cmpP, cmpN] at ht) <;> (try (exfalso; omega))) | refine Z0 ?_ | refine Zq ?_ | refine Zr ?_ | refine Zk ?_ | refine Zy ?_ | refine Zn ?_ | refine Zj ?_ | refine Ze ?_ | refine Zx ?_ | refine Zqr ?_ | refine Zqs ?_ | refine Zqc ?_ | refine Zqx ?_ | refine Zqf ?_ | refine Zm tb fun b => ?_ | refine Zb fun b => ?_ | refine Zs tb ?_ | refine WL_u (by first | exact Yl_ldBA tb rfl rfl (by repeat (first | exact List.Mem.head _ | apply List.Mem.tail)) rfl) rfl rfl ?_ | refine Zu tb ?_))
  refine WL_cons rfl (Hv_call tb  rfl rfl rfl (perm_picks [0, 0, 0] rfl) (fun w hs => Read_t bb B V U c cu (s1, s2) w hR.wb) rfl ?_)
  rw [← hz]
  rintro v Γ' ⟨Vb, cb, rfl, rfl⟩
  refine WL_fact (fun w hs => row_shape (V := Vb) (c := cb) (m := z.length) hs (by repeat (first | exact List.Mem.head _ | apply List.Mem.tail))) ?_
  rintro ⟨ab, rfl⟩
  (repeat' (first | refine Zv tb ?_ | (refine Zt (fun ht => ?_) (fun ht => ?_) <;> (dsimp only [cmpP, cmpN] at ht) <;> (try (exfalso; omega))) | refine Z0 ?_ | refine Zq ?_ | refine Zr ?_ | refine Zk ?_ | refine Zy ?_ | refine Zn ?_ | refine Zj ?_ | refine Ze ?_ | refine Zx ?_ | refine Zqr ?_ | refine Zqs ?_ | refine Zqc ?_ | refine Zqx ?_ | refine Zqf ?_ | refine Zm tb fun b => ?_ | refine Zb fun b => ?_ | refine Zs tb ?_ | refine WL_u (by first | exact Yl_ldBA tb rfl rfl (by repeat (first | exact List.Mem.head _ | apply List.Mem.tail)) rfl) rfl rfl ?_ | refine Zu tb ?_))
  refine WL_cons rfl (Hv_call tb  rfl rfl rfl (perm_picks [7, 7] rfl) (fun w hs => rRead_t rb R V' c' (s1, s2) w hpl) rfl ?_)
  rw [hR.read, ← hz]
  rintro v Γ' ⟨Vd, cd, rfl, rfl⟩
  refine WL_fact (fun w hs => row_shape (V := Vd) (c := cd) (m := z.length) hs (by repeat (first | exact List.Mem.head _ | apply List.Mem.tail))) ?_
  rintro ⟨ad, rfl⟩
  refine WL_fact (p := (aa : Option Nat).map (fun b => (⟨b, 0, none⟩ : Addr)) = none → z.length = 0) (fun w hs h => ((hs.row_fact (A := aa.map (fun b => (⟨b, 0, none⟩ : Addr))) (c := ca) (m := z.length) (by repeat (first | exact List.Mem.head _ | apply List.Mem.tail))).1 h).2) fun hna => ?_
  have hba : ∀ {w0 : World} {X : List Nat} {K : List It}, byI (aa.map (fun b => (⟨b, 0, none⟩ : Addr))) z.length ca z ∈ K → RdA w0 X K (aa.map (fun b => (⟨b, 0, none⟩ : Addr))) (z.map (Value.int .u8)) := fun hm => by
    rw [← by_map]; exact RdA.row hm (fun h => by rw [List.eq_nil_of_length_eq_zero (hna h)]; rfl)
  refine WL_fact (p := (ab : Option Nat).map (fun b => (⟨b, 0, none⟩ : Addr)) = none → z.length = 0) (fun w hs h => ((hs.row_fact (A := ab.map (fun b => (⟨b, 0, none⟩ : Addr))) (c := cb) (m := z.length) (by repeat (first | exact List.Mem.head _ | apply List.Mem.tail))).1 h).2) fun hnb => ?_
  have hbb : ∀ {w0 : World} {X : List Nat} {K : List It}, byI (ab.map (fun b => (⟨b, 0, none⟩ : Addr))) z.length cb z ∈ K → RdA w0 X K (ab.map (fun b => (⟨b, 0, none⟩ : Addr))) (z.map (Value.int .u8)) := fun hm => by
    rw [← by_map]; exact RdA.row hm (fun h => by rw [List.eq_nil_of_length_eq_zero (hnb h)]; rfl)
  refine WL_fact (p := (ad : Option Nat).map (fun b => (⟨b, 0, none⟩ : Addr)) = none → z.length = 0) (fun w hs h => ((hs.row_fact (A := ad.map (fun b => (⟨b, 0, none⟩ : Addr))) (c := cd) (m := z.length) (by repeat (first | exact List.Mem.head _ | apply List.Mem.tail))).1 h).2) fun hnd => ?_
  have hbd : ∀ {w0 : World} {X : List Nat} {K : List It}, byI (ad.map (fun b => (⟨b, 0, none⟩ : Addr))) z.length cd z ∈ K → RdA w0 X K (ad.map (fun b => (⟨b, 0, none⟩ : Addr))) (z.map (Value.int .u8)) := fun hm => by
    rw [← by_map]; exact RdA.row hm (fun h => by rw [List.eq_nil_of_length_eq_zero (hnd h)]; rfl)
  (repeat' (first | refine Zv tb ?_ | (refine Zt (fun ht => ?_) (fun ht => ?_) <;> (dsimp only [cmpP, cmpN] at ht) <;> (try (exfalso; omega))) | refine Z0 ?_ | refine Zq ?_ | refine Zr ?_ | refine Zk ?_ | refine Zy ?_ | refine Zn ?_ | refine Zj ?_ | refine Ze ?_ | refine Zx ?_ | refine Zqr ?_ | refine Zqs ?_ | refine Zqc ?_ | refine Zqx ?_ | refine Zqf ?_ | refine Zm tb fun b => ?_ | refine Zb fun b => ?_ | refine Zs tb ?_ | refine Zu tb ?_))
  refine WL_cons rfl (Hv_buildSlice tb rfl rfl rfl (by decide) rfl rfl rfl rfl fun q => ?_)
  (repeat' (first | refine Zv tb ?_ | (refine Zt (fun ht => ?_) (fun ht => ?_) <;> (dsimp only [cmpP, cmpN] at ht) <;> (try (exfalso; omega))) | refine Z0 ?_ | refine Zq ?_ | refine Zr ?_ | refine Zk ?_ | refine Zy ?_ | refine Zn ?_ | refine Zj ?_ | refine Ze ?_ | refine Zx ?_ | refine Zqr ?_ | refine Zqs ?_ | refine Zqc ?_ | refine Zqx ?_ | refine Zqf ?_ | refine Zm tb fun b => ?_ | refine Zb fun b => ?_ | refine Zs tb ?_ | refine Zu tb ?_))
  refine WL_cons rfl (Hv_append tb (k := 11) (m := 2) rfl rfl rfl rfl rfl (by decide) rfl (Has.row (List.mem_cons_self ..)) rfl rfl (by omega) (by omega) rfl fun S1 k1 hS1 => ?_)
  (repeat' (first | refine Zv tb ?_ | (refine Zt (fun ht => ?_) (fun ht => ?_) <;> (dsimp only [cmpP, cmpN] at ht) <;> (try (exfalso; omega))) | refine Z0 ?_ | refine Zq ?_ | refine Zr ?_ | refine Zk ?_ | refine Zy ?_ | refine Zn ?_ | refine Zj ?_ | refine Ze ?_ | refine Zx ?_ | refine Zqr ?_ | refine Zqs ?_ | refine Zqc ?_ | refine Zqx ?_ | refine Zqf ?_ | refine Zm tb fun b => ?_ | refine Zb fun b => ?_ | refine Zs tb ?_ | refine Zu tb ?_))
  (repeat refine W_seq ?_); refine W_regionD tb [10, 13] _ [(0, 0), (1, 0), (2, 0), (3, 0), (4, 1), (5, 0), (6, 1), (7, 0), (8, 1), (9, 2), (10, 2), (11, 0), (12, 0), (13, 2)] (by kernel_rfl) (keepAll _) ?_
  (repeat' (first | refine Zpv tb ?_ | (refine Zpt (fun ht => ?_) (fun ht => ?_) <;> (dsimp only [cmpP, cmpN] at ht) <;> (try (exfalso; omega))) | refine WP_u0 rfl (by first | exact Yl_bstr Try.underlying26 Try.underlying5 Try.underlying9 rfl hnd (hbd (by repeat (first | exact List.Mem.head _ | apply List.Mem.tail))) rfl | exact Yl_bstr Try.underlying26 Try.underlying5 Try.underlying9 rfl hna (hba (by repeat (first | exact List.Mem.head _ | apply List.Mem.tail))) rfl | exact Yl_bstr Try.underlying26 Try.underlying5 Try.underlying9 rfl hnb (hbb (by repeat (first | exact List.Mem.head _ | apply List.Mem.tail))) rfl) rfl rfl ?_ | refine WP_u1 rfl (by first | exact Yl_bstr Try.underlying26 Try.underlying5 Try.underlying9 rfl hnd (hbd (by repeat (first | exact List.Mem.head _ | apply List.Mem.tail))) rfl | exact Yl_bstr Try.underlying26 Try.underlying5 Try.underlying9 rfl hna (hba (by repeat (first | exact List.Mem.head _ | apply List.Mem.tail))) rfl | exact Yl_bstr Try.underlying26 Try.underlying5 Try.underlying9 rfl hnb (hbb (by repeat (first | exact List.Mem.head _ | apply List.Mem.tail))) rfl) rfl rfl ?_ | refine Zpw ?_ | refine Zpu tb ?_ | refine Zps tb ?_ | refine Zpk ?_ | refine Zp0 ?_))
  refine WP_2 rfl rfl (Hv_buildSlice tb rfl rfl rfl (by decide) rfl rfl rfl rfl fun q2 => ⟨.inr (keep1 _ _), ?_⟩)
  (repeat' (first | refine Zpv tb ?_ | (refine Zpt (fun ht => ?_) (fun ht => ?_) <;> (dsimp only [cmpP, cmpN] at ht) <;> (try (exfalso; omega))) | refine Zpw ?_ | refine Zpu tb ?_ | refine Zps tb ?_ | refine Zpk ?_ | refine Zp0 ?_))
  refine WP_2 rfl rfl (Hv_append tb (k := 13) (m := 2) rfl rfl rfl rfl rfl (by decide) rfl (Has.row (List.mem_cons_self ..)) rfl rfl (by omega) (by omega) rfl fun S2 k2 hS2 => ⟨.inl rfl, ?_⟩)
  (repeat' (first | refine Zpv tb ?_ | (refine Zpt (fun ht => ?_) (fun ht => ?_) <;> (dsimp only [cmpP, cmpN] at ht) <;> (try (exfalso; omega))) | refine Zpw ?_ | refine Zpu tb ?_ | refine Zps tb ?_ | refine Zpk ?_ | refine Zp0 ?_))
  refine WP_2 rfl rfl (Hv_store tb (k := 11) rfl rfl rfl rfl rfl (Nat.le_of_ble_eq_true rfl) rfl rfl rfl ⟨.inl rfl, ?_⟩)
  (repeat' (first | refine Zpv tb ?_ | (refine Zpt (fun ht => ?_) (fun ht => ?_) <;> (dsimp only [cmpP, cmpN] at ht) <;> (try (exfalso; omega))) | refine Zpw ?_ | refine Zpu tb ?_ | refine Zps tb ?_ | refine Zpk ?_ | refine Zp0 ?_))
  (repeat' (first | refine Zv tb ?_ | (refine Zt (fun ht => ?_) (fun ht => ?_) <;> (dsimp only [cmpP, cmpN] at ht) <;> (try (exfalso; omega))) | refine Z0 ?_ | refine Zq ?_ | refine Zr ?_ | refine Zk ?_ | refine Zy ?_ | refine Zn ?_ | refine Zj ?_ | refine Ze ?_ | refine Zx ?_ | refine Zqr ?_ | refine Zqs ?_ | refine Zqc ?_ | refine Zqx ?_ | refine Zqf ?_ | refine Zm tb fun b => ?_ | refine Zb fun b => ?_ | refine Zs tb ?_ | refine WL_u (by first | exact Yl_bstr Try.underlying26 Try.underlying5 Try.underlying9 rfl hnd (hbd (by repeat (first | exact List.Mem.head _ | apply List.Mem.tail))) rfl | exact Yl_bstr Try.underlying26 Try.underlying5 Try.underlying9 rfl hna (hba (by repeat (first | exact List.Mem.head _ | apply List.Mem.tail))) rfl | exact Yl_bstr Try.underlying26 Try.underlying5 Try.underlying9 rfl hnb (hbb (by repeat (first | exact List.Mem.head _ | apply List.Mem.tail))) rfl | exact Yl_eqBT rfl rfl Try.underlying4 | exact Yl_eqStrT rfl rfl) rfl rfl ?_ | refine Zu tb ?_))
  have e : stI bw true bb B V c U cu rb R V' c' po qo (s.addR S1 S2 k1 k2 aa ab ca cb z) = (.blk bw [po, ptV bb, qo, ptV rb, .slice S1 (2 * s.p1 + 2) k1, .slice S2 (2 * s.p1 + 2) k2, .slice s.SV (2 * s.p2) s.sc, .slice s.AV (2 * s.p2) s.ac] 85 :: (bufI bb B V c U cu ++ (refI rb R V' c' ++ [.row (.slice S1 (2 * s.p1 + 2) k1) 26 1 (2 * s.p1 + 2) (s.hR ++ [.slice (adr aa) z.length ca, .slice (adr ab) z.length cb]), .row (.slice S2 (2 * s.p1 + 2) k2) 9 1 (2 * s.p1 + 2) (s.hW ++ [.string (strOfNums z), .string (strOfNums z)]), s.rowS, s.rowA]))) ++ ((s.FR ++ [byI (adr aa) z.length ca z, byI (adr ab) z.length cb z]) ++ (s.FS ++ s.FA)) := by
    unfold stI Sst.T Sst.rowR Sst.rowW
    rw [addR_hR, addR_hW, addR_FR]
    rfl
  refine ⟨_, _, .tmp rfl .nil, ⟨rfl, bb, B, V, c, U, cu, rb, R, V', c', s.addR S1 S2 k1 k2 aa ab ca cb z, hR, addR_ok _ _ _ _ _ _ _ _ _ _ hs0 hzl, rfl⟩, ?_⟩
  rw [e]
  clear e
  dsimp only [bufI, refI, List.eraseIdx_cons_succ, List.eraseIdx_cons_zero, List.set_cons_succ, List.set_cons_zero, List.nil_append, List.cons_append, List.append_eq]
  exact perm_fin2 (xs := [_, _, _, _, _, _, _, _, _, _]) (F := s.FR) (G := s.FS ++ s.FA) [_, _, _, _] _ _ (perm_picks [11, 5, 5, 5, 2, 2, 6, 6, 6, 6, 4, 3] rfl)
end Go.Proofs.Ytdnngagahhleiaa
