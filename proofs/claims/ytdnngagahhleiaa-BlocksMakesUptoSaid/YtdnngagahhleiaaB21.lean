/- BlocksMakes: sameSegment; the walk. -/
import Derived.Test.YtdnngagahhleiaaB20
import Derived.Test.YtdnngagahhleiaaB13
namespace Go.Proofs.Ytdnngagahhleiaa
open Go.Sx
attribute [local irreducible] W WL WP Hv Yl WQ At QP QF Rnd
set_option maxRecDepth 10000
set_option linter.unusedVariables false
set_option linter.unusedSimpArgs false
theorem ses_fi : fieldsI Try.prog 23 = some [(3, 0), (3, 1)] := by kernel_rfl
theorem ses_eq (a b : Ses) : EqS Try.prog 23 [.int .i64 a.1, .int .i64 a.2] [.int .i64 b.1, .int .i64 b.2] (decide (a = b)) := fun d w => by
  rw [show d + 8 = (d + 7) + 1 from rfl, equalIn_struct ses_fi, eqL_int (d := d + 6) (k := .i64) (a := a.1) (b := b.1) int_und rfl rfl (eqL_int (d := d + 6) (k := .i64) (a := a.2) (b := b.2) int_und rfl rfl eqL_nil)]
  congr 1
  obtain ⟨a1, a2⟩ := a
  obtain ⟨b1, b2⟩ := b
  simp [Bool.eq_iff_iff]
theorem ses_eqT (a : Ses) : EqS Try.prog 23 [.int .i64 a.1, .int .i64 a.2] [.int .i64 a.1, .int .i64 a.2] true := by
  have := ses_eq a a
  rwa [show decide (a = a) = true by simp] at this
theorem by_map (l : List Int) : byC.cells l = l.map (Value.int .u8) := by
  induction l with
  | nil => rfl
  | cons x l ih => rw [cells_cons, ih]; rfl
set_option maxHeartbeats 4000000 in
theorem sameSegment_t (g : Sgi) (D : List Int) (A B : Option Addr) (ca cb : Nat) (w : World) (hA : SlO w [] A D.length ca (byC.cells D)) (hB : SlO w [] B D.length cb (byC.cells D)) :
    Tr Try.prog 27 #[segV g (.slice A D.length ca), segV g (.slice B D.length cb)] w [] (fun v Γ => v = .bool true ∧ Γ = []) := by
  have hA' : ∀ K, RdA w [] K A (D.map (Value.int .u8)) := fun K => by rw [← by_map]; exact hA.rd.rd K
  have hB' : ∀ K, RdA w [] K B (D.map (Value.int .u8)) := fun K => by rw [← by_map]; exact hB.rd.rd K
  have hses := ses_eqT g.s
  refine Tr_intro (rs := [.tmp 4]) (args := [segV g (.slice A D.length ca), segV g (.slice B D.length cb)]) Try.func27 rfl rfl 111 rfl rfl ?_
  (repeat' (first | refine Zv tb ?_ | (refine Zt (fun ht => ?_) (fun ht => ?_) <;> (dsimp only [cmpP, cmpN] at ht) <;> (try (exfalso; omega))) | refine Z0 ?_ | refine Zq ?_ | refine Zr ?_ | refine Zk ?_ | refine Zy ?_ | refine Zn ?_ | refine Zj ?_ | refine Ze ?_ | refine Zx ?_ | refine Zqr ?_ | refine Zqs ?_ | refine Zqc ?_ | refine Zqx ?_ | refine Zqf ?_ | refine Zm tb fun b => ?_ | refine Zb fun b => ?_ | refine Zs tb ?_ | refine WL_u (by first | exact Yl_ldBA tb rfl rfl (by repeat (first | exact List.Mem.head _ | apply List.Mem.tail)) rfl | exact Yl_eqS rfl rfl ses_fi hses | exact Yl_bstr Try.underlying26 Try.underlying5 Try.underlying9 rfl (fun h => (hA.nil h).1) (hA' _) rfl | exact Yl_bstr Try.underlying26 Try.underlying5 Try.underlying9 rfl (fun h => (hB.nil h).1) (hB' _) rfl | exact Yl_eqStrT rfl rfl) rfl rfl ?_ | refine Zu tb ?_))
  exact ⟨_, [], .tmp rfl .nil, ⟨rfl, rfl⟩, _, List.Perm.refl _⟩
theorem Make_n (B : Option Addr) (bs : List Int) (n cap : Nat) (s : Ses) (p : Prc) (x : Pce) (w : World) (hn : bs.length = n) (h : SlO w [] B n cap (byC.cells bs)) :
    Tr Try.prog 24 #[sesV s, prcV p, pcVal x, .slice B n cap] w [] (SegL (mkG s p x bs.length) (mkD s p x bs) (mkE s p x bs.length)) := by subst hn; exact Make_t B bs cap s p x w h
theorem rMake_n (B : Option Addr) (bs : List Int) (n cap : Nat) (s : Ses) (p : Prc) (x : Pce) (w : World) (hn : bs.length = n) (h : SlO w [] B n cap (byC.cells bs)) :
    Tr Try.prog 26 #[sesV s, prcV p, pcVal x, .slice B n cap] w [] (SegL (mkG s p x bs.length) (mkD s p x bs) (mkE s p x bs.length)) := by subst hn; exact rMake_t B bs cap s p x w h
theorem mkD_len (s : Ses) (p : Prc) (x : Pce) (bs : List Int) : (mkD s p x bs).length ≤ 65536 := by
  unfold mkD
  split
  · rename_i h
    unfold mkE at h
    split at h
    · cases h
    · simp; omega
  · simp
abbrev madeV (s : Ses) (p : Prc) (x : Pce) (A : Option Addr) (n cap : Nat) : Value := .agg #[.int .i64 s.1, .int .i64 s.2, .int .i64 p.svc, .int .i64 p.size, .int .i64 p.red, .int .i64 p.mtu, .int .i64 p.every, .int .i64 x.ty, .int .i64 x.fr, .int .i64 x.to, .int .i64 x.ck, .int .i64 x.rp, .slice A n cap]
set_option maxHeartbeats 4000000 in
theorem makes_t (A : Option Addr) (bs : List Int) (cap : Nat) (s : Ses) (p : Prc) (x : Pce) (w : World) (h : SlO w [] A bs.length cap (byC.cells bs)) (hm : bs.length ≤ 1048576) :
    Tr Try.prog 7 #[madeV s p x A bs.length cap] w [] (fun v Γ => v = .bool true ∧ Γ = []) := by
  refine Tr_intro (rs := [.tmp 2]) (args := [madeV s p x A bs.length cap]) Try.func7 rfl rfl 139 rfl rfl ?_
  (repeat' (first | refine Zv tb ?_ | (refine Zt (fun ht => ?_) (fun ht => ?_) <;> (dsimp only [cmpP, cmpN] at ht) <;> (try (exfalso; omega))) | refine Z0 ?_ | refine Zq ?_ | refine Zr ?_ | refine Zk ?_ | refine Zy ?_ | refine Zn ?_ | refine Zj ?_ | refine Ze ?_ | refine Zx ?_ | refine Zqr ?_ | refine Zqs ?_ | refine Zqc ?_ | refine Zqx ?_ | refine Zqf ?_ | refine Zm tb fun b => ?_ | refine Zb fun b => ?_ | refine Zs tb ?_ | refine Zu tb ?_))
  revert b
  intro b1
  refine WL_cons rfl (Hv_call tb (Γ1 := []) rfl rfl rfl (List.Perm.refl _) (fun w hs => awake_t w) rfl ?_)
  rintro v Γ' ⟨rfl, rfl⟩
  (repeat' (first | refine Zv tb ?_ | (refine Zt (fun ht => ?_) (fun ht => ?_) <;> (dsimp only [cmpP, cmpN] at ht) <;> (try (exfalso; omega))) | refine Z0 ?_ | refine Zq ?_ | refine Zr ?_ | refine Zk ?_ | refine Zy ?_ | refine Zn ?_ | refine Zj ?_ | refine Ze ?_ | refine Zx ?_ | refine Zqr ?_ | refine Zqs ?_ | refine Zqc ?_ | refine Zqx ?_ | refine Zqf ?_ | refine Zm tb fun b => ?_ | refine Zb fun b => ?_ | refine Zs tb ?_ | refine Zu tb ?_))
  refine WL_cons rfl (Hv_call tb (Γ1 := []) rfl rfl rfl (List.Perm.refl _) (fun w hs => lent_t A bs cap w (h.call hs) hm) rfl ?_)
  rintro v Γ' ⟨q, rfl, rfl⟩
  have htk : (lentB bs).take bs.length = bs := by simp [lentB]
  have hin : ∀ {K : List It} {w1 : World}, byI (some ⟨q, 0, none⟩) (bs.length + 9) (bs.length + 9) (lentB bs) ∈ K → St w [] K w1 → SlO w1 [] (some ⟨q, 0, none⟩) bs.length (bs.length + 9) (byC.cells bs) := fun hm hs => by
    have := SlO.head byC (xs := lentB bs) (k := bs.length) (SlO.row hs hm) (Nat.le_add_right _ _)
    rwa [htk] at this
  (repeat' (first | refine Zv tb ?_ | (refine Zt (fun ht => ?_) (fun ht => ?_) <;> (dsimp only [cmpP, cmpN] at ht) <;> (try (exfalso; omega))) | refine Z0 ?_ | refine Zq ?_ | refine Zr ?_ | refine Zk ?_ | refine Zy ?_ | refine Zn ?_ | refine Zj ?_ | refine Ze ?_ | refine Zx ?_ | refine Zqr ?_ | refine Zqs ?_ | refine Zqc ?_ | refine Zqx ?_ | refine Zqf ?_ | refine Zm tb fun b => ?_ | refine Zb fun b => ?_ | refine Zs tb ?_ | refine WL_u (by first | exact Yl_ldBA tb rfl rfl (by repeat (first | exact List.Mem.head _ | apply List.Mem.tail)) rfl | exact Yl_sliceH tb bs.length rfl rfl rfl rfl (by omega)) rfl rfl ?_ | refine Zu tb ?_))
  refine WL_cons rfl (Hv_call tb (Γ1 := []) rfl rfl rfl (List.Perm.refl _) (fun w hs => Make_t (some ⟨q, 0, none⟩) bs (bs.length + 9) s p x w (hin (by repeat (first | exact List.Mem.head _ | apply List.Mem.tail)) hs)) rfl ?_)
  rintro v Γ' ⟨V1, c1, rfl, rfl⟩
  refine WL_fact (fun w hs => row_shape hs (List.mem_cons_self ..)) ?_
  rintro ⟨A1, rfl⟩
  obtain ⟨D1, hD1⟩ : ∃ D1, D1 = mkD s p x bs := ⟨_, rfl⟩
  obtain ⟨g1, hg1⟩ : ∃ g1, g1 = mkG s p x bs.length := ⟨_, rfl⟩
  obtain ⟨e1, he1⟩ : ∃ e1, e1 = mkE s p x bs.length := ⟨_, rfl⟩
  have hk1 := mkD_len s p x bs
  rw [← hD1, ← hg1, ← he1]
  rw [← hD1] at hk1
  (repeat' (first | refine Zv tb ?_ | (refine Zt (fun ht => ?_) (fun ht => ?_) <;> (dsimp only [cmpP, cmpN] at ht) <;> (try (exfalso; omega))) | refine Z0 ?_ | refine Zq ?_ | refine Zr ?_ | refine Zk ?_ | refine Zy ?_ | refine Zn ?_ | refine Zj ?_ | refine Ze ?_ | refine Zx ?_ | refine Zqr ?_ | refine Zqs ?_ | refine Zqc ?_ | refine Zqx ?_ | refine Zqf ?_ | refine Zm tb fun b => ?_ | refine Zb fun b => ?_ | refine Zs tb ?_ | refine WL_u (by first | exact Yl_ldBA tb rfl rfl (by repeat (first | exact List.Mem.head _ | apply List.Mem.tail)) rfl) rfl rfl ?_ | refine Zu tb ?_))
  revert b
  intro b6
  refine WL_cons rfl (Hv_call tb (Γ1 := []) rfl rfl rfl (List.Perm.refl _) (fun w hs => Make_t (some ⟨q, 0, none⟩) bs (bs.length + 9) s p x w (hin (by repeat (first | exact List.Mem.head _ | apply List.Mem.tail)) hs)) rfl ?_)
  rw [← hD1, ← hg1, ← he1]
  rintro v Γ' ⟨V2, c2, rfl, rfl⟩
  refine WL_fact (fun w hs => row_shape hs (List.mem_cons_self ..)) ?_
  rintro ⟨A2, rfl⟩
  (repeat' (first | refine Zv tb ?_ | (refine Zt (fun ht => ?_) (fun ht => ?_) <;> (dsimp only [cmpP, cmpN] at ht) <;> (try (exfalso; omega))) | refine Z0 ?_ | refine Zq ?_ | refine Zr ?_ | refine Zk ?_ | refine Zy ?_ | refine Zn ?_ | refine Zj ?_ | refine Ze ?_ | refine Zx ?_ | refine Zqr ?_ | refine Zqs ?_ | refine Zqc ?_ | refine Zqx ?_ | refine Zqf ?_ | refine Zm tb fun b => ?_ | refine Zb fun b => ?_ | refine Zs tb ?_ | refine WL_u (by first | exact Yl_ldBA tb rfl rfl (by repeat (first | exact List.Mem.head _ | apply List.Mem.tail)) rfl) rfl rfl ?_ | refine Zu tb ?_))
  revert b
  intro b8
  refine WL_cons rfl (Hv_call tb  rfl rfl rfl (perm_picks [4] rfl) (fun w hs => back_t q A bs (bs.length + 9) cap w (h.callP hs (perm_picks [4] rfl)) hm) rfl ?_)
  rintro v Γ' ⟨rfl, Z, hZ, rfl⟩
  obtain ⟨b2, hb2⟩ : ∃ b2, b2 = Z.take bs.length := ⟨_, rfl⟩
  have hl2 : b2.length = bs.length := by rw [hb2]; simp; omega
  have hin2 : ∀ {K : List It} {w1 : World}, byI (some ⟨q, 0, none⟩) (bs.length + 9) (bs.length + 9) Z ∈ K → St w [] K w1 → SlO w1 [] (some ⟨q, 0, none⟩) bs.length (bs.length + 9) (byC.cells b2) := fun hm hs => by
    have := SlO.head byC (xs := Z) (k := bs.length) (SlO.row hs hm) (Nat.le_add_right _ _)
    rwa [← hb2] at this
  (repeat' (first | refine Zv tb ?_ | (refine Zt (fun ht => ?_) (fun ht => ?_) <;> (dsimp only [cmpP, cmpN] at ht) <;> (try (exfalso; omega))) | refine Z0 ?_ | refine Zq ?_ | refine Zr ?_ | refine Zk ?_ | refine Zy ?_ | refine Zn ?_ | refine Zj ?_ | refine Ze ?_ | refine Zx ?_ | refine Zqr ?_ | refine Zqs ?_ | refine Zqc ?_ | refine Zqx ?_ | refine Zqf ?_ | refine Zm tb fun b => ?_ | refine Zb fun b => ?_ | refine Zs tb ?_ | refine WL_u (by first | exact Yl_ldBA tb rfl rfl (by repeat (first | exact List.Mem.head _ | apply List.Mem.tail)) rfl) rfl rfl ?_ | refine Zu tb ?_))
  refine WL_cons rfl (Hv_call tb (Γ1 := []) rfl rfl rfl (List.Perm.refl _) (fun w hs => rMake_t A bs cap s p x w (h.call hs)) rfl ?_)
  rw [← hD1, ← hg1, ← he1]
  rintro v Γ' ⟨V3, c3, rfl, rfl⟩
  (repeat' (first | refine Zv tb ?_ | (refine Zt (fun ht => ?_) (fun ht => ?_) <;> (dsimp only [cmpP, cmpN] at ht) <;> (try (exfalso; omega))) | refine Z0 ?_ | refine Zq ?_ | refine Zr ?_ | refine Zk ?_ | refine Zy ?_ | refine Zn ?_ | refine Zj ?_ | refine Ze ?_ | refine Zx ?_ | refine Zqr ?_ | refine Zqs ?_ | refine Zqc ?_ | refine Zqx ?_ | refine Zqf ?_ | refine Zm tb fun b => ?_ | refine Zb fun b => ?_ | refine Zs tb ?_ | refine Zu tb ?_))
  revert b
  intro b11
  refine WL_cons rfl (Hv_call tb (Γ1 := []) rfl rfl rfl (List.Perm.refl _) (fun w hs => sameSegment_t g1 D1 _ V3 c1 c3 w (SlO.row hs (by repeat (first | exact List.Mem.head _ | apply List.Mem.tail))) (SlO.row hs (by repeat (first | exact List.Mem.head _ | apply List.Mem.tail)))) rfl ?_)
  rintro v Γ' ⟨rfl, rfl⟩
  (repeat' (first | refine Zv tb ?_ | (refine Zt (fun ht => ?_) (fun ht => ?_) <;> (dsimp only [cmpP, cmpN] at ht) <;> (try (exfalso; omega))) | refine Z0 ?_ | refine Zq ?_ | refine Zr ?_ | refine Zk ?_ | refine Zy ?_ | refine Zn ?_ | refine Zj ?_ | refine Ze ?_ | refine Zx ?_ | refine Zqr ?_ | refine Zqs ?_ | refine Zqc ?_ | refine Zqx ?_ | refine Zqf ?_ | refine Zm tb fun b => ?_ | refine Zb fun b => ?_ | refine Zs tb ?_ | refine Zu tb ?_))
  refine WL_cons rfl (Hv_call tb (Γ1 := []) rfl rfl rfl (List.Perm.refl _) (fun w hs => sameSegment_t g1 D1 _ V3 c2 c3 w (SlO.row hs (by repeat (first | exact List.Mem.head _ | apply List.Mem.tail))) (SlO.row hs (by repeat (first | exact List.Mem.head _ | apply List.Mem.tail)))) rfl ?_)
  rintro v Γ' ⟨rfl, rfl⟩
  (repeat' (first | refine Zv tb ?_ | (refine Zt (fun ht => ?_) (fun ht => ?_) <;> (dsimp only [cmpP, cmpN] at ht) <;> (try (exfalso; omega))) | refine Z0 ?_ | refine Zq ?_ | refine Zr ?_ | refine Zk ?_ | refine Zy ?_ | refine Zn ?_ | refine Zj ?_ | refine Ze ?_ | refine Zx ?_ | refine Zqr ?_ | refine Zqs ?_ | refine Zqc ?_ | refine Zqx ?_ | refine Zqf ?_ | refine Zm tb fun b => ?_ | refine Zb fun b => ?_ | refine Zs tb ?_ | refine WL_u (by first | exact Yl_ldBA tb rfl rfl (by repeat (first | exact List.Mem.head _ | apply List.Mem.tail)) rfl) rfl rfl ?_ | refine Zu tb ?_))
  obtain ⟨D2, hD2⟩ : ∃ D2, D2 = mkD s p x b2 := ⟨_, rfl⟩
  obtain ⟨g2, hg2⟩ : ∃ g2, g2 = mkG s p x b2.length := ⟨_, rfl⟩
  obtain ⟨e2, he2⟩ : ∃ e2, e2 = mkE s p x b2.length := ⟨_, rfl⟩
  have hk2 := mkD_len s p x b2
  rw [← hD2] at hk2
  refine WL_cons rfl (Hv_call tb (Γ1 := []) rfl rfl rfl (List.Perm.refl _) (fun w hs => rMake_n (some ⟨q, 0, none⟩) b2 bs.length (bs.length + 9) s p x w hl2 (hin2 (by repeat (first | exact List.Mem.head _ | apply List.Mem.tail)) hs)) rfl ?_)
  rw [← hD2, ← hg2, ← he2]
  rintro v Γ' ⟨V4, c4, rfl, rfl⟩
  (repeat' (first | refine Zv tb ?_ | (refine Zt (fun ht => ?_) (fun ht => ?_) <;> (dsimp only [cmpP, cmpN] at ht) <;> (try (exfalso; omega))) | refine Z0 ?_ | refine Zq ?_ | refine Zr ?_ | refine Zk ?_ | refine Zy ?_ | refine Zn ?_ | refine Zj ?_ | refine Ze ?_ | refine Zx ?_ | refine Zqr ?_ | refine Zqs ?_ | refine Zqc ?_ | refine Zqx ?_ | refine Zqf ?_ | refine Zm tb fun b => ?_ | refine Zb fun b => ?_ | refine Zs tb ?_ | refine WL_u (by first | exact Yl_ldBA tb rfl rfl (by repeat (first | exact List.Mem.head _ | apply List.Mem.tail)) rfl) rfl rfl ?_ | refine Zu tb ?_))
  revert b
  intro b15
  refine WL_cons rfl (Hv_call tb (Γ1 := []) rfl rfl rfl (List.Perm.refl _) (fun w hs => Make_n (some ⟨q, 0, none⟩) b2 bs.length (bs.length + 9) s p x w hl2 (hin2 (by repeat (first | exact List.Mem.head _ | apply List.Mem.tail)) hs)) rfl ?_)
  rw [← hD2, ← hg2, ← he2]
  rintro v Γ' ⟨V5, c5, rfl, rfl⟩
  refine WL_fact (fun w hs => row_shape hs (List.mem_cons_self ..)) ?_
  rintro ⟨A5, rfl⟩
  (repeat' (first | refine Zv tb ?_ | (refine Zt (fun ht => ?_) (fun ht => ?_) <;> (dsimp only [cmpP, cmpN] at ht) <;> (try (exfalso; omega))) | refine Z0 ?_ | refine Zq ?_ | refine Zr ?_ | refine Zk ?_ | refine Zy ?_ | refine Zn ?_ | refine Zj ?_ | refine Ze ?_ | refine Zx ?_ | refine Zqr ?_ | refine Zqs ?_ | refine Zqc ?_ | refine Zqx ?_ | refine Zqf ?_ | refine Zm tb fun b => ?_ | refine Zb fun b => ?_ | refine Zs tb ?_ | refine Zu tb ?_))
  revert b
  intro b17
  refine WL_cons rfl (Hv_call tb (Γ1 := []) rfl rfl rfl (List.Perm.refl _) (fun w hs => sameSegment_t g2 D2 _ V4 c5 c4 w (SlO.row hs (by repeat (first | exact List.Mem.head _ | apply List.Mem.tail))) (SlO.row hs (by repeat (first | exact List.Mem.head _ | apply List.Mem.tail)))) rfl ?_)
  rintro v Γ' ⟨rfl, rfl⟩
  (repeat' (first | refine Zv tb ?_ | (refine Zt (fun ht => ?_) (fun ht => ?_) <;> (dsimp only [cmpP, cmpN] at ht) <;> (try (exfalso; omega))) | refine Z0 ?_ | refine Zq ?_ | refine Zr ?_ | refine Zk ?_ | refine Zy ?_ | refine Zn ?_ | refine Zj ?_ | refine Ze ?_ | refine Zx ?_ | refine Zqr ?_ | refine Zqs ?_ | refine Zqc ?_ | refine Zqx ?_ | refine Zqf ?_ | refine Zm tb fun b => ?_ | refine Zb fun b => ?_ | refine Zs tb ?_ | refine Zu tb ?_))
  all_goals first | (exfalso; exact ht rfl) | skip
  clear ht
  refine WL_cons rfl (Hv_buildSlice tb rfl rfl rfl (by decide) rfl rfl rfl rfl fun r => ?_)
  (repeat' (first | refine Zv tb ?_ | (refine Zt (fun ht => ?_) (fun ht => ?_) <;> (dsimp only [cmpP, cmpN] at ht) <;> (try (exfalso; omega))) | refine Z0 ?_ | refine Zq ?_ | refine Zr ?_ | refine Zk ?_ | refine Zy ?_ | refine Zn ?_ | refine Zj ?_ | refine Ze ?_ | refine Zx ?_ | refine Zqr ?_ | refine Zqs ?_ | refine Zqc ?_ | refine Zqx ?_ | refine Zqf ?_ | refine Zm tb fun b => ?_ | refine Zb fun b => ?_ | refine Zs tb ?_ | refine Zu tb ?_))
  refine WL_cons rfl (Hv_call tb  rfl rfl rfl (perm_picks [0, 10, 8, 1] rfl) (fun w hs => owned_t (some ⟨r, 0, none⟩) 3 3 (f3 A1 A2 A5) (f3 D1.length D1.length D2.length) (f3 c1 c2 c5) (f3 D1 D1 D2) w (by omega) (fun i hi => by unfold f3; split <;> omega) (fun i hi => by unfold f3; split <;> rfl)) rfl ?_)
  rintro v Γ' ⟨rfl, rfl⟩
  (repeat' (first | refine Zv tb ?_ | (refine Zt (fun ht => ?_) (fun ht => ?_) <;> (dsimp only [cmpP, cmpN] at ht) <;> (try (exfalso; omega))) | refine Z0 ?_ | refine Zq ?_ | refine Zr ?_ | refine Zk ?_ | refine Zy ?_ | refine Zn ?_ | refine Zj ?_ | refine Ze ?_ | refine Zx ?_ | refine Zqr ?_ | refine Zqs ?_ | refine Zqc ?_ | refine Zqx ?_ | refine Zqf ?_ | refine Zm tb fun b => ?_ | refine Zb fun b => ?_ | refine Zs tb ?_ | refine Zu tb ?_))
  exact ⟨_, [], .tmp rfl .nil, ⟨rfl, rfl⟩, _, List.Perm.refl _⟩
end Go.Proofs.Ytdnngagahhleiaa
