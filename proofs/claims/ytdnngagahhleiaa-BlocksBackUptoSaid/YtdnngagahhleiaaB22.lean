/- blocks: a buffer: Have, Held, Look, Read, Drop. -/
import Derived.Test.YtdnngagahhleiaaB7
import Derived.Test.YtdnngagahhleiaaL7
import Derived.Test.YtdnngagahhleiaaSx16
namespace Go.Proofs.Ytdnngagahhleiaa
open Go.Sx
attribute [local irreducible] W WL WP Hv Yl WQ At QP QF Rnd
set_option maxRecDepth 10000
set_option linter.unusedVariables false
set_option linter.unusedSimpArgs false
theorem Have_t (bb : Nat) (B : Bf) (V U : Option Addr) (c cu : Nat) (w : World) (hB : WB B) :
    Tr Try.prog 36 #[.pointer (some ⟨bb, 0, none⟩)] w (bufI bb B V c U cu) (fun v Γ => ∃ A ca, v = .slice A B.came.length ca ∧ Γ = bufI bb B V c U cu ++ [.row (.slice A B.came.length ca) 61 2 B.came.length (spC.cells B.came)]) := by
  obtain ⟨cm, bs, dr⟩ := B
  have hr := hB.right.1
  dsimp only at hr ⊢
  refine Tr_intro (rs := [.tmp 2]) (args := [.pointer (some ⟨bb, 0, none⟩)]) Try.func36 rfl rfl 8 rfl rfl ?_
  refine W_fact (p := V = none → cm.length = 0 ∧ c = 0) (fun w hs => row_nil (v := .slice V cm.length c) hs (List.mem_cons_of_mem _ (List.mem_cons_self ..))) fun hV => ?_
  refine W_nilrow 61 2 ?_
  (repeat' (first | refine Zv tb ?_ | (refine Zt (fun ht => ?_) (fun ht => ?_) <;> (dsimp only [cmpP, cmpN] at ht) <;> (try (exfalso; omega))) | refine Z0 ?_ | refine Zq ?_ | refine Zr ?_ | refine Zk ?_ | refine Zy ?_ | refine Zn ?_ | refine Zj ?_ | refine Ze ?_ | refine Zx ?_ | refine Zqr ?_ | refine Zqs ?_ | refine Zqc ?_ | refine Zqx ?_ | refine Zqf ?_ | refine Zm tb fun b => ?_ | refine Zb fun b => ?_ | refine Zs tb ?_ | refine Zu tb ?_))
  refine WL_cons rfl (Hv_appendR tb (k := 0) (m := cm.length) (news := spC.cells cm) rfl rfl rfl rfl rfl (by decide) rfl hV (RdA.row (by repeat (first | exact List.Mem.head _ | apply List.Mem.tail)) (fun h => ?_)) (by rw [cells_length]; rfl) (spC_all cm) (by omega) (by omega) rfl fun A ca => ?_)
  · have := (hV h).1
    rw [List.eq_nil_of_length_eq_zero this]; rfl
  rw [Nat.zero_add, List.nil_append]
  (repeat' (first | refine Zv tb ?_ | (refine Zt (fun ht => ?_) (fun ht => ?_) <;> (dsimp only [cmpP, cmpN] at ht) <;> (try (exfalso; omega))) | refine Z0 ?_ | refine Zq ?_ | refine Zr ?_ | refine Zk ?_ | refine Zy ?_ | refine Zn ?_ | refine Zj ?_ | refine Ze ?_ | refine Zx ?_ | refine Zqr ?_ | refine Zqs ?_ | refine Zqc ?_ | refine Zqx ?_ | refine Zqf ?_ | refine Zm tb fun b => ?_ | refine Zb fun b => ?_ | refine Zs tb ?_ | refine Zu tb ?_))
  exact ⟨_, _, .tmp rfl .nil, ⟨A, ca, rfl, rfl⟩, _, (perm_picks [1, 1, 1, 0] rfl)⟩
def heldF (B : Bf) : Int := if B.dr = true then 0 else size B.came
theorem Held_t (bb : Nat) (B : Bf) (V U : Option Addr) (c cu : Nat) (w : World) (hB : WB B) :
    Tr Try.prog 38 #[.pointer (some ⟨bb, 0, none⟩)] w (bufI bb B V c U cu) (fun v Γ => v = .int .i64 (heldF B) ∧ Γ = bufI bb B V c U cu) := by
  obtain ⟨cm, bs, dr⟩ := B
  refine Tr_intro (rs := [.tmp 2]) (args := [.pointer (some ⟨bb, 0, none⟩)]) Try.func38 rfl rfl 12 rfl rfl ?_
  cases dr
  · (repeat' (first | refine Zv tb ?_ | (refine Zt (fun ht => ?_) (fun ht => ?_) <;> (dsimp only [cmpP, cmpN] at ht) <;> (try (exfalso; omega))) | refine Z0 ?_ | refine Zq ?_ | refine Zr ?_ | refine Zk ?_ | refine Zy ?_ | refine Zn ?_ | refine Zj ?_ | refine Ze ?_ | refine Zx ?_ | refine Zqr ?_ | refine Zqs ?_ | refine Zqc ?_ | refine Zqx ?_ | refine Zqf ?_ | refine Zm tb fun b => ?_ | refine Zb fun b => ?_ | refine Zs tb ?_ | refine Zu tb ?_))
    refine WL_cons rfl (Hv_call tb (Γ1 := []) rfl rfl rfl (List.Perm.refl _) (fun w hs => Size_t V cm c w (SlO.row hs (by repeat (first | exact List.Mem.head _ | apply List.Mem.tail)))) rfl ?_)
    rintro v Γ' ⟨rfl, rfl⟩
    (repeat' (first | refine Zv tb ?_ | (refine Zt (fun ht => ?_) (fun ht => ?_) <;> (dsimp only [cmpP, cmpN] at ht) <;> (try (exfalso; omega))) | refine Z0 ?_ | refine Zq ?_ | refine Zr ?_ | refine Zk ?_ | refine Zy ?_ | refine Zn ?_ | refine Zj ?_ | refine Ze ?_ | refine Zx ?_ | refine Zqr ?_ | refine Zqs ?_ | refine Zqc ?_ | refine Zqx ?_ | refine Zqf ?_ | refine Zm tb fun b => ?_ | refine Zb fun b => ?_ | refine Zs tb ?_ | refine Zu tb ?_))
    exact ⟨_, _, .tmp rfl .nil, ⟨rfl, rfl⟩, keepAll _⟩
  · (repeat' (first | refine Zv tb ?_ | (refine Zt (fun ht => ?_) (fun ht => ?_) <;> (dsimp only [cmpP, cmpN] at ht) <;> (try (exfalso; omega))) | refine Z0 ?_ | refine Zq ?_ | refine Zr ?_ | refine Zk ?_ | refine Zy ?_ | refine Zn ?_ | refine Zj ?_ | refine Ze ?_ | refine Zx ?_ | refine Zqr ?_ | refine Zqs ?_ | refine Zqc ?_ | refine Zqx ?_ | refine Zqf ?_ | refine Zm tb fun b => ?_ | refine Zb fun b => ?_ | refine Zs tb ?_ | refine Zu tb ?_))
    exact ⟨_, _, .tmp rfl .nil, ⟨rfl, rfl⟩, keepAll _⟩
theorem Look_t (bb : Nat) (B : Bf) (V U D : Option Addr) (c cu dc : Nat) (at' : Int) (data : List Int) (w : World) (hB : WB B) (hD : SlO w (fps (bufI bb B V c U cu)) D data.length dc (byC.cells data)) :
    Tr Try.prog 60 #[.pointer (some ⟨bb, 0, none⟩), .int .i64 at', .slice D data.length dc] w (bufI bb B V c U cu)
      (fun v Γ => v = tup [.int .i64 (lookF B at' data).2.1, .int .i64 (lookF B at' data).2.2.1, .int .i64 (lookF B at' data).2.2.2] ∧ Γ = bufI bb B V c U cu) := by
  refine Tr_intro (rs := [.tmp 6, .tmp 7, .tmp 8]) (args := [.pointer (some ⟨bb, 0, none⟩), .int .i64 at', .slice D data.length dc]) Try.func60 rfl rfl 21 rfl rfl ?_
  (repeat' (first | refine Zv tb ?_ | (refine Zt (fun ht => ?_) (fun ht => ?_) <;> (dsimp only [cmpP, cmpN] at ht) <;> (try (exfalso; omega))) | refine Z0 ?_ | refine Zq ?_ | refine Zr ?_ | refine Zk ?_ | refine Zy ?_ | refine Zn ?_ | refine Zj ?_ | refine Ze ?_ | refine Zx ?_ | refine Zqr ?_ | refine Zqs ?_ | refine Zqc ?_ | refine Zqx ?_ | refine Zqf ?_ | refine Zm tb fun b => ?_ | refine Zb fun b => ?_ | refine Zs tb ?_ | refine Zu tb ?_))
  refine WL_cons rfl (Hv_call tb  rfl rfl rfl (by rw [List.append_nil]) (fun w hs => look_t bb B V U D c cu dc at' data w hB (hD.callP hs (by rw [List.append_nil]))) rfl ?_)
  rintro v Γ' ⟨A, ca, rfl, rfl⟩
  (repeat' (first | refine Zv tb ?_ | (refine Zt (fun ht => ?_) (fun ht => ?_) <;> (dsimp only [cmpP, cmpN] at ht) <;> (try (exfalso; omega))) | refine Z0 ?_ | refine Zq ?_ | refine Zr ?_ | refine Zk ?_ | refine Zy ?_ | refine Zn ?_ | refine Zj ?_ | refine Ze ?_ | refine Zx ?_ | refine Zqr ?_ | refine Zqs ?_ | refine Zqc ?_ | refine Zqx ?_ | refine Zqf ?_ | refine Zm tb fun b => ?_ | refine Zb fun b => ?_ | refine Zs tb ?_ | refine Zu tb ?_))
  exact ⟨_, _, .tmp rfl (.tmp rfl (.tmp rfl .nil)), ⟨rfl, rfl⟩, _, perm_picks [0, 0, 0] rfl⟩
theorem Drop_t (bb : Nat) (B : Bf) (V U : Option Addr) (c cu : Nat) (w : World) :
    Tr Try.prog 66 #[.pointer (some ⟨bb, 0, none⟩)] w (bufI bb B V c U cu) (fun v Γ => Γ = bufI bb ⟨B.came, [], true⟩ V c none 0) := by
  obtain ⟨cm, bs, dr⟩ := B
  dsimp only
  refine Tr_intro (rs := []) (args := [.pointer (some ⟨bb, 0, none⟩)]) Try.func66 rfl rfl 8 rfl rfl ?_
  refine W_nilrow 5 1 ?_
  (repeat' (first | refine Zv tb ?_ | (refine Zt (fun ht => ?_) (fun ht => ?_) <;> (dsimp only [cmpP, cmpN] at ht) <;> (try (exfalso; omega))) | refine Z0 ?_ | refine Zq ?_ | refine Zr ?_ | refine Zk ?_ | refine Zy ?_ | refine Zn ?_ | refine Zj ?_ | refine Ze ?_ | refine Zx ?_ | refine Zqr ?_ | refine Zqs ?_ | refine Zqc ?_ | refine Zqx ?_ | refine Zqf ?_ | refine Zm tb fun b => ?_ | refine Zb fun b => ?_ | refine Zs tb ?_ | refine Zu tb ?_))
  exact ⟨_, _, .nil, rfl, _, perm_picks [1, 1, 0] rfl⟩
set_option maxHeartbeats 1000000 in
theorem Read_t (bb : Nat) (B : Bf) (V U : Option Addr) (c cu : Nat) (s : Sp) (w : World) (hB : WB B) :
    Tr Try.prog 37 #[.pointer (some ⟨bb, 0, none⟩), spV s] w (bufI bb B V c U cu) (fun v Γ => ∃ A ca, v = tup [.slice A (readF B s).1.length ca, .bool (readF B s).2] ∧ Γ = bufI bb B V c U cu ++ [byI A (readF B s).1.length ca (readF B s).1]) := by
  obtain ⟨cm, bs, dr⟩ := B
  have hr := hB.right
  have hlen := hB.len
  have hhas := hB.has
  dsimp only at hr hlen hhas ⊢
  refine Tr_intro (rs := [.tmp 4, .tmp 5]) (args := [.pointer (some ⟨bb, 0, none⟩), spV s]) Try.func37 rfl rfl 48 rfl rfl ?_
  refine W_nilrow 5 1 ?_
  have bad : ¬ (dr = false ∧ 0 ≤ s.1 ∧ s.1 < s.2 ∧ covers cm s = true) → readF ⟨cm, bs, dr⟩ s = ([], false) := fun h => if_neg h
  (repeat' (first | refine Zv tb ?_ | (refine Zt (fun ht => ?_) (fun ht => ?_) <;> (dsimp only [cmpP, cmpN] at ht) <;> (try (exfalso; omega))) | refine Z0 ?_ | refine Zq ?_ | refine Zr ?_ | refine Zk ?_ | refine Zy ?_ | refine Zn ?_ | refine Zj ?_ | refine Ze ?_ | refine Zx ?_ | refine Zqr ?_ | refine Zqs ?_ | refine Zqc ?_ | refine Zqx ?_ | refine Zqf ?_ | refine Zm tb fun b => ?_ | refine Zb fun b => ?_ | refine Zs tb ?_ | refine Zu tb ?_))
  (repeat refine W_seq ?_); refine W_regionD tb [] _ [(0, 0), (1, 0), (2, 0), (3, 1), (4, 0), (5, 0), (6, 1), (7, 0), (8, 0), (9, 0), (10, 0), (11, 1), (12, 0), (13, 1), (14, 0), (15, 0), (16, 0), (17, 0), (18, 0), (19, 0), (20, 1), (21, 1), (22, 2), (23, 0), (24, 0)] (by kernel_rfl) (keepAll _) ?_
  cases hd : dr
  rotate_left
  · rw [← hd, bad (by rw [hd]; rintro ⟨h, _⟩; cases h), hd]
    (repeat' (first | refine Zpv tb ?_ | (refine Zpt (fun ht => ?_) (fun ht => ?_) <;> (dsimp only [cmpP, cmpN] at ht) <;> (try (exfalso; omega))) | refine Zpw ?_ | refine Zpu tb ?_ | refine Zps tb ?_ | refine Zpk ?_ | refine Zp0 ?_))
    (repeat' (first | refine Zv tb ?_ | (refine Zt (fun ht => ?_) (fun ht => ?_) <;> (dsimp only [cmpP, cmpN] at ht) <;> (try (exfalso; omega))) | refine Z0 ?_ | refine Zq ?_ | refine Zr ?_ | refine Zk ?_ | refine Zy ?_ | refine Zn ?_ | refine Zj ?_ | refine Ze ?_ | refine Zx ?_ | refine Zqr ?_ | refine Zqs ?_ | refine Zqc ?_ | refine Zqx ?_ | refine Zqf ?_ | refine Zm tb fun b => ?_ | refine Zb fun b => ?_ | refine Zs tb ?_ | refine Zu tb ?_))
    exact ⟨_, _, .tmp rfl (.tmp rfl .nil), ⟨none, 0, rfl, rfl⟩, _, perm_picks [2, 2, 2, 1] rfl⟩
  subst hd
  by_cases h1 : 0 ≤ s.1 ∧ s.1 < s.2
  rotate_left
  · rw [bad (fun h => h1 ⟨h.2.1, h.2.2.1⟩)]
    (repeat' (first | refine Zpv tb ?_ | (refine Zpt (fun ht => ?_) (fun ht => ?_) <;> (dsimp only [cmpP, cmpN] at ht) <;> (try (exfalso; omega))) | refine Zpw ?_ | refine Zpu tb ?_ | refine Zps tb ?_ | refine Zpk ?_ | refine Zp0 ?_))
    all_goals (repeat' (first | refine Zv tb ?_ | (refine Zt (fun ht => ?_) (fun ht => ?_) <;> (dsimp only [cmpP, cmpN] at ht) <;> (try (exfalso; omega))) | refine Z0 ?_ | refine Zq ?_ | refine Zr ?_ | refine Zk ?_ | refine Zy ?_ | refine Zn ?_ | refine Zj ?_ | refine Ze ?_ | refine Zx ?_ | refine Zqr ?_ | refine Zqs ?_ | refine Zqc ?_ | refine Zqx ?_ | refine Zqf ?_ | refine Zm tb fun b => ?_ | refine Zb fun b => ?_ | refine Zs tb ?_ | refine Zu tb ?_))
    all_goals exact ⟨_, _, .tmp rfl (.tmp rfl .nil), ⟨none, 0, rfl, rfl⟩, _, perm_picks [2, 2, 2, 1] rfl⟩
  (repeat' (first | refine Zpv tb ?_ | (refine Zpt (fun ht => ?_) (fun ht => ?_) <;> (dsimp only [cmpP, cmpN] at ht) <;> (try (exfalso; omega))) | refine Zpw ?_ | refine Zpu tb ?_ | refine Zps tb ?_ | refine Zpk ?_ | refine Zp0 ?_))
  refine WP_2 rfl rfl (Hv_call tb (Γ1 := []) rfl rfl rfl (List.Perm.refl _) (fun w hs => Covers_t V cm c s w (SlO.row hs (by repeat (first | exact List.Mem.head _ | apply List.Mem.tail)))) rfl ?_)
  rintro v Γ' ⟨rfl, rfl⟩
  refine ⟨.inr (keepAll _), ?_⟩
  cases hc : covers cm s
  · rw [bad (fun h => by rw [hc] at h; cases h.2.2.2)]
    (repeat' (first | refine Zpv tb ?_ | (refine Zpt (fun ht => ?_) (fun ht => ?_) <;> (dsimp only [cmpP, cmpN] at ht) <;> (try (exfalso; omega))) | refine Zpw ?_ | refine Zpu tb ?_ | refine Zps tb ?_ | refine Zpk ?_ | refine Zp0 ?_))
    (repeat' (first | refine Zv tb ?_ | (refine Zt (fun ht => ?_) (fun ht => ?_) <;> (dsimp only [cmpP, cmpN] at ht) <;> (try (exfalso; omega))) | refine Z0 ?_ | refine Zq ?_ | refine Zr ?_ | refine Zk ?_ | refine Zy ?_ | refine Zn ?_ | refine Zj ?_ | refine Ze ?_ | refine Zx ?_ | refine Zqr ?_ | refine Zqs ?_ | refine Zqc ?_ | refine Zqx ?_ | refine Zqf ?_ | refine Zm tb fun b => ?_ | refine Zb fun b => ?_ | refine Zs tb ?_ | refine Zu tb ?_))
    exact ⟨_, _, .tmp rfl (.tmp rfl .nil), ⟨none, 0, rfl, rfl⟩, _, perm_picks [2, 2, 2, 1] rfl⟩
  have hm := (covers_mem hr h1.1 h1.2).1 hc
  have hle := hhas rfl _ (hm (s.2 - 1) (by omega) (by omega))
  obtain ⟨D, hD⟩ : ∃ D, D = (bs.drop s.1.toNat).take (s.2 - s.1).toNat := ⟨_, rfl⟩
  have hDl : D.length = (s.2 - s.1).toNat := by rw [hD]; simp; omega
  have e : readF ⟨cm, bs, false⟩ s = (D, true) := by rw [hD]; exact if_pos ⟨rfl, h1.1, h1.2, hc⟩
  rw [e]
  (repeat' (first | refine Zpv tb ?_ | (refine Zpt (fun ht => ?_) (fun ht => ?_) <;> (dsimp only [cmpP, cmpN] at ht) <;> (try (exfalso; omega))) | refine Zpw ?_ | refine Zpu tb ?_ | refine Zps tb ?_ | refine Zpk ?_ | refine Zp0 ?_))
  (repeat' (first | refine Zv tb ?_ | (refine Zt (fun ht => ?_) (fun ht => ?_) <;> (dsimp only [cmpP, cmpN] at ht) <;> (try (exfalso; omega))) | refine Z0 ?_ | refine Zq ?_ | refine Zr ?_ | refine Zk ?_ | refine Zy ?_ | refine Zn ?_ | refine Zj ?_ | refine Ze ?_ | refine Zx ?_ | refine Zqr ?_ | refine Zqs ?_ | refine Zqc ?_ | refine Zqx ?_ | refine Zqf ?_ | refine Zm tb fun b => ?_ | refine Zb fun b => ?_ | refine Zs tb ?_ | refine Zu tb ?_))
  refine WL_cons rfl (Hv_makeSlice tb (len := D.length) rfl rfl rfl (by decide) rfl rfl (by omega) (by omega) (by omega) (by omega) rfl fun q => ?_)
  rw [cells_rep byC (z := [.int .u8 0]) (x := (0 : Int)) rfl]
  refine WL_fact (p := bs.length ≤ cu ∧ (U = none → byC.cells bs = [])) (fun w hs => ?_) ?_
  · have h2 := hs.row_fact (A := U) (m := bs.length) (by repeat (first | exact List.Mem.head _ | apply List.Mem.tail))
    exact ⟨h2.2.2.1, fun h => (h2.1 h).1⟩
  rintro ⟨hcu, hUn⟩
  have hsrc : ∀ {w0 : World} {X : List Nat} {K : List It}, byI U bs.length cu bs ∈ K → RdA w0 X K (sA U cu s.1.toNat 1) (byC.cells D) := fun hK => by rw [hD]; exact rd_seg hK hUn _ _ hcu
  (repeat' (first | refine Zv tb ?_ | (refine Zt (fun ht => ?_) (fun ht => ?_) <;> (dsimp only [cmpP, cmpN] at ht) <;> (try (exfalso; omega))) | refine Z0 ?_ | refine Zq ?_ | refine Zr ?_ | refine Zk ?_ | refine Zy ?_ | refine Zn ?_ | refine Zj ?_ | refine Ze ?_ | refine Zx ?_ | refine Zqr ?_ | refine Zqs ?_ | refine Zqc ?_ | refine Zqx ?_ | refine Zqf ?_ | refine Zm tb fun b => ?_ | refine Zb fun b => ?_ | refine Zs tb ?_ | refine Zu tb ?_))
  (repeat refine W_seq ?_); refine W_regionD tb [8] _ [(0, 0), (1, 0), (2, 0), (3, 0), (4, 1), (5, 0), (6, 1), (7, 0), (8, 2)] (by kernel_rfl) ⟨_, perm_picks [1, 2, 2, 2] rfl⟩ ?_
  (repeat' (first | refine Zpv tb ?_ | (refine Zpt (fun ht => ?_) (fun ht => ?_) <;> (dsimp only [cmpP, cmpN] at ht) <;> (try (exfalso; omega))) | refine WP_u0 rfl (by first | exact Yl_sliceL tb s.1.toNat rfl rfl rfl (by omega) (by show _ ≤ bs.length; omega)) rfl rfl ?_ | refine WP_u1 rfl (by first | exact Yl_sliceL tb s.1.toNat rfl rfl rfl (by omega) (by show _ ≤ bs.length; omega)) rfl rfl ?_ | refine Zpw ?_ | refine Zpu tb ?_ | refine Zps tb ?_ | refine Zpk ?_ | refine Zp0 ?_))
  refine WP_2 rfl rfl (Hv_copy tb (kk := 0) (a := ⟨q, 0, none⟩) (o := 0) (news := byC.cells D) (len := D.length) (cap := D.length) (m := bs.length - s.1.toNat) rfl rfl rfl rfl (fun h => rfl) (hsrc (by repeat (first | exact List.Mem.head _ | apply List.Mem.tail))) (fun hn => ?_) (by rw [by_len]; omega) (by decide) (by rw [by_len]; omega) (by_all D) (cells_putL0 byC (by simp)) rfl ⟨.inr ⟨_, perm_picks [1, 2, 2, 2] rfl⟩, ?_⟩)
  · have h9 := hUn (sA_none hn)
    have := congrArg List.length h9
    rw [by_len, List.length_nil] at this
    omega
  rw [show D ++ (List.replicate D.length 0).drop D.length = D by simp]
  (repeat' (first | refine Zpv tb ?_ | (refine Zpt (fun ht => ?_) (fun ht => ?_) <;> (dsimp only [cmpP, cmpN] at ht) <;> (try (exfalso; omega))) | refine Zpw ?_ | refine Zpu tb ?_ | refine Zps tb ?_ | refine Zpk ?_ | refine Zp0 ?_))
  (repeat' (first | refine Zv tb ?_ | (refine Zt (fun ht => ?_) (fun ht => ?_) <;> (dsimp only [cmpP, cmpN] at ht) <;> (try (exfalso; omega))) | refine Z0 ?_ | refine Zq ?_ | refine Zr ?_ | refine Zk ?_ | refine Zy ?_ | refine Zn ?_ | refine Zj ?_ | refine Ze ?_ | refine Zx ?_ | refine Zqr ?_ | refine Zqs ?_ | refine Zqc ?_ | refine Zqx ?_ | refine Zqf ?_ | refine Zm tb fun b => ?_ | refine Zb fun b => ?_ | refine Zs tb ?_ | refine Zu tb ?_))
  exact ⟨_, _, .tmp rfl (.tmp rfl .nil), ⟨some ⟨q, 0, none⟩, D.length, rfl, rfl⟩, _, perm_picks [3, 3, 3, 0] rfl⟩
end Go.Proofs.Ytdnngagahhleiaa
