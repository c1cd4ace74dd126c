/- the document's answer of layer 4: Bytes, Room, Cut; two lists of pieces. -/
import Derived.Test.YtdnngagahhleiaaB9
namespace Go.Proofs.Ytdnngagahhleiaa
open Go.Sx
attribute [local irreducible] W WL WP Hv Yl WQ At QP QF Rnd
set_option maxRecDepth 10000
set_option linter.unusedVariables false
set_option linter.unusedSimpArgs false
abbrev pceV (x : Pce) : Value := .agg #[.int .i64 x.ty, .int .i64 x.fr, .int .i64 x.to, .int .i64 x.ck, .int .i64 x.rp]
def bytN (s : Ses) (svc : Int) (x : Pce) : Int := 2 + szI s.1 + szI s.2 + szI svc + szI x.fr + szI (x.to - x.fr) + (x.to - x.fr) + (if chkB x.ty = true then (szI x.ck + szI x.rp : Int) else 0)
def small (z : Int) : Prop := 0 ≤ z ∧ z ≤ 4611686018427387903
set_option maxHeartbeats 2000000 in
theorem Bytes_t (s : Ses) (svc : Int) (x : Pce) (w : World) (h1 : small s.1) (h2 : small s.2) (h3 : small svc) (h4 : 0 ≤ x.fr ∧ x.fr ≤ 65536) (h5 : x.fr ≤ x.to ∧ x.to ≤ 1000000) (h6 : small x.ck) (h7 : small x.rp) :
    Tr Try.prog 75 #[sesV s, .int .i64 svc, pceV x] w [] (fun v Γ => v = .int .i64 (bytN s svc x) ∧ Γ = []) := by
  unfold small at h1 h2 h3 h6 h7
  have z1 := szI_le (z := s.1) (by omega)
  have z2 := szI_le (z := s.2) (by omega)
  have z3 := szI_le (z := svc) (by omega)
  have z4 := szI_le (z := x.fr) (by omega)
  have z5 := szI_le (z := x.to - x.fr) (by omega)
  have z6 := szI_le (z := x.ck) (by omega)
  have z7 := szI_le (z := x.rp) (by omega)
  obtain ⟨ty, fr, to, ck, rp⟩ := x
  dsimp only at h4 h5 h6 h7 z4 z5 z6 z7
  show Tr Try.prog 75 #[sesV s, .int .i64 svc, .agg #[.int .i64 ty, .int .i64 fr, .int .i64 to, .int .i64 ck, .int .i64 rp]] w [] _
  refine Tr_intro (rs := [.tmp 6]) (args := [sesV s, .int .i64 svc, .agg #[.int .i64 ty, .int .i64 fr, .int .i64 to, .int .i64 ck, .int .i64 rp]]) Try.func75 rfl rfl 50 rfl rfl ?_
  (repeat' (first | refine Zv tb ?_ | (refine Zt (fun ht => ?_) (fun ht => ?_) <;> (dsimp only [cmpP, cmpN] at ht) <;> (try (exfalso; omega))) | refine Z0 ?_ | refine Zq ?_ | refine Zr ?_ | refine Zk ?_ | refine Zy ?_ | refine Zn ?_ | refine Zj ?_ | refine Ze ?_ | refine Zx ?_ | refine Zqr ?_ | refine Zqs ?_ | refine Zqc ?_ | refine Zqx ?_ | refine Zqf ?_ | refine Zm tb fun b => ?_ | refine Zb fun b => ?_ | refine Zs tb ?_ | refine Zu tb ?_))
  (repeat refine W_seq ?_); refine W_regionD tb [] _ [(0, 0), (1, 1), (4, 0), (5, 1), (9, 0), (12, 0), (13, 1), (16, 0), (19, 0), (2, 2), (3, 0), (6, 2), (7, 0), (8, 0), (10, 2), (11, 0), (14, 2), (15, 0), (17, 2), (18, 0), (20, 0), (21, 0)] (by kernel_rfl) (keepAll _) ?_
  (repeat' (first | refine Zpv tb ?_ | (refine Zpt (fun ht => ?_) (fun ht => ?_) <;> (dsimp only [cmpP, cmpN] at ht) <;> (try (exfalso; omega))) | refine Zpw ?_ | refine Zpu tb ?_ | refine Zps tb ?_ | refine Zpk ?_ | refine Zp0 ?_))
  refine WP_2 rfl rfl (Hv_call tb (Γ1 := []) rfl rfl rfl (List.Perm.refl _) (fun w hs => wide_t s.1 w (by omega) (by omega)) rfl ?_)
  rintro v Γ' ⟨rfl, rfl⟩
  refine ⟨.inr (keepAll _), ?_⟩
  (repeat' (first | refine Zpv tb ?_ | (refine Zpt (fun ht => ?_) (fun ht => ?_) <;> (dsimp only [cmpP, cmpN] at ht) <;> (try (exfalso; omega))) | refine Zpw ?_ | refine Zpu tb ?_ | refine Zps tb ?_ | refine Zpk ?_ | refine Zp0 ?_))
  refine WP_2 rfl rfl (Hv_call tb (Γ1 := []) rfl rfl rfl (List.Perm.refl _) (fun w hs => wide_t s.2 w (by omega) (by omega)) rfl ?_)
  rintro v Γ' ⟨rfl, rfl⟩
  refine ⟨.inr (keepAll _), ?_⟩
  (repeat' (first | refine Zpv tb ?_ | (refine Zpt (fun ht => ?_) (fun ht => ?_) <;> (dsimp only [cmpP, cmpN] at ht) <;> (try (exfalso; omega))) | refine Zpw ?_ | refine Zpu tb ?_ | refine Zps tb ?_ | refine Zpk ?_ | refine Zp0 ?_))
  refine WP_2 rfl rfl (Hv_call tb (Γ1 := []) rfl rfl rfl (List.Perm.refl _) (fun w hs => wide_t svc w (by omega) (by omega)) rfl ?_)
  rintro v Γ' ⟨rfl, rfl⟩
  refine ⟨.inr (keepAll _), ?_⟩
  (repeat' (first | refine Zpv tb ?_ | (refine Zpt (fun ht => ?_) (fun ht => ?_) <;> (dsimp only [cmpP, cmpN] at ht) <;> (try (exfalso; omega))) | refine Zpw ?_ | refine Zpu tb ?_ | refine Zps tb ?_ | refine Zpk ?_ | refine Zp0 ?_))
  refine WP_2 rfl rfl (Hv_call tb (Γ1 := []) rfl rfl rfl (List.Perm.refl _) (fun w hs => wide_t fr w (by omega) (by omega)) rfl ?_)
  rintro v Γ' ⟨rfl, rfl⟩
  refine ⟨.inr (keepAll _), ?_⟩
  (repeat' (first | refine Zpv tb ?_ | (refine Zpt (fun ht => ?_) (fun ht => ?_) <;> (dsimp only [cmpP, cmpN] at ht) <;> (try (exfalso; omega))) | refine Zpw ?_ | refine Zpu tb ?_ | refine Zps tb ?_ | refine Zpk ?_ | refine Zp0 ?_))
  refine WP_2 rfl rfl (Hv_call tb (Γ1 := []) rfl rfl rfl (List.Perm.refl _) (fun w hs => wide_t (to - fr) w (by omega) (by omega)) rfl ?_)
  rintro v Γ' ⟨rfl, rfl⟩
  refine ⟨.inr (keepAll _), ?_⟩
  (repeat' (first | refine Zpv tb ?_ | (refine Zpt (fun ht => ?_) (fun ht => ?_) <;> (dsimp only [cmpP, cmpN] at ht) <;> (try (exfalso; omega))) | refine Zpw ?_ | refine Zpu tb ?_ | refine Zps tb ?_ | refine Zpk ?_ | refine Zp0 ?_))
  (repeat' (first | refine Zv tb ?_ | (refine Zt (fun ht => ?_) (fun ht => ?_) <;> (dsimp only [cmpP, cmpN] at ht) <;> (try (exfalso; omega))) | refine Z0 ?_ | refine Zq ?_ | refine Zr ?_ | refine Zk ?_ | refine Zy ?_ | refine Zn ?_ | refine Zj ?_ | refine Ze ?_ | refine Zx ?_ | refine Zqr ?_ | refine Zqs ?_ | refine Zqc ?_ | refine Zqx ?_ | refine Zqf ?_ | refine Zm tb fun b => ?_ | refine Zb fun b => ?_ | refine Zs tb ?_ | refine Zu tb ?_))
  refine WL_cons rfl (Hv_call tb (Γ1 := []) rfl rfl rfl (List.Perm.refl _) (fun w hs => check_t ty w) rfl ?_)
  rintro v Γ' ⟨rfl, rfl⟩
  cases hc : chkB ty
  · (repeat' (first | refine Zv tb ?_ | (refine Zt (fun ht => ?_) (fun ht => ?_) <;> (dsimp only [cmpP, cmpN] at ht) <;> (try (exfalso; omega))) | refine Z0 ?_ | refine Zq ?_ | refine Zr ?_ | refine Zk ?_ | refine Zy ?_ | refine Zn ?_ | refine Zj ?_ | refine Ze ?_ | refine Zx ?_ | refine Zqr ?_ | refine Zqs ?_ | refine Zqc ?_ | refine Zqx ?_ | refine Zqf ?_ | refine Zm tb fun b => ?_ | refine Zb fun b => ?_ | refine Zs tb ?_ | refine Zu tb ?_))
    refine ⟨_, [], .tmp rfl .nil, ⟨?_, rfl⟩, _, List.Perm.refl _⟩
    simp only [tup, bytN, hc, Bool.false_eq_true, if_false]
    congr 1; omega
  · (repeat' (first | refine Zv tb ?_ | (refine Zt (fun ht => ?_) (fun ht => ?_) <;> (dsimp only [cmpP, cmpN] at ht) <;> (try (exfalso; omega))) | refine Z0 ?_ | refine Zq ?_ | refine Zr ?_ | refine Zk ?_ | refine Zy ?_ | refine Zn ?_ | refine Zj ?_ | refine Ze ?_ | refine Zx ?_ | refine Zqr ?_ | refine Zqs ?_ | refine Zqc ?_ | refine Zqx ?_ | refine Zqf ?_ | refine Zm tb fun b => ?_ | refine Zb fun b => ?_ | refine Zs tb ?_ | refine Zu tb ?_))
    (repeat refine W_seq ?_); refine W_regionD tb [7] _ [(0, 0), (1, 0), (2, 1), (5, 0), (6, 1), (3, 2), (4, 0), (7, 2), (8, 0), (9, 0)] (by kernel_rfl) (keepAll _) ?_
    (repeat' (first | refine Zpv tb ?_ | (refine Zpt (fun ht => ?_) (fun ht => ?_) <;> (dsimp only [cmpP, cmpN] at ht) <;> (try (exfalso; omega))) | refine Zpw ?_ | refine Zpu tb ?_ | refine Zps tb ?_ | refine Zpk ?_ | refine Zp0 ?_))
    refine WP_2 rfl rfl (Hv_call tb (Γ1 := []) rfl rfl rfl (List.Perm.refl _) (fun w hs => wide_t ck w (by omega) (by omega)) rfl ?_)
    rintro v Γ' ⟨rfl, rfl⟩
    refine ⟨.inr (keepAll _), ?_⟩
    (repeat' (first | refine Zpv tb ?_ | (refine Zpt (fun ht => ?_) (fun ht => ?_) <;> (dsimp only [cmpP, cmpN] at ht) <;> (try (exfalso; omega))) | refine Zpw ?_ | refine Zpu tb ?_ | refine Zps tb ?_ | refine Zpk ?_ | refine Zp0 ?_))
    refine WP_2 rfl rfl (Hv_call tb (Γ1 := []) rfl rfl rfl (List.Perm.refl _) (fun w hs => wide_t rp w (by omega) (by omega)) rfl ?_)
    rintro v Γ' ⟨rfl, rfl⟩
    refine ⟨.inr (keepAll _), ?_⟩
    (repeat' (first | refine Zpv tb ?_ | (refine Zpt (fun ht => ?_) (fun ht => ?_) <;> (dsimp only [cmpP, cmpN] at ht) <;> (try (exfalso; omega))) | refine Zpw ?_ | refine Zpu tb ?_ | refine Zps tb ?_ | refine Zpk ?_ | refine Zp0 ?_))
    (repeat' (first | refine Zv tb ?_ | (refine Zt (fun ht => ?_) (fun ht => ?_) <;> (dsimp only [cmpP, cmpN] at ht) <;> (try (exfalso; omega))) | refine Z0 ?_ | refine Zq ?_ | refine Zr ?_ | refine Zk ?_ | refine Zy ?_ | refine Zn ?_ | refine Zj ?_ | refine Ze ?_ | refine Zx ?_ | refine Zqr ?_ | refine Zqs ?_ | refine Zqc ?_ | refine Zqx ?_ | refine Zqf ?_ | refine Zm tb fun b => ?_ | refine Zb fun b => ?_ | refine Zs tb ?_ | refine Zu tb ?_))
    refine ⟨_, [], .tmp rfl .nil, ⟨?_, rfl⟩, _, List.Perm.refl _⟩
    simp only [tup, bytN, hc, if_true]
    congr 1; omega
/-- a piece's room. -/
def roomX (s : Ses) (p : Prc) (x : Pce) : Int := if chkB x.ty = true then roomC s p x.fr x.ck x.rp else roomP s p x.fr
set_option maxHeartbeats 2000000 in
theorem Room_t (s : Ses) (p : Prc) (x : Pce) (w : World) (hs : sesB s = true) (hp : prcB p = true) (h4 : 0 ≤ x.fr ∧ x.fr ≤ 65536) (h6 : small x.ck) (h7 : small x.rp) :
    Tr Try.prog 51 #[sesV s, prcV p, pceV x] w [] (fun v Γ => v = .int .i64 (roomX s p x) ∧ Γ = []) := by
  have hs' := hs
  have hp' := hp
  simp only [sesB, prcB, decide_eq_true_eq] at hs' hp'
  obtain ⟨ty, fr, to, ck, rp⟩ := x
  dsimp only at h4 h6 h7
  obtain ⟨H, hH⟩ : ∃ H : Nat, H = hd s p fr + (if chkB ty = true then szI ck + szI rp else 0) := ⟨_, rfl⟩
  have hR : roomX s p ⟨ty, fr, to, ck, rp⟩ = (room H p.mtu.toNat : Int) := by
    unfold roomX
    rw [hH]
    dsimp only
    split
    · unfold roomC; rw [Nat.add_assoc]
    · rfl
  have hB : ∀ n : Nat, bytN s p.svc ⟨ty, fr, fr + n + 1, ck, rp⟩ = ((H + sz (n + 1) + (n + 1) : Nat) : Int) := fun n => by
    have e : szI (fr + n + 1 - fr) = sz (n + 1) := by unfold szI; congr 1; omega
    unfold bytN
    dsimp only
    rw [e, hH]
    unfold hd
    split <;> omega
  rw [hR]
  show Tr Try.prog 51 #[sesV s, prcV p, .agg #[.int .i64 ty, .int .i64 fr, .int .i64 to, .int .i64 ck, .int .i64 rp]] w [] _
  refine Tr_intro (rs := [.tmp 6]) (args := [sesV s, prcV p, .agg #[.int .i64 ty, .int .i64 fr, .int .i64 to, .int .i64 ck, .int .i64 rp]]) Try.func51 rfl rfl 27 rfl rfl ?_
  (repeat' (first | refine Zv tb ?_ | (refine Zt (fun ht => ?_) (fun ht => ?_) <;> (dsimp only [cmpP, cmpN] at ht) <;> (try (exfalso; omega))) | refine Z0 ?_ | refine Zq ?_ | refine Zr ?_ | refine Zk ?_ | refine Zy ?_ | refine Zn ?_ | refine Zj ?_ | refine Ze ?_ | refine Zx ?_ | refine Zqr ?_ | refine Zqs ?_ | refine Zqc ?_ | refine Zqx ?_ | refine Zqf ?_ | refine Zm tb fun b => ?_ | refine Zb fun b => ?_ | refine Zs tb ?_ | refine Zu tb ?_))
  rename_i b3 b4
  refine W_loop (σ := Nat × Int) (fun | (n, t) => [(3, .pointer (some ⟨b3, 0, none⟩)), (4, .pointer (some ⟨b4, 0, none⟩)), (5, .pointer (some ⟨b, 0, none⟩)), (7, .int .i64 n)])
    (fun | (n, t) => [.blk b [.int .i64 ty, .int .i64 fr, .int .i64 t, .int .i64 ck, .int .i64 rp] 65, prcI b4 p, .blk b3 [.int .i64 s.1, .int .i64 s.2] 23])
    (fun | (n, t) => n ≤ 4096 ∧ (n = 0 ∨ H + sz n + n ≤ p.mtu.toNat)) (fun | (n, t) => 5000 - n) (0, to) ⟨by omega, .inl rfl⟩ (by repeat (first | exact Sub.nil | refine Sub.cons rfl ?_)) (keepAll _) ?_
  rintro ⟨n, t⟩ ⟨hn, hI⟩
  dsimp only at hn hI ⊢
  (repeat' (first | refine Zv tb ?_ | (refine Zt (fun ht => ?_) (fun ht => ?_) <;> (dsimp only [cmpP, cmpN] at ht) <;> (try (exfalso; omega))) | refine Z0 ?_ | refine Zq ?_ | refine Zr ?_ | refine Zk ?_ | refine Zy ?_ | refine Zn ?_ | refine Zj ?_ | refine Ze ?_ | refine Zx ?_ | refine Zqr ?_ | refine Zqs ?_ | refine Zqc ?_ | refine Zqx ?_ | refine Zqf ?_ | refine Zm tb fun b => ?_ | refine Zb fun b => ?_ | refine Zs tb ?_ | refine Zu tb ?_))
  refine WL_cons rfl (Hv_call tb (Γ1 := []) rfl rfl rfl (List.Perm.refl _) (fun w hs => Bytes_t s p.svc ⟨ty, fr, fr + n + 1, ck, rp⟩ w ⟨by omega, by omega⟩ ⟨by omega, by omega⟩ ⟨by omega, by omega⟩ h4 ⟨by dsimp only; omega, by dsimp only; omega⟩ h6 h7) rfl ?_)
  rw [hB]
  rintro v Γ' ⟨rfl, rfl⟩
  have hsz := sz_le 8 (n + 1) (by omega)
  have hsp := sz_pos (n + 1)
  have hHb : H ≤ 56 := by
    have := hd_le (at' := fr) hs hp (by omega)
    unfold small at h6 h7
    have z6 := szI_le (z := ck) (by omega)
    have z7 := szI_le (z := rp) (by omega)
    rw [hH]; split <;> omega
  (repeat' (first | refine Zv tb ?_ | (refine Zt (fun ht => ?_) (fun ht => ?_) <;> (dsimp only [cmpP, cmpN] at ht) <;> (try (exfalso; omega))) | refine Z0 ?_ | refine Zq ?_ | refine Zr ?_ | refine Zk ?_ | refine Zy ?_ | refine Zn ?_ | refine Zj ?_ | refine Ze ?_ | refine Zx ?_ | refine Zqr ?_ | refine Zqs ?_ | refine Zqc ?_ | refine Zqx ?_ | refine Zqf ?_ | refine Zm tb fun b => ?_ | refine Zb fun b => ?_ | refine Zs tb ?_ | refine Zu tb ?_))
  · refine ⟨_, [], .tmp rfl .nil, ⟨?_, rfl⟩, _, List.Perm.refl _⟩
    rw [← room_uniq (h := H) (m := p.mtu.toNat) (r := n) ⟨hI, by omega⟩]; rfl
  · exact ⟨(n + 1, _), ⟨by dsimp only; omega, .inr (by dsimp only; omega)⟩, by dsimp only; omega, (by repeat (first | exact Sub.nil | refine Sub.cons rfl ?_)), keepAll _⟩
end Go.Proofs.Ytdnngagahhleiaa
