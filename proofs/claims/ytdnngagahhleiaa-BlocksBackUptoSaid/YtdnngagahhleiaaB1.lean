/- blocks: numbers, sessions, parcels; how many bytes a number has; rooms. -/
import Derived.Test.YtdnngagahhleiaaC1
import Derived.Test.YtdnngagahhleiaaL5
import Derived.Test.YtdnngagahhleiaaB0
import Derived.Test.YtdnngagahhleiaaSxB
namespace Go.Proofs.Ytdnngagahhleiaa
open Go.Sx
attribute [local irreducible] W WL WP Hv Yl
set_option maxRecDepth 10000
set_option linter.unusedVariables false
set_option linter.unusedSimpArgs false
def pcC5 : Cod Pce := ⟨5, fun x => [.int .i64 x.ty, .int .i64 x.fr, .int .i64 x.to, .int .i64 x.ck, .int .i64 x.rp], fun _ => rfl⟩
abbrev sesV (s : Ses) : Value := .agg #[.int .i64 s.1, .int .i64 s.2]
abbrev prcV (p : Prc) : Value := .agg #[.int .i64 p.svc, .int .i64 p.size, .int .i64 p.red, .int .i64 p.mtu, .int .i64 p.every]
abbrev cutI (b : Nat) (s : Ses) (p : Prc) (v : Value) : It := .blk b [.int .i64 s.1, .int .i64 s.2, .int .i64 p.svc, .int .i64 p.size, .int .i64 p.red, .int .i64 p.mtu, .int .i64 p.every, v] 119
theorem Len64_t (z : Int) (w : World) (h0 : 0 ≤ z) (h1 : z ≤ 18446744073709551615) : Tr Try.prog 83 #[.int .u64 z] w [] (fun v Γ => v = .int .i64 (Lib.bitLen z.toNat) ∧ Γ = []) := Tr_of_calls (bits_Len64 z w h0 h1)
theorem Size_s (z : Int) (w : World) (h0 : 0 ≤ z) (h1 : z ≤ 9223372036854775807) : Tr Try.prog 73 #[.int .u64 z] w [] (fun v Γ => v = .int .i64 (szI z) ∧ Γ = []) := by
  have hb := Lib.bitLen_le z.toNat 64 (Nat.le_refl _) (by omega)
  have hs := sz_bits z.toNat (by omega)
  refine Tr_intro (rs := [.tmp 2]) (args := [.int .u64 z]) Try.func73 rfl rfl 8 rfl rfl ?_
  (repeat' (first | refine Zv tb ?_ | (refine Zt (fun ht => ?_) (fun ht => ?_) <;> (dsimp only [cmpP, cmpN] at ht) <;> (try (exfalso; omega))) | refine Z0 ?_ | refine Zq ?_ | refine Zr ?_ | refine Zk ?_ | refine Zy ?_ | refine Zn ?_ | refine Zj ?_ | refine Ze ?_ | refine Zx ?_ | refine Zqr ?_ | refine Zqs ?_ | refine Zqc ?_ | refine Zqx ?_ | refine Zqf ?_ | refine Zm tb fun b => ?_ | refine Zb fun b => ?_ | refine Zs tb ?_ | refine Zu tb ?_))
  refine WL_cons rfl (Hv_call tb (Γ1 := []) rfl rfl rfl (List.Perm.refl _) (fun w hs => Len64_t z w h0 (by omega)) rfl ?_)
  rintro v Γ' ⟨rfl, rfl⟩
  (repeat' (first | refine Zv tb ?_ | (refine Zt (fun ht => ?_) (fun ht => ?_) <;> (dsimp only [cmpP, cmpN] at ht) <;> (try (exfalso; omega))) | refine Z0 ?_ | refine Zq ?_ | refine Zr ?_ | refine Zk ?_ | refine Zy ?_ | refine Zn ?_ | refine Zj ?_ | refine Ze ?_ | refine Zx ?_ | refine Zqr ?_ | refine Zqs ?_ | refine Zqc ?_ | refine Zqx ?_ | refine Zqf ?_ | refine Zm tb fun b => ?_ | refine Zb fun b => ?_ | refine Zs tb ?_ | refine WL_u (by first | exact Yl_quo rfl rfl (by omega) (by omega) (wrap_i64 (by omega) (by omega))) rfl rfl ?_ | refine Zu tb ?_))
  first | refine ⟨_, [], .tmp rfl .nil, ⟨?_, rfl⟩, _, List.Perm.refl _⟩ | refine ⟨_, _, .tmp rfl .nil, ⟨?_, rfl⟩, _, List.perm_append_comm⟩
  have e : (max 1 ((((Lib.bitLen z.toNat : Nat) : Int) + 6) / 7) : Int) = (szI z : Int) := by unfold szI; rw [← hs]; omega
  simp [tup, e]
theorem Size_w (z : Int) (w : World) (h0 : 0 ≤ z) (h1 : z ≤ 9223372036854775807) : Tr Try.prog 73 #[.int .u64 (IntKind.u64.wrap z)] w [] (fun v Γ => v = .int .i64 (szI z) ∧ Γ = []) := by
  rw [wrap_u64 h0 (by omega)]; exact Size_s z w h0 h1
theorem number_t (x : Int) (w : World) : Tr Try.prog 54 #[.int .i64 x] w [] (fun v Γ => v = .bool (numB x) ∧ Γ = []) := by
  refine Tr_intro (rs := [.tmp 2]) (args := [.int .i64 x]) Try.func54 rfl rfl 9 rfl rfl ?_
  (repeat' (first | refine Zv tb ?_ | (refine Zt (fun ht => ?_) (fun ht => ?_) <;> (dsimp only [cmpP, cmpN] at ht) <;> (try (exfalso; omega))) | refine Z0 ?_ | refine Zq ?_ | refine Zr ?_ | refine Zk ?_ | refine Zy ?_ | refine Zn ?_ | refine Zj ?_ | refine Ze ?_ | refine Zx ?_ | refine Zqr ?_ | refine Zqs ?_ | refine Zqc ?_ | refine Zqx ?_ | refine Zqf ?_ | refine Zm tb fun b => ?_ | refine Zb fun b => ?_ | refine Zs tb ?_ | refine Zu tb ?_))
  all_goals refine ⟨_, [], .tmp rfl .nil, ⟨?_, rfl⟩, _, List.Perm.refl _⟩
  all_goals simp_all [tup, numB]
  all_goals omega
theorem session_t (s : Ses) (w : World) : Tr Try.prog 44 #[sesV s] w [] (fun v Γ => v = .bool (sesB s) ∧ Γ = []) := by
  refine Tr_intro (rs := [.tmp 2]) (args := [sesV s]) Try.func44 rfl rfl 21 rfl rfl ?_
  (repeat' (first | refine Zv tb ?_ | (refine Zt (fun ht => ?_) (fun ht => ?_) <;> (dsimp only [cmpP, cmpN] at ht) <;> (try (exfalso; omega))) | refine Z0 ?_ | refine Zq ?_ | refine Zr ?_ | refine Zk ?_ | refine Zy ?_ | refine Zn ?_ | refine Zj ?_ | refine Ze ?_ | refine Zx ?_ | refine Zqr ?_ | refine Zqs ?_ | refine Zqc ?_ | refine Zqx ?_ | refine Zqf ?_ | refine Zm tb fun b => ?_ | refine Zb fun b => ?_ | refine Zs tb ?_ | refine Zu tb ?_))
  all_goals refine ⟨_, [], .tmp rfl .nil, ⟨?_, rfl⟩, _, List.Perm.refl _⟩
  all_goals simp_all [tup, sesB]
  all_goals omega
theorem parcel_t (p : Prc) (w : World) : Tr Try.prog 45 #[prcV p] w [] (fun v Γ => v = .bool (prcB p) ∧ Γ = []) := by
  refine Tr_intro (rs := [.tmp 2]) (args := [prcV p]) Try.func45 rfl rfl 48 rfl rfl ?_
  (repeat' (first | refine Zv tb ?_ | (refine Zt (fun ht => ?_) (fun ht => ?_) <;> (dsimp only [cmpP, cmpN] at ht) <;> (try (exfalso; omega))) | refine Z0 ?_ | refine Zq ?_ | refine Zr ?_ | refine Zk ?_ | refine Zy ?_ | refine Zn ?_ | refine Zj ?_ | refine Ze ?_ | refine Zx ?_ | refine Zqr ?_ | refine Zqs ?_ | refine Zqc ?_ | refine Zqx ?_ | refine Zqf ?_ | refine Zm tb fun b => ?_ | refine Zb fun b => ?_ | refine Zs tb ?_ | refine Zu tb ?_))
  refine WL_cons rfl (Hv_call tb (Γ1 := []) rfl rfl rfl (List.Perm.refl _) (fun w hs => number_t p.svc w) rfl ?_)
  rintro v Γ' ⟨rfl, rfl⟩
  cases h1 : numB p.svc
  · (repeat' (first | refine Zv tb ?_ | (refine Zt (fun ht => ?_) (fun ht => ?_) <;> (dsimp only [cmpP, cmpN] at ht) <;> (try (exfalso; omega))) | refine Z0 ?_ | refine Zq ?_ | refine Zr ?_ | refine Zk ?_ | refine Zy ?_ | refine Zn ?_ | refine Zj ?_ | refine Ze ?_ | refine Zx ?_ | refine Zqr ?_ | refine Zqs ?_ | refine Zqc ?_ | refine Zqx ?_ | refine Zqf ?_ | refine Zm tb fun b => ?_ | refine Zb fun b => ?_ | refine Zs tb ?_ | refine Zu tb ?_))
    refine ⟨_, [], .tmp rfl .nil, ⟨?_, rfl⟩, _, List.Perm.refl _⟩
    simp only [numB, decide_eq_false_iff_not] at h1
    have : prcB p = false := by unfold prcB; rw [decide_eq_false_iff_not]; omega
    rw [this]; rfl
  simp only [numB, decide_eq_true_eq] at h1
  (repeat' (first | refine Zv tb ?_ | (refine Zt (fun ht => ?_) (fun ht => ?_) <;> (dsimp only [cmpP, cmpN] at ht) <;> (try (exfalso; omega))) | refine Z0 ?_ | refine Zq ?_ | refine Zr ?_ | refine Zk ?_ | refine Zy ?_ | refine Zn ?_ | refine Zj ?_ | refine Ze ?_ | refine Zx ?_ | refine Zqr ?_ | refine Zqs ?_ | refine Zqc ?_ | refine Zqx ?_ | refine Zqf ?_ | refine Zm tb fun b => ?_ | refine Zb fun b => ?_ | refine Zs tb ?_ | refine Zu tb ?_))
  all_goals refine ⟨_, [], .tmp rfl .nil, ⟨?_, rfl⟩, _, List.Perm.refl _⟩
  all_goals first
    | (have : prcB p = false := by unfold prcB; rw [decide_eq_false_iff_not]; omega
       rw [this]; rfl)
    | (have : prcB p = true := by unfold prcB; rw [decide_eq_true_eq]; omega
       rw [this]; rfl)
theorem ends_t (b : Nat) (s : Ses) (p : Prc) (v : Value) (to : Int) (w : World) : Tr Try.prog 48 #[.pointer (some ⟨b, 0, none⟩), .int .i64 to] w [cutI b s p v] (fun u Γ => u = .int .i64 (endsT p to) ∧ Γ = [cutI b s p v]) := by
  refine Tr_intro (rs := [.tmp 4]) (args := [.pointer (some ⟨b, 0, none⟩), .int .i64 to]) Try.func48 rfl rfl 25 rfl rfl ?_
  (repeat' (first | refine Zv tb ?_ | (refine Zt (fun ht => ?_) (fun ht => ?_) <;> (dsimp only [cmpP, cmpN] at ht) <;> (try (exfalso; omega))) | refine Z0 ?_ | refine Zq ?_ | refine Zr ?_ | refine Zk ?_ | refine Zy ?_ | refine Zn ?_ | refine Zj ?_ | refine Ze ?_ | refine Zx ?_ | refine Zqr ?_ | refine Zqs ?_ | refine Zqc ?_ | refine Zqx ?_ | refine Zqf ?_ | refine Zm tb fun b => ?_ | refine Zb fun b => ?_ | refine Zs tb ?_ | refine Zu tb ?_))
  · refine ⟨_, _, .tmp rfl .nil, ⟨?_, rfl⟩, keepAll _⟩
    simp [tup, endsT, ht]
  · (repeat refine W_seq ?_); refine W_regionD tb [] _ [(0, 0), (1, 0), (2, 0), (3, 0), (4, 1), (5, 0), (6, 0), (7, 0), (8, 0), (9, 1), (10, 0), (11, 0)] (by kernel_rfl) (keepAll _) ?_
    (repeat' (first | refine Zpv tb ?_ | (refine Zpt (fun ht => ?_) (fun ht => ?_) <;> (dsimp only [cmpP, cmpN] at ht) <;> (try (exfalso; omega))) | refine Zpw ?_ | refine Zpu tb ?_ | refine Zps tb ?_ | refine Zpk ?_ | refine Zp0 ?_))
    all_goals (repeat' (first | refine Zv tb ?_ | (refine Zt (fun ht => ?_) (fun ht => ?_) <;> (dsimp only [cmpP, cmpN] at ht) <;> (try (exfalso; omega))) | refine Z0 ?_ | refine Zq ?_ | refine Zr ?_ | refine Zk ?_ | refine Zy ?_ | refine Zn ?_ | refine Zj ?_ | refine Ze ?_ | refine Zx ?_ | refine Zqr ?_ | refine Zqs ?_ | refine Zqc ?_ | refine Zqx ?_ | refine Zqf ?_ | refine Zm tb fun b => ?_ | refine Zb fun b => ?_ | refine Zs tb ?_ | refine Zu tb ?_))
    all_goals refine ⟨_, _, .tmp rfl .nil, ⟨?_, rfl⟩, keepAll _⟩
    all_goals simp only [tup, endsT]
    all_goals congr 1
    all_goals (repeat' split)
    all_goals first | rfl | omega
theorem put_t (b : Nat) (s : Ses) (p : Prc) (out : List Pce) (V : Option Addr) (n c : Nat) (k fr m ck rp : Int) (w : World) (hn : n ≤ 1000000) (hf : 0 ≤ fr ∧ fr ≤ 65536) (hm : 0 ≤ m ∧ m ≤ 65536) :
    Tr Try.prog 47 #[.pointer (some ⟨b, 0, none⟩), .int .i64 k, .int .i64 fr, .int .i64 m, .int .i64 ck, .int .i64 rp] w [cutI b s p (.slice V n c), .row (.slice V n c) 65 5 n (pcC5.cells out)]
      (fun u Γ => u = .int .i64 (fr + m) ∧ ∃ V' c', Γ = [cutI b s p (.slice V' (n + 1) c'), .row (.slice V' (n + 1) c') 65 5 (n + 1) (pcC5.cells (out ++ [⟨k, fr, fr + m, ck, rp⟩]))]) := by
  refine Tr_intro (rs := [.tmp 12]) (args := [.pointer (some ⟨b, 0, none⟩), .int .i64 k, .int .i64 fr, .int .i64 m, .int .i64 ck, .int .i64 rp]) Try.func47 rfl rfl 33 rfl rfl ?_
  (repeat' (first | refine Zv tb ?_ | (refine Zt (fun ht => ?_) (fun ht => ?_) <;> (dsimp only [cmpP, cmpN] at ht) <;> (try (exfalso; omega))) | refine Z0 ?_ | refine Zq ?_ | refine Zr ?_ | refine Zk ?_ | refine Zy ?_ | refine Zn ?_ | refine Zj ?_ | refine Ze ?_ | refine Zx ?_ | refine Zqr ?_ | refine Zqs ?_ | refine Zqc ?_ | refine Zqx ?_ | refine Zqf ?_ | refine Zm tb fun b => ?_ | refine Zb fun b => ?_ | refine Zs tb ?_ | refine Zu tb ?_))
  refine WL_cons rfl (Hv_buildSlice tb rfl rfl rfl (by decide) rfl rfl rfl rfl fun q => ?_)
  (repeat' (first | refine Zv tb ?_ | (refine Zt (fun ht => ?_) (fun ht => ?_) <;> (dsimp only [cmpP, cmpN] at ht) <;> (try (exfalso; omega))) | refine Z0 ?_ | refine Zq ?_ | refine Zr ?_ | refine Zk ?_ | refine Zy ?_ | refine Zn ?_ | refine Zj ?_ | refine Ze ?_ | refine Zx ?_ | refine Zqr ?_ | refine Zqs ?_ | refine Zqc ?_ | refine Zqx ?_ | refine Zqf ?_ | refine Zm tb fun b => ?_ | refine Zb fun b => ?_ | refine Zs tb ?_ | refine Zu tb ?_))
  refine WL_cons rfl (Hv_append tb (k := 2) (m := 1) rfl rfl rfl rfl rfl (by decide) rfl (Has.row (List.mem_cons_self ..)) rfl rfl (by omega) (by omega) rfl fun V' c' hV' => ?_)
  (repeat' (first | refine Zv tb ?_ | (refine Zt (fun ht => ?_) (fun ht => ?_) <;> (dsimp only [cmpP, cmpN] at ht) <;> (try (exfalso; omega))) | refine Z0 ?_ | refine Zq ?_ | refine Zr ?_ | refine Zk ?_ | refine Zy ?_ | refine Zn ?_ | refine Zj ?_ | refine Ze ?_ | refine Zx ?_ | refine Zqr ?_ | refine Zqs ?_ | refine Zqc ?_ | refine Zqx ?_ | refine Zqf ?_ | refine Zm tb fun b => ?_ | refine Zb fun b => ?_ | refine Zs tb ?_ | refine Zu tb ?_))
  refine ⟨_, _, .tmp rfl .nil, ⟨rfl, V', c', rfl⟩, ?_⟩
  rw [cells_append, cells_one]
  exact ⟨_, perm_picks [1, 1] rfl⟩
end Go.Proofs.Ytdnngagahhleiaa
