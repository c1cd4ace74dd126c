/- the document's buffer: with. -/
import Derived.Test.YtdnngagahhleiaaB23
namespace Go.Proofs.Ytdnngagahhleiaa
open Go.Sx
attribute [local irreducible] W WL WP Hv Yl WQ At QP QF Rnd
set_option maxRecDepth 10000
set_option linter.unusedVariables false
set_option linter.unusedSimpArgs false
theorem wl_zero {R : Rf} {at' : Int} {data : List Int} : wl R at' data 0 = R.pl ++ List.replicate (max R.pl.length (at' + data.length).toNat - R.pl.length) (-1) := by
  refine pz_ext (by rw [wl_len]; simp; omega) fun j hj => ?_
  rw [pz_wl (Nat.zero_le _), if_neg (by omega)]
  unfold pz
  simp only [List.getD_eq_getElem?_getD]
  by_cases h : j < R.pl.length
  · rw [List.getElem?_append_left h]
  · rw [List.getElem?_append_right (by omega), List.getElem?_eq_none (by omega)]
    rw [List.getElem?_replicate]; split <;> rfl
theorem wl_succ {R : Rf} {at' : Int} {data : List Int} {i : Nat} (h0 : 0 ≤ at') (hi : i < data.length) : wl R at' data (i + 1) = if pz R.pl (at' + i).toNat < 0 then (wl R at' data i).set (at' + i).toNat (bz data i) else wl R at' data i := by
  have hl := wl_len R at' data i
  have hl1 := wl_len R at' data (i + 1)
  split
  · rename_i hz
    refine pz_ext (by rw [hl1]; simp [hl]) fun j hj => ?_
    rw [pz_wl (by omega), pz_set (by omega), pz_wl (by omega)]
    by_cases hj : (at' + i).toNat = j
    · subst hj
      rw [if_pos rfl, if_pos ⟨by omega, by push_cast; omega, hz⟩]
      congr 1; omega
    · rw [if_neg hj]
      by_cases c : at' ≤ j ∧ (j : Int) < at' + i ∧ pz R.pl j < 0
      · rw [if_pos c, if_pos ⟨c.1, by push_cast; omega, c.2.2⟩]
      · rw [if_neg c, if_neg (by push_cast; omega)]
  · rename_i hz
    refine pz_ext (by rw [hl1, hl]) fun j hj => ?_
    rw [pz_wl (by omega), pz_wl (by omega)]
    by_cases hj : (at' + i).toNat = j
    · subst hj
      rw [if_neg (by omega), if_neg (by omega)]
    · by_cases c : at' ≤ j ∧ (j : Int) < at' + i ∧ pz R.pl j < 0
      · rw [if_pos c, if_pos ⟨c.1, by push_cast; omega, c.2.2⟩]
      · rw [if_neg c, if_neg (by push_cast; omega)]
def WtR (rb : Nat) (R : Rf) (V : Option Addr) (c : Nat) (r : List Int × Int × Int × Int) (v : Value) (Γ : List It) : Prop :=
  ∃ A ca, v = tup [.slice A r.1.length ca, .int .i64 r.2.1, .int .i64 r.2.2.1, .int .i64 r.2.2.2] ∧ Γ = refI rb R V c ++ [inI A r.1.length ca r.1]
theorem wfr_bd (R : Rf) (at' : Int) : ∀ i : Nat, 0 ≤ wfr R at' i ∧ wfr R at' i ≤ i
  | 0 => by simp [wfr, rsum]
  | i + 1 => by
    have := wfr_bd R at' i
    unfold wfr at this ⊢
    rw [rsum]; split <;> (push_cast; omega)
theorem wcl_bd (R : Rf) (at' : Int) (data : List Int) : ∀ i : Nat, 0 ≤ wcl R at' data i ∧ wcl R at' data i ≤ i
  | 0 => by simp [wcl, rsum]
  | i + 1 => by
    have := wcl_bd R at' data i
    unfold wcl at this ⊢
    rw [rsum]; split <;> (push_cast; omega)
theorem rspans_n (A : Option Addr) (l : List Int) (n cap : Nat) (w : World) (hn : l.length = n) (h : SlO w [] A n cap (inC.cells l)) (hm : n ≤ 1000000) :
    Tr Try.prog 79 #[.slice A n cap] w [] (SpL (spF l l.length) []) := by subst hn; exact rspans_t A l cap w h hm
set_option maxHeartbeats 4000000 in
theorem rwith_t (rb : Nat) (R : Rf) (V D : Option Addr) (c dc : Nat) (at' : Int) (data : List Int) (w : World) (hpl : R.pl.length ≤ 65536) (hdb : ∀ k, k < data.length → 0 ≤ bz data k ∧ bz data k ≤ 255) (hD : SlO w (fps (refI rb R V c)) D data.length dc (byC.cells data)) :
    Tr Try.prog 78 #[.pointer (some ⟨rb, 0, none⟩), .int .i64 at', .slice D data.length dc] w (refI rb R V c) (WtR rb R V c (withF R at' data)) := by
  have hdm := hD.max
  refine Tr_intro (rs := [.tmp 6, .tmp 7, .tmp 8, .tmp 9]) (args := [.pointer (some ⟨rb, 0, none⟩), .int .i64 at', .slice D data.length dc]) Try.func78 rfl rfl 100 rfl rfl ?_
  refine W_nilrow 3 1 ?_
  by_cases h1 : 65536 < data.length
  · have e : withF R at' data = ([], 0, 0, 2) := by unfold withF; rw [if_pos h1]
    rw [e]
    (repeat' (first | refine Zv tb ?_ | (refine Zt (fun ht => ?_) (fun ht => ?_) <;> (dsimp only [cmpP, cmpN] at ht) <;> (try (exfalso; omega))) | refine Z0 ?_ | refine Zq ?_ | refine Zr ?_ | refine Zk ?_ | refine Zy ?_ | refine Zn ?_ | refine Zj ?_ | refine Ze ?_ | refine Zx ?_ | refine Zqr ?_ | refine Zqs ?_ | refine Zqc ?_ | refine Zqx ?_ | refine Zqf ?_ | refine Zm tb fun b => ?_ | refine Zb fun b => ?_ | refine Zs tb ?_ | refine Zu tb ?_))
    exact ⟨_, _, .tmp rfl (.tmp rfl (.tmp rfl (.tmp rfl .nil))), ⟨none, 0, rfl, rfl⟩, _, perm_picks [1, 1, 0] rfl⟩
  by_cases h2 : data.length = 0 ∨ at' < 0 ∨ 65536 - (data.length : Int) < at'
  · have e : withF R at' data = ([], 0, 0, 1) := by unfold withF; rw [if_neg h1, if_pos h2]
    rw [e]
    (repeat' (first | refine Zv tb ?_ | (refine Zt (fun ht => ?_) (fun ht => ?_) <;> (dsimp only [cmpP, cmpN] at ht) <;> (try (exfalso; omega))) | refine Z0 ?_ | refine Zq ?_ | refine Zr ?_ | refine Zk ?_ | refine Zy ?_ | refine Zn ?_ | refine Zj ?_ | refine Ze ?_ | refine Zx ?_ | refine Zqr ?_ | refine Zqs ?_ | refine Zqc ?_ | refine Zqx ?_ | refine Zqf ?_ | refine Zm tb fun b => ?_ | refine Zb fun b => ?_ | refine Zs tb ?_ | refine Zu tb ?_))
    all_goals exact ⟨_, _, .tmp rfl (.tmp rfl (.tmp rfl (.tmp rfl .nil))), ⟨none, 0, rfl, rfl⟩, _, perm_picks [1, 1, 0] rfl⟩
  refine W_fact (p := V = none → R.pl.length = 0 ∧ c = 0) (fun w hs => row_nil (v := .slice V R.pl.length c) hs (List.mem_cons_of_mem _ (List.mem_cons_of_mem _ (List.mem_cons_self ..)))) fun hV => ?_
  (repeat' (first | refine Zv tb ?_ | (refine Zt (fun ht => ?_) (fun ht => ?_) <;> (dsimp only [cmpP, cmpN] at ht) <;> (try (exfalso; omega))) | refine Z0 ?_ | refine Zq ?_ | refine Zr ?_ | refine Zk ?_ | refine Zy ?_ | refine Zn ?_ | refine Zj ?_ | refine Ze ?_ | refine Zx ?_ | refine Zqr ?_ | refine Zqs ?_ | refine Zqc ?_ | refine Zqx ?_ | refine Zqf ?_ | refine Zm tb fun b => ?_ | refine Zb fun b => ?_ | refine Zs tb ?_ | refine Zu tb ?_))
  refine WL_cons rfl (Hv_buildSlice tb rfl rfl rfl (by decide) rfl rfl rfl rfl fun q => ?_)
  (repeat' (first | refine Zv tb ?_ | (refine Zt (fun ht => ?_) (fun ht => ?_) <;> (dsimp only [cmpP, cmpN] at ht) <;> (try (exfalso; omega))) | refine Z0 ?_ | refine Zq ?_ | refine Zr ?_ | refine Zk ?_ | refine Zy ?_ | refine Zn ?_ | refine Zj ?_ | refine Ze ?_ | refine Zx ?_ | refine Zqr ?_ | refine Zqs ?_ | refine Zqc ?_ | refine Zqx ?_ | refine Zqf ?_ | refine Zm tb fun b => ?_ | refine Zb fun b => ?_ | refine Zs tb ?_ | refine Zu tb ?_))
  refine WL_cons rfl (Hv_appendR tb (k := 0) (m := R.pl.length) (news := inC.cells R.pl) rfl rfl rfl rfl rfl (by decide) rfl hV (RdA.row (by repeat (first | exact List.Mem.head _ | apply List.Mem.tail)) (fun h => ?_)) (by rw [in_len, Nat.mul_one]) (in_all R.pl) (by omega) (by omega) rfl fun A0 c0 => ?_)
  · have := (hV h).1
    rw [List.eq_nil_of_length_eq_zero this]; rfl
  rw [Nat.zero_add]
  (repeat' (first | refine Zv tb ?_ | (refine Zt (fun ht => ?_) (fun ht => ?_) <;> (dsimp only [cmpP, cmpN] at ht) <;> (try (exfalso; omega))) | refine Z0 ?_ | refine Zq ?_ | refine Zr ?_ | refine Zk ?_ | refine Zy ?_ | refine Zn ?_ | refine Zj ?_ | refine Ze ?_ | refine Zx ?_ | refine Zqr ?_ | refine Zqs ?_ | refine Zqc ?_ | refine Zqx ?_ | refine Zqf ?_ | refine Zm tb fun b => ?_ | refine Zb fun b => ?_ | refine Zs tb ?_ | refine Zu tb ?_))
  obtain ⟨N, hN⟩ : ∃ N, N = max R.pl.length (at' + data.length).toNat := ⟨_, rfl⟩
  have hwz : wl R at' data 0 = R.pl ++ List.replicate (N - R.pl.length) (-1) := by rw [hN]; exact wl_zero
  have hwl : ∀ i, (wl R at' data i).length = N := fun i => by rw [hN]; exact wl_len R at' data i
  have e0 : R.pl ++ List.replicate (R.pl.length - R.pl.length) (-1) = R.pl := by simp
  refine W_cutB (σ := Option Addr × Nat) (fun | (A, ca) => [(0, .pointer (some ⟨rb, 0, none⟩)), (1, .int .i64 at'), (2, .slice D data.length dc), (10, .slice A N ca)]) (fun | (A, ca) => inI A N ca (wl R at' data 0) :: refI rb R V c) (fun _ => True) ?_ ?_
  · refine W_loop (σ := Nat × Option Addr × Nat) (fun | (m, A, ca) => [(0, .pointer (some ⟨rb, 0, none⟩)), (1, .int .i64 at'), (2, .slice D data.length dc), (10, .slice A m ca)]) (fun | (m, A, ca) => inI A m ca (R.pl ++ List.replicate (m - R.pl.length) (-1)) :: refI rb R V c)
      (fun | (m, A, ca) => R.pl.length ≤ m ∧ m ≤ N) (fun | (m, _) => N - m) (R.pl.length, A0, c0) ⟨Nat.le_refl _, by omega⟩ (by repeat (first | exact Sub.nil | refine Sub.cons rfl ?_)) (by dsimp only; rw [e0]; exact ⟨_, perm_picks [0, 1, 1] rfl⟩) ?_
    rintro ⟨m, A, ca⟩ ⟨hm0, hm1⟩
    dsimp only at hm0 hm1 ⊢
    by_cases hlt : m < N
    · (repeat' (first | refine Zv tb ?_ | (refine Zt (fun ht => ?_) (fun ht => ?_) <;> (dsimp only [cmpP, cmpN] at ht) <;> (try (exfalso; omega))) | refine Z0 ?_ | refine Zq ?_ | refine Zr ?_ | refine Zk ?_ | refine Zy ?_ | refine Zn ?_ | refine Zj ?_ | refine Ze ?_ | refine Zx ?_ | refine Zqr ?_ | refine Zqs ?_ | refine Zqc ?_ | refine Zqx ?_ | refine Zqf ?_ | refine Zm tb fun b => ?_ | refine Zb fun b => ?_ | refine Zs tb ?_ | refine Zu tb ?_))
      refine WL_cons rfl (Hv_buildSlice tb rfl rfl rfl (by decide) rfl rfl rfl rfl fun q => ?_); (repeat' (first | refine Zv tb ?_ | (refine Zt (fun ht => ?_) (fun ht => ?_) <;> (dsimp only [cmpP, cmpN] at ht) <;> (try (exfalso; omega))) | refine Z0 ?_ | refine Zq ?_ | refine Zr ?_ | refine Zk ?_ | refine Zy ?_ | refine Zn ?_ | refine Zj ?_ | refine Ze ?_ | refine Zx ?_ | refine Zqr ?_ | refine Zqs ?_ | refine Zqc ?_ | refine Zqx ?_ | refine Zqf ?_ | refine Zm tb fun b => ?_ | refine Zb fun b => ?_ | refine Zs tb ?_ | refine Zu tb ?_)); refine WL_cons rfl (Hv_append tb (k := 1) (m := 1) rfl rfl rfl rfl rfl (by decide) rfl (Has.row (List.mem_cons_self ..)) rfl rfl (by omega) (by omega) rfl fun V' c' hV' => ?_)
      (repeat' (first | refine Zv tb ?_ | (refine Zt (fun ht => ?_) (fun ht => ?_) <;> (dsimp only [cmpP, cmpN] at ht) <;> (try (exfalso; omega))) | refine Z0 ?_ | refine Zq ?_ | refine Zr ?_ | refine Zk ?_ | refine Zy ?_ | refine Zn ?_ | refine Zj ?_ | refine Ze ?_ | refine Zx ?_ | refine Zqr ?_ | refine Zqs ?_ | refine Zqc ?_ | refine Zqx ?_ | refine Zqf ?_ | refine Zm tb fun b => ?_ | refine Zb fun b => ?_ | refine Zs tb ?_ | refine Zu tb ?_))
      refine ⟨(m + 1, V', c'), ⟨by dsimp only; omega, by dsimp only; omega⟩, by dsimp only; omega, (by repeat (first | exact Sub.nil | refine Sub.cons rfl ?_)), ?_⟩
      dsimp only
      have e3 : R.pl ++ List.replicate (m + 1 - R.pl.length) (-1) = (R.pl ++ List.replicate (m - R.pl.length) (-1)) ++ [-1] := by rw [show m + 1 - R.pl.length = (m - R.pl.length) + 1 by omega, List.replicate_succ', List.append_assoc]
      rw [e3]
      unfold inI
      rw [cells_append inC (R.pl ++ List.replicate (m - R.pl.length) (-1)) [-1], cells_one]
      exact ⟨_, perm_picks [1, 1, 1] rfl⟩
    · obtain rfl : m = N := by omega
      (repeat' (first | refine Zv tb ?_ | (refine Zt (fun ht => ?_) (fun ht => ?_) <;> (dsimp only [cmpP, cmpN] at ht) <;> (try (exfalso; omega))) | refine Z0 ?_ | refine Zq ?_ | refine Zr ?_ | refine Zk ?_ | refine Zy ?_ | refine Zn ?_ | refine Zj ?_ | refine Ze ?_ | refine Zx ?_ | refine Zqr ?_ | refine Zqs ?_ | refine Zqc ?_ | refine Zqx ?_ | refine Zqf ?_ | refine Zm tb fun b => ?_ | refine Zb fun b => ?_ | refine Zs tb ?_ | refine Zu tb ?_))
      refine ⟨(A, ca), trivial, (by repeat (first | exact Sub.nil | refine Sub.cons rfl ?_)), ?_⟩
      dsimp only
      rw [hwz]; exact keepAll _
  rintro ⟨A, ca⟩ -
  dsimp only
  refine W_fact (p := A = none → N = 0) (fun w hs h => ((hs.row_fact (List.mem_cons_self ..)).1 h).2) fun hA => ?_
  obtain ⟨av, rfl⟩ : ∃ v, A = some v := by cases A with
    | some v => exact ⟨v, rfl⟩
    | none => have := hA rfl; omega
  (repeat' (first | refine Zv tb ?_ | (refine Zt (fun ht => ?_) (fun ht => ?_) <;> (dsimp only [cmpP, cmpN] at ht) <;> (try (exfalso; omega))) | refine Z0 ?_ | refine Zq ?_ | refine Zr ?_ | refine Zk ?_ | refine Zy ?_ | refine Zn ?_ | refine Zj ?_ | refine Ze ?_ | refine Zx ?_ | refine Zqr ?_ | refine Zqs ?_ | refine Zqc ?_ | refine Zqx ?_ | refine Zqf ?_ | refine Zm tb fun b => ?_ | refine Zb fun b => ?_ | refine Zs tb ?_ | refine Zu tb ?_))
  refine W_cutB (σ := Unit) (fun _ => [(0, .pointer (some ⟨rb, 0, none⟩)), (10, .slice (some av) N ca), (11, .int .i64 (wfr R at' data.length)), (12, .int .i64 (wcl R at' data data.length))]) (fun _ => inI (some av) N ca (wl R at' data data.length) :: refI rb R V c) (fun _ => True) ?_ ?_
  · refine W_loop (σ := Nat) (fun i => [(0, .pointer (some ⟨rb, 0, none⟩)), (1, .int .i64 at'), (2, .slice D data.length dc), (10, .slice (some av) N ca), (11, .int .i64 (wfr R at' i)), (12, .int .i64 (wcl R at' data i)), (13, .int .i64 i)]) (fun i => inI (some av) N ca (wl R at' data i) :: refI rb R V c)
      (fun i => i ≤ data.length) (fun i => data.length - i) 0 (Nat.zero_le _) (by repeat (first | exact Sub.nil | refine Sub.cons rfl ?_)) (keepAll _) ?_
    intro i hi
    by_cases hid : i < data.length
    · obtain ⟨da, rfl, hHd⟩ := hD.rd (cells_ne byC (by intro h; simp [h] at hid) (by decide))
      have hjN : (at' + i).toNat < N := by omega
      have hv : (inC.cells (wl R at' data i))[(at' + i).toNat * 1]? = some (.int .i64 (pz R.pl (at' + i).toNat)) := by
        rw [in_get (by rw [hwl]; exact hjN), pz_wl (by omega), if_neg (by omega)]
      have hd2 := hdb i hid
      have hwr : IntKind.i64.wrap (bz data i) = bz data i := wrap_i64 (by omega) (by omega)
      have b1 := wfr_bd R at' i
      have b2 := wcl_bd R at' data i
      have s1 : wfr R at' (i + 1) = wfr R at' i + (if pz R.pl (at' + i).toNat < 0 then 1 else 0) := rfl
      have s2 : wcl R at' data (i + 1) = wcl R at' data i + (if 0 ≤ pz R.pl (at' + i).toNat ∧ pz R.pl (at' + i).toNat ≠ bz data (at' + i - at').toNat ∧ R.dr = false then 1 else 0) := rfl
      have s3 := wl_succ (R := R) (at' := at') (data := data) (i := i) (by omega) hid
      rw [show (at' + i - at').toNat = i by omega] at s2
      by_cases hz : pz R.pl (at' + i).toNat < 0
      · rw [if_pos hz] at s1 s3
        rw [if_neg (by omega)] at s2
        (repeat' (first | refine Zv tb ?_ | (refine Zt (fun ht => ?_) (fun ht => ?_) <;> (dsimp only [cmpP, cmpN] at ht) <;> (try (exfalso; omega))) | refine Z0 ?_ | refine Zq ?_ | refine Zr ?_ | refine Zk ?_ | refine Zy ?_ | refine Zn ?_ | refine Zj ?_ | refine Ze ?_ | refine Zx ?_ | refine Zqr ?_ | refine Zqs ?_ | refine Zqc ?_ | refine Zqx ?_ | refine Zqf ?_ | refine Zm tb fun b => ?_ | refine Zb fun b => ?_ | refine Zs tb ?_ | refine WL_u (by first | exact Yl_indexAddr tb (at' + i).toNat rfl rfl rfl (by omega) hjN | exact Yl_load1 tb rfl rfl (Has.row (by repeat (first | exact List.Mem.head _ | apply List.Mem.tail))) hv | exact Yl_indexAddr tb i rfl rfl rfl rfl hid | exact Yl_load1 tb rfl rfl (Has.old hHd) (by_get hid)) rfl rfl ?_ | refine Zu tb ?_))
        refine WL_cons rfl (Hv_storeRow tb (k := 0) (a := av) (o := (at' + i).toNat * 1) rfl rfl rfl rfl rfl (by omega) rfl (cells_put inC (i := (at' + i).toNat) (by rw [hwl]; exact hjN) (IntKind.i64.wrap (bz data i))) rfl ?_)
        (repeat' (first | refine Zv tb ?_ | (refine Zt (fun ht => ?_) (fun ht => ?_) <;> (dsimp only [cmpP, cmpN] at ht) <;> (try (exfalso; omega))) | refine Z0 ?_ | refine Zq ?_ | refine Zr ?_ | refine Zk ?_ | refine Zy ?_ | refine Zn ?_ | refine Zj ?_ | refine Ze ?_ | refine Zx ?_ | refine Zqr ?_ | refine Zqs ?_ | refine Zqc ?_ | refine Zqx ?_ | refine Zqf ?_ | refine Zm tb fun b => ?_ | refine Zb fun b => ?_ | refine Zs tb ?_ | refine Zu tb ?_))
        refine ⟨i + 1, by omega, by omega, ?_, ?_⟩
        · rw [s1, s2, Int.add_zero]
          exact (by repeat (first | exact Sub.nil | refine Sub.cons rfl ?_))
        · rw [s3, hwr]
          exact keepAll _
      · rw [if_neg hz] at s1 s3
        by_cases hc : pz R.pl (at' + i).toNat = bz data i
        · rw [if_neg (fun h => h.2.1 hc)] at s2
          (repeat' (first | refine Zv tb ?_ | (refine Zt (fun ht => ?_) (fun ht => ?_) <;> (dsimp only [cmpP, cmpN] at ht) <;> (try (exfalso; omega))) | refine Z0 ?_ | refine Zq ?_ | refine Zr ?_ | refine Zk ?_ | refine Zy ?_ | refine Zn ?_ | refine Zj ?_ | refine Ze ?_ | refine Zx ?_ | refine Zqr ?_ | refine Zqs ?_ | refine Zqc ?_ | refine Zqx ?_ | refine Zqf ?_ | refine Zm tb fun b => ?_ | refine Zb fun b => ?_ | refine Zs tb ?_ | refine WL_u (by first | exact Yl_indexAddr tb (at' + i).toNat rfl rfl rfl (by omega) hjN | exact Yl_load1 tb rfl rfl (Has.row (by repeat (first | exact List.Mem.head _ | apply List.Mem.tail))) hv | exact Yl_indexAddr tb i rfl rfl rfl rfl hid | exact Yl_load1 tb rfl rfl (Has.old hHd) (by_get hid)) rfl rfl ?_ | refine Zu tb ?_))
          (repeat refine W_seq ?_); refine W_regionD tb [] _ [(0, 0), (1, 0), (2, 0), (3, 0), (4, 0), (5, 1), (6, 0), (7, 0), (8, 0), (9, 1), (10, 0), (11, 0), (12, 0), (13, 0), (14, 0), (15, 0), (16, 1), (17, 0), (18, 0)] (by kernel_rfl) (keepAll _) ?_
          (repeat' (first | refine Zpv tb ?_ | (refine Zpt (fun ht => ?_) (fun ht => ?_) <;> (dsimp only [cmpP, cmpN] at ht) <;> (try (exfalso; omega))) | refine WP_u0 rfl (by first | exact Yl_indexAddr tb (at' + i).toNat rfl rfl rfl (by omega) hjN | exact Yl_load1 tb rfl rfl (Has.row (by repeat (first | exact List.Mem.head _ | apply List.Mem.tail))) hv | exact Yl_indexAddr tb i rfl rfl rfl rfl hid | exact Yl_load1 tb rfl rfl (Has.old hHd) (by_get hid)) rfl rfl ?_ | refine WP_u1 rfl (by first | exact Yl_indexAddr tb (at' + i).toNat rfl rfl rfl (by omega) hjN | exact Yl_load1 tb rfl rfl (Has.row (by repeat (first | exact List.Mem.head _ | apply List.Mem.tail))) hv | exact Yl_indexAddr tb i rfl rfl rfl rfl hid | exact Yl_load1 tb rfl rfl (Has.old hHd) (by_get hid)) rfl rfl ?_ | refine Zpw ?_ | refine Zpu tb ?_ | refine Zps tb ?_ | refine Zpk ?_ | refine Zp0 ?_))
          (repeat' (first | refine Zv tb ?_ | (refine Zt (fun ht => ?_) (fun ht => ?_) <;> (dsimp only [cmpP, cmpN] at ht) <;> (try (exfalso; omega))) | refine Z0 ?_ | refine Zq ?_ | refine Zr ?_ | refine Zk ?_ | refine Zy ?_ | refine Zn ?_ | refine Zj ?_ | refine Ze ?_ | refine Zx ?_ | refine Zqr ?_ | refine Zqs ?_ | refine Zqc ?_ | refine Zqx ?_ | refine Zqf ?_ | refine Zm tb fun b => ?_ | refine Zb fun b => ?_ | refine Zs tb ?_ | refine Zu tb ?_))
          refine ⟨i + 1, by omega, by omega, ?_, ?_⟩
          · rw [s1, s2]
            simp only [Int.add_zero]
            exact (by repeat (first | exact Sub.nil | refine Sub.cons rfl ?_))
          · rw [s3]; exact keepAll _
        · (repeat' (first | refine Zv tb ?_ | (refine Zt (fun ht => ?_) (fun ht => ?_) <;> (dsimp only [cmpP, cmpN] at ht) <;> (try (exfalso; omega))) | refine Z0 ?_ | refine Zq ?_ | refine Zr ?_ | refine Zk ?_ | refine Zy ?_ | refine Zn ?_ | refine Zj ?_ | refine Ze ?_ | refine Zx ?_ | refine Zqr ?_ | refine Zqs ?_ | refine Zqc ?_ | refine Zqx ?_ | refine Zqf ?_ | refine Zm tb fun b => ?_ | refine Zb fun b => ?_ | refine Zs tb ?_ | refine WL_u (by first | exact Yl_indexAddr tb (at' + i).toNat rfl rfl rfl (by omega) hjN | exact Yl_load1 tb rfl rfl (Has.row (by repeat (first | exact List.Mem.head _ | apply List.Mem.tail))) hv | exact Yl_indexAddr tb i rfl rfl rfl rfl hid | exact Yl_load1 tb rfl rfl (Has.old hHd) (by_get hid)) rfl rfl ?_ | refine Zu tb ?_))
          (repeat refine W_seq ?_); refine W_regionD tb [] _ [(0, 0), (1, 0), (2, 0), (3, 0), (4, 0), (5, 1), (6, 0), (7, 0), (8, 0), (9, 1), (10, 0), (11, 0), (12, 0), (13, 0), (14, 0), (15, 0), (16, 1), (17, 0), (18, 0)] (by kernel_rfl) (keepAll _) ?_
          (repeat' (first | refine Zpv tb ?_ | (refine Zpt (fun ht => ?_) (fun ht => ?_) <;> (dsimp only [cmpP, cmpN] at ht) <;> (try (exfalso; omega))) | refine WP_u0 rfl (by first | exact Yl_indexAddr tb (at' + i).toNat rfl rfl rfl (by omega) hjN | exact Yl_load1 tb rfl rfl (Has.row (by repeat (first | exact List.Mem.head _ | apply List.Mem.tail))) hv | exact Yl_indexAddr tb i rfl rfl rfl rfl hid | exact Yl_load1 tb rfl rfl (Has.old hHd) (by_get hid)) rfl rfl ?_ | refine WP_u1 rfl (by first | exact Yl_indexAddr tb (at' + i).toNat rfl rfl rfl (by omega) hjN | exact Yl_load1 tb rfl rfl (Has.row (by repeat (first | exact List.Mem.head _ | apply List.Mem.tail))) hv | exact Yl_indexAddr tb i rfl rfl rfl rfl hid | exact Yl_load1 tb rfl rfl (Has.old hHd) (by_get hid)) rfl rfl ?_ | refine Zpw ?_ | refine Zpu tb ?_ | refine Zps tb ?_ | refine Zpk ?_ | refine Zp0 ?_))
          (repeat' (first | refine Zv tb ?_ | (refine Zt (fun ht => ?_) (fun ht => ?_) <;> (dsimp only [cmpP, cmpN] at ht) <;> (try (exfalso; omega))) | refine Z0 ?_ | refine Zq ?_ | refine Zr ?_ | refine Zk ?_ | refine Zy ?_ | refine Zn ?_ | refine Zj ?_ | refine Ze ?_ | refine Zx ?_ | refine Zqr ?_ | refine Zqs ?_ | refine Zqc ?_ | refine Zqx ?_ | refine Zqf ?_ | refine Zm tb fun b => ?_ | refine Zb fun b => ?_ | refine Zs tb ?_ | refine Zu tb ?_))
          cases hdr : R.dr
          · rw [if_pos ⟨by omega, hc, hdr⟩] at s2
            (repeat' (first | refine Zv tb ?_ | (refine Zt (fun ht => ?_) (fun ht => ?_) <;> (dsimp only [cmpP, cmpN] at ht) <;> (try (exfalso; omega))) | refine Z0 ?_ | refine Zq ?_ | refine Zr ?_ | refine Zk ?_ | refine Zy ?_ | refine Zn ?_ | refine Zj ?_ | refine Ze ?_ | refine Zx ?_ | refine Zqr ?_ | refine Zqs ?_ | refine Zqc ?_ | refine Zqx ?_ | refine Zqf ?_ | refine Zm tb fun b => ?_ | refine Zb fun b => ?_ | refine Zs tb ?_ | refine Zu tb ?_))
            refine ⟨i + 1, by omega, by omega, ?_, ?_⟩
            · rw [s1, s2]
              simp only [Int.add_zero]
              exact (by repeat (first | exact Sub.nil | refine Sub.cons rfl ?_))
            · rw [s3]; exact keepAll _
          · rw [if_neg (fun h => by rw [hdr] at h; cases h.2.2)] at s2
            (repeat' (first | refine Zv tb ?_ | (refine Zt (fun ht => ?_) (fun ht => ?_) <;> (dsimp only [cmpP, cmpN] at ht) <;> (try (exfalso; omega))) | refine Z0 ?_ | refine Zq ?_ | refine Zr ?_ | refine Zk ?_ | refine Zy ?_ | refine Zn ?_ | refine Zj ?_ | refine Ze ?_ | refine Zx ?_ | refine Zqr ?_ | refine Zqs ?_ | refine Zqc ?_ | refine Zqx ?_ | refine Zqf ?_ | refine Zm tb fun b => ?_ | refine Zb fun b => ?_ | refine Zs tb ?_ | refine Zu tb ?_))
            refine ⟨i + 1, by omega, by omega, ?_, ?_⟩
            · rw [s1, s2]
              simp only [Int.add_zero]
              exact (by repeat (first | exact Sub.nil | refine Sub.cons rfl ?_))
            · rw [s3]; exact keepAll _
    · obtain rfl : i = data.length := by omega
      (repeat' (first | refine Zv tb ?_ | (refine Zt (fun ht => ?_) (fun ht => ?_) <;> (dsimp only [cmpP, cmpN] at ht) <;> (try (exfalso; omega))) | refine Z0 ?_ | refine Zq ?_ | refine Zr ?_ | refine Zk ?_ | refine Zy ?_ | refine Zn ?_ | refine Zj ?_ | refine Ze ?_ | refine Zx ?_ | refine Zqr ?_ | refine Zqs ?_ | refine Zqc ?_ | refine Zqx ?_ | refine Zqf ?_ | refine Zm tb fun b => ?_ | refine Zb fun b => ?_ | refine Zs tb ?_ | refine Zu tb ?_))
      exact ⟨(), trivial, (by repeat (first | exact Sub.nil | refine Sub.cons rfl ?_)), keepAll _⟩
  intro _ _
  obtain ⟨Y, hY⟩ : ∃ Y, Y = wl R at' data data.length := ⟨_, rfl⟩
  have hYl : Y.length = N := by rw [hY]; exact hwl _
  rw [← hY]
  refine W_nilrow 3 1 ?_
  (repeat' (first | refine Zv tb ?_ | (refine Zt (fun ht => ?_) (fun ht => ?_) <;> (dsimp only [cmpP, cmpN] at ht) <;> (try (exfalso; omega))) | refine Z0 ?_ | refine Zq ?_ | refine Zr ?_ | refine Zk ?_ | refine Zy ?_ | refine Zn ?_ | refine Zj ?_ | refine Ze ?_ | refine Zx ?_ | refine Zqr ?_ | refine Zqs ?_ | refine Zqc ?_ | refine Zqx ?_ | refine Zqf ?_ | refine Zm tb fun b => ?_ | refine Zb fun b => ?_ | refine Zs tb ?_ | refine Zu tb ?_))
  refine WL_cons rfl (Hv_call tb (Γ1 := []) rfl rfl rfl (List.Perm.refl _) (fun w hs => rspans_n (some av) Y N ca w hYl (SlO.row hs (List.mem_cons_of_mem _ (List.mem_cons_self ..))) (by omega)) rfl ?_)
  rintro v Γ' ⟨V2, c2, rfl, rfl⟩
  have hsl := spF_len Y Y.length
  (repeat' (first | refine Zv tb ?_ | (refine Zt (fun ht => ?_) (fun ht => ?_) <;> (dsimp only [cmpP, cmpN] at ht) <;> (try (exfalso; omega))) | refine Z0 ?_ | refine Zq ?_ | refine Zr ?_ | refine Zk ?_ | refine Zy ?_ | refine Zn ?_ | refine Zj ?_ | refine Ze ?_ | refine Zx ?_ | refine Zqr ?_ | refine Zqs ?_ | refine Zqc ?_ | refine Zqx ?_ | refine Zqf ?_ | refine Zm tb fun b => ?_ | refine Zb fun b => ?_ | refine Zs tb ?_ | refine Zu tb ?_))
  · have e : withF R at' data = ([], 0, 0, 3) := by unfold withF; rw [if_neg h1, if_neg h2, ← hY, if_pos (by omega)]
    rw [e]
    exact ⟨_, _, .tmp rfl (.tmp rfl (.tmp rfl (.tmp rfl .nil))), ⟨none, 0, rfl, rfl⟩, _, perm_picks [3, 3, 1] rfl⟩
  · have e : withF R at' data = (Y, wfr R at' data.length, wcl R at' data data.length, 0) := by unfold withF; rw [if_neg h1, if_neg h2, ← hY, if_neg (by omega)]
    rw [e]
    exact ⟨_, _, .tmp rfl (.tmp rfl (.tmp rfl (.tmp rfl .nil))), ⟨some av, ca, by rw [hYl], by show _ = refI rb R V c ++ [inI (some av) Y.length ca Y]; rw [hYl]; rfl⟩, _, perm_picks [3, 3, 2] rfl⟩
end Go.Proofs.Ytdnngagahhleiaa
