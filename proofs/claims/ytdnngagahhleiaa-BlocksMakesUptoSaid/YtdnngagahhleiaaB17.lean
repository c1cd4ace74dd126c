/- BlocksAgains: the walk. -/
import Derived.Test.YtdnngagahhleiaaB16
import Derived.Test.YtdnngagahhleiaaB12
import Derived.Test.YtdnngagahhleiaaB13
import Derived.Test.YtdnngagahhleiaaSx16
namespace Go.Proofs.Ytdnngagahhleiaa
open Go.Sx
attribute [local irreducible] W WL WP Hv Yl WQ At QP QF Rnd
set_option maxRecDepth 10000
set_option linter.unusedVariables false
set_option linter.unusedSimpArgs false
theorem Again_n (A : Option Addr) (l : List Sp) (n cap : Nat) (s : Ses) (p : Prc) (ck rp : Int) (w : World) (hn : l.length = n) (h : SlO w [] A n cap (spC.cells l)) :
    Tr Try.prog 21 #[sesV s, prcV p, .slice A n cap, .int .i64 ck, .int .i64 rp] w [] (PceL (again s p l ck rp).1 [.int .i64 (again s p l ck rp).2]) := by subst hn; exact Again_t A l cap s p ck rp w h
theorem ragain_n (A : Option Addr) (l : List Sp) (n cap : Nat) (s : Ses) (p : Prc) (ck rp : Int) (w : World) (hn : l.length = n) (h : SlO w [] A n cap (spC.cells l)) :
    Tr Try.prog 22 #[sesV s, prcV p, .slice A n cap, .int .i64 ck, .int .i64 rp] w [] (PceL (again s p l ck rp).1 [.int .i64 (again s p l ck rp).2]) := by subst hn; exact ragain_t A l cap s p ck rp w h
theorem put_to {L : List Sp} {i : Nat} (h : i < L.length) (v : Int) : putL (spC.cells L) (i * 2 + 1) [.int .i64 v] = spC.cells (L.set i ((gp L i).1, v)) := by
  have h1 := cells_put spC h ((gp L i).1, v)
  rw [← h1]
  have hlen := cells_length spC L
  have hs : spC.sz = 2 := rfl
  rw [hs] at hlen ⊢
  apply List.ext_getElem?
  intro j
  have hel : (spC.enc ((gp L i).1, v)).length = 2 := rfl
  rw [putL_get _ _ _ _ (by simp; omega), putL_get _ _ _ _ (by rw [hel]; omega), hel]
  by_cases h2 : j = i * 2 + 1
  · subst h2
    rw [if_pos (by simp), if_pos (by omega)]
    rw [show i * 2 + 1 - (i * 2 + 1) = 0 by omega, show i * 2 + 1 - i * 2 = 1 by omega]; rfl
  · rw [if_neg (by simp; omega)]
    by_cases h3 : j = i * 2
    · subst h3
      rw [if_pos (by omega), show i * 2 - i * 2 = 0 by omega]
      have := cells_get spC (xs := L) (i := i) (j := 0) h (by decide)
      rw [hs, Nat.add_zero] at this
      rw [this, gp_eq h]; rfl
    · rw [if_neg (by omega)]
abbrev gapsI (b : Nat) (s : Ses) (p : Prc) (A : Option Addr) (n cap : Nat) (ck rp : Int) : It := .blk b [.int .i64 s.1, .int .i64 s.2, .int .i64 p.svc, .int .i64 p.size, .int .i64 p.red, .int .i64 p.mtu, .int .i64 p.every, .slice A n cap, .int .i64 ck, .int .i64 rp] 59
abbrev gapsV (s : Ses) (p : Prc) (A : Option Addr) (n cap : Nat) (ck rp : Int) : Value := .agg #[.int .i64 s.1, .int .i64 s.2, .int .i64 p.svc, .int .i64 p.size, .int .i64 p.red, .int .i64 p.mtu, .int .i64 p.every, .slice A n cap, .int .i64 ck, .int .i64 rp]
def m71 : Sp := (-71, -72)
def rowG (l : List Sp) : List Sp := l ++ [m71, m71, m71]
def dec1 (g : Sp) : Sp := (g.1, IntKind.i64.wrap (g.2 - 1))
theorem rowG_len (l : List Sp) : (rowG l).length = l.length + 3 := by simp [rowG]
theorem gp_rowG {l : List Sp} {j : Nat} (h : j < l.length) : gp (rowG l) j = gp l j := by rw [← gp_eq h, ← gp_eq (by rw [rowG_len]; omega)]; simp [rowG, h]
theorem gp_rowM {l : List Sp} {j : Nat} (h : l.length ≤ j) (h2 : j < l.length + 3) : gp (rowG l) j = m71 := by
  rw [← gp_eq (by rw [rowG_len]; omega)]
  have : j = l.length ∨ j = l.length + 1 ∨ j = l.length + 2 := by omega
  rcases this with rfl | rfl | rfl <;> simp [rowG]
set_option maxHeartbeats 4000000 in
theorem agains_t (A : Option Addr) (l : List Sp) (cap : Nat) (s : Ses) (p : Prc) (ck rp : Int) (w : World) (h : SlO w [] A l.length cap (spC.cells l)) (hm : l.length ≤ 1048576) :
    Tr Try.prog 6 #[gapsV s p A l.length cap ck rp] w [] (fun v Γ => v = .bool true ∧ Γ = []) := by
  refine Tr_intro (rs := [.tmp 2]) (args := [gapsV s p A l.length cap ck rp]) Try.func6 rfl rfl 209 rfl rfl ?_
  (repeat' (first | refine Zv tb ?_ | (refine Zt (fun ht => ?_) (fun ht => ?_) <;> (dsimp only [cmpP, cmpN] at ht) <;> (try (exfalso; omega))) | refine Z0 ?_ | refine Zq ?_ | refine Zr ?_ | refine Zk ?_ | refine Zy ?_ | refine Zn ?_ | refine Zj ?_ | refine Ze ?_ | refine Zx ?_ | refine Zqr ?_ | refine Zqs ?_ | refine Zqc ?_ | refine Zqx ?_ | refine Zqf ?_ | refine Zm tb fun b => ?_ | refine Zb fun b => ?_ | refine Zs tb ?_ | refine Zu tb ?_))
  revert b
  intro b1
  refine WL_cons rfl (Hv_call tb (Γ1 := []) rfl rfl rfl (List.Perm.refl _) (fun w hs => awake_t w) rfl ?_)
  rintro v Γ' ⟨rfl, rfl⟩
  (repeat' (first | refine Zv tb ?_ | (refine Zt (fun ht => ?_) (fun ht => ?_) <;> (dsimp only [cmpP, cmpN] at ht) <;> (try (exfalso; omega))) | refine Z0 ?_ | refine Zq ?_ | refine Zr ?_ | refine Zk ?_ | refine Zy ?_ | refine Zn ?_ | refine Zj ?_ | refine Ze ?_ | refine Zx ?_ | refine Zqr ?_ | refine Zqs ?_ | refine Zqc ?_ | refine Zqx ?_ | refine Zqf ?_ | refine Zm tb fun b => ?_ | refine Zb fun b => ?_ | refine Zs tb ?_ | refine Zu tb ?_))
  refine WL_cons rfl (Hv_makeSlice tb (len := l.length + 3) rfl rfl rfl (by decide) rfl rfl (by omega) (by omega) (by omega) (by omega) rfl fun q => ?_)
  rw [cells_rep spC (z := [.int .i64 0, .int .i64 0]) (x := ((0, 0) : Sp)) rfl]
  (repeat' (first | refine Zv tb ?_ | (refine Zt (fun ht => ?_) (fun ht => ?_) <;> (dsimp only [cmpP, cmpN] at ht) <;> (try (exfalso; omega))) | refine Z0 ?_ | refine Zq ?_ | refine Zr ?_ | refine Zk ?_ | refine Zy ?_ | refine Zn ?_ | refine Zj ?_ | refine Ze ?_ | refine Zx ?_ | refine Zqr ?_ | refine Zqs ?_ | refine Zqc ?_ | refine Zqx ?_ | refine Zqf ?_ | refine Zm tb fun b => ?_ | refine Zb fun b => ?_ | refine Zs tb ?_ | refine Zu tb ?_))
  refine WL_cons rfl (Hv_copy tb (kk := 0) (a := ⟨q, 0, none⟩) (o := 0) (news := spC.cells l) (len := l.length + 3) (cap := l.length + 3) (m := l.length) rfl rfl rfl rfl (fun h => rfl) (h.rd.rd _) (fun hn => (h.nil hn).1) (by rw [cells_length, Nat.min_eq_left (by omega)]; rfl) (by decide) (by rw [cells_length]; show 0 + l.length * 2 ≤ _; omega) (cells_all spC (fun _ => rfl) l) (cells_putL0 spC (by simp)) rfl ?_)
  (repeat' (first | refine Zv tb ?_ | (refine Zt (fun ht => ?_) (fun ht => ?_) <;> (dsimp only [cmpP, cmpN] at ht) <;> (try (exfalso; omega))) | refine Z0 ?_ | refine Zq ?_ | refine Zr ?_ | refine Zk ?_ | refine Zy ?_ | refine Zn ?_ | refine Zj ?_ | refine Ze ?_ | refine Zx ?_ | refine Zqr ?_ | refine Zqs ?_ | refine Zqc ?_ | refine Zqx ?_ | refine Zqf ?_ | refine Zm tb fun b => ?_ | refine Zb fun b => ?_ | refine Zs tb ?_ | refine Zu tb ?_))
  revert b
  intro b5
  refine W_cutB (σ := Unit) (fun _ => [(1, .pointer (some ⟨b1, 0, none⟩)), (3, .bool true), (4, .slice (some ⟨q, 0, none⟩) (l.length + 3) (l.length + 3)), (5, .pointer (some ⟨b5, 0, none⟩))])
    (fun _ => [.row (.slice (some ⟨q, 0, none⟩) (l.length + 3) (l.length + 3)) 61 2 (l.length + 3) (spC.cells (rowG l)), .blk b5 [.int .i64 (-71), .int .i64 (-72)] 61, gapsI b1 s p A l.length cap ck rp]) (fun _ => True) ?_ ?_
  · refine W_loop (σ := Nat × List Sp) (fun | (i, Y) => [(1, .pointer (some ⟨b1, 0, none⟩)), (3, .bool true), (4, .slice (some ⟨q, 0, none⟩) (l.length + 3) (l.length + 3)), (5, .pointer (some ⟨b5, 0, none⟩)), (6, .int .i64 i)])
      (fun | (i, Y) => [.row (.slice (some ⟨q, 0, none⟩) (l.length + 3) (l.length + 3)) 61 2 (l.length + 3) (spC.cells Y), .blk b5 [.int .i64 (-71), .int .i64 (-72)] 61, gapsI b1 s p A l.length cap ck rp])
      (fun | (i, Y) => l.length ≤ i ∧ i ≤ l.length + 3 ∧ Y.length = l.length + 3 ∧ ∀ j, j < i → gp Y j = gp (rowG l) j) (fun | (i, _) => l.length + 3 - i) (l.length, l ++ (List.replicate (l.length + 3) (0, 0)).drop l.length) ⟨Nat.le_refl _, by omega, by simp, fun j hj => ?_⟩ (by repeat (first | exact Sub.nil | refine Sub.cons rfl ?_)) ⟨_, perm_picks [1, 0, 0] rfl⟩ ?_
    · rw [gp_rowG hj, ← gp_eq hj, ← gp_eq (by simp; omega), List.getElem_append_left]
    rintro ⟨i, Y⟩ ⟨hi0, hi, hY, hok⟩
    dsimp only at hi0 hi hY hok ⊢
    by_cases hlt : i < l.length + 3
    · (repeat' (first | refine Zv tb ?_ | (refine Zt (fun ht => ?_) (fun ht => ?_) <;> (dsimp only [cmpP, cmpN] at ht) <;> (try (exfalso; omega))) | refine Z0 ?_ | refine Zq ?_ | refine Zr ?_ | refine Zk ?_ | refine Zy ?_ | refine Zn ?_ | refine Zj ?_ | refine Ze ?_ | refine Zx ?_ | refine Zqr ?_ | refine Zqs ?_ | refine Zqc ?_ | refine Zqx ?_ | refine Zqf ?_ | refine Zm tb fun b => ?_ | refine Zb fun b => ?_ | refine Zs tb ?_ | refine WL_u (by first | exact Yl_indexAddr tb i rfl rfl rfl rfl hlt) rfl rfl ?_ | refine Zu tb ?_))
      refine WL_cons rfl (Hv_storeRow tb (k := 0) (a := ⟨q, 0, none⟩) (o := i * 2) rfl rfl rfl rfl rfl (by omega) rfl (cells_put spC (i := i) (by omega) m71) rfl ?_)
      (repeat' (first | refine Zv tb ?_ | (refine Zt (fun ht => ?_) (fun ht => ?_) <;> (dsimp only [cmpP, cmpN] at ht) <;> (try (exfalso; omega))) | refine Z0 ?_ | refine Zq ?_ | refine Zr ?_ | refine Zk ?_ | refine Zy ?_ | refine Zn ?_ | refine Zj ?_ | refine Ze ?_ | refine Zx ?_ | refine Zqr ?_ | refine Zqs ?_ | refine Zqc ?_ | refine Zqx ?_ | refine Zqf ?_ | refine Zm tb fun b => ?_ | refine Zb fun b => ?_ | refine Zs tb ?_ | refine Zu tb ?_))
      refine ⟨(i + 1, Y.set i m71), ⟨by dsimp only; omega, by dsimp only; omega, by simp [hY], fun j hj => ?_⟩, by dsimp only; omega, (by repeat (first | exact Sub.nil | refine Sub.cons rfl ?_)), keepAll _⟩
      dsimp only at hj ⊢
      rw [gp_set (by omega)]
      by_cases hji : i = j
      · subst hji; rw [if_pos rfl, gp_rowM hi0 hlt]
      · rw [if_neg hji]; exact hok j (by omega)
    · (repeat' (first | refine Zv tb ?_ | (refine Zt (fun ht => ?_) (fun ht => ?_) <;> (dsimp only [cmpP, cmpN] at ht) <;> (try (exfalso; omega))) | refine Z0 ?_ | refine Zq ?_ | refine Zr ?_ | refine Zk ?_ | refine Zy ?_ | refine Zn ?_ | refine Zj ?_ | refine Ze ?_ | refine Zx ?_ | refine Zqr ?_ | refine Zqs ?_ | refine Zqc ?_ | refine Zqx ?_ | refine Zqf ?_ | refine Zm tb fun b => ?_ | refine Zb fun b => ?_ | refine Zs tb ?_ | refine Zu tb ?_))
      obtain rfl : i = l.length + 3 := by omega
      obtain rfl : Y = rowG l := gp_ext (by rw [rowG_len]; omega) fun j hj => hok j (by omega)
      exact ⟨(), trivial, (by repeat (first | exact Sub.nil | refine Sub.cons rfl ?_)), keepAll _⟩
  intro _ _
  have hrl := rowG_len l
  have htk : (rowG l).take l.length = l := by simp [rowG]
  have hin : ∀ {K : List It} {w1 : World}, It.row (.slice (some ⟨q, 0, none⟩) (l.length + 3) (l.length + 3)) 61 2 (l.length + 3) (spC.cells (rowG l)) ∈ K → St w [] K w1 → SlO w1 [] (some ⟨q, 0, none⟩) l.length (l.length + 3) (spC.cells l) := fun hm hs => by
    have := SlO.head spC (xs := rowG l) (k := l.length) (SlO.row hs hm) (Nat.le_add_right _ _)
    rwa [htk] at this
  (repeat' (first | refine Zv tb ?_ | (refine Zt (fun ht => ?_) (fun ht => ?_) <;> (dsimp only [cmpP, cmpN] at ht) <;> (try (exfalso; omega))) | refine Z0 ?_ | refine Zq ?_ | refine Zr ?_ | refine Zk ?_ | refine Zy ?_ | refine Zn ?_ | refine Zj ?_ | refine Ze ?_ | refine Zx ?_ | refine Zqr ?_ | refine Zqs ?_ | refine Zqc ?_ | refine Zqx ?_ | refine Zqf ?_ | refine Zm tb fun b => ?_ | refine Zb fun b => ?_ | refine Zs tb ?_ | refine WL_u (by first | exact Yl_ldBA tb rfl rfl (by repeat (first | exact List.Mem.head _ | apply List.Mem.tail)) rfl | exact Yl_sliceH tb l.length rfl rfl rfl rfl (by omega)) rfl rfl ?_ | refine Zu tb ?_))
  refine WL_cons rfl (Hv_call tb (Γ1 := []) rfl rfl rfl (List.Perm.refl _) (fun w hs => Again_t (some ⟨q, 0, none⟩) l (l.length + 3) s p ck rp w (hin (by repeat (first | exact List.Mem.head _ | apply List.Mem.tail)) hs)) rfl ?_)
  rintro v Γ' ⟨V1, c1, rfl, rfl⟩
  refine WL_fact (fun w hs => row_shape hs (List.mem_cons_self ..)) ?_
  rintro ⟨A1, rfl⟩
  (repeat' (first | refine Zv tb ?_ | (refine Zt (fun ht => ?_) (fun ht => ?_) <;> (dsimp only [cmpP, cmpN] at ht) <;> (try (exfalso; omega))) | refine Z0 ?_ | refine Zq ?_ | refine Zr ?_ | refine Zk ?_ | refine Zy ?_ | refine Zn ?_ | refine Zj ?_ | refine Ze ?_ | refine Zx ?_ | refine Zqr ?_ | refine Zqs ?_ | refine Zqc ?_ | refine Zqx ?_ | refine Zqf ?_ | refine Zm tb fun b => ?_ | refine Zb fun b => ?_ | refine Zs tb ?_ | refine WL_u (by first | exact Yl_ldBA tb rfl rfl (by repeat (first | exact List.Mem.head _ | apply List.Mem.tail)) rfl) rfl rfl ?_ | refine Zu tb ?_))
  refine WL_cons rfl (Hv_call tb (Γ1 := []) rfl rfl rfl (List.Perm.refl _) (fun w hs => Again_t (some ⟨q, 0, none⟩) l (l.length + 3) s p ck rp w (hin (by repeat (first | exact List.Mem.head _ | apply List.Mem.tail)) hs)) rfl ?_)
  rintro v Γ' ⟨V2, c2, rfl, rfl⟩
  refine WL_fact (fun w hs => row_shape hs (List.mem_cons_self ..)) ?_
  rintro ⟨A2, rfl⟩
  (repeat' (first | refine Zv tb ?_ | (refine Zt (fun ht => ?_) (fun ht => ?_) <;> (dsimp only [cmpP, cmpN] at ht) <;> (try (exfalso; omega))) | refine Z0 ?_ | refine Zq ?_ | refine Zr ?_ | refine Zk ?_ | refine Zy ?_ | refine Zn ?_ | refine Zj ?_ | refine Ze ?_ | refine Zx ?_ | refine Zqr ?_ | refine Zqs ?_ | refine Zqc ?_ | refine Zqx ?_ | refine Zqf ?_ | refine Zm tb fun b => ?_ | refine Zb fun b => ?_ | refine Zs tb ?_ | refine WL_u (by first | exact Yl_ldBA tb rfl rfl (by repeat (first | exact List.Mem.head _ | apply List.Mem.tail)) rfl) rfl rfl ?_ | refine Zu tb ?_))
  refine WL_cons rfl (Hv_call tb (Γ1 := []) rfl rfl rfl (List.Perm.refl _) (fun w hs => ragain_t A l cap s p ck rp w (h.call hs)) rfl ?_)
  rintro v Γ' ⟨V3, c3, rfl, rfl⟩
  (repeat' (first | refine Zv tb ?_ | (refine Zt (fun ht => ?_) (fun ht => ?_) <;> (dsimp only [cmpP, cmpN] at ht) <;> (try (exfalso; omega))) | refine Z0 ?_ | refine Zq ?_ | refine Zr ?_ | refine Zk ?_ | refine Zy ?_ | refine Zn ?_ | refine Zj ?_ | refine Ze ?_ | refine Zx ?_ | refine Zqr ?_ | refine Zqs ?_ | refine Zqc ?_ | refine Zqx ?_ | refine Zqf ?_ | refine Zm tb fun b => ?_ | refine Zb fun b => ?_ | refine Zs tb ?_ | refine Zu tb ?_))
  refine WL_cons rfl (Hv_call tb (Γ1 := []) rfl rfl rfl (List.Perm.refl _) (fun w hs => samePieces_t _ V3 (again s p l ck rp).1 c1 c3 w (SlO.row hs (by repeat (first | exact List.Mem.head _ | apply List.Mem.tail))) (SlO.row hs (by repeat (first | exact List.Mem.head _ | apply List.Mem.tail)))) rfl ?_)
  rintro v Γ' ⟨rfl, rfl⟩
  (repeat' (first | refine Zv tb ?_ | (refine Zt (fun ht => ?_) (fun ht => ?_) <;> (dsimp only [cmpP, cmpN] at ht) <;> (try (exfalso; omega))) | refine Z0 ?_ | refine Zq ?_ | refine Zr ?_ | refine Zk ?_ | refine Zy ?_ | refine Zn ?_ | refine Zj ?_ | refine Ze ?_ | refine Zx ?_ | refine Zqr ?_ | refine Zqs ?_ | refine Zqc ?_ | refine Zqx ?_ | refine Zqf ?_ | refine Zm tb fun b => ?_ | refine Zb fun b => ?_ | refine Zs tb ?_ | refine Zu tb ?_))
  refine WL_cons rfl (Hv_call tb (Γ1 := []) rfl rfl rfl (List.Perm.refl _) (fun w hs => samePieces_t _ V3 (again s p l ck rp).1 c2 c3 w (SlO.row hs (by repeat (first | exact List.Mem.head _ | apply List.Mem.tail))) (SlO.row hs (by repeat (first | exact List.Mem.head _ | apply List.Mem.tail)))) rfl ?_)
  rintro v Γ' ⟨rfl, rfl⟩
  (repeat' (first | refine Zv tb ?_ | (refine Zt (fun ht => ?_) (fun ht => ?_) <;> (dsimp only [cmpP, cmpN] at ht) <;> (try (exfalso; omega))) | refine Z0 ?_ | refine Zq ?_ | refine Zr ?_ | refine Zk ?_ | refine Zy ?_ | refine Zn ?_ | refine Zj ?_ | refine Ze ?_ | refine Zx ?_ | refine Zqr ?_ | refine Zqs ?_ | refine Zqc ?_ | refine Zqx ?_ | refine Zqf ?_ | refine Zm tb fun b => ?_ | refine Zb fun b => ?_ | refine Zs tb ?_ | refine Zu tb ?_))
  all_goals first | (exfalso; exact ht rfl) | skip
  clear ht
  obtain ⟨P1, hP1⟩ : ∃ P1, P1 = (again s p l ck rp).1 := ⟨_, rfl⟩
  have hk1 := again_len s p l ck rp
  rw [← hP1] at hk1 ⊢
  have hsp : ∀ g : Sp, EqS Try.prog 61 (spC.enc g) (spC.enc g) true := fun g => by
    have := span_eq g g
    rwa [show decide (g = g) = true by simp] at this
  refine W_cutB (σ := List Sp) (fun Z => [(1, .pointer (some ⟨b1, 0, none⟩)), (7, .slice (some ⟨q, 0, none⟩) l.length (l.length + 3)), (8, .slice (adr A1) P1.length c1), (10, .slice (adr A2) P1.length c2)])
    (fun Z => [.row (.slice (some ⟨q, 0, none⟩) (l.length + 3) (l.length + 3)) 61 2 (l.length + 3) (spC.cells Z), pcI (adr A2) P1.length c2 P1, pcI (adr A1) P1.length c1 P1, gapsI b1 s p A l.length cap ck rp]) (fun Z => Z.length = l.length + 3) ?_ ?_
  · refine W_loop (σ := Nat × List Sp) (fun | (i, Y) => [(1, .pointer (some ⟨b1, 0, none⟩)), (4, .slice (some ⟨q, 0, none⟩) (l.length + 3) (l.length + 3)), (5, .pointer (some ⟨b5, 0, none⟩)), (7, .slice (some ⟨q, 0, none⟩) l.length (l.length + 3)), (8, .slice (adr A1) P1.length c1), (10, .slice (adr A2) P1.length c2), (16, .int .i64 i)])
      (fun | (i, Y) => [.row (.slice (some ⟨q, 0, none⟩) (l.length + 3) (l.length + 3)) 61 2 (l.length + 3) (spC.cells Y), .blk b5 [.int .i64 (-71), .int .i64 (-72)] 61, pcI (adr A2) P1.length c2 P1, pcI (adr A1) P1.length c1 P1, gapsI b1 s p A l.length cap ck rp])
      (fun | (i, Y) => i ≤ l.length + 3 ∧ Y.length = l.length + 3 ∧ ∀ j, i ≤ j → gp Y j = gp (rowG l) j) (fun | (i, _) => l.length + 3 - i) (0, rowG l) ⟨by omega, hrl, fun j hj => rfl⟩ (by repeat (first | exact Sub.nil | refine Sub.cons rfl ?_)) ⟨_, perm_picks [3, 3, 1, 1, 1] rfl⟩ ?_
    rintro ⟨i, Y⟩ ⟨hi, hY, hok⟩
    dsimp only at hi hY hok ⊢
    by_cases hlt : i < l.length + 3
    · have hiY : i < Y.length := by omega
      have hYi := hok i (Nat.le_refl _)
      by_cases hil : i < l.length
      · obtain ⟨a, rfl, hHa⟩ := h.rd (cells_ne spC (by intro h; simp [h] at hil) (by decide))
        have hv : ((spC.cells Y).drop (i * 2)).take 2 = spC.enc l[i] := (cells_seg spC hiY).trans (by rw [gp_eq hiY, hYi, gp_rowG hil, ← gp_eq hil])
        (repeat' (first | refine Zv tb ?_ | (refine Zt (fun ht => ?_) (fun ht => ?_) <;> (dsimp only [cmpP, cmpN] at ht) <;> (try (exfalso; omega))) | refine Z0 ?_ | refine Zq ?_ | refine Zr ?_ | refine Zk ?_ | refine Zy ?_ | refine Zn ?_ | refine Zj ?_ | refine Ze ?_ | refine Zx ?_ | refine Zqr ?_ | refine Zqs ?_ | refine Zqc ?_ | refine Zqx ?_ | refine Zqf ?_ | refine Zm tb fun b => ?_ | refine Zb fun b => ?_ | refine Zs tb ?_ | refine Zu tb ?_))
        (repeat refine W_seq ?_); refine W_regionD tb [] _ [(0, 0), (1, 0), (2, 1), (3, 0), (4, 0), (5, 0), (6, 0), (7, 0), (8, 0), (9, 1), (10, 0), (11, 1), (12, 0), (13, 0), (14, 1), (15, 0), (16, 0), (17, 0), (18, 0), (19, 0), (20, 1), (21, 0), (22, 0), (23, 0), (24, 0), (25, 0), (26, 0), (27, 1), (28, 1), (29, 0), (30, 0), (31, 0)] (by kernel_rfl) (keepAll _) ?_
        (repeat' (first | refine Zpv tb ?_ | (refine Zpt (fun ht => ?_) (fun ht => ?_) <;> (dsimp only [cmpP, cmpN] at ht) <;> (try (exfalso; omega))) | refine WP_u0 rfl (by first | exact Yl_indexAddr tb i rfl rfl rfl rfl hlt | exact Yl_indexAddr tb i rfl rfl rfl rfl hil | exact Yl_loadA tb _ rfl rfl (Has.row (by repeat (first | exact List.Mem.head _ | apply List.Mem.tail))) hv rfl | exact Yl_loadA tb _ rfl rfl (Has.old hHa) (cells_seg spC hil) rfl | exact Yl_neS rfl rfl span_fi (hsp l[i])) rfl rfl ?_ | refine WP_u1 rfl (by first | exact Yl_indexAddr tb i rfl rfl rfl rfl hlt | exact Yl_indexAddr tb i rfl rfl rfl rfl hil | exact Yl_loadA tb _ rfl rfl (Has.row (by repeat (first | exact List.Mem.head _ | apply List.Mem.tail))) hv rfl | exact Yl_loadA tb _ rfl rfl (Has.old hHa) (cells_seg spC hil) rfl | exact Yl_neS rfl rfl span_fi (hsp l[i])) rfl rfl ?_ | refine Zpw ?_ | refine Zpu tb ?_ | refine Zps tb ?_ | refine Zpk ?_ | refine Zp0 ?_))
        (repeat' (first | refine Zv tb ?_ | (refine Zt (fun ht => ?_) (fun ht => ?_) <;> (dsimp only [cmpP, cmpN] at ht) <;> (try (exfalso; omega))) | refine Z0 ?_ | refine Zq ?_ | refine Zr ?_ | refine Zk ?_ | refine Zy ?_ | refine Zn ?_ | refine Zj ?_ | refine Ze ?_ | refine Zx ?_ | refine Zqr ?_ | refine Zqs ?_ | refine Zqc ?_ | refine Zqx ?_ | refine Zqf ?_ | refine Zm tb fun b => ?_ | refine Zb fun b => ?_ | refine Zs tb ?_ | refine WL_u (by first | exact Yl_indexAddr tb i rfl rfl rfl rfl hlt | exact Yl_load1 tb rfl rfl ((Has.row (by repeat (first | exact List.Mem.head _ | apply List.Mem.tail))).el (c := spC) hiY) rfl | exact Yl_subw rfl rfl) rfl rfl ?_ | refine Zu tb ?_))
        refine WL_cons rfl (Hv_storeRow tb (k := 0) (a := ⟨q, 0, none⟩) (o := i * 2 + 1) (by rw [← add_add]; rfl) rfl rfl rfl rfl (by omega) rfl (put_to hiY _) rfl ?_)
        (repeat' (first | refine Zv tb ?_ | (refine Zt (fun ht => ?_) (fun ht => ?_) <;> (dsimp only [cmpP, cmpN] at ht) <;> (try (exfalso; omega))) | refine Z0 ?_ | refine Zq ?_ | refine Zr ?_ | refine Zk ?_ | refine Zy ?_ | refine Zn ?_ | refine Zj ?_ | refine Ze ?_ | refine Zx ?_ | refine Zqr ?_ | refine Zqs ?_ | refine Zqc ?_ | refine Zqx ?_ | refine Zqf ?_ | refine Zm tb fun b => ?_ | refine Zb fun b => ?_ | refine Zs tb ?_ | refine Zu tb ?_))
        refine ⟨(i + 1, Y.set i ((gp Y i).1, IntKind.i64.wrap (Y[i].2 - 1))), ⟨by dsimp only; omega, by simp [hY], fun j hj => ?_⟩, by dsimp only; omega, (by repeat (first | exact Sub.nil | refine Sub.cons rfl ?_)), keepAll _⟩
        dsimp only at hj ⊢
        rw [gp_set hiY, if_neg (by omega)]
        exact hok j (by omega)
      · have hv : ((spC.cells Y).drop (i * 2)).take 2 = spC.enc m71 := (cells_seg spC hiY).trans (by rw [gp_eq hiY, hYi, gp_rowM (by omega) hlt])
        (repeat' (first | refine Zv tb ?_ | (refine Zt (fun ht => ?_) (fun ht => ?_) <;> (dsimp only [cmpP, cmpN] at ht) <;> (try (exfalso; omega))) | refine Z0 ?_ | refine Zq ?_ | refine Zr ?_ | refine Zk ?_ | refine Zy ?_ | refine Zn ?_ | refine Zj ?_ | refine Ze ?_ | refine Zx ?_ | refine Zqr ?_ | refine Zqs ?_ | refine Zqc ?_ | refine Zqx ?_ | refine Zqf ?_ | refine Zm tb fun b => ?_ | refine Zb fun b => ?_ | refine Zs tb ?_ | refine Zu tb ?_))
        (repeat refine W_seq ?_); refine W_regionD tb [] _ [(0, 0), (1, 0), (2, 1), (3, 0), (4, 0), (5, 0), (6, 0), (7, 0), (8, 0), (9, 1), (10, 0), (11, 1), (12, 0), (13, 0), (14, 1), (15, 0), (16, 0), (17, 0), (18, 0), (19, 0), (20, 1), (21, 0), (22, 0), (23, 0), (24, 0), (25, 0), (26, 0), (27, 1), (28, 1), (29, 0), (30, 0), (31, 0)] (by kernel_rfl) (keepAll _) ?_
        (repeat' (first | refine Zpv tb ?_ | (refine Zpt (fun ht => ?_) (fun ht => ?_) <;> (dsimp only [cmpP, cmpN] at ht) <;> (try (exfalso; omega))) | refine WP_u0 rfl (by first | exact Yl_indexAddr tb i rfl rfl rfl rfl hlt | exact Yl_loadA tb _ rfl rfl (Has.row (by repeat (first | exact List.Mem.head _ | apply List.Mem.tail))) hv rfl | exact Yl_neS rfl rfl span_fi (hsp m71)) rfl rfl ?_ | refine WP_u1 rfl (by first | exact Yl_indexAddr tb i rfl rfl rfl rfl hlt | exact Yl_loadA tb _ rfl rfl (Has.row (by repeat (first | exact List.Mem.head _ | apply List.Mem.tail))) hv rfl | exact Yl_neS rfl rfl span_fi (hsp m71)) rfl rfl ?_ | refine Zpw ?_ | refine Zpu tb ?_ | refine Zps tb ?_ | refine Zpk ?_ | refine Zp0 ?_))
        (repeat' (first | refine Zv tb ?_ | (refine Zt (fun ht => ?_) (fun ht => ?_) <;> (dsimp only [cmpP, cmpN] at ht) <;> (try (exfalso; omega))) | refine Z0 ?_ | refine Zq ?_ | refine Zr ?_ | refine Zk ?_ | refine Zy ?_ | refine Zn ?_ | refine Zj ?_ | refine Ze ?_ | refine Zx ?_ | refine Zqr ?_ | refine Zqs ?_ | refine Zqc ?_ | refine Zqx ?_ | refine Zqf ?_ | refine Zm tb fun b => ?_ | refine Zb fun b => ?_ | refine Zs tb ?_ | refine WL_u (by first | exact Yl_indexAddr tb i rfl rfl rfl rfl hlt | exact Yl_load1 tb rfl rfl ((Has.row (by repeat (first | exact List.Mem.head _ | apply List.Mem.tail))).el (c := spC) hiY) rfl | exact Yl_subw rfl rfl) rfl rfl ?_ | refine Zu tb ?_))
        refine WL_cons rfl (Hv_storeRow tb (k := 0) (a := ⟨q, 0, none⟩) (o := i * 2 + 1) (by rw [← add_add]; rfl) rfl rfl rfl rfl (by omega) rfl (put_to hiY _) rfl ?_)
        (repeat' (first | refine Zv tb ?_ | (refine Zt (fun ht => ?_) (fun ht => ?_) <;> (dsimp only [cmpP, cmpN] at ht) <;> (try (exfalso; omega))) | refine Z0 ?_ | refine Zq ?_ | refine Zr ?_ | refine Zk ?_ | refine Zy ?_ | refine Zn ?_ | refine Zj ?_ | refine Ze ?_ | refine Zx ?_ | refine Zqr ?_ | refine Zqs ?_ | refine Zqc ?_ | refine Zqx ?_ | refine Zqf ?_ | refine Zm tb fun b => ?_ | refine Zb fun b => ?_ | refine Zs tb ?_ | refine Zu tb ?_))
        refine ⟨(i + 1, Y.set i ((gp Y i).1, IntKind.i64.wrap (Y[i].2 - 1))), ⟨by dsimp only; omega, by simp [hY], fun j hj => ?_⟩, by dsimp only; omega, (by repeat (first | exact Sub.nil | refine Sub.cons rfl ?_)), keepAll _⟩
        dsimp only at hj ⊢
        rw [gp_set hiY, if_neg (by omega)]
        exact hok j (by omega)
    · (repeat' (first | refine Zv tb ?_ | (refine Zt (fun ht => ?_) (fun ht => ?_) <;> (dsimp only [cmpP, cmpN] at ht) <;> (try (exfalso; omega))) | refine Z0 ?_ | refine Zq ?_ | refine Zr ?_ | refine Zk ?_ | refine Zy ?_ | refine Zn ?_ | refine Zj ?_ | refine Ze ?_ | refine Zx ?_ | refine Zqr ?_ | refine Zqs ?_ | refine Zqc ?_ | refine Zqx ?_ | refine Zqf ?_ | refine Zm tb fun b => ?_ | refine Zb fun b => ?_ | refine Zs tb ?_ | refine Zu tb ?_))
      exact ⟨Y, hY, (by repeat (first | exact Sub.nil | refine Sub.cons rfl ?_)), ⟨_, perm_picks [0, 1, 1, 1] rfl⟩⟩
  intro Z hZ
  have hlz : (Z.take l.length).length = l.length := by simp; omega
  have hin2 : ∀ {K : List It} {w1 : World}, It.row (.slice (some ⟨q, 0, none⟩) (l.length + 3) (l.length + 3)) 61 2 (l.length + 3) (spC.cells Z) ∈ K → St w [] K w1 → SlO w1 [] (some ⟨q, 0, none⟩) l.length (l.length + 3) (spC.cells (Z.take l.length)) := fun hm hs =>
    SlO.head spC (xs := Z) (k := l.length) (SlO.row hs hm) (Nat.le_add_right _ _)
  obtain ⟨l2, hl2⟩ : ∃ l2, l2 = Z.take l.length := ⟨_, rfl⟩
  rw [← hl2] at hlz hin2
  (repeat' (first | refine Zv tb ?_ | (refine Zt (fun ht => ?_) (fun ht => ?_) <;> (dsimp only [cmpP, cmpN] at ht) <;> (try (exfalso; omega))) | refine Z0 ?_ | refine Zq ?_ | refine Zr ?_ | refine Zk ?_ | refine Zy ?_ | refine Zn ?_ | refine Zj ?_ | refine Ze ?_ | refine Zx ?_ | refine Zqr ?_ | refine Zqs ?_ | refine Zqc ?_ | refine Zqx ?_ | refine Zqf ?_ | refine Zm tb fun b => ?_ | refine Zb fun b => ?_ | refine Zs tb ?_ | refine WL_u (by first | exact Yl_ldBA tb rfl rfl (by repeat (first | exact List.Mem.head _ | apply List.Mem.tail)) rfl) rfl rfl ?_ | refine Zu tb ?_))
  refine WL_cons rfl (Hv_call tb (Γ1 := []) rfl rfl rfl (List.Perm.refl _) (fun w hs => ragain_n (some ⟨q, 0, none⟩) l2 l.length (l.length + 3) s p ck rp w hlz (hin2 (by repeat (first | exact List.Mem.head _ | apply List.Mem.tail)) hs)) rfl ?_)
  rintro v Γ' ⟨V4, c4, rfl, rfl⟩
  (repeat' (first | refine Zv tb ?_ | (refine Zt (fun ht => ?_) (fun ht => ?_) <;> (dsimp only [cmpP, cmpN] at ht) <;> (try (exfalso; omega))) | refine Z0 ?_ | refine Zq ?_ | refine Zr ?_ | refine Zk ?_ | refine Zy ?_ | refine Zn ?_ | refine Zj ?_ | refine Ze ?_ | refine Zx ?_ | refine Zqr ?_ | refine Zqs ?_ | refine Zqc ?_ | refine Zqx ?_ | refine Zqf ?_ | refine Zm tb fun b => ?_ | refine Zb fun b => ?_ | refine Zs tb ?_ | refine WL_u (by first | exact Yl_ldBA tb rfl rfl (by repeat (first | exact List.Mem.head _ | apply List.Mem.tail)) rfl) rfl rfl ?_ | refine Zu tb ?_))
  refine WL_cons rfl (Hv_call tb (Γ1 := []) rfl rfl rfl (List.Perm.refl _) (fun w hs => Again_n (some ⟨q, 0, none⟩) l2 l.length (l.length + 3) s p ck rp w hlz (hin2 (by repeat (first | exact List.Mem.head _ | apply List.Mem.tail)) hs)) rfl ?_)
  rintro v Γ' ⟨V5, c5, rfl, rfl⟩
  refine WL_fact (fun w hs => row_shape hs (List.mem_cons_self ..)) ?_
  rintro ⟨A5, rfl⟩
  (repeat' (first | refine Zv tb ?_ | (refine Zt (fun ht => ?_) (fun ht => ?_) <;> (dsimp only [cmpP, cmpN] at ht) <;> (try (exfalso; omega))) | refine Z0 ?_ | refine Zq ?_ | refine Zr ?_ | refine Zk ?_ | refine Zy ?_ | refine Zn ?_ | refine Zj ?_ | refine Ze ?_ | refine Zx ?_ | refine Zqr ?_ | refine Zqs ?_ | refine Zqc ?_ | refine Zqx ?_ | refine Zqf ?_ | refine Zm tb fun b => ?_ | refine Zb fun b => ?_ | refine Zs tb ?_ | refine Zu tb ?_))
  refine WL_cons rfl (Hv_call tb (Γ1 := []) rfl rfl rfl (List.Perm.refl _) (fun w hs => samePieces_t _ V4 (again s p l2 ck rp).1 c5 c4 w (SlO.row hs (by repeat (first | exact List.Mem.head _ | apply List.Mem.tail))) (SlO.row hs (by repeat (first | exact List.Mem.head _ | apply List.Mem.tail)))) rfl ?_)
  rintro v Γ' ⟨rfl, rfl⟩
  (repeat' (first | refine Zv tb ?_ | (refine Zt (fun ht => ?_) (fun ht => ?_) <;> (dsimp only [cmpP, cmpN] at ht) <;> (try (exfalso; omega))) | refine Z0 ?_ | refine Zq ?_ | refine Zr ?_ | refine Zk ?_ | refine Zy ?_ | refine Zn ?_ | refine Zj ?_ | refine Ze ?_ | refine Zx ?_ | refine Zqr ?_ | refine Zqs ?_ | refine Zqc ?_ | refine Zqx ?_ | refine Zqf ?_ | refine Zm tb fun b => ?_ | refine Zb fun b => ?_ | refine Zs tb ?_ | refine Zu tb ?_))
  refine WL_cons rfl (Hv_buildSlice tb rfl rfl rfl (by decide) rfl rfl rfl rfl fun r => ?_)
  (repeat' (first | refine Zv tb ?_ | (refine Zt (fun ht => ?_) (fun ht => ?_) <;> (dsimp only [cmpP, cmpN] at ht) <;> (try (exfalso; omega))) | refine Z0 ?_ | refine Zq ?_ | refine Zr ?_ | refine Zk ?_ | refine Zy ?_ | refine Zn ?_ | refine Zj ?_ | refine Ze ?_ | refine Zx ?_ | refine Zqr ?_ | refine Zqs ?_ | refine Zqc ?_ | refine Zqx ?_ | refine Zqf ?_ | refine Zm tb fun b => ?_ | refine Zb fun b => ?_ | refine Zs tb ?_ | refine Zu tb ?_))
  have hk2 := again_len s p l2 ck rp
  refine WL_cons rfl (Hv_call tb  rfl rfl rfl (perm_picks [0, 4, 3, 0] rfl) (fun w hs => mine_t (some ⟨r, 0, none⟩) 3 3 (f3 A1 A2 A5) (f3 P1.length P1.length (again s p l2 ck rp).1.length) (f3 c1 c2 c5) (f3 P1 P1 (again s p l2 ck rp).1) w (by omega) (fun i hi => by unfold f3; split <;> omega) (fun i hi => by unfold f3; split <;> rfl)) rfl ?_)
  rintro v Γ' ⟨rfl, rfl⟩
  (repeat' (first | refine Zv tb ?_ | (refine Zt (fun ht => ?_) (fun ht => ?_) <;> (dsimp only [cmpP, cmpN] at ht) <;> (try (exfalso; omega))) | refine Z0 ?_ | refine Zq ?_ | refine Zr ?_ | refine Zk ?_ | refine Zy ?_ | refine Zn ?_ | refine Zj ?_ | refine Ze ?_ | refine Zx ?_ | refine Zqr ?_ | refine Zqs ?_ | refine Zqc ?_ | refine Zqx ?_ | refine Zqf ?_ | refine Zm tb fun b => ?_ | refine Zb fun b => ?_ | refine Zs tb ?_ | refine Zu tb ?_))
  · exact ⟨_, [], .tmp rfl .nil, ⟨rfl, rfl⟩, _, List.Perm.refl _⟩
  all_goals (exfalso; exact ht rfl)
end Go.Proofs.Ytdnngagahhleiaa
