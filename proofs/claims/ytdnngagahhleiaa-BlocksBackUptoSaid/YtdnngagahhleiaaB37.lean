/- BlocksBack: the walk. -/
import Derived.Test.YtdnngagahhleiaaB35
import Derived.Test.YtdnngagahhleiaaB36
import Derived.Test.YtdnngagahhleiaaB13
import Derived.Test.YtdnngagahhleiaaB15
namespace Go.Proofs.Ytdnngagahhleiaa
open Go.Sx
attribute [local irreducible] W WL WP Hv Yl WQ At QP QF Rnd
set_option maxRecDepth 10000
set_option linter.unusedVariables false
set_option linter.unusedSimpArgs false
def tnC : Cod Int := ⟨1, fun z => [.int .i64 z], fun _ => rfl⟩
abbrev rdI (b : Nat) (red : Int) : It := .blk b [.int .i64 0, .int .i64 red] 61
abbrev sendI (b : Nat) (s : Ses) (p : Prc) (j : Int) (BA : Option Addr) (nb bc : Nat) (TA : Option Addr) (tn tc : Nat) : It := .blk b [.int .i64 s.1, .int .i64 s.2, .int .i64 p.svc, .int .i64 p.size, .int .i64 p.red, .int .i64 p.mtu, .int .i64 p.every, .int .i64 j, .slice BA nb bc, .slice TA tn tc] 92
theorem eB_hld (red : Int) (blk : List Int) : Hld red blk eB := ⟨eB_wb, rfl, fun x h => by simp [eB, mem_nil] at h, fun j h => by simp [eB, mem_nil] at h, Wide.nil red⟩
theorem tn_get {l : List Int} {i : Nat} (h : i < l.length) : (tnC.cells l)[i * 1]? = some (.int .i64 l[i]) := cells_get tnC h (j := 0) (by decide)
theorem mod_nat {z : Int} {n : Nat} (h : 0 < n) : ∃ k : Nat, max 0 z % (n : Int) = k ∧ k < n := by
  have h1 := Int.emod_nonneg (max 0 z) (show (n : Int) ≠ 0 by omega)
  have h2 := Int.emod_lt_of_pos (max 0 z) (show (0 : Int) < n by omega)
  exact ⟨(max 0 z % (n : Int)).toNat, by omega, by omega⟩
theorem W_cutQ {P : Program} {r : Option Nat} {w0 : World} {X : List Nat} {n : Nat} {df : List Deferred} {K : Kont} {Q : Post} {fr : Fr} {Γ : List It} {σ : Type} (F : σ → Fr) (G : σ → List It) (I : σ → Prop) {x z : Code}
    (hx : W P r w0 X n df x (Mt F G I) Q fr Γ) (hy : ∀ s, I s → W P r w0 X n df z K Q (F s) (G s)) : W P r w0 X n df (.seq x z) K Q fr Γ :=
  W_seq (W.mono hx fun fr' Γ' ⟨s, hI, hf, hg⟩ => W.pre (hy s hI) hf hg)
set_option maxHeartbeats 8000000 in
theorem blockback_t (BA TA : Option Addr) (blk tl : List Int) (bc tc : Nat) (s : Ses) (p : Prc) (j : Int) (w : World) (hB : SlO w [] BA blk.length bc (byC.cells blk)) (hbm : blk.length ≤ 1048576) (hT : SlO w [] TA tl.length tc (tnC.cells tl)) (htm : tl.length ≤ 1048576) :
    Tr Try.prog 9 #[sendV s p j BA blk.length bc TA tl.length tc] w [] (fun v Γ => v = .bool true ∧ Γ = []) := by
  refine Tr_intro (rs := [.tmp 2]) (args := [sendV s p j BA blk.length bc TA tl.length tc]) Try.func9 rfl rfl 248 rfl rfl ?_
  (repeat' (first | refine Zv tb ?_ | (refine Zt (fun ht => ?_) (fun ht => ?_) <;> (dsimp only [cmpP, cmpN] at ht) <;> (try (exfalso; omega))) | refine Z0 ?_ | refine Zq ?_ | refine Zr ?_ | refine Zk ?_ | refine Zy ?_ | refine Zn ?_ | refine Zj ?_ | refine Ze ?_ | refine Zx ?_ | refine Zqr ?_ | refine Zqs ?_ | refine Zqc ?_ | refine Zqx ?_ | refine Zqf ?_ | refine Zm tb fun b => ?_ | refine Zb fun b => ?_ | refine Zs tb ?_ | refine Zu tb ?_))
  revert b
  intro b1
  refine WL_cons rfl (Hv_call tb (Γ1 := []) rfl rfl rfl (List.Perm.refl _) (fun w hs => awake_t w) rfl ?_)
  rintro v Γ' ⟨rfl, rfl⟩
  (repeat' (first | refine Zv tb ?_ | (refine Zt (fun ht => ?_) (fun ht => ?_) <;> (dsimp only [cmpP, cmpN] at ht) <;> (try (exfalso; omega))) | refine Z0 ?_ | refine Zq ?_ | refine Zr ?_ | refine Zk ?_ | refine Zy ?_ | refine Zn ?_ | refine Zj ?_ | refine Ze ?_ | refine Zx ?_ | refine Zqr ?_ | refine Zqs ?_ | refine Zqc ?_ | refine Zqx ?_ | refine Zqf ?_ | refine Zm tb fun b => ?_ | refine Zb fun b => ?_ | refine Zs tb ?_ | refine WL_u (by first | exact Yl_ldBA tb rfl rfl (by repeat (first | exact List.Mem.head _ | apply List.Mem.tail)) rfl) rfl rfl ?_ | refine Zu tb ?_))
  refine WL_cons rfl (Hv_call tb (Γ1 := []) rfl rfl rfl (List.Perm.refl _) (fun w hs => may_a s p j w) rfl ?_)
  rintro v Γ' ⟨rfl, rfl⟩
  obtain ⟨m, hm⟩ : ∃ m, m = (sesB s && prcB p && decide (0 ≤ j) && decide (j ≤ 4611686018427322367)) := ⟨_, rfl⟩
  rw [← hm]
  by_cases hbad : m = false ∨ (blk.length : Int) ≠ p.size ∨ p.red = 0
  · cases m
    · (repeat' (first | refine Zv tb ?_ | (refine Zt (fun ht => ?_) (fun ht => ?_) <;> (dsimp only [cmpP, cmpN] at ht) <;> (try (exfalso; omega))) | refine Z0 ?_ | refine Zq ?_ | refine Zr ?_ | refine Zk ?_ | refine Zy ?_ | refine Zn ?_ | refine Zj ?_ | refine Ze ?_ | refine Zx ?_ | refine Zqr ?_ | refine Zqs ?_ | refine Zqc ?_ | refine Zqx ?_ | refine Zqf ?_ | refine Zm tb fun b => ?_ | refine Zb fun b => ?_ | refine Zs tb ?_ | refine Zu tb ?_))
      exact ⟨_, [], .tmp rfl .nil, ⟨rfl, rfl⟩, _, List.Perm.refl _⟩
    · have hbad2 : (blk.length : Int) ≠ p.size ∨ p.red = 0 := by rcases hbad with h | h; cases h; exact h
      (repeat' (first | refine Zv tb ?_ | (refine Zt (fun ht => ?_) (fun ht => ?_) <;> (dsimp only [cmpP, cmpN] at ht) <;> (try (exfalso; omega))) | refine Z0 ?_ | refine Zq ?_ | refine Zr ?_ | refine Zk ?_ | refine Zy ?_ | refine Zn ?_ | refine Zj ?_ | refine Ze ?_ | refine Zx ?_ | refine Zqr ?_ | refine Zqs ?_ | refine Zqc ?_ | refine Zqx ?_ | refine Zqf ?_ | refine Zm tb fun b => ?_ | refine Zb fun b => ?_ | refine Zs tb ?_ | refine Zu tb ?_))
      all_goals exact ⟨_, [], .tmp rfl .nil, ⟨rfl, rfl⟩, _, List.Perm.refl _⟩
  obtain ⟨hm1, hlen, hred⟩ : m = true ∧ (blk.length : Int) = p.size ∧ p.red ≠ 0 := by
    refine ⟨?_, ?_, ?_⟩
    · cases m
      · exact absurd (.inl rfl) hbad
      · rfl
    · exact Classical.byContradiction fun h => hbad (.inr (.inl h))
    · exact fun h => hbad (.inr (.inr h))
  subst hm1
  clear hbad
  obtain ⟨⟨⟨hs0, hp⟩, hj0⟩, hj1⟩ : ((sesB s = true ∧ prcB p = true) ∧ 0 ≤ j) ∧ j ≤ 4611686018427322367 := by simpa using hm.symm
  clear hm
  have hp' := hp
  simp only [prcB, decide_eq_true_eq] at hp'
  obtain ⟨hc0, hL0, hLb, hLc⟩ := cut_law (base := j) hs0 hp ⟨hj0, hj1⟩ hred
  have hLn := cut_len s p j
  obtain ⟨⟨L, ce⟩, hcut⟩ : ∃ r, r = cut s p j := ⟨_, rfl⟩
  rw [← hcut] at hc0 hL0 hLb hLc hLn
  dsimp only at hc0 hL0 hLb hLc hLn
  subst hc0
  (repeat' (first | refine Zv tb ?_ | (refine Zt (fun ht => ?_) (fun ht => ?_) <;> (dsimp only [cmpP, cmpN] at ht) <;> (try (exfalso; omega))) | refine Z0 ?_ | refine Zq ?_ | refine Zr ?_ | refine Zk ?_ | refine Zy ?_ | refine Zn ?_ | refine Zj ?_ | refine Ze ?_ | refine Zx ?_ | refine Zqr ?_ | refine Zqs ?_ | refine Zqc ?_ | refine Zqx ?_ | refine Zqf ?_ | refine Zm tb fun b => ?_ | refine Zb fun b => ?_ | refine Zs tb ?_ | refine WL_u (by first | exact Yl_ldBA tb rfl rfl (by repeat (first | exact List.Mem.head _ | apply List.Mem.tail)) rfl) rfl rfl ?_ | refine Zu tb ?_))
  revert b
  intro b5
  refine WL_cons rfl (Hv_call tb (Γ1 := []) rfl rfl rfl (List.Perm.refl _) (fun w hs => Cut_t s p j w) rfl ?_)
  rw [← hcut]
  rintro v Γ' ⟨V1, c1, rfl, rfl⟩
  refine WL_fact (fun w hs => row_shape hs (List.mem_cons_self ..)) ?_
  rintro ⟨A1, rfl⟩
  (repeat' (first | refine Zv tb ?_ | (refine Zt (fun ht => ?_) (fun ht => ?_) <;> (dsimp only [cmpP, cmpN] at ht) <;> (try (exfalso; omega))) | refine Z0 ?_ | refine Zq ?_ | refine Zr ?_ | refine Zk ?_ | refine Zy ?_ | refine Zn ?_ | refine Zj ?_ | refine Ze ?_ | refine Zx ?_ | refine Zqr ?_ | refine Zqs ?_ | refine Zqc ?_ | refine Zqx ?_ | refine Zqf ?_ | refine Zm tb fun b => ?_ | refine Zb fun b => ?_ | refine Zs tb ?_ | refine Zu tb ?_))
  refine WL_cons rfl (Hv_call tb (Γ1 := []) rfl rfl rfl (List.Perm.refl _) (fun w hs => New_t w) rfl ?_)
  rintro v Γ' ⟨bb, rfl, rfl⟩
  (repeat' (first | refine Zv tb ?_ | (refine Zt (fun ht => ?_) (fun ht => ?_) <;> (dsimp only [cmpP, cmpN] at ht) <;> (try (exfalso; omega))) | refine Z0 ?_ | refine Zq ?_ | refine Zr ?_ | refine Zk ?_ | refine Zy ?_ | refine Zn ?_ | refine Zj ?_ | refine Ze ?_ | refine Zx ?_ | refine Zqr ?_ | refine Zqs ?_ | refine Zqc ?_ | refine Zqx ?_ | refine Zqf ?_ | refine Zm tb fun b => ?_ | refine Zb fun b => ?_ | refine Zs tb ?_ | refine WL_u (by first | exact Yl_eqPN rfl rfl Try.underlying78) rfl rfl ?_ | refine Zu tb ?_))
  refine W_fact (p := A1 = none → L.length = 0) (fun w hs h => ((hs.row_fact (A := adr A1) (m := L.length) (c := c1) (by repeat (first | exact List.Mem.head _ | apply List.Mem.tail))).1 (by rw [h]; rfl)).2) fun hA1 => ?_
  obtain ⟨a1, rfl⟩ : ∃ a, A1 = some a := by
    cases A1 with
    | some a => exact ⟨a, rfl⟩
    | none => have := hA1 rfl; omega
  refine W_cutB (σ := Bf × Option Addr × Nat × Option Addr × Nat) (fun _ => [(1, .pointer (some ⟨b1, 0, none⟩)), (5, .pointer (some ⟨b5, 0, none⟩)), (6, .slice (some ⟨a1, 0, none⟩) L.length c1), (8, .pointer (some ⟨bb, 0, none⟩))]) (fun (B, V, c, U, cu) => bufI bb B V c U cu ++ [pcI (some ⟨a1, 0, none⟩) L.length c1 L, rdI b5 p.red, sendI b1 s p j BA blk.length bc TA tl.length tc]) (fun (B, _) => Hld p.red blk B) ?_ ?_
  · refine W_loop (σ := Nat × Bf × Option Addr × Nat × Option Addr × Nat) (fun (i, _) => [(1, .pointer (some ⟨b1, 0, none⟩)), (5, .pointer (some ⟨b5, 0, none⟩)), (6, .slice (some ⟨a1, 0, none⟩) L.length c1), (8, .pointer (some ⟨bb, 0, none⟩)), (9, .int .i64 i)]) (fun (i, B, V, c, U, cu) => bufI bb B V c U cu ++ [pcI (some ⟨a1, 0, none⟩) L.length c1 L, rdI b5 p.red, sendI b1 s p j BA blk.length bc TA tl.length tc]) (fun (i, B, _) => i ≤ tl.length ∧ Hld p.red blk B) (fun (i, _) => tl.length - i) (0, eB, none, 0, none, 0) ⟨Nat.zero_le _, eB_hld _ _⟩ (by repeat (first | exact Sub.nil | refine Sub.cons rfl ?_)) ⟨_, perm_picks [0, 0, 0, 0, 0, 0] rfl⟩ ?_
    rintro ⟨i, B, V, c, U, cu⟩ ⟨hi, hH⟩
    dsimp only at hi hH ⊢
    by_cases hlt : i < tl.length
    · obtain ⟨ta, rfl, hHt⟩ := hT.rd (cells_ne tnC (by intro h; simp [h] at hlt) (by decide))
      obtain ⟨k, hk, hkl⟩ := mod_nat (z := tl[i]) hL0
      (repeat' (first | refine Zv tb ?_ | (refine Zt (fun ht => ?_) (fun ht => ?_) <;> (dsimp only [cmpP, cmpN] at ht) <;> (try (exfalso; omega))) | refine Z0 ?_ | refine Zq ?_ | refine Zr ?_ | refine Zk ?_ | refine Zy ?_ | refine Zn ?_ | refine Zj ?_ | refine Ze ?_ | refine Zx ?_ | refine Zqr ?_ | refine Zqs ?_ | refine Zqc ?_ | refine Zqx ?_ | refine Zqf ?_ | refine Zm tb fun b => ?_ | refine Zb fun b => ?_ | refine Zs tb ?_ | refine WL_u (by first | exact Yl_indexAddr tb i rfl rfl rfl rfl hlt | exact Yl_load1 tb rfl rfl (Has.old hHt) (tn_get hlt) | exact Yl_rem rfl rfl (by omega) (by omega)) rfl rfl ?_ | refine Zu tb ?_))
      (repeat refine W_seq ?_); refine W_regionD tb [] _ [(0, 0), (1, 0), (2, 0), (3, 0), (4, 1), (5, 0), (6, 0), (7, 0), (8, 1), (9, 0)] (by kernel_rfl) (keepAll _) ?_
      by_cases hf : p.red ≤ L[k].fr
      · (repeat' (first | refine Zpv tb ?_ | (refine Zpt (fun ht => ?_) (fun ht => ?_) <;> (dsimp only [cmpP, cmpN] at ht) <;> (try (exfalso; omega))) | refine WP_u0 rfl (by first | exact Yl_indexAddr tb k rfl rfl rfl hk hkl | exact Yl_load1 tb rfl rfl ((Has.row (by repeat (first | exact List.Mem.head _ | apply List.Mem.tail))).el (c := pcC5) hkl) rfl) rfl rfl ?_ | refine WP_u1 rfl (by first | exact Yl_indexAddr tb k rfl rfl rfl hk hkl | exact Yl_load1 tb rfl rfl ((Has.row (by repeat (first | exact List.Mem.head _ | apply List.Mem.tail))).el (c := pcC5) hkl) rfl) rfl rfl ?_ | refine Zpw ?_ | refine Zpu tb ?_ | refine Zps tb ?_ | refine Zpk ?_ | refine Zp0 ?_))
        (repeat' (first | refine Zv tb ?_ | (refine Zt (fun ht => ?_) (fun ht => ?_) <;> (dsimp only [cmpP, cmpN] at ht) <;> (try (exfalso; omega))) | refine Z0 ?_ | refine Zq ?_ | refine Zr ?_ | refine Zk ?_ | refine Zy ?_ | refine Zn ?_ | refine Zj ?_ | refine Ze ?_ | refine Zx ?_ | refine Zqr ?_ | refine Zqs ?_ | refine Zqc ?_ | refine Zqx ?_ | refine Zqf ?_ | refine Zm tb fun b => ?_ | refine Zb fun b => ?_ | refine Zs tb ?_ | refine Zu tb ?_))
        exact ⟨(i + 1, B, V, c, U, cu), ⟨by dsimp only; omega, hH⟩, by dsimp only; omega, (by repeat (first | exact Sub.nil | refine Sub.cons rfl ?_)), keepAll _⟩
      · obtain ⟨hbit, hwid⟩ := hLb L[k] (List.getElem_mem _) (by omega)
        have hpk : ((pcC5.cells L).drop (k * 5)).take 5 = [.int .i64 L[k].ty, .int .i64 L[k].fr, .int .i64 L[k].to, .int .i64 L[k].ck, .int .i64 L[k].rp] := cells_seg pcC5 hkl
        obtain ⟨y, hy⟩ : ∃ y, L[k] = y := ⟨_, rfl⟩
        rw [hy] at hpk hbit hwid
        have hput := hH.put hbit.fr hbit.lt hbit.to (by omega) (by omega) (.inl hwid)
        (repeat' (first | refine Zpv tb ?_ | (refine Zpt (fun ht => ?_) (fun ht => ?_) <;> (dsimp only [cmpP, cmpN] at ht) <;> (try (exfalso; omega))) | refine WP_u0 rfl (by first | exact Yl_indexAddr tb k rfl rfl rfl hk hkl | exact Yl_load1 tb rfl rfl ((Has.row (by repeat (first | exact List.Mem.head _ | apply List.Mem.tail))).el (c := pcC5) hkl) rfl) rfl rfl ?_ | refine WP_u1 rfl (by first | exact Yl_indexAddr tb k rfl rfl rfl hk hkl | exact Yl_load1 tb rfl rfl ((Has.row (by repeat (first | exact List.Mem.head _ | apply List.Mem.tail))).el (c := pcC5) hkl) rfl) rfl rfl ?_ | refine Zpw ?_ | refine Zpu tb ?_ | refine Zps tb ?_ | refine Zpk ?_ | refine Zp0 ?_))
        (repeat' (first | refine Zv tb ?_ | (refine Zt (fun ht => ?_) (fun ht => ?_) <;> (dsimp only [cmpP, cmpN] at ht) <;> (try (exfalso; omega))) | refine Z0 ?_ | refine Zq ?_ | refine Zr ?_ | refine Zk ?_ | refine Zy ?_ | refine Zn ?_ | refine Zj ?_ | refine Ze ?_ | refine Zx ?_ | refine Zqr ?_ | refine Zqs ?_ | refine Zqc ?_ | refine Zqx ?_ | refine Zqf ?_ | refine Zm tb fun b => ?_ | refine Zb fun b => ?_ | refine Zs tb ?_ | refine Zu tb ?_))
        (repeat refine W_seq ?_); refine W_regionD tb [8] _ [(0, 0), (1, 1), (2, 0), (3, 0), (4, 0), (5, 1), (6, 0), (7, 1), (8, 2), (9, 0)] (by kernel_rfl) (keepAll _) ?_
        (repeat' (first | refine Zpv tb ?_ | (refine Zpt (fun ht => ?_) (fun ht => ?_) <;> (dsimp only [cmpP, cmpN] at ht) <;> (try (exfalso; omega))) | refine WP_u0 rfl (by first | exact Yl_indexAddr tb k rfl rfl rfl hk hkl | exact Yl_loadA tb _ rfl rfl (Has.row (by repeat (first | exact List.Mem.head _ | apply List.Mem.tail))) hpk rfl) rfl rfl ?_ | refine WP_u1 rfl (by first | exact Yl_indexAddr tb k rfl rfl rfl hk hkl | exact Yl_loadA tb _ rfl rfl (Has.row (by repeat (first | exact List.Mem.head _ | apply List.Mem.tail))) hpk rfl) rfl rfl ?_ | refine Zpw ?_ | refine Zpu tb ?_ | refine Zps tb ?_ | refine Zpk ?_ | refine Zp0 ?_))
        refine WP_2 rfl rfl (Hv_call tb  rfl rfl rfl (perm_picks [0, 0, 0] rfl) (fun w hs => came_t bb B V U BA (some ta) c cu bc tl.length tc blk s p j y w hH hs0 hp hbit (.inl hwid) hlen (hB.callP hs (perm_picks [0, 0, 0] rfl))) rfl ?_)
        rintro v Γ' ⟨rfl, V2, c2, U2, cu2, rfl⟩
        refine ⟨.inl rfl, ?_⟩
        (repeat' (first | refine Zpv tb ?_ | (refine Zpt (fun ht => ?_) (fun ht => ?_) <;> (dsimp only [cmpP, cmpN] at ht) <;> (try (exfalso; omega))) | refine Zpw ?_ | refine Zpu tb ?_ | refine Zps tb ?_ | refine Zpk ?_ | refine Zp0 ?_))
        (repeat' (first | refine Zv tb ?_ | (refine Zt (fun ht => ?_) (fun ht => ?_) <;> (dsimp only [cmpP, cmpN] at ht) <;> (try (exfalso; omega))) | refine Z0 ?_ | refine Zq ?_ | refine Zr ?_ | refine Zk ?_ | refine Zy ?_ | refine Zn ?_ | refine Zj ?_ | refine Ze ?_ | refine Zx ?_ | refine Zqr ?_ | refine Zqs ?_ | refine Zqc ?_ | refine Zqx ?_ | refine Zqf ?_ | refine Zm tb fun b => ?_ | refine Zb fun b => ?_ | refine Zs tb ?_ | refine Zu tb ?_))
        exact ⟨(i + 1, _, V2, c2, U2, cu2), ⟨by dsimp only; omega, hput.2.2.2.1⟩, by dsimp only; omega, (by repeat (first | exact Sub.nil | refine Sub.cons rfl ?_)), keepAll _⟩
    · (repeat' (first | refine Zv tb ?_ | (refine Zt (fun ht => ?_) (fun ht => ?_) <;> (dsimp only [cmpP, cmpN] at ht) <;> (try (exfalso; omega))) | refine Z0 ?_ | refine Zq ?_ | refine Zr ?_ | refine Zk ?_ | refine Zy ?_ | refine Zn ?_ | refine Zj ?_ | refine Ze ?_ | refine Zx ?_ | refine Zqr ?_ | refine Zqs ?_ | refine Zqc ?_ | refine Zqx ?_ | refine Zqf ?_ | refine Zm tb fun b => ?_ | refine Zb fun b => ?_ | refine Zs tb ?_ | refine Zu tb ?_))
      exact ⟨(B, V, c, U, cu), hH, (by repeat (first | exact Sub.nil | refine Sub.cons rfl ?_)), keepAll _⟩
  rintro ⟨B, V, c, U, cu⟩ hH
  dsimp only at hH ⊢
  (repeat refine W_seq ?_); refine W_regionD tb [3] _ [(0, 0), (2, 1), (1, 2), (3, 2), (4, 0), (5, 0), (6, 0), (7, 0), (8, 0)] (by kernel_rfl) (keepAll _) ?_
  (repeat' (first | refine Zpv tb ?_ | (refine Zpt (fun ht => ?_) (fun ht => ?_) <;> (dsimp only [cmpP, cmpN] at ht) <;> (try (exfalso; omega))) | refine Zpw ?_ | refine Zpu tb ?_ | refine Zps tb ?_ | refine Zpk ?_ | refine Zp0 ?_))
  refine WP_2 rfl rfl (Hv_call tb  rfl rfl rfl (perm_picks [0, 0, 0] rfl) (fun w hs => Have_t bb B V U c cu w hH.wb) rfl ?_)
  rintro v Γ' ⟨A3, c3, rfl, rfl⟩
  refine ⟨.inr ⟨_, perm_picks [0, 0, 0, 1, 1, 1] rfl⟩, ?_⟩
  (repeat' (first | refine Zpv tb ?_ | (refine Zpt (fun ht => ?_) (fun ht => ?_) <;> (dsimp only [cmpP, cmpN] at ht) <;> (try (exfalso; omega))) | refine Zpw ?_ | refine Zpu tb ?_ | refine Zps tb ?_ | refine Zpk ?_ | refine Zp0 ?_))
  refine WP_2 rfl rfl (Hv_call tb (Γ1 := []) rfl rfl rfl (List.Perm.refl _) (fun w hs => Gaps_t A3 B.came c3 (0, p.red) w (SlO.row hs (by repeat (first | exact List.Mem.head _ | apply List.Mem.tail)))) rfl ?_)
  obtain ⟨G, hG, hGr, hGm, hGe, hGt⟩ := hH.gaps (by omega) (by omega)
  rw [hG]
  rintro v Γ' ⟨V4, c4, rfl, rfl⟩
  refine ⟨.inl rfl, ?_⟩
  (repeat' (first | refine Zpv tb ?_ | (refine Zpt (fun ht => ?_) (fun ht => ?_) <;> (dsimp only [cmpP, cmpN] at ht) <;> (try (exfalso; omega))) | refine Zpw ?_ | refine Zpu tb ?_ | refine Zps tb ?_ | refine Zpk ?_ | refine Zp0 ?_))
  refine Zq ?_
  refine Zq ?_
  (repeat' (first | refine Zv tb ?_ | (refine Zt (fun ht => ?_) (fun ht => ?_) <;> (dsimp only [cmpP, cmpN] at ht) <;> (try (exfalso; omega))) | refine Z0 ?_ | refine Zr ?_ | refine Zm tb fun b => ?_ | refine Zb fun b => ?_ | refine Zs tb ?_ | refine Zu tb ?_))
  refine Zn ?_
  refine Zj ?_
  refine W_cutQ (σ := Bf × Option Addr × Nat × Option Addr × Nat) (fun _ => [(1, .pointer (some ⟨b1, 0, none⟩)), (5, .pointer (some ⟨b5, 0, none⟩)), (6, .slice (some ⟨a1, 0, none⟩) L.length c1), (8, .pointer (some ⟨bb, 0, none⟩))]) (fun (B, V, c, U, cu) => bufI bb B V c U cu ++ [pcI (some ⟨a1, 0, none⟩) L.length c1 L, rdI b5 p.red, sendI b1 s p j BA blk.length bc TA tl.length tc]) (fun (B, _) => Hld p.red blk B ∧ ∀ x, 0 ≤ x → x < p.red → mem B.came x) ?_ ?_
  · by_cases hg : 0 < G.length
    · obtain ⟨k1, k2, k3, k4, k5⟩ := again_law (ck := j + 1) (rp := 3) hs0 hp (by omega) (by omega) (fun x => mem B.came x ∨ p.red ≤ x) hGr hg (hGe hg) hGt
      have k6 := again_len s p G (j + 1) 3
      obtain ⟨M, hM⟩ : ∃ M, (again s p G (j + 1) 3).1 = M := ⟨_, rfl⟩
      rw [hM] at k2 k3 k4 k5 k6
      (repeat' (first | refine Zv tb ?_ | (refine Zt (fun ht => ?_) (fun ht => ?_) <;> (dsimp only [cmpP, cmpN] at ht) <;> (try (exfalso; omega))) | refine Z0 ?_ | refine Zq ?_ | refine Zr ?_ | refine Zk ?_ | refine Zy ?_ | refine Zn ?_ | refine Zj ?_ | refine Ze ?_ | refine Zx ?_ | refine Zqr ?_ | refine Zqs ?_ | refine Zqc ?_ | refine Zqx ?_ | refine Zqf ?_ | refine Zm tb fun b => ?_ | refine Zb fun b => ?_ | refine Zs tb ?_ | refine WL_u (by first | exact Yl_ldBA tb rfl rfl (by repeat (first | exact List.Mem.head _ | apply List.Mem.tail)) rfl) rfl rfl ?_ | refine Zu tb ?_))
      refine WL_cons rfl (Hv_call tb (Γ1 := []) rfl rfl rfl (List.Perm.refl _) (fun w hs => Again_t V4 G c4 s p (j + 1) 3 w (SlO.row hs (by repeat (first | exact List.Mem.head _ | apply List.Mem.tail)))) rfl ?_)
      rw [hM, k1]
      rintro v Γ' ⟨V5, c5, rfl, rfl⟩
      refine WL_fact (fun w hs => row_shape hs (List.mem_cons_self ..)) ?_
      rintro ⟨A5, rfl⟩
      refine WL_fact (p := A5 = none → M.length = 0) (fun w hs h => ((hs.row_fact (A := adr A5) (m := M.length) (c := c5) (by repeat (first | exact List.Mem.head _ | apply List.Mem.tail))).1 (by rw [h]; rfl)).2) fun hA5 => ?_
      obtain ⟨a5, rfl⟩ : ∃ a, A5 = some a := by
        cases A5 with
        | some a => exact ⟨a, rfl⟩
        | none => have := hA5 rfl; omega
      (repeat' (first | refine Zv tb ?_ | (refine Zt (fun ht => ?_) (fun ht => ?_) <;> (dsimp only [cmpP, cmpN] at ht) <;> (try (exfalso; omega))) | refine Z0 ?_ | refine Zq ?_ | refine Zr ?_ | refine Zk ?_ | refine Zy ?_ | refine Zn ?_ | refine Zj ?_ | refine Ze ?_ | refine Zx ?_ | refine Zqr ?_ | refine Zqs ?_ | refine Zqc ?_ | refine Zqx ?_ | refine Zqf ?_ | refine Zm tb fun b => ?_ | refine Zb fun b => ?_ | refine Zs tb ?_ | refine Zu tb ?_))
      refine W_loop (σ := Int × Bf × Option Addr × Nat × Option Addr × Nat) (fun (i, _) => [(1, .pointer (some ⟨b1, 0, none⟩)), (5, .pointer (some ⟨b5, 0, none⟩)), (6, .slice (some ⟨a1, 0, none⟩) L.length c1), (8, .pointer (some ⟨bb, 0, none⟩)), (14, .slice (some ⟨a5, 0, none⟩) M.length c5), (16, .int .i64 i)]) (fun (i, B, V, c, U, cu) => bufI bb B V c U cu ++ [pcI (some ⟨a5, 0, none⟩) M.length c5 M, pcI (some ⟨a1, 0, none⟩) L.length c1 L, rdI b5 p.red, sendI b1 s p j BA blk.length bc TA tl.length tc]) (fun (i, B2, _) => -1 ≤ i ∧ i < M.length ∧ Hld p.red blk B2 ∧ (∀ x, mem B.came x → mem B2.came x) ∧ ∀ z ∈ M.drop (i + 1).toNat, ∀ x, z.fr ≤ x → x < z.to → mem B2.came x) (fun (i, _) => (i + 1).toNat) ((M.length : Int) - 1, B, V, c, U, cu) ⟨by omega, by omega, hH, fun x h => h, fun z hz => ?_⟩ (by repeat (first | exact Sub.nil | refine Sub.cons rfl ?_)) ⟨_, perm_picks [2, 2, 2, 0, 2, 2, 2] rfl⟩ ?_
      · rw [show ((M.length : Int) - 1 + 1).toNat = M.length by omega, List.drop_length] at hz
        cases hz
      rintro ⟨i, B2, V, c, U, cu⟩ ⟨hi0, hi1, hH2, hmo, hcv⟩
      dsimp only at hi0 hi1 hH2 hmo hcv ⊢
      by_cases hge : 0 ≤ i
      · obtain ⟨k, hk⟩ : ∃ k : Nat, i = k := ⟨i.toNat, by omega⟩
        have hkl : k < M.length := by omega
        have hpk : ((pcC5.cells M).drop (k * 5)).take 5 = [.int .i64 M[k].ty, .int .i64 M[k].fr, .int .i64 M[k].to, .int .i64 M[k].ck, .int .i64 M[k].rp] := cells_seg pcC5 hkl
        have hbit := k3 M[k] (List.getElem_mem _)
        have hfill := Fill_get k4 k hkl
        have hdr : M.drop k = M[k] :: M.drop (k + 1) := List.drop_eq_getElem_cons hkl
        rw [show (i + 1).toNat = k + 1 by omega] at hcv
        obtain ⟨y, hy⟩ : ∃ y, M[k] = y := ⟨_, rfl⟩
        rw [hy] at hpk hbit hfill hdr
        have hw : (34 ≤ y.to - y.fr ∨ p.red - 1 ≤ y.to) ∨ mem B2.came y.to := by
          rcases hfill with (h | h) | ⟨z, hz, e⟩
          · exact .inr (hmo _ h)
          · exact .inl (.inr (by omega))
          · have := (k3 z (List.mem_of_mem_drop hz)).lt
            rw [← e]
            exact .inr (hcv z hz z.fr (Int.le_refl _) this)
        have hput := hH2.put hbit.fr hbit.lt hbit.to (by omega) (by omega) hw
        (repeat' (first | refine Zv tb ?_ | (refine Zt (fun ht => ?_) (fun ht => ?_) <;> (dsimp only [cmpP, cmpN] at ht) <;> (try (exfalso; omega))) | refine Z0 ?_ | refine Zq ?_ | refine Zr ?_ | refine Zk ?_ | refine Zy ?_ | refine Zn ?_ | refine Zj ?_ | refine Ze ?_ | refine Zx ?_ | refine Zqr ?_ | refine Zqs ?_ | refine Zqc ?_ | refine Zqx ?_ | refine Zqf ?_ | refine Zm tb fun b => ?_ | refine Zb fun b => ?_ | refine Zs tb ?_ | refine Zu tb ?_))
        (repeat refine W_seq ?_); refine W_regionD tb [8] _ [(0, 0), (1, 1), (2, 0), (3, 0), (4, 0), (5, 1), (6, 0), (7, 1), (8, 2), (9, 0)] (by kernel_rfl) (keepAll _) ?_
        (repeat' (first | refine Zpv tb ?_ | (refine Zpt (fun ht => ?_) (fun ht => ?_) <;> (dsimp only [cmpP, cmpN] at ht) <;> (try (exfalso; omega))) | refine WP_u0 rfl (by first | exact Yl_indexAddr tb k rfl rfl rfl hk hkl | exact Yl_loadA tb _ rfl rfl (Has.row (by repeat (first | exact List.Mem.head _ | apply List.Mem.tail))) hpk rfl) rfl rfl ?_ | refine WP_u1 rfl (by first | exact Yl_indexAddr tb k rfl rfl rfl hk hkl | exact Yl_loadA tb _ rfl rfl (Has.row (by repeat (first | exact List.Mem.head _ | apply List.Mem.tail))) hpk rfl) rfl rfl ?_ | refine Zpw ?_ | refine Zpu tb ?_ | refine Zps tb ?_ | refine Zpk ?_ | refine Zp0 ?_))
        refine WP_2 rfl rfl (Hv_call tb  rfl rfl rfl (perm_picks [0, 0, 0] rfl) (fun w hs => came_t bb B2 V U BA TA c cu bc tl.length tc blk s p j y w hH2 hs0 hp hbit hw hlen (hB.callP hs (perm_picks [0, 0, 0] rfl))) rfl ?_)
        rintro v Γ' ⟨rfl, V2, c2, U2, cu2, rfl⟩
        refine ⟨.inl rfl, ?_⟩
        (repeat' (first | refine Zpv tb ?_ | (refine Zpt (fun ht => ?_) (fun ht => ?_) <;> (dsimp only [cmpP, cmpN] at ht) <;> (try (exfalso; omega))) | refine Zpw ?_ | refine Zpu tb ?_ | refine Zps tb ?_ | refine Zpk ?_ | refine Zp0 ?_))
        (repeat' (first | refine Zv tb ?_ | (refine Zt (fun ht => ?_) (fun ht => ?_) <;> (dsimp only [cmpP, cmpN] at ht) <;> (try (exfalso; omega))) | refine Z0 ?_ | refine Zq ?_ | refine Zr ?_ | refine Zk ?_ | refine Zy ?_ | refine Zn ?_ | refine Zj ?_ | refine Ze ?_ | refine Zx ?_ | refine Zqr ?_ | refine Zqs ?_ | refine Zqc ?_ | refine Zqx ?_ | refine Zqf ?_ | refine Zm tb fun b => ?_ | refine Zb fun b => ?_ | refine Zs tb ?_ | refine Zu tb ?_))
        refine ⟨(i - 1, _, V2, c2, U2, cu2), ⟨by dsimp only; omega, by dsimp only; omega, hput.2.2.2.1, fun x hx => (hput.2.2.2.2.1 x).2 (.inl (hmo x hx)), fun z hz x x1 x2 => ?_⟩, by dsimp only; omega, (by repeat (first | exact Sub.nil | refine Sub.cons rfl ?_)), keepAll _⟩
        dsimp only at hz ⊢
        rw [show (i - 1 + 1).toNat = k by omega, hdr] at hz
        rcases List.mem_cons.1 hz with rfl | hz
        · exact (hput.2.2.2.2.1 x).2 (.inr ⟨x1, x2⟩)
        · exact (hput.2.2.2.2.1 x).2 (.inl (hcv z hz x x1 x2))
      · (repeat' (first | refine Zv tb ?_ | (refine Zt (fun ht => ?_) (fun ht => ?_) <;> (dsimp only [cmpP, cmpN] at ht) <;> (try (exfalso; omega))) | refine Z0 ?_ | refine Zq ?_ | refine Zr ?_ | refine Zk ?_ | refine Zy ?_ | refine Zn ?_ | refine Zj ?_ | refine Ze ?_ | refine Zx ?_ | refine Zqr ?_ | refine Zqs ?_ | refine Zqc ?_ | refine Zqx ?_ | refine Zqf ?_ | refine Zm tb fun b => ?_ | refine Zb fun b => ?_ | refine Zs tb ?_ | refine Zu tb ?_))
        refine ⟨(B2, V, c, U, cu), ⟨hH2, fun x x1 x2 => ?_⟩, (by repeat (first | exact Sub.nil | refine Sub.cons rfl ?_)), ⟨_, perm_picks [0, 0, 0, 1, 1, 1] rfl⟩⟩
        dsimp only
        by_cases hx : mem B.came x
        · exact hmo x hx
        · obtain ⟨y, hy, y1, y2⟩ := k5 x ((hGm x).2 ⟨⟨x1, x2⟩, hx⟩)
          rw [show (i + 1).toNat = 0 by omega, List.drop_zero] at hcv
          exact hcv y hy x y1 y2
    · (repeat' (first | refine Zv tb ?_ | (refine Zt (fun ht => ?_) (fun ht => ?_) <;> (dsimp only [cmpP, cmpN] at ht) <;> (try (exfalso; omega))) | refine Z0 ?_ | refine Zq ?_ | refine Zr ?_ | refine Zk ?_ | refine Zy ?_ | refine Zn ?_ | refine Zj ?_ | refine Ze ?_ | refine Zx ?_ | refine Zqr ?_ | refine Zqs ?_ | refine Zqc ?_ | refine Zqx ?_ | refine Zqf ?_ | refine Zm tb fun b => ?_ | refine Zb fun b => ?_ | refine Zs tb ?_ | refine Zu tb ?_))
      refine ⟨(B, V, c, U, cu), ⟨hH, fun x x1 x2 => ?_⟩, (by repeat (first | exact Sub.nil | refine Sub.cons rfl ?_)), ⟨_, perm_picks [1, 1, 1, 2, 2, 2] rfl⟩⟩
      by_cases hx : mem B.came x
      · exact hx
      · have := (hGm x).2 ⟨⟨x1, x2⟩, hx⟩
        rw [List.eq_nil_of_length_eq_zero (by omega : G.length = 0)] at this
        simp [mem_nil] at this
  clear hGm hGe hGt hGr hG hH
  clear V c U cu B
  rintro ⟨B, V, c, U, cu⟩ ⟨hH, hall⟩
  dsimp only at hH hall ⊢
  obtain ⟨hrd, hheld⟩ := hH.all (by omega) (by omega) (by omega) hall
  (repeat' (first | refine Zv tb ?_ | (refine Zt (fun ht => ?_) (fun ht => ?_) <;> (dsimp only [cmpP, cmpN] at ht) <;> (try (exfalso; omega))) | refine Z0 ?_ | refine Zq ?_ | refine Zr ?_ | refine Zk ?_ | refine Zy ?_ | refine Zn ?_ | refine Zj ?_ | refine Ze ?_ | refine Zx ?_ | refine Zqr ?_ | refine Zqs ?_ | refine Zqc ?_ | refine Zqx ?_ | refine Zqf ?_ | refine Zm tb fun b => ?_ | refine Zb fun b => ?_ | refine Zs tb ?_ | refine Zu tb ?_))
  obtain ⟨D, hD⟩ : ∃ D, D = blk.take p.red.toNat := ⟨_, rfl⟩
  have hDl : D.length = p.red.toNat := by rw [hD]; simp; omega
  rw [← hD] at hrd
  have hle := hB.le
  have hRd : ∀ K : List It, RdA w [] K BA (D.map (Value.int .u8)) := fun K => by
    have := (hB.rd.rd K).tk (p.red.toNat * 1)
    rw [← by_map, hD]
    rwa [show (1 : Nat) = byC.sz from rfl, cells_take] at this
  have hnl : BA = none → p.red.toNat = 0 := fun hn => by have := (hB.nil hn).1; omega
  refine WL_cons rfl (Hv_call tb  rfl rfl rfl (perm_picks [0, 0, 0] rfl) (fun w hs => Read_t bb B V U c cu (0, p.red) w hH.wb) rfl ?_)
  rw [hrd]
  rintro v Γ' ⟨V6, c6, rfl, rfl⟩
  refine WL_fact (p := V6 = none → D.length = 0) (fun w hs h => ((hs.row_fact (A := V6) (m := D.length) (c := c6) (by repeat (first | exact List.Mem.head _ | apply List.Mem.tail))).1 h).2) fun hn6 => ?_
  have hR6 : ∀ {w0 : World} {X : List Nat} {K : List It}, byI V6 D.length c6 D ∈ K → RdA w0 X K V6 (D.map (Value.int .u8)) := fun hK => by
    rw [← by_map]; exact RdA.row hK (fun h => by rw [List.eq_nil_of_length_eq_zero (hn6 h)]; rfl)
  (repeat' (first | refine Zv tb ?_ | (refine Zt (fun ht => ?_) (fun ht => ?_) <;> (dsimp only [cmpP, cmpN] at ht) <;> (try (exfalso; omega))) | refine Z0 ?_ | refine Zq ?_ | refine Zr ?_ | refine Zk ?_ | refine Zy ?_ | refine Zn ?_ | refine Zj ?_ | refine Ze ?_ | refine Zx ?_ | refine Zqr ?_ | refine Zqs ?_ | refine Zqc ?_ | refine Zqx ?_ | refine Zqf ?_ | refine Zm tb fun b => ?_ | refine Zb fun b => ?_ | refine Zs tb ?_ | refine Zu tb ?_))
  (repeat refine W_seq ?_); refine W_regionD tb [] _ [(0, 0), (1, 0), (2, 0), (3, 0), (4, 1), (5, 0), (6, 1), (7, 0), (8, 0), (9, 0), (10, 1), (11, 0), (12, 1), (13, 0), (14, 0), (15, 0), (16, 0), (18, 0), (19, 0), (20, 0), (21, 1), (17, 2), (22, 0), (23, 0)] (by kernel_rfl) (keepAll _) ?_
  (repeat' (first | refine Zpv tb ?_ | (refine Zpt (fun ht => ?_) (fun ht => ?_) <;> (dsimp only [cmpP, cmpN] at ht) <;> (try (exfalso; omega))) | refine WP_u0 rfl (by first | exact Yl_sliceH tb p.red.toNat rfl rfl rfl (by omega) (by omega) | exact Yl_bstr Try.underlying26 Try.underlying5 Try.underlying9 rfl hn6 (hR6 (by repeat (first | exact List.Mem.head _ | apply List.Mem.tail))) rfl | exact Yl_bstr Try.underlying26 Try.underlying5 Try.underlying9 rfl hnl (hRd _) hDl | exact Yl_neStrF rfl rfl) rfl rfl ?_ | refine WP_u1 rfl (by first | exact Yl_sliceH tb p.red.toNat rfl rfl rfl (by omega) (by omega) | exact Yl_bstr Try.underlying26 Try.underlying5 Try.underlying9 rfl hn6 (hR6 (by repeat (first | exact List.Mem.head _ | apply List.Mem.tail))) rfl | exact Yl_bstr Try.underlying26 Try.underlying5 Try.underlying9 rfl hnl (hRd _) hDl | exact Yl_neStrF rfl rfl) rfl rfl ?_ | refine Zpw ?_ | refine Zpu tb ?_ | refine Zps tb ?_ | refine Zpk ?_ | refine Zp0 ?_))
  refine WP_2 rfl rfl (Hv_call tb  rfl rfl rfl (perm_picks [0, 0, 0] rfl) (fun w hs => Held_t bb B V U c cu w hH.wb) rfl ?_)
  rw [show heldF B = p.red from hheld]
  rintro v Γ' ⟨rfl, rfl⟩
  refine ⟨.inr (keepAll _), ?_⟩
  (repeat' (first | refine Zpv tb ?_ | (refine Zpt (fun ht => ?_) (fun ht => ?_) <;> (dsimp only [cmpP, cmpN] at ht) <;> (try (exfalso; omega))) | refine Zpw ?_ | refine Zpu tb ?_ | refine Zps tb ?_ | refine Zpk ?_ | refine Zp0 ?_))
  (repeat' (first | refine Zv tb ?_ | (refine Zt (fun ht => ?_) (fun ht => ?_) <;> (dsimp only [cmpP, cmpN] at ht) <;> (try (exfalso; omega))) | refine Z0 ?_ | refine Zq ?_ | refine Zr ?_ | refine Zk ?_ | refine Zy ?_ | refine Zn ?_ | refine Zj ?_ | refine Ze ?_ | refine Zx ?_ | refine Zqr ?_ | refine Zqs ?_ | refine Zqc ?_ | refine Zqx ?_ | refine Zqf ?_ | refine Zm tb fun b => ?_ | refine Zb fun b => ?_ | refine Zs tb ?_ | refine Zu tb ?_))
  refine WL_cons rfl (Hv_call tb (Γ1 := []) rfl rfl rfl (List.Perm.refl _) (fun w hs => New_t w) rfl ?_)
  rintro v Γ' ⟨cc, rfl, rfl⟩
  (repeat' (first | refine Zv tb ?_ | (refine Zt (fun ht => ?_) (fun ht => ?_) <;> (dsimp only [cmpP, cmpN] at ht) <;> (try (exfalso; omega))) | refine Z0 ?_ | refine Zq ?_ | refine Zr ?_ | refine Zk ?_ | refine Zy ?_ | refine Zn ?_ | refine Zj ?_ | refine Ze ?_ | refine Zx ?_ | refine Zqr ?_ | refine Zqs ?_ | refine Zqc ?_ | refine Zqx ?_ | refine Zqf ?_ | refine Zm tb fun b => ?_ | refine Zb fun b => ?_ | refine Zs tb ?_ | refine Zu tb ?_))
  clear hH hall hrd hheld hR6
  refine W_cutB (σ := Bf × Option Addr × Nat × Option Addr × Nat) (fun _ => [(5, .pointer (some ⟨b5, 0, none⟩)), (18, .slice V6 D.length c6), (20, .pointer (some ⟨cc, 0, none⟩))]) (fun (B, V, c, U, cu) => bufI cc B V c U cu ++ [byI V6 D.length c6 D, rdI b5 p.red]) (fun (B, _) => Hld p.red blk B ∧ ∀ x, 0 ≤ x → x < p.red → mem B.came x) ?_ ?_
  · refine W_loop (σ := Nat × Bf × Option Addr × Nat × Option Addr × Nat) (fun (i, _) => [(1, .pointer (some ⟨b1, 0, none⟩)), (5, .pointer (some ⟨b5, 0, none⟩)), (6, .slice (some ⟨a1, 0, none⟩) L.length c1), (18, .slice V6 D.length c6), (20, .pointer (some ⟨cc, 0, none⟩)), (21, .int .i64 i)]) (fun (i, B, V, c, U, cu) => bufI cc B V c U cu ++ [byI V6 D.length c6 D, pcI (some ⟨a1, 0, none⟩) L.length c1 L, rdI b5 p.red, sendI b1 s p j BA blk.length bc TA tl.length tc]) (fun (i, B, _) => i ≤ L.length ∧ Hld p.red blk B ∧ ∀ y ∈ L.take i, y.fr < p.red → ∀ x, y.fr ≤ x → x < y.to → mem B.came x) (fun (i, _) => L.length - i) (0, eB, none, 0, none, 0) ⟨Nat.zero_le _, eB_hld _ _, fun y hy => by simp at hy⟩ (by repeat (first | exact Sub.nil | refine Sub.cons rfl ?_)) ⟨_, perm_picks [0, 0, 0, 3, 3, 3, 3] rfl⟩ ?_
    rintro ⟨i, B, V, c, U, cu⟩ ⟨hi, hH, hcv⟩
    dsimp only at hi hH hcv ⊢
    by_cases hlt : i < L.length
    · have htk : L.take (i + 1) = L.take i ++ [L[i]] := List.take_succ_eq_append_getElem hlt
      have hpk : ((pcC5.cells L).drop (i * 5)).take 5 = [.int .i64 L[i].ty, .int .i64 L[i].fr, .int .i64 L[i].to, .int .i64 L[i].ck, .int .i64 L[i].rp] := cells_seg pcC5 hlt
      obtain ⟨y, hy⟩ : ∃ y, L[i] = y := ⟨_, rfl⟩
      have hlb := hLb L[i] (List.getElem_mem _)
      rw [hy] at hpk htk hlb
      by_cases hf : L[i].fr < p.red
      · rw [hy] at hf
        obtain ⟨hbit, hwid⟩ := hlb hf
        have hput := hH.put hbit.fr hbit.lt hbit.to (by omega) (by omega) (.inl hwid)
        rw [← hy] at hf
        (repeat' (first | refine Zv tb ?_ | (refine Zt (fun ht => ?_) (fun ht => ?_) <;> (dsimp only [cmpP, cmpN] at ht) <;> (try (exfalso; omega))) | refine Z0 ?_ | refine Zq ?_ | refine Zr ?_ | refine Zk ?_ | refine Zy ?_ | refine Zn ?_ | refine Zj ?_ | refine Ze ?_ | refine Zx ?_ | refine Zqr ?_ | refine Zqs ?_ | refine Zqc ?_ | refine Zqx ?_ | refine Zqf ?_ | refine Zm tb fun b => ?_ | refine Zb fun b => ?_ | refine Zs tb ?_ | refine Zu tb ?_))
        (repeat refine W_seq ?_); refine W_regionD tb [] _ [(0, 0), (1, 0), (2, 0), (3, 0), (4, 1), (5, 0), (6, 0), (7, 0), (8, 1), (9, 0)] (by kernel_rfl) (keepAll _) ?_
        (repeat' (first | refine Zpv tb ?_ | (refine Zpt (fun ht => ?_) (fun ht => ?_) <;> (dsimp only [cmpP, cmpN] at ht) <;> (try (exfalso; omega))) | refine WP_u0 rfl (by first | exact Yl_indexAddr tb i rfl rfl rfl rfl hlt | exact Yl_load1 tb rfl rfl ((Has.row (by repeat (first | exact List.Mem.head _ | apply List.Mem.tail))).el (c := pcC5) hlt) rfl) rfl rfl ?_ | refine WP_u1 rfl (by first | exact Yl_indexAddr tb i rfl rfl rfl rfl hlt | exact Yl_load1 tb rfl rfl ((Has.row (by repeat (first | exact List.Mem.head _ | apply List.Mem.tail))).el (c := pcC5) hlt) rfl) rfl rfl ?_ | refine Zpw ?_ | refine Zpu tb ?_ | refine Zps tb ?_ | refine Zpk ?_ | refine Zp0 ?_))
        (repeat' (first | refine Zv tb ?_ | (refine Zt (fun ht => ?_) (fun ht => ?_) <;> (dsimp only [cmpP, cmpN] at ht) <;> (try (exfalso; omega))) | refine Z0 ?_ | refine Zq ?_ | refine Zr ?_ | refine Zk ?_ | refine Zy ?_ | refine Zn ?_ | refine Zj ?_ | refine Ze ?_ | refine Zx ?_ | refine Zqr ?_ | refine Zqs ?_ | refine Zqc ?_ | refine Zqx ?_ | refine Zqf ?_ | refine Zm tb fun b => ?_ | refine Zb fun b => ?_ | refine Zs tb ?_ | refine Zu tb ?_))
        (repeat refine W_seq ?_); refine W_regionD tb [11] _ [(0, 0), (1, 0), (2, 0), (3, 0), (4, 1), (5, 0), (6, 0), (7, 0), (8, 1), (9, 0), (10, 1), (11, 2), (12, 0), (13, 0)] (by kernel_rfl) (keepAll _) ?_
        (repeat' (first | refine Zpv tb ?_ | (refine Zpt (fun ht => ?_) (fun ht => ?_) <;> (dsimp only [cmpP, cmpN] at ht) <;> (try (exfalso; omega))) | refine WP_u0 rfl (by first | exact Yl_nePN rfl rfl Try.underlying78 | exact Yl_indexAddr tb i rfl rfl rfl rfl hlt | exact Yl_loadA tb _ rfl rfl (Has.row (by repeat (first | exact List.Mem.head _ | apply List.Mem.tail))) hpk rfl) rfl rfl ?_ | refine WP_u1 rfl (by first | exact Yl_nePN rfl rfl Try.underlying78 | exact Yl_indexAddr tb i rfl rfl rfl rfl hlt | exact Yl_loadA tb _ rfl rfl (Has.row (by repeat (first | exact List.Mem.head _ | apply List.Mem.tail))) hpk rfl) rfl rfl ?_ | refine Zpw ?_ | refine Zpu tb ?_ | refine Zps tb ?_ | refine Zpk ?_ | refine Zp0 ?_))
        refine WP_2 rfl rfl (Hv_call tb  rfl rfl rfl (perm_picks [0, 0, 0] rfl) (fun w hs => came_t cc B V U BA TA c cu bc tl.length tc blk s p j y w hH hs0 hp hbit (.inl hwid) hlen (hB.callP hs (perm_picks [0, 0, 0] rfl))) rfl ?_)
        rintro v Γ' ⟨rfl, V2, c2, U2, cu2, rfl⟩
        refine ⟨.inl rfl, ?_⟩
        (repeat' (first | refine Zpv tb ?_ | (refine Zpt (fun ht => ?_) (fun ht => ?_) <;> (dsimp only [cmpP, cmpN] at ht) <;> (try (exfalso; omega))) | refine Zpw ?_ | refine Zpu tb ?_ | refine Zps tb ?_ | refine Zpk ?_ | refine Zp0 ?_))
        (repeat' (first | refine Zv tb ?_ | (refine Zt (fun ht => ?_) (fun ht => ?_) <;> (dsimp only [cmpP, cmpN] at ht) <;> (try (exfalso; omega))) | refine Z0 ?_ | refine Zq ?_ | refine Zr ?_ | refine Zk ?_ | refine Zy ?_ | refine Zn ?_ | refine Zj ?_ | refine Ze ?_ | refine Zx ?_ | refine Zqr ?_ | refine Zqs ?_ | refine Zqc ?_ | refine Zqx ?_ | refine Zqf ?_ | refine Zm tb fun b => ?_ | refine Zb fun b => ?_ | refine Zs tb ?_ | refine Zu tb ?_))
        refine ⟨(i + 1, _, V2, c2, U2, cu2), ⟨by dsimp only; omega, hput.2.2.2.1, fun z hz hzf x x1 x2 => ?_⟩, by dsimp only; omega, (by repeat (first | exact Sub.nil | refine Sub.cons rfl ?_)), keepAll _⟩
        dsimp only at hz ⊢
        rw [htk] at hz
        rcases List.mem_append.1 hz with hz | hz
        · exact (hput.2.2.2.2.1 x).2 (.inl (hcv z hz hzf x x1 x2))
        · obtain rfl := List.mem_singleton.1 hz
          exact (hput.2.2.2.2.1 x).2 (.inr ⟨x1, x2⟩)
      · (repeat' (first | refine Zv tb ?_ | (refine Zt (fun ht => ?_) (fun ht => ?_) <;> (dsimp only [cmpP, cmpN] at ht) <;> (try (exfalso; omega))) | refine Z0 ?_ | refine Zq ?_ | refine Zr ?_ | refine Zk ?_ | refine Zy ?_ | refine Zn ?_ | refine Zj ?_ | refine Ze ?_ | refine Zx ?_ | refine Zqr ?_ | refine Zqs ?_ | refine Zqc ?_ | refine Zqx ?_ | refine Zqf ?_ | refine Zm tb fun b => ?_ | refine Zb fun b => ?_ | refine Zs tb ?_ | refine Zu tb ?_))
        (repeat refine W_seq ?_); refine W_regionD tb [] _ [(0, 0), (1, 0), (2, 0), (3, 0), (4, 1), (5, 0), (6, 0), (7, 0), (8, 1), (9, 0)] (by kernel_rfl) (keepAll _) ?_
        (repeat' (first | refine Zpv tb ?_ | (refine Zpt (fun ht => ?_) (fun ht => ?_) <;> (dsimp only [cmpP, cmpN] at ht) <;> (try (exfalso; omega))) | refine WP_u0 rfl (by first | exact Yl_indexAddr tb i rfl rfl rfl rfl hlt | exact Yl_load1 tb rfl rfl ((Has.row (by repeat (first | exact List.Mem.head _ | apply List.Mem.tail))).el (c := pcC5) hlt) rfl) rfl rfl ?_ | refine WP_u1 rfl (by first | exact Yl_indexAddr tb i rfl rfl rfl rfl hlt | exact Yl_load1 tb rfl rfl ((Has.row (by repeat (first | exact List.Mem.head _ | apply List.Mem.tail))).el (c := pcC5) hlt) rfl) rfl rfl ?_ | refine Zpw ?_ | refine Zpu tb ?_ | refine Zps tb ?_ | refine Zpk ?_ | refine Zp0 ?_))
        (repeat' (first | refine Zv tb ?_ | (refine Zt (fun ht => ?_) (fun ht => ?_) <;> (dsimp only [cmpP, cmpN] at ht) <;> (try (exfalso; omega))) | refine Z0 ?_ | refine Zq ?_ | refine Zr ?_ | refine Zk ?_ | refine Zy ?_ | refine Zn ?_ | refine Zj ?_ | refine Ze ?_ | refine Zx ?_ | refine Zqr ?_ | refine Zqs ?_ | refine Zqc ?_ | refine Zqx ?_ | refine Zqf ?_ | refine Zm tb fun b => ?_ | refine Zb fun b => ?_ | refine Zs tb ?_ | refine Zu tb ?_))
        refine ⟨(i + 1, B, V, c, U, cu), ⟨by dsimp only; omega, hH, fun z hz hzf x x1 x2 => ?_⟩, by dsimp only; omega, (by repeat (first | exact Sub.nil | refine Sub.cons rfl ?_)), keepAll _⟩
        dsimp only at hz ⊢
        rw [htk] at hz
        rcases List.mem_append.1 hz with hz | hz
        · exact hcv z hz hzf x x1 x2
        · obtain rfl := List.mem_singleton.1 hz
          rw [hy] at hf
          exact absurd hzf hf
    · (repeat' (first | refine Zv tb ?_ | (refine Zt (fun ht => ?_) (fun ht => ?_) <;> (dsimp only [cmpP, cmpN] at ht) <;> (try (exfalso; omega))) | refine Z0 ?_ | refine Zq ?_ | refine Zr ?_ | refine Zk ?_ | refine Zy ?_ | refine Zn ?_ | refine Zj ?_ | refine Ze ?_ | refine Zx ?_ | refine Zqr ?_ | refine Zqs ?_ | refine Zqc ?_ | refine Zqx ?_ | refine Zqf ?_ | refine Zm tb fun b => ?_ | refine Zb fun b => ?_ | refine Zs tb ?_ | refine Zu tb ?_))
      refine ⟨(B, V, c, U, cu), ⟨hH, fun x x1 x2 => ?_⟩, (by repeat (first | exact Sub.nil | refine Sub.cons rfl ?_)), ⟨_, perm_picks [0, 0, 0, 0, 1] rfl⟩⟩
      obtain ⟨y, hy, hyf, y1, y2⟩ := hLc x x1 x2
      exact hcv y (by rw [List.take_of_length_le (by omega)]; exact hy) hyf x y1 y2
  rintro ⟨B, V, c, U, cu⟩ ⟨hH, hall⟩
  dsimp only at hH hall ⊢
  obtain ⟨hrd, hheld⟩ := hH.all (by omega) (by omega) (by omega) hall
  rw [← hD] at hrd
  (repeat' (first | refine Zv tb ?_ | (refine Zt (fun ht => ?_) (fun ht => ?_) <;> (dsimp only [cmpP, cmpN] at ht) <;> (try (exfalso; omega))) | refine Z0 ?_ | refine Zq ?_ | refine Zr ?_ | refine Zk ?_ | refine Zy ?_ | refine Zn ?_ | refine Zj ?_ | refine Ze ?_ | refine Zx ?_ | refine Zqr ?_ | refine Zqs ?_ | refine Zqc ?_ | refine Zqx ?_ | refine Zqf ?_ | refine Zm tb fun b => ?_ | refine Zb fun b => ?_ | refine Zs tb ?_ | refine Zu tb ?_))
  refine WL_cons rfl (Hv_call tb  rfl rfl rfl (perm_picks [0, 0, 0] rfl) (fun w hs => Read_t cc B V U c cu (0, p.red) w hH.wb) rfl ?_)
  rw [hrd]
  rintro v Γ' ⟨V7, c7, rfl, rfl⟩
  refine WL_fact (p := V7 = none → D.length = 0) (fun w hs h => ((hs.row_fact (A := V7) (m := D.length) (c := c7) (by repeat (first | exact List.Mem.head _ | apply List.Mem.tail))).1 h).2) fun hn7 => ?_
  have hR : ∀ {w0 : World} {X : List Nat} {K : List It} {V : Option Addr} {c : Nat}, (V = none → D.length = 0) → byI V D.length c D ∈ K → RdA w0 X K V (D.map (Value.int .u8)) := fun hn hK => by
    rw [← by_map]; exact RdA.row hK (fun h => by rw [List.eq_nil_of_length_eq_zero (hn h)]; rfl)
  (repeat' (first | refine Zv tb ?_ | (refine Zt (fun ht => ?_) (fun ht => ?_) <;> (dsimp only [cmpP, cmpN] at ht) <;> (try (exfalso; omega))) | refine Z0 ?_ | refine Zq ?_ | refine Zr ?_ | refine Zk ?_ | refine Zy ?_ | refine Zn ?_ | refine Zj ?_ | refine Ze ?_ | refine Zx ?_ | refine Zqr ?_ | refine Zqs ?_ | refine Zqc ?_ | refine Zqx ?_ | refine Zqf ?_ | refine Zm tb fun b => ?_ | refine Zb fun b => ?_ | refine Zs tb ?_ | refine WL_u (by first | exact Yl_bstr Try.underlying26 Try.underlying5 Try.underlying9 rfl hn7 (hR hn7 (by repeat (first | exact List.Mem.head _ | apply List.Mem.tail))) rfl | exact Yl_bstr Try.underlying26 Try.underlying5 Try.underlying9 rfl hn6 (hR hn6 (by repeat (first | exact List.Mem.head _ | apply List.Mem.tail))) rfl | exact Yl_eqStrT rfl rfl) rfl rfl ?_ | refine Zu tb ?_))
  exact ⟨_, [], .tmp rfl .nil, ⟨rfl, rfl⟩, _, List.Perm.refl _⟩
end Go.Proofs.Ytdnngagahhleiaa
