/- BlocksBack: may; came: a piece's bytes come to a buffer. -/
import Derived.Test.YtdnngagahhleiaaB20
import Derived.Test.YtdnngagahhleiaaB22
import Derived.Test.YtdnngagahhleiaaB9
import Derived.Test.YtdnngagahhleiaaL9
import Derived.Test.YtdnngagahhleiaaSx17
namespace Go.Proofs.Ytdnngagahhleiaa
open Go.Sx
attribute [local irreducible] W WL WP Hv Yl WQ At QP QF Rnd
set_option maxRecDepth 10000
set_option linter.unusedVariables false
set_option linter.unusedSimpArgs false
abbrev askC (s : Ses) (p : Prc) (j : Int) : List Value := [.int .i64 s.1, .int .i64 s.2, .int .i64 p.svc, .int .i64 p.size, .int .i64 p.red, .int .i64 p.mtu, .int .i64 p.every, .int .i64 j]
abbrev sendV (s : Ses) (p : Prc) (j : Int) (BA : Option Addr) (nb bc : Nat) (TA : Option Addr) (tn tc : Nat) : Value := .agg #[.int .i64 s.1, .int .i64 s.2, .int .i64 p.svc, .int .i64 p.size, .int .i64 p.red, .int .i64 p.mtu, .int .i64 p.every, .int .i64 j, .slice BA nb bc, .slice TA tn tc]
set_option maxHeartbeats 1000000 in
theorem came_t (bb : Nat) (B : Bf) (V U BA TA : Option Addr) (c cu bc tn tc : Nat) (blk : List Int) (s : Ses) (p : Prc) (j : Int) (y : Pce) (w : World) (hH : Hld p.red blk B) (hs : sesB s = true) (hp : prcB p = true) (hy : Bit p y) (hw : (34 ≤ y.to - y.fr ∨ p.red - 1 ≤ y.to) ∨ mem B.came y.to) (hl : (blk.length : Int) = p.size)
    (hB : SlO w (fps (bufI bb B V c U cu)) BA blk.length bc (byC.cells blk)) :
    Tr Try.prog 34 #[.pointer (some ⟨bb, 0, none⟩), sendV s p j BA blk.length bc TA tn tc, pcVal y, .slice BA blk.length bc] w (bufI bb B V c U cu)
      (fun v Γ => v = .bool true ∧ ∃ V c U cu, Γ = bufI bb (putF B y.fr (bitB blk y)).1 V c U cu) := by
  have hp' := hp
  simp only [prcB, decide_eq_true_eq] at hp'
  obtain ⟨y0, y1, y2, y3⟩ := hy
  obtain ⟨p1, p2, p3, p4, p5, p6⟩ := hH.put y0 y1 y2 (by omega) (by omega) hw
  have e : mkE s p y blk.length = 0 := by unfold mkE; rw [if_neg (by omega), if_neg (by simp [hs]), if_neg (by simp [hp, y3]), if_neg (by omega)]
  have eG : mkG s p y blk.length = ⟨y.ty, s, p.svc, y.fr, y.ck, y.rp⟩ := by unfold mkG; rw [if_pos e]
  have eD : mkD s p y blk = bitB blk y := by unfold mkD; rw [if_pos e]; rfl
  have hsg := SlO.seg byC hB rfl (i := y.fr.toNat) (by omega)
  have hRd : ∀ K : List It, RdA w (fps (bufI bb B V c U cu)) K (sA BA bc y.fr.toNat 1) ((bitB blk y).map (Value.int .u8)) := fun K => by
    have := (hsg.rd.rd K).tk ((y.to - y.fr).toNat * 1)
    rw [← by_map]
    rwa [show (1 : Nat) = byC.sz from rfl, cells_take] at this
  have hnl : sA BA bc y.fr.toNat 1 = none → y.to.toNat - y.fr.toNat = 0 := fun hn => by have := hsg.nil hn; omega
  have hwb := hH.wb
  have hwb2 := p4.wb
  have hle := hB.le
  generalize bitB blk y = D at *
  refine Tr_intro (rs := [.tmp 8]) (args := [.pointer (some ⟨bb, 0, none⟩), sendV s p j BA blk.length bc TA tn tc, pcVal y, .slice BA blk.length bc]) Try.func34 rfl rfl 100 rfl rfl ?_
  (repeat' (first | refine Zv tb ?_ | (refine Zt (fun ht => ?_) (fun ht => ?_) <;> (dsimp only [cmpP, cmpN] at ht) <;> (try (exfalso; omega))) | refine Z0 ?_ | refine Zq ?_ | refine Zr ?_ | refine Zk ?_ | refine Zy ?_ | refine Zn ?_ | refine Zj ?_ | refine Ze ?_ | refine Zx ?_ | refine Zqr ?_ | refine Zqs ?_ | refine Zqc ?_ | refine Zqx ?_ | refine Zqf ?_ | refine Zm tb fun b => ?_ | refine Zb fun b => ?_ | refine Zs tb ?_ | refine WL_u (by first | exact Yl_ldBA tb rfl rfl (by repeat (first | exact List.Mem.head _ | apply List.Mem.tail)) rfl) rfl rfl ?_ | refine Zu tb ?_))
  refine WL_cons rfl (Hv_call tb (Γ1 := []) rfl rfl rfl (List.Perm.refl _) (fun w hs => Make_t BA blk bc s p y w (hB.call hs)) rfl ?_)
  rw [e, eG, eD]
  rintro v Γ' ⟨V1, c1, rfl, rfl⟩
  (repeat' (first | refine Zv tb ?_ | (refine Zt (fun ht => ?_) (fun ht => ?_) <;> (dsimp only [cmpP, cmpN] at ht) <;> (try (exfalso; omega))) | refine Z0 ?_ | refine Zq ?_ | refine Zr ?_ | refine Zk ?_ | refine Zy ?_ | refine Zn ?_ | refine Zj ?_ | refine Ze ?_ | refine Zx ?_ | refine Zqr ?_ | refine Zqs ?_ | refine Zqc ?_ | refine Zqx ?_ | refine Zqf ?_ | refine Zm tb fun b => ?_ | refine Zb fun b => ?_ | refine Zs tb ?_ | refine Zu tb ?_))
  refine WL_cons rfl (Hv_call tb  rfl rfl rfl (perm_picks [4, 4, 4] rfl) (fun w hs => Look_t bb B V U V1 c cu c1 y.fr D w hwb (SlO.rowX hs (perm_picks [4, 4, 4] rfl) (by repeat (first | exact List.Mem.head _ | apply List.Mem.tail)))) rfl ?_)
  obtain ⟨⟨lc, l1, l2, l3⟩, hL⟩ : ∃ r, r = lookF B y.fr D := ⟨_, rfl⟩
  obtain ⟨⟨B2, q1, q2, q3⟩, hQ⟩ : ∃ r, r = putF B y.fr D := ⟨_, rfl⟩
  rw [← hL] at p2 p3 ⊢
  rw [← hQ] at p3 p4 p5 p6 hwb2 ⊢
  obtain ⟨rfl, rfl⟩ : l2 = 0 ∧ l3 = 0 := by simpa using p2
  obtain ⟨rfl, rfl, rfl⟩ : q1 = l1 ∧ q2 = 0 ∧ q3 = 0 := by simpa using p3
  rintro v Γ' ⟨rfl, rfl⟩
  (repeat' (first | refine Zv tb ?_ | (refine Zt (fun ht => ?_) (fun ht => ?_) <;> (dsimp only [cmpP, cmpN] at ht) <;> (try (exfalso; omega))) | refine Z0 ?_ | refine Zq ?_ | refine Zr ?_ | refine Zk ?_ | refine Zy ?_ | refine Zn ?_ | refine Zj ?_ | refine Ze ?_ | refine Zx ?_ | refine Zqr ?_ | refine Zqs ?_ | refine Zqc ?_ | refine Zqx ?_ | refine Zqf ?_ | refine Zm tb fun b => ?_ | refine Zb fun b => ?_ | refine Zs tb ?_ | refine Zu tb ?_))
  refine WL_cons rfl (Hv_call tb  rfl rfl rfl (perm_picks [0, 0, 0] rfl) (fun w hs => Put_t bb B V U V1 c cu c1 y.fr D w hwb (SlO.rowX hs (perm_picks [0, 0, 0] rfl) (by repeat (first | exact List.Mem.head _ | apply List.Mem.tail)))) rfl ?_)
  rw [← hQ]
  rintro v Γ' ⟨rfl, V2, c2, U2, cu2, rfl⟩
  (repeat' (first | refine Zv tb ?_ | (refine Zt (fun ht => ?_) (fun ht => ?_) <;> (dsimp only [cmpP, cmpN] at ht) <;> (try (exfalso; omega))) | refine Z0 ?_ | refine Zq ?_ | refine Zr ?_ | refine Zk ?_ | refine Zy ?_ | refine Zn ?_ | refine Zj ?_ | refine Ze ?_ | refine Zx ?_ | refine Zqr ?_ | refine Zqs ?_ | refine Zqc ?_ | refine Zqx ?_ | refine Zqf ?_ | refine Zm tb fun b => ?_ | refine Zb fun b => ?_ | refine Zs tb ?_ | refine Zu tb ?_))
  refine WL_cons rfl (Hv_call tb  rfl rfl rfl (perm_picks [0, 0, 0] rfl) (fun w hs => Read_t bb B2 V2 U2 c2 cu2 (y.fr, y.to) w hwb2) rfl ?_)
  dsimp only at p6
  rw [p6]
  rintro v Γ' ⟨V3, c3, rfl, rfl⟩
  refine WL_fact (p := V3 = none → D.length = 0) (fun w hs h => ((hs.row_fact (A := V3) (m := D.length) (c := c3) (by repeat (first | exact List.Mem.head _ | apply List.Mem.tail))).1 h).2) fun hn3 => ?_
  have hR3 : ∀ {w0 : World} {X : List Nat} {K : List It}, byI V3 D.length c3 D ∈ K → RdA w0 X K V3 (D.map (Value.int .u8)) := fun hK => by
    rw [← by_map]; exact RdA.row hK (fun h => by rw [List.eq_nil_of_length_eq_zero (hn3 h)]; rfl)
  (repeat' (first | refine Zv tb ?_ | (refine Zt (fun ht => ?_) (fun ht => ?_) <;> (dsimp only [cmpP, cmpN] at ht) <;> (try (exfalso; omega))) | refine Z0 ?_ | refine Zq ?_ | refine Zr ?_ | refine Zk ?_ | refine Zy ?_ | refine Zn ?_ | refine Zj ?_ | refine Ze ?_ | refine Zx ?_ | refine Zqr ?_ | refine Zqs ?_ | refine Zqc ?_ | refine Zqx ?_ | refine Zqf ?_ | refine Zm tb fun b => ?_ | refine Zb fun b => ?_ | refine Zs tb ?_ | refine Zu tb ?_))
  (repeat refine W_seq ?_); refine W_regionD tb [] _ [(0, 0), (1, 0), (2, 0), (3, 0), (4, 0), (5, 0), (6, 0), (7, 0), (8, 0), (9, 0), (10, 0), (11, 0), (12, 0), (13, 0), (14, 0), (15, 0), (16, 0), (17, 0), (18, 0), (19, 0), (20, 0), (21, 0), (22, 0), (23, 0), (24, 0), (25, 0), (26, 0), (27, 0), (28, 0), (29, 1), (30, 0), (31, 0), (32, 1), (33, 0), (34, 1), (35, 0), (36, 1), (37, 0), (38, 0), (39, 0)] (by kernel_rfl) (keepAll _) ?_
  (repeat' (first | refine Zpv tb ?_ | (refine Zpt (fun ht => ?_) (fun ht => ?_) <;> (dsimp only [cmpP, cmpN] at ht) <;> (try (exfalso; omega))) | refine WP_u0 rfl (by first | exact Yl_sliceLH tb y.fr.toNat y.to.toNat rfl rfl rfl rfl (by omega) (by omega) (by omega) (by omega) | exact Yl_bstr Try.underlying26 Try.underlying5 Try.underlying9 rfl hn3 (hR3 (by repeat (first | exact List.Mem.head _ | apply List.Mem.tail))) rfl | exact Yl_bstr Try.underlying26 Try.underlying5 Try.underlying9 rfl hnl (hRd _) (by omega) | exact Yl_eqStrT rfl rfl) rfl rfl ?_ | refine WP_u1 rfl (by first | exact Yl_sliceLH tb y.fr.toNat y.to.toNat rfl rfl rfl rfl (by omega) (by omega) (by omega) (by omega) | exact Yl_bstr Try.underlying26 Try.underlying5 Try.underlying9 rfl hn3 (hR3 (by repeat (first | exact List.Mem.head _ | apply List.Mem.tail))) rfl | exact Yl_bstr Try.underlying26 Try.underlying5 Try.underlying9 rfl hnl (hRd _) (by omega) | exact Yl_eqStrT rfl rfl) rfl rfl ?_ | refine Zpw ?_ | refine Zpu tb ?_ | refine Zps tb ?_ | refine Zpk ?_ | refine Zp0 ?_))
  (repeat' (first | refine Zv tb ?_ | (refine Zt (fun ht => ?_) (fun ht => ?_) <;> (dsimp only [cmpP, cmpN] at ht) <;> (try (exfalso; omega))) | refine Z0 ?_ | refine Zq ?_ | refine Zr ?_ | refine Zk ?_ | refine Zy ?_ | refine Zn ?_ | refine Zj ?_ | refine Ze ?_ | refine Zx ?_ | refine Zqr ?_ | refine Zqs ?_ | refine Zqc ?_ | refine Zqx ?_ | refine Zqf ?_ | refine Zm tb fun b => ?_ | refine Zb fun b => ?_ | refine Zs tb ?_ | refine Zu tb ?_))
  exact ⟨_, _, .tmp rfl .nil, ⟨rfl, V2, c2, U2, cu2, rfl⟩, _, perm_picks [0, 0, 0] rfl⟩
end Go.Proofs.Ytdnngagahhleiaa
