/- blocks: Make; the document's; sameSegment. -/
import Derived.Test.YtdnngagahhleiaaB19
import Derived.Test.YtdnngagahhleiaaB18
namespace Go.Proofs.Ytdnngagahhleiaa
open Go.Sx
attribute [local irreducible] W WL WP Hv Yl WQ At QP QF Rnd
set_option maxRecDepth 10000
set_option linter.unusedVariables false
set_option linter.unusedSimpArgs false
/-- a data segment's numbers. -/
structure Sgi where
  ty : Int
  s : Ses
  svc : Int
  off : Int
  ck : Int
  rp : Int
abbrev segC (g : Sgi) (D : Value) : List Value := [.int .i64 g.ty, .int .i64 g.s.1, .int .i64 g.s.2, .slice none 0 0, .slice none 0 0, .int .i64 g.svc, .int .i64 g.off, D, .int .i64 g.ck, .int .i64 g.rp, .int .i64 0, .int .i64 0, .slice none 0 0, .int .i64 0]
abbrev segV (g : Sgi) (D : Value) : Value := .agg (segC g D).toArray
def mkE (s : Ses) (p : Prc) (x : Pce) (n : Nat) : Int := if 65536 < n then 2 else if sesB s = false then 1 else if prcB p = false ∨ pieceB p x = false then 40 else if (n : Int) < x.to then 1 else 0
def mkG (s : Ses) (p : Prc) (x : Pce) (n : Nat) : Sgi := if mkE s p x n = 0 then ⟨x.ty, s, p.svc, x.fr, x.ck, x.rp⟩ else ⟨0, (0, 0), 0, 0, 0, 0⟩
def mkD (s : Ses) (p : Prc) (x : Pce) (bs : List Int) : List Int := if mkE s p x bs.length = 0 then (bs.drop x.fr.toNat).take (x.to - x.fr).toNat else []
def SegL (g : Sgi) (data : List Int) (e : Int) (v : Value) (Γ : List It) : Prop := ∃ V c, v = tup [segV g (.slice V data.length c), .int .i64 e] ∧ Γ = [byI V data.length c data]
theorem mk_bad {s : Ses} {p : Prc} {x : Pce} {bs : List Int} (h : mkE s p x bs.length ≠ 0) : mkG s p x bs.length = ⟨0, (0, 0), 0, 0, 0, 0⟩ ∧ mkD s p x bs = [] := by
  unfold mkG mkD; rw [if_neg h, if_neg h]; exact ⟨rfl, rfl⟩
theorem piece_bd {p : Prc} {x : Pce} (hp : prcB p = true) (h : pieceB p x = true) : 0 ≤ x.fr ∧ x.fr < x.to ∧ x.to ≤ 65536 := by
  simp only [prcB, decide_eq_true_eq] at hp
  simp [pieceB, askB, nonB] at h
  omega
set_option maxHeartbeats 4000000 in
theorem Make_t (B : Option Addr) (bs : List Int) (cap : Nat) (s : Ses) (p : Prc) (x : Pce) (w : World) (h : SlO w [] B bs.length cap (byC.cells bs)) :
    Tr Try.prog 24 #[sesV s, prcV p, pcVal x, .slice B bs.length cap] w [] (SegL (mkG s p x bs.length) (mkD s p x bs) (mkE s p x bs.length)) := by
  have hm := h.max
  refine Tr_intro (rs := [.cell 8 45, .tmp 9]) (args := [sesV s, prcV p, pcVal x, .slice B bs.length cap]) Try.func24 rfl rfl 64 rfl rfl ?_
  refine W_nilrow 5 1 ?_
  by_cases h0 : 65536 < bs.length
  · have e : mkE s p x bs.length = 2 := by unfold mkE; rw [if_pos h0]
    have hb := mk_bad (s := s) (p := p) (x := x) (bs := bs) (by rw [e]; decide)
    rw [e, hb.1, hb.2]
    (repeat' (first | refine Zv tb ?_ | (refine Zt (fun ht => ?_) (fun ht => ?_) <;> (dsimp only [cmpP, cmpN] at ht) <;> (try (exfalso; omega))) | refine Z0 ?_ | refine Zq ?_ | refine Zr ?_ | refine Zk ?_ | refine Zy ?_ | refine Zn ?_ | refine Zj ?_ | refine Ze ?_ | refine Zx ?_ | refine Zqr ?_ | refine Zqs ?_ | refine Zqc ?_ | refine Zqx ?_ | refine Zqf ?_ | refine Zm tb fun b => ?_ | refine Zb fun b => ?_ | refine Zs tb ?_ | refine Zu tb ?_))
    exact ⟨_, _, .cell rfl (by repeat (first | exact List.Mem.head _ | apply List.Mem.tail)) rfl rfl (.tmp rfl .nil), ⟨none, 0, rfl, rfl⟩, _, perm_picks [4] rfl⟩
  (repeat' (first | refine Zv tb ?_ | (refine Zt (fun ht => ?_) (fun ht => ?_) <;> (dsimp only [cmpP, cmpN] at ht) <;> (try (exfalso; omega))) | refine Z0 ?_ | refine Zq ?_ | refine Zr ?_ | refine Zk ?_ | refine Zy ?_ | refine Zn ?_ | refine Zj ?_ | refine Ze ?_ | refine Zx ?_ | refine Zqr ?_ | refine Zqs ?_ | refine Zqc ?_ | refine Zqx ?_ | refine Zqf ?_ | refine Zm tb fun b => ?_ | refine Zb fun b => ?_ | refine Zs tb ?_ | refine Zu tb ?_))
  refine WL_cons rfl (Hv_call tb (Γ1 := []) rfl rfl rfl (List.Perm.refl _) (fun w hs => session_t s w) rfl ?_)
  rintro v Γ' ⟨rfl, rfl⟩
  cases h1 : sesB s
  · have e : mkE s p x bs.length = 1 := by unfold mkE; rw [if_neg h0, if_pos h1]
    have hb := mk_bad (s := s) (p := p) (x := x) (bs := bs) (by rw [e]; decide)
    rw [e, hb.1, hb.2]
    (repeat' (first | refine Zv tb ?_ | (refine Zt (fun ht => ?_) (fun ht => ?_) <;> (dsimp only [cmpP, cmpN] at ht) <;> (try (exfalso; omega))) | refine Z0 ?_ | refine Zq ?_ | refine Zr ?_ | refine Zk ?_ | refine Zy ?_ | refine Zn ?_ | refine Zj ?_ | refine Ze ?_ | refine Zx ?_ | refine Zqr ?_ | refine Zqs ?_ | refine Zqc ?_ | refine Zqx ?_ | refine Zqf ?_ | refine Zm tb fun b => ?_ | refine Zb fun b => ?_ | refine Zs tb ?_ | refine Zu tb ?_))
    exact ⟨_, _, .cell rfl (by repeat (first | exact List.Mem.head _ | apply List.Mem.tail)) rfl rfl (.tmp rfl .nil), ⟨none, 0, rfl, rfl⟩, _, perm_picks [4] rfl⟩
  (repeat' (first | refine Zv tb ?_ | (refine Zt (fun ht => ?_) (fun ht => ?_) <;> (dsimp only [cmpP, cmpN] at ht) <;> (try (exfalso; omega))) | refine Z0 ?_ | refine Zq ?_ | refine Zr ?_ | refine Zk ?_ | refine Zy ?_ | refine Zn ?_ | refine Zj ?_ | refine Ze ?_ | refine Zx ?_ | refine Zqr ?_ | refine Zqs ?_ | refine Zqc ?_ | refine Zqx ?_ | refine Zqf ?_ | refine Zm tb fun b => ?_ | refine Zb fun b => ?_ | refine Zs tb ?_ | refine Zu tb ?_))
  refine WL_cons rfl (Hv_call tb (Γ1 := []) rfl rfl rfl (List.Perm.refl _) (fun w hs => parcel_t p w) rfl ?_)
  rintro v Γ' ⟨rfl, rfl⟩
  cases h2 : prcB p
  · have e : mkE s p x bs.length = 40 := by unfold mkE; rw [if_neg h0, if_neg (by simp [h1]), if_pos (.inl h2)]
    have hb := mk_bad (s := s) (p := p) (x := x) (bs := bs) (by rw [e]; decide)
    rw [e, hb.1, hb.2]
    (repeat' (first | refine Zv tb ?_ | (refine Zt (fun ht => ?_) (fun ht => ?_) <;> (dsimp only [cmpP, cmpN] at ht) <;> (try (exfalso; omega))) | refine Z0 ?_ | refine Zq ?_ | refine Zr ?_ | refine Zk ?_ | refine Zy ?_ | refine Zn ?_ | refine Zj ?_ | refine Ze ?_ | refine Zx ?_ | refine Zqr ?_ | refine Zqs ?_ | refine Zqc ?_ | refine Zqx ?_ | refine Zqf ?_ | refine Zm tb fun b => ?_ | refine Zb fun b => ?_ | refine Zs tb ?_ | refine Zu tb ?_))
    exact ⟨_, _, .cell rfl (by repeat (first | exact List.Mem.head _ | apply List.Mem.tail)) rfl rfl (.tmp rfl .nil), ⟨none, 0, rfl, rfl⟩, _, perm_picks [4] rfl⟩
  (repeat' (first | refine Zv tb ?_ | (refine Zt (fun ht => ?_) (fun ht => ?_) <;> (dsimp only [cmpP, cmpN] at ht) <;> (try (exfalso; omega))) | refine Z0 ?_ | refine Zq ?_ | refine Zr ?_ | refine Zk ?_ | refine Zy ?_ | refine Zn ?_ | refine Zj ?_ | refine Ze ?_ | refine Zx ?_ | refine Zqr ?_ | refine Zqs ?_ | refine Zqc ?_ | refine Zqx ?_ | refine Zqf ?_ | refine Zm tb fun b => ?_ | refine Zb fun b => ?_ | refine Zs tb ?_ | refine Zu tb ?_))
  refine WL_cons rfl (Hv_call tb (Γ1 := []) rfl rfl rfl (List.Perm.refl _) (fun w hs => piece_t p x w) rfl ?_)
  rintro v Γ' ⟨rfl, rfl⟩
  cases h3 : pieceB p x
  · have e : mkE s p x bs.length = 40 := by unfold mkE; rw [if_neg h0, if_neg (by simp [h1]), if_pos (.inr h3)]
    have hb := mk_bad (s := s) (p := p) (x := x) (bs := bs) (by rw [e]; decide)
    rw [e, hb.1, hb.2]
    (repeat' (first | refine Zv tb ?_ | (refine Zt (fun ht => ?_) (fun ht => ?_) <;> (dsimp only [cmpP, cmpN] at ht) <;> (try (exfalso; omega))) | refine Z0 ?_ | refine Zq ?_ | refine Zr ?_ | refine Zk ?_ | refine Zy ?_ | refine Zn ?_ | refine Zj ?_ | refine Ze ?_ | refine Zx ?_ | refine Zqr ?_ | refine Zqs ?_ | refine Zqc ?_ | refine Zqx ?_ | refine Zqf ?_ | refine Zm tb fun b => ?_ | refine Zb fun b => ?_ | refine Zs tb ?_ | refine Zu tb ?_))
    exact ⟨_, _, .cell rfl (by repeat (first | exact List.Mem.head _ | apply List.Mem.tail)) rfl rfl (.tmp rfl .nil), ⟨none, 0, rfl, rfl⟩, _, perm_picks [4] rfl⟩
  by_cases h4 : (bs.length : Int) < x.to
  · have e : mkE s p x bs.length = 1 := by unfold mkE; rw [if_neg h0, if_neg (by simp [h1]), if_neg (by simp [h2, h3]), if_pos h4]
    have hb := mk_bad (s := s) (p := p) (x := x) (bs := bs) (by rw [e]; decide)
    rw [e, hb.1, hb.2]
    (repeat' (first | refine Zv tb ?_ | (refine Zt (fun ht => ?_) (fun ht => ?_) <;> (dsimp only [cmpP, cmpN] at ht) <;> (try (exfalso; omega))) | refine Z0 ?_ | refine Zq ?_ | refine Zr ?_ | refine Zk ?_ | refine Zy ?_ | refine Zn ?_ | refine Zj ?_ | refine Ze ?_ | refine Zx ?_ | refine Zqr ?_ | refine Zqs ?_ | refine Zqc ?_ | refine Zqx ?_ | refine Zqf ?_ | refine Zm tb fun b => ?_ | refine Zb fun b => ?_ | refine Zs tb ?_ | refine Zu tb ?_))
    exact ⟨_, _, .cell rfl (by repeat (first | exact List.Mem.head _ | apply List.Mem.tail)) rfl rfl (.tmp rfl .nil), ⟨none, 0, rfl, rfl⟩, _, perm_picks [4] rfl⟩
  have e : mkE s p x bs.length = 0 := by unfold mkE; rw [if_neg h0, if_neg (by simp [h1]), if_neg (by simp [h2, h3]), if_neg h4]
  have eG : mkG s p x bs.length = ⟨x.ty, s, p.svc, x.fr, x.ck, x.rp⟩ := by unfold mkG; rw [if_pos e]
  have hbd := piece_bd h2 h3
  obtain ⟨D, hD⟩ : ∃ D, D = (bs.drop x.fr.toNat).take (x.to - x.fr).toNat := ⟨_, rfl⟩
  have eD : mkD s p x bs = D := by unfold mkD; rw [if_pos e, hD]
  have hDl : D.length = (x.to - x.fr).toNat := by rw [hD]; simp; omega
  rw [e, eG, eD]
  (repeat' (first | refine Zv tb ?_ | (refine Zt (fun ht => ?_) (fun ht => ?_) <;> (dsimp only [cmpP, cmpN] at ht) <;> (try (exfalso; omega))) | refine Z0 ?_ | refine Zq ?_ | refine Zr ?_ | refine Zk ?_ | refine Zy ?_ | refine Zn ?_ | refine Zj ?_ | refine Ze ?_ | refine Zx ?_ | refine Zqr ?_ | refine Zqs ?_ | refine Zqc ?_ | refine Zqx ?_ | refine Zqf ?_ | refine Zm tb fun b => ?_ | refine Zb fun b => ?_ | refine Zs tb ?_ | refine Zu tb ?_))
  refine WL_cons rfl (Hv_makeSlice tb (len := D.length) rfl rfl rfl (by decide) rfl rfl (by omega) (by omega) (by omega) (by omega) rfl fun q => ?_)
  rw [cells_rep byC (z := [.int .u8 0]) (x := (0 : Int)) rfl]
  have hsg := SlO.seg byC h rfl (i := x.fr.toNat) (by omega)
  (repeat' (first | refine Zv tb ?_ | (refine Zt (fun ht => ?_) (fun ht => ?_) <;> (dsimp only [cmpP, cmpN] at ht) <;> (try (exfalso; omega))) | refine Z0 ?_ | refine Zq ?_ | refine Zr ?_ | refine Zk ?_ | refine Zy ?_ | refine Zn ?_ | refine Zj ?_ | refine Ze ?_ | refine Zx ?_ | refine Zqr ?_ | refine Zqs ?_ | refine Zqc ?_ | refine Zqx ?_ | refine Zqf ?_ | refine Zm tb fun b => ?_ | refine Zb fun b => ?_ | refine Zs tb ?_ | refine WL_u (by first | exact Yl_sliceL tb x.fr.toNat rfl rfl rfl (by omega) (by omega)) rfl rfl ?_ | refine Zu tb ?_))
  have hRd : ∀ K : List It, RdA w [] K (sA B cap x.fr.toNat 1) (byC.cells D) := fun K => by
    have := (hsg.rd.rd K).tk ((x.to - x.fr).toNat * 1)
    rwa [show (1 : Nat) = byC.sz from rfl, cells_take, ← hD] at this
  refine WL_cons rfl (Hv_copy tb (kk := 0) (a := ⟨q, 0, none⟩) (o := 0) (news := byC.cells D) (len := D.length) (cap := D.length) (m := bs.length - x.fr.toNat) rfl rfl rfl rfl (fun h => rfl) (hRd _) (fun hn => (hsg.nil hn).1) (by rw [by_len]; omega) (by decide) (by rw [by_len]; omega) (by_all D) (cells_putL0 byC (by simp)) rfl ?_)
  rw [show D ++ (List.replicate D.length 0).drop D.length = D by simp]
  (repeat' (first | refine Zv tb ?_ | (refine Zt (fun ht => ?_) (fun ht => ?_) <;> (dsimp only [cmpP, cmpN] at ht) <;> (try (exfalso; omega))) | refine Z0 ?_ | refine Zq ?_ | refine Zr ?_ | refine Zk ?_ | refine Zy ?_ | refine Zn ?_ | refine Zj ?_ | refine Ze ?_ | refine Zx ?_ | refine Zqr ?_ | refine Zqs ?_ | refine Zqc ?_ | refine Zqx ?_ | refine Zqf ?_ | refine Zm tb fun b => ?_ | refine Zb fun b => ?_ | refine Zs tb ?_ | refine WL_u (by first | exact Yl_ldBA tb rfl rfl (by repeat (first | exact List.Mem.head _ | apply List.Mem.tail)) rfl) rfl rfl ?_ | refine Zu tb ?_))
  exact ⟨_, _, .cell rfl (by repeat (first | exact List.Mem.head _ | apply List.Mem.tail)) rfl rfl (.tmp rfl .nil), ⟨some ⟨q, 0, none⟩, D.length, rfl, rfl⟩, _, perm_picks [0] rfl⟩
set_option maxHeartbeats 4000000 in
theorem rMake_t (B : Option Addr) (bs : List Int) (cap : Nat) (s : Ses) (p : Prc) (x : Pce) (w : World) (h : SlO w [] B bs.length cap (byC.cells bs)) :
    Tr Try.prog 26 #[sesV s, prcV p, pcVal x, .slice B bs.length cap] w [] (SegL (mkG s p x bs.length) (mkD s p x bs) (mkE s p x bs.length)) := by
  have hm := h.max
  refine Tr_intro (rs := [.cell 8 45, .tmp 9]) (args := [sesV s, prcV p, pcVal x, .slice B bs.length cap]) Try.func26 rfl rfl 60 rfl rfl ?_
  refine W_nilrow 5 1 ?_
  by_cases h0 : 65536 < bs.length
  · have e : mkE s p x bs.length = 2 := by unfold mkE; rw [if_pos h0]
    have hb := mk_bad (s := s) (p := p) (x := x) (bs := bs) (by rw [e]; decide)
    rw [e, hb.1, hb.2]
    (repeat' (first | refine Zv tb ?_ | (refine Zt (fun ht => ?_) (fun ht => ?_) <;> (dsimp only [cmpP, cmpN] at ht) <;> (try (exfalso; omega))) | refine Z0 ?_ | refine Zq ?_ | refine Zr ?_ | refine Zk ?_ | refine Zy ?_ | refine Zn ?_ | refine Zj ?_ | refine Ze ?_ | refine Zx ?_ | refine Zqr ?_ | refine Zqs ?_ | refine Zqc ?_ | refine Zqx ?_ | refine Zqf ?_ | refine Zm tb fun b => ?_ | refine Zb fun b => ?_ | refine Zs tb ?_ | refine Zu tb ?_))
    exact ⟨_, _, .cell rfl (by repeat (first | exact List.Mem.head _ | apply List.Mem.tail)) rfl rfl (.tmp rfl .nil), ⟨none, 0, rfl, rfl⟩, _, perm_picks [4] rfl⟩
  (repeat' (first | refine Zv tb ?_ | (refine Zt (fun ht => ?_) (fun ht => ?_) <;> (dsimp only [cmpP, cmpN] at ht) <;> (try (exfalso; omega))) | refine Z0 ?_ | refine Zq ?_ | refine Zr ?_ | refine Zk ?_ | refine Zy ?_ | refine Zn ?_ | refine Zj ?_ | refine Ze ?_ | refine Zx ?_ | refine Zqr ?_ | refine Zqs ?_ | refine Zqc ?_ | refine Zqx ?_ | refine Zqf ?_ | refine Zm tb fun b => ?_ | refine Zb fun b => ?_ | refine Zs tb ?_ | refine Zu tb ?_))
  refine WL_cons rfl (Hv_call tb (Γ1 := []) rfl rfl rfl (List.Perm.refl _) (fun w hs => rsession_t s w) rfl ?_)
  rintro v Γ' ⟨rfl, rfl⟩
  cases h1 : sesB s
  · have e : mkE s p x bs.length = 1 := by unfold mkE; rw [if_neg h0, if_pos h1]
    have hb := mk_bad (s := s) (p := p) (x := x) (bs := bs) (by rw [e]; decide)
    rw [e, hb.1, hb.2]
    (repeat' (first | refine Zv tb ?_ | (refine Zt (fun ht => ?_) (fun ht => ?_) <;> (dsimp only [cmpP, cmpN] at ht) <;> (try (exfalso; omega))) | refine Z0 ?_ | refine Zq ?_ | refine Zr ?_ | refine Zk ?_ | refine Zy ?_ | refine Zn ?_ | refine Zj ?_ | refine Ze ?_ | refine Zx ?_ | refine Zqr ?_ | refine Zqs ?_ | refine Zqc ?_ | refine Zqx ?_ | refine Zqf ?_ | refine Zm tb fun b => ?_ | refine Zb fun b => ?_ | refine Zs tb ?_ | refine Zu tb ?_))
    exact ⟨_, _, .cell rfl (by repeat (first | exact List.Mem.head _ | apply List.Mem.tail)) rfl rfl (.tmp rfl .nil), ⟨none, 0, rfl, rfl⟩, _, perm_picks [4] rfl⟩
  (repeat' (first | refine Zv tb ?_ | (refine Zt (fun ht => ?_) (fun ht => ?_) <;> (dsimp only [cmpP, cmpN] at ht) <;> (try (exfalso; omega))) | refine Z0 ?_ | refine Zq ?_ | refine Zr ?_ | refine Zk ?_ | refine Zy ?_ | refine Zn ?_ | refine Zj ?_ | refine Ze ?_ | refine Zx ?_ | refine Zqr ?_ | refine Zqs ?_ | refine Zqc ?_ | refine Zqx ?_ | refine Zqf ?_ | refine Zm tb fun b => ?_ | refine Zb fun b => ?_ | refine Zs tb ?_ | refine Zu tb ?_))
  refine WL_cons rfl (Hv_call tb (Γ1 := []) rfl rfl rfl (List.Perm.refl _) (fun w hs => rparcel_t p w) rfl ?_)
  rintro v Γ' ⟨rfl, rfl⟩
  (repeat' (first | refine Zv tb ?_ | (refine Zt (fun ht => ?_) (fun ht => ?_) <;> (dsimp only [cmpP, cmpN] at ht) <;> (try (exfalso; omega))) | refine Z0 ?_ | refine Zq ?_ | refine Zr ?_ | refine Zk ?_ | refine Zy ?_ | refine Zn ?_ | refine Zj ?_ | refine Ze ?_ | refine Zx ?_ | refine Zqr ?_ | refine Zqs ?_ | refine Zqc ?_ | refine Zqx ?_ | refine Zqf ?_ | refine Zm tb fun b => ?_ | refine Zb fun b => ?_ | refine Zs tb ?_ | refine Zu tb ?_))
  refine WL_cons rfl (Hv_call tb (Γ1 := []) rfl rfl rfl (List.Perm.refl _) (fun w hs => rpiece_t p x w) rfl ?_)
  rintro v Γ' ⟨rfl, rfl⟩
  by_cases h23 : prcB p = false ∨ pieceB p x = false
  · have e : mkE s p x bs.length = 40 := by unfold mkE; rw [if_neg h0, if_neg (by simp [h1]), if_pos h23]
    have hb := mk_bad (s := s) (p := p) (x := x) (bs := bs) (by rw [e]; decide)
    rw [e, hb.1, hb.2]
    cases h2 : prcB p
    · (repeat' (first | refine Zv tb ?_ | (refine Zt (fun ht => ?_) (fun ht => ?_) <;> (dsimp only [cmpP, cmpN] at ht) <;> (try (exfalso; omega))) | refine Z0 ?_ | refine Zq ?_ | refine Zr ?_ | refine Zk ?_ | refine Zy ?_ | refine Zn ?_ | refine Zj ?_ | refine Ze ?_ | refine Zx ?_ | refine Zqr ?_ | refine Zqs ?_ | refine Zqc ?_ | refine Zqx ?_ | refine Zqf ?_ | refine Zm tb fun b => ?_ | refine Zb fun b => ?_ | refine Zs tb ?_ | refine Zu tb ?_))
      exact ⟨_, _, .cell rfl (by repeat (first | exact List.Mem.head _ | apply List.Mem.tail)) rfl rfl (.tmp rfl .nil), ⟨none, 0, rfl, rfl⟩, _, perm_picks [4] rfl⟩
    · rw [h2] at h23
      have h3 : pieceB p x = false := by rcases h23 with h | h; cases h; exact h
      rw [h3]
      (repeat' (first | refine Zv tb ?_ | (refine Zt (fun ht => ?_) (fun ht => ?_) <;> (dsimp only [cmpP, cmpN] at ht) <;> (try (exfalso; omega))) | refine Z0 ?_ | refine Zq ?_ | refine Zr ?_ | refine Zk ?_ | refine Zy ?_ | refine Zn ?_ | refine Zj ?_ | refine Ze ?_ | refine Zx ?_ | refine Zqr ?_ | refine Zqs ?_ | refine Zqc ?_ | refine Zqx ?_ | refine Zqf ?_ | refine Zm tb fun b => ?_ | refine Zb fun b => ?_ | refine Zs tb ?_ | refine Zu tb ?_))
      exact ⟨_, _, .cell rfl (by repeat (first | exact List.Mem.head _ | apply List.Mem.tail)) rfl rfl (.tmp rfl .nil), ⟨none, 0, rfl, rfl⟩, _, perm_picks [4] rfl⟩
  have h2 : prcB p = true := by cases h : prcB p; exact absurd (.inl h) h23; rfl
  have h3 : pieceB p x = true := by cases h : pieceB p x; exact absurd (.inr h) h23; rfl
  rw [h2, h3]
  by_cases h4 : (bs.length : Int) < x.to
  · have e : mkE s p x bs.length = 1 := by unfold mkE; rw [if_neg h0, if_neg (by simp [h1]), if_neg (by simp [h2, h3]), if_pos h4]
    have hb := mk_bad (s := s) (p := p) (x := x) (bs := bs) (by rw [e]; decide)
    rw [e, hb.1, hb.2]
    (repeat' (first | refine Zv tb ?_ | (refine Zt (fun ht => ?_) (fun ht => ?_) <;> (dsimp only [cmpP, cmpN] at ht) <;> (try (exfalso; omega))) | refine Z0 ?_ | refine Zq ?_ | refine Zr ?_ | refine Zk ?_ | refine Zy ?_ | refine Zn ?_ | refine Zj ?_ | refine Ze ?_ | refine Zx ?_ | refine Zqr ?_ | refine Zqs ?_ | refine Zqc ?_ | refine Zqx ?_ | refine Zqf ?_ | refine Zm tb fun b => ?_ | refine Zb fun b => ?_ | refine Zs tb ?_ | refine Zu tb ?_))
    exact ⟨_, _, .cell rfl (by repeat (first | exact List.Mem.head _ | apply List.Mem.tail)) rfl rfl (.tmp rfl .nil), ⟨none, 0, rfl, rfl⟩, _, perm_picks [4] rfl⟩
  have e : mkE s p x bs.length = 0 := by unfold mkE; rw [if_neg h0, if_neg (by simp [h1]), if_neg (by simp [h2, h3]), if_neg h4]
  have eG : mkG s p x bs.length = ⟨x.ty, s, p.svc, x.fr, x.ck, x.rp⟩ := by unfold mkG; rw [if_pos e]
  have hbd := piece_bd h2 h3
  obtain ⟨D, hD⟩ : ∃ D, D = (bs.drop x.fr.toNat).take (x.to - x.fr).toNat := ⟨_, rfl⟩
  have eD : mkD s p x bs = D := by unfold mkD; rw [if_pos e, hD]
  have hDl : D.length = x.to.toNat - x.fr.toNat := by rw [hD]; simp; omega
  rw [e, eG, eD]
  have hsg := SlO.seg byC h rfl (i := x.fr.toNat) (by omega)
  have hRd : ∀ K : List It, RdA w [] K (sA B cap x.fr.toNat 1) (byC.cells D) := fun K => by
    have := (hsg.rd.rd K).tk ((x.to - x.fr).toNat * 1)
    rwa [show (1 : Nat) = byC.sz from rfl, cells_take, ← hD] at this
  (repeat' (first | refine Zv tb ?_ | (refine Zt (fun ht => ?_) (fun ht => ?_) <;> (dsimp only [cmpP, cmpN] at ht) <;> (try (exfalso; omega))) | refine Z0 ?_ | refine Zq ?_ | refine Zr ?_ | refine Zk ?_ | refine Zy ?_ | refine Zn ?_ | refine Zj ?_ | refine Ze ?_ | refine Zx ?_ | refine Zqr ?_ | refine Zqs ?_ | refine Zqc ?_ | refine Zqx ?_ | refine Zqf ?_ | refine Zm tb fun b => ?_ | refine Zb fun b => ?_ | refine Zs tb ?_ | refine Zu tb ?_))
  (repeat refine W_seq ?_); refine W_regionD tb [20] _ [(0, 0), (1, 1), (2, 1), (3, 0), (4, 1), (5, 0), (6, 1), (8, 0), (9, 0), (10, 1), (11, 0), (12, 1), (13, 0), (15, 0), (16, 1), (17, 0), (18, 1), (7, 2), (14, 2), (19, 0), (20, 2), (21, 0)] (by kernel_rfl) (keepAll _) ?_
  (repeat' (first | refine Zpv tb ?_ | (refine Zpt (fun ht => ?_) (fun ht => ?_) <;> (dsimp only [cmpP, cmpN] at ht) <;> (try (exfalso; omega))) | refine WP_u0 rfl (by first | exact Yl_ldBA tb rfl rfl (by repeat (first | exact List.Mem.head _ | apply List.Mem.tail)) rfl | exact Yl_sliceLH tb x.fr.toNat x.to.toNat rfl rfl rfl rfl (by omega) (by omega) (by omega) (by have := h.le; omega)) rfl rfl ?_ | refine WP_u1 rfl (by first | exact Yl_ldBA tb rfl rfl (by repeat (first | exact List.Mem.head _ | apply List.Mem.tail)) rfl | exact Yl_sliceLH tb x.fr.toNat x.to.toNat rfl rfl rfl rfl (by omega) (by omega) (by omega) (by have := h.le; omega)) rfl rfl ?_ | refine Zpw ?_ | refine Zpu tb ?_ | refine Zps tb ?_ | refine Zpk ?_ | refine Zp0 ?_))
  refine WP_2 rfl rfl (Hv_buildSlice tb rfl rfl rfl (by decide) rfl rfl rfl rfl fun q => ⟨.inr (keep1 _ _), ?_⟩)
  refine WP_2 rfl rfl (Hv_appendR tb (k := 0) (news := byC.cells D) (m := x.to.toNat - x.fr.toNat) rfl rfl rfl rfl rfl (by decide) rfl (fun hn => ?_) (hRd _) (by rw [by_len, hDl]; omega) (by_all D) (by omega) (by omega) rfl fun V' c' => ⟨.inr (keep1 _ _), ?_⟩)
  · have := hsg.nil hn
    omega
  rw [← hDl]
  (repeat' (first | refine Zpv tb ?_ | (refine Zpt (fun ht => ?_) (fun ht => ?_) <;> (dsimp only [cmpP, cmpN] at ht) <;> (try (exfalso; omega))) | refine Zpw ?_ | refine Zpu tb ?_ | refine Zps tb ?_ | refine Zpk ?_ | refine Zp0 ?_))
  (repeat' (first | refine Zv tb ?_ | (refine Zt (fun ht => ?_) (fun ht => ?_) <;> (dsimp only [cmpP, cmpN] at ht) <;> (try (exfalso; omega))) | refine Z0 ?_ | refine Zq ?_ | refine Zr ?_ | refine Zk ?_ | refine Zy ?_ | refine Zn ?_ | refine Zj ?_ | refine Ze ?_ | refine Zx ?_ | refine Zqr ?_ | refine Zqs ?_ | refine Zqc ?_ | refine Zqx ?_ | refine Zqf ?_ | refine Zm tb fun b => ?_ | refine Zb fun b => ?_ | refine Zs tb ?_ | refine Zu tb ?_))
  exact ⟨_, _, .cell rfl (by repeat (first | exact List.Mem.head _ | apply List.Mem.tail)) rfl rfl (.tmp rfl .nil), ⟨V', c', by rw [Nat.zero_add]; rfl, by rw [Nat.zero_add]; rfl⟩, _, perm_picks [0] rfl⟩
end Go.Proofs.Ytdnngagahhleiaa
