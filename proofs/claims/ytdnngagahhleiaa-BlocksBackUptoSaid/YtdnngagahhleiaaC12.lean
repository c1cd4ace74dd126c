/- claims: gathered, Gaps, Within. -/
import Derived.Test.YtdnngagahhleiaaC5
namespace Go.Proofs.Ytdnngagahhleiaa
open Go.Sx
theorem QP_of {w0 : World} {X : List Nat} {n : Nat} {df : List Deferred} {fr : Fr} {Γ : List It} {Qr : Exit → Act → World → Prop} {e : Exit} (h : At w0 X n df fr Γ (Qr e)) : QP w0 X n df Qr e fr Γ := h
attribute [local irreducible] W WL WP Hv Yl WQ At QP QF Rnd
set_option maxRecDepth 10000
set_option linter.unusedVariables false
set_option linter.unusedSimpArgs false
def sel (L : List Pc) (want : Bool) : List Sp := (L.filter fun q => q.2 == want).map (·.1)
def gat (l : List Sp) (s : Sp) (want : Bool) : List Sp × Int := if Right l ∧ askedB s = true then (if 2000 < (sel (pieces l s) want).length then ([], 3) else (sel (pieces l s) want, 0)) else ([], 30)
theorem sel_succ {L : List Pc} {i : Nat} (h : i < L.length) (want : Bool) : sel (L.take (i + 1)) want = sel (L.take i) want ++ (if L[i].2 == want then [L[i].1] else []) := by
  unfold sel
  rw [List.take_succ_eq_append_getElem h, List.filter_append, List.map_append]
  congr 1
  simp only [List.filter_cons, List.filter_nil]
  split <;> rfl
theorem sel_len (L : List Pc) (want : Bool) : (sel L want).length ≤ L.length := by unfold sel; rw [List.length_map]; exact List.length_filter_le _ _
theorem wk_len (y : Int) : ∀ (l : List Sp) (p : Int), (wk y l p).length ≤ 2 * l.length + 1
  | [], p => by rw [wk, wkEnd]; split <;> simp
  | h :: r, p => by
    have h1 := wk_len y r p
    have h2 := wk_len y r (min h.2 y)
    rw [wk]
    simp only [List.length_cons]
    split
    · omega
    · split
      · unfold wkEnd; split <;> simp
      · simp only [List.length_append]
        split <;> split <;> simp <;> omega
theorem pieces_len (l : List Sp) (s : Sp) : (pieces l s).length ≤ 4001 := by
  unfold pieces
  split
  · rename_i h
    have := wk_len s.2 l s.1
    have := h.1.1
    omega
  · simp
set_option maxHeartbeats 1000000 in
theorem gathered_t (A : Option Addr) (l : List Sp) (cap : Nat) (s : Sp) (want : Bool) (w : World) (h : SlO w [] A l.length cap (spC.cells l)) :
    Tr Try.prog 68 #[.slice A l.length cap, spV s, .bool want] w [] (SpL (gat l s want).1 [.int .i64 (gat l s want).2]) := by
  refine TrD_intro (rs := [.tmp 6, .tmp 7]) (args := [.slice A l.length cap, spV s, .bool want]) Try.func68 rfl rfl 35 rfl rfl ?_
  refine WQ_nilrow 61 2 ?_
  refine WQ_nilrow 61 2 ?_
  (repeat' (first | refine Zv tb ?_ | (refine Zt (fun ht => ?_) (fun ht => ?_) <;> (dsimp only [cmpP, cmpN] at ht) <;> (try (exfalso; omega))) | refine Z0 ?_ | refine Zq ?_ | refine Zr ?_ | refine Zk ?_ | refine Zy ?_ | refine Zn ?_ | refine Zj ?_ | refine Ze ?_ | refine Zx ?_ | refine Zqr ?_ | refine Zqs ?_ | refine Zqc ?_ | refine Zqx ?_ | refine Zqf ?_ | refine Zm tb fun b => ?_ | refine Zb fun b => ?_ | refine Zs tb ?_ | refine Zu tb ?_))
  rename_i b4
  revert b
  intro b5
  refine WL_cons rfl (Hv_call tb (Γ1 := []) rfl rfl rfl (List.Perm.refl _) (fun w hs => right_t A l cap w (h.call hs).rd h.max) rfl ?_)
  rintro v Γ' ⟨rfl, rfl⟩
  cases h1 : decide (Right l)
  · (repeat' (first | refine Zv tb ?_ | (refine Zt (fun ht => ?_) (fun ht => ?_) <;> (dsimp only [cmpP, cmpN] at ht) <;> (try (exfalso; omega))) | refine Z0 ?_ | refine Zq ?_ | refine Zr ?_ | refine Zk ?_ | refine Zy ?_ | refine Zn ?_ | refine Zj ?_ | refine Ze ?_ | refine Zx ?_ | refine Zqr ?_ | refine Zqs ?_ | refine Zqc ?_ | refine Zqx ?_ | refine Zqf ?_ | refine Zm tb fun b => ?_ | refine Zb fun b => ?_ | refine Zs tb ?_ | refine Zu tb ?_))
    have e : gat l s want = ([], 30) := by unfold gat; rw [if_neg (by simp at h1; simp [h1])]
    rw [e]
    exact fin_spl (.tmp rfl (.tmp rfl .nil)) (perm_pick 2 rfl) rfl rfl
  (repeat' (first | refine Zv tb ?_ | (refine Zt (fun ht => ?_) (fun ht => ?_) <;> (dsimp only [cmpP, cmpN] at ht) <;> (try (exfalso; omega))) | refine Z0 ?_ | refine Zq ?_ | refine Zr ?_ | refine Zk ?_ | refine Zy ?_ | refine Zn ?_ | refine Zj ?_ | refine Ze ?_ | refine Zx ?_ | refine Zqr ?_ | refine Zqs ?_ | refine Zqc ?_ | refine Zqx ?_ | refine Zqf ?_ | refine Zm tb fun b => ?_ | refine Zb fun b => ?_ | refine Zs tb ?_ | refine Zu tb ?_))
  refine WL_cons rfl (Hv_call tb (Γ1 := []) rfl rfl rfl (List.Perm.refl _) (fun w hs => asked_t s.1 s.2 w) rfl ?_)
  rintro v Γ' ⟨rfl, rfl⟩
  cases h2 : askedB (s.1, s.2)
  · (repeat' (first | refine Zv tb ?_ | (refine Zt (fun ht => ?_) (fun ht => ?_) <;> (dsimp only [cmpP, cmpN] at ht) <;> (try (exfalso; omega))) | refine Z0 ?_ | refine Zq ?_ | refine Zr ?_ | refine Zk ?_ | refine Zy ?_ | refine Zn ?_ | refine Zj ?_ | refine Ze ?_ | refine Zx ?_ | refine Zqr ?_ | refine Zqs ?_ | refine Zqc ?_ | refine Zqx ?_ | refine Zqf ?_ | refine Zm tb fun b => ?_ | refine Zb fun b => ?_ | refine Zs tb ?_ | refine Zu tb ?_))
    have e : gat l s want = ([], 30) := by unfold gat; rw [if_neg (by rw [show s = (s.1, s.2) from rfl, h2]; simp)]
    rw [e]
    exact fin_spl (.tmp rfl (.tmp rfl .nil)) (perm_pick 2 rfl) rfl rfl
  have h2' : askedB s = true := h2
  simp only [decide_eq_true_eq] at h1
  have hN := pieces_len l s
  (repeat' (first | refine Zv tb ?_ | (refine Zt (fun ht => ?_) (fun ht => ?_) <;> (dsimp only [cmpP, cmpN] at ht) <;> (try (exfalso; omega))) | refine Z0 ?_ | refine Zq ?_ | refine Zr ?_ | refine Zk ?_ | refine Zy ?_ | refine Zn ?_ | refine Zj ?_ | refine Ze ?_ | refine Zx ?_ | refine Zqr ?_ | refine Zqs ?_ | refine Zqc ?_ | refine Zqx ?_ | refine Zqf ?_ | refine Zm tb fun b => ?_ | refine Zb fun b => ?_ | refine Zs tb ?_ | refine Zu tb ?_))
  refine WQ_seq2 ?_
  (repeat' (first | refine Zv tb ?_ | (refine Zt (fun ht => ?_) (fun ht => ?_) <;> (dsimp only [cmpP, cmpN] at ht) <;> (try (exfalso; omega))) | refine Z0 ?_ | refine Zq ?_ | refine Zr ?_ | refine Zk ?_ | refine Zy ?_ | refine Zn ?_ | refine Zj ?_ | refine Ze ?_ | refine Zx ?_ | refine Zqr ?_ | refine Zqs ?_ | refine Zqc ?_ | refine Zqx ?_ | refine Zqf ?_ | refine Zm tb fun b => ?_ | refine Zb fun b => ?_ | refine Zs tb ?_ | refine Zu tb ?_))
  refine WL_cons rfl (Hv_call tb (Γ1 := []) rfl rfl rfl (List.Perm.refl _) (fun w hs => Walk_t A l cap s w (h.call hs)) rfl ?_)
  rintro v Kw ⟨gf, u, lb, rfl, hfn, hit⟩
  refine WL_perm List.perm_append_comm ?_
  (repeat' (first | refine Zv tb ?_ | (refine Zt (fun ht => ?_) (fun ht => ?_) <;> (dsimp only [cmpP, cmpN] at ht) <;> (try (exfalso; omega))) | refine Z0 ?_ | refine Zq ?_ | refine Zr ?_ | refine Zk ?_ | refine Zy ?_ | refine Zn ?_ | refine Zj ?_ | refine Ze ?_ | refine Zx ?_ | refine Zqr ?_ | refine Zqs ?_ | refine Zqc ?_ | refine Zqx ?_ | refine Zqf ?_ | refine Zm tb fun b => ?_ | refine Zb fun b => ?_ | refine Zs tb ?_ | refine Zu tb ?_))
  refine WQ_block ?_
  refine WQ_range tb (by rfl) hfn hit (fun _ => by rfl) (by rfl) (fun p : Option Addr × Nat × List Sp => [.blk b [.slice p.1 p.2.2.length p.2.1] 43, .blk b5 [.bool want] 4, .blk b4 (spC.enc s) 61, .row (.slice none 0 0) 61 2 0 [],
      .row (.slice p.1 p.2.2.length p.2.1) 61 2 p.2.2.length (spC.cells p.2.2)]) (fun i p => p.2.2 = sel ((pieces l s).take i) want) (fun _ _ => False) (none, 0, []) rfl (List.Perm.of_eq (by simp; exact ⟨rfl, rfl, rfl⟩) : List.Perm _ (_ ++ (Kw ++ []))) ?_ ?_ (fun _ _ _ h => h.elim)
  · rintro i hi ⟨V, c, out⟩ hout lp w1
    dsimp only at hout ⊢
    have hs1 := sel_succ hi want
    have hlen := sel_len ((pieces l s).take i) want
    rw [List.length_take] at hlen
    rw [← hout] at hs1 hlen
    obtain ⟨⟨⟨x, y⟩, z⟩, hq⟩ : ∃ q, (pieces l s).getD i ((0, 0), false) = q := ⟨_, rfl⟩
    have hx : (pieces l s)[i] = ((x, y), z) := by rw [← hq]; simp [hi]
    rw [show pcE (pieces l s) i = [.agg #[.int .i64 x, .int .i64 y], .bool z] from by rw [pcE, hq]; rfl]
    rw [hx] at hs1
    dsimp only at hs1
    (repeat' (first | refine Zv tb ?_ | (refine Zt (fun ht => ?_) (fun ht => ?_) <;> (dsimp only [cmpP, cmpN] at ht) <;> (try (exfalso; omega))) | refine Z0 ?_ | refine Zq ?_ | refine Zr ?_ | refine Zk ?_ | refine Zy ?_ | refine Zn ?_ | refine Zj ?_ | refine Ze ?_ | refine Zx ?_ | refine Zqr ?_ | refine Zqs ?_ | refine Zqc ?_ | refine Zqx ?_ | refine Zqf ?_ | refine Zm tb fun b => ?_ | refine Zb fun b => ?_ | refine Zs tb ?_ | refine Zu tb ?_))
    intro w2
    (repeat' (first | refine Zv tb ?_ | (refine Zt (fun ht => ?_) (fun ht => ?_) <;> (dsimp only [cmpP, cmpN] at ht) <;> (try (exfalso; omega))) | refine Z0 ?_ | refine Zq ?_ | refine Zr ?_ | refine Zk ?_ | refine Zy ?_ | refine Zn ?_ | refine Zj ?_ | refine Ze ?_ | refine Zx ?_ | refine Zqr ?_ | refine Zqs ?_ | refine Zqc ?_ | refine Zqx ?_ | refine Zqf ?_ | refine Zm tb fun b => ?_ | refine Zb fun b => ?_ | refine Zs tb ?_ | refine WL_u (by first | exact Yl_eqB rfl rfl bool_und) rfl rfl ?_ | refine Zu tb ?_))
    cases hzw : (z == want)
    · (repeat' (first | refine Zv tb ?_ | (refine Zt (fun ht => ?_) (fun ht => ?_) <;> (dsimp only [cmpP, cmpN] at ht) <;> (try (exfalso; omega))) | refine Z0 ?_ | refine Zq ?_ | refine Zr ?_ | refine Zk ?_ | refine Zy ?_ | refine Zn ?_ | refine Zj ?_ | refine Ze ?_ | refine Zx ?_ | refine Zqr ?_ | refine Zqs ?_ | refine Zqc ?_ | refine Zqx ?_ | refine Zqf ?_ | refine Zm tb fun b => ?_ | refine Zb fun b => ?_ | refine Zs tb ?_ | refine Zu tb ?_))
      rw [hzw] at hs1
      exact ⟨(V, c, out), by dsimp only; rw [hs1]; simp, _, List.perm_append_comm (l₁ := [_])⟩
    · (repeat' (first | refine Zv tb ?_ | (refine Zt (fun ht => ?_) (fun ht => ?_) <;> (dsimp only [cmpP, cmpN] at ht) <;> (try (exfalso; omega))) | refine Z0 ?_ | refine Zq ?_ | refine Zr ?_ | refine Zk ?_ | refine Zy ?_ | refine Zn ?_ | refine Zj ?_ | refine Ze ?_ | refine Zx ?_ | refine Zqr ?_ | refine Zqs ?_ | refine Zqc ?_ | refine Zqx ?_ | refine Zqf ?_ | refine Zm tb fun b => ?_ | refine Zb fun b => ?_ | refine Zs tb ?_ | refine Zu tb ?_))
      refine WL_cons rfl (Hv_buildSlice tb rfl rfl rfl (by decide) rfl rfl rfl rfl fun q => ?_); (repeat' (first | refine Zv tb ?_ | (refine Zt (fun ht => ?_) (fun ht => ?_) <;> (dsimp only [cmpP, cmpN] at ht) <;> (try (exfalso; omega))) | refine Z0 ?_ | refine Zq ?_ | refine Zr ?_ | refine Zk ?_ | refine Zy ?_ | refine Zn ?_ | refine Zj ?_ | refine Ze ?_ | refine Zx ?_ | refine Zqr ?_ | refine Zqs ?_ | refine Zqc ?_ | refine Zqx ?_ | refine Zqf ?_ | refine Zm tb fun b => ?_ | refine Zb fun b => ?_ | refine Zs tb ?_ | refine Zu tb ?_)); refine WL_cons rfl (Hv_append tb (k := 6) (m := 1) rfl rfl rfl rfl rfl (by decide) rfl (Has.row (List.mem_cons_self ..)) rfl rfl (by omega) (by omega) rfl fun V' c' hV' => ?_)
      (repeat' (first | refine Zv tb ?_ | (refine Zt (fun ht => ?_) (fun ht => ?_) <;> (dsimp only [cmpP, cmpN] at ht) <;> (try (exfalso; omega))) | refine Z0 ?_ | refine Zq ?_ | refine Zr ?_ | refine Zk ?_ | refine Zy ?_ | refine Zn ?_ | refine Zj ?_ | refine Ze ?_ | refine Zx ?_ | refine Zqr ?_ | refine Zqs ?_ | refine Zqc ?_ | refine Zqx ?_ | refine Zqf ?_ | refine Zm tb fun b => ?_ | refine Zb fun b => ?_ | refine Zs tb ?_ | refine Zu tb ?_))
      rw [hzw] at hs1
      refine ⟨(V', c', out ++ [(x, y)]), by dsimp only; rw [hs1]; simp, ?_⟩
      dsimp only
      rw [show (out ++ [(x, y)]).length = out.length + 1 by simp, cells_append, cells_one]
      exact ⟨_, List.perm_append_comm (l₁ := [_, _])⟩
  · rintro D ⟨V, c, out⟩ hout
    dsimp only at hout ⊢
    rw [List.take_length] at hout
    refine WQ_at ?_
    (repeat' (first | refine Zv tb ?_ | (refine Zt (fun ht => ?_) (fun ht => ?_) <;> (dsimp only [cmpP, cmpN] at ht) <;> (try (exfalso; omega))) | refine Z0 ?_ | refine Zq ?_ | refine Zr ?_ | refine Zk ?_ | refine Zy ?_ | refine Zn ?_ | refine Zj ?_ | refine Ze ?_ | refine Zx ?_ | refine Zqr ?_ | refine Zqs ?_ | refine Zqc ?_ | refine Zqx ?_ | refine Zqf ?_ | refine Zm tb fun b => ?_ | refine Zb fun b => ?_ | refine Zs tb ?_ | refine Zu tb ?_))
    · have e : gat l s want = ([], 3) := by unfold gat; rw [if_pos ⟨h1, h2'⟩, if_pos (by rw [← hout]; omega)]
      rw [e]
      refine QP_of ?_
      refine QF_end [D] (.inr rfl) (List.Perm.refl _) ?_
      exact fin_spl (.tmp rfl (.tmp rfl .nil)) (perm_pick 3 rfl) rfl rfl
    · have e : gat l s want = (out, 0) := by unfold gat; rw [if_pos ⟨h1, h2'⟩, if_neg (by rw [← hout]; omega), hout]
      rw [e]
      refine QF_end [D] (.inr rfl) (List.Perm.refl _) ?_
      exact fin_spl (.tmp rfl (.tmp rfl .nil)) (perm_pick 4 rfl) rfl rfl
theorem Gaps_t (A : Option Addr) (l : List Sp) (cap : Nat) (s : Sp) (w : World) (h : SlO w [] A l.length cap (spC.cells l)) :
    Tr Try.prog 35 #[.slice A l.length cap, spV s] w [] (SpL (gat l s false).1 [.int .i64 (gat l s false).2]) := by
  refine Tr_intro (rs := [.tmp 4, .tmp 5]) (args := [.slice A l.length cap, spV s]) Try.func35 rfl rfl 11 rfl rfl ?_
  (repeat' (first | refine Zv tb ?_ | (refine Zt (fun ht => ?_) (fun ht => ?_) <;> (dsimp only [cmpP, cmpN] at ht) <;> (try (exfalso; omega))) | refine Z0 ?_ | refine Zq ?_ | refine Zr ?_ | refine Zk ?_ | refine Zy ?_ | refine Zn ?_ | refine Zj ?_ | refine Ze ?_ | refine Zx ?_ | refine Zqr ?_ | refine Zqs ?_ | refine Zqc ?_ | refine Zqx ?_ | refine Zqf ?_ | refine Zm tb fun b => ?_ | refine Zb fun b => ?_ | refine Zs tb ?_ | refine Zu tb ?_))
  refine WL_cons rfl (Hv_call tb (Γ1 := []) rfl rfl rfl (List.Perm.refl _) (fun w hs => gathered_t A l cap s false w (h.call hs)) rfl ?_)
  rintro v Γ' ⟨V, c, rfl, rfl⟩
  (repeat' (first | refine Zv tb ?_ | (refine Zt (fun ht => ?_) (fun ht => ?_) <;> (dsimp only [cmpP, cmpN] at ht) <;> (try (exfalso; omega))) | refine Z0 ?_ | refine Zq ?_ | refine Zr ?_ | refine Zk ?_ | refine Zy ?_ | refine Zn ?_ | refine Zj ?_ | refine Ze ?_ | refine Zx ?_ | refine Zqr ?_ | refine Zqs ?_ | refine Zqc ?_ | refine Zqx ?_ | refine Zqf ?_ | refine Zm tb fun b => ?_ | refine Zb fun b => ?_ | refine Zs tb ?_ | refine Zu tb ?_))
  exact fin_spl (.tmp rfl (.tmp rfl .nil)) (List.Perm.refl _) rfl rfl
theorem Within_t (A : Option Addr) (l : List Sp) (cap : Nat) (s : Sp) (w : World) (h : SlO w [] A l.length cap (spC.cells l)) :
    Tr Try.prog 72 #[.slice A l.length cap, spV s] w [] (SpL (gat l s true).1 [.int .i64 (gat l s true).2]) := by
  refine Tr_intro (rs := [.tmp 4, .tmp 5]) (args := [.slice A l.length cap, spV s]) Try.func72 rfl rfl 11 rfl rfl ?_
  (repeat' (first | refine Zv tb ?_ | (refine Zt (fun ht => ?_) (fun ht => ?_) <;> (dsimp only [cmpP, cmpN] at ht) <;> (try (exfalso; omega))) | refine Z0 ?_ | refine Zq ?_ | refine Zr ?_ | refine Zk ?_ | refine Zy ?_ | refine Zn ?_ | refine Zj ?_ | refine Ze ?_ | refine Zx ?_ | refine Zqr ?_ | refine Zqs ?_ | refine Zqc ?_ | refine Zqx ?_ | refine Zqf ?_ | refine Zm tb fun b => ?_ | refine Zb fun b => ?_ | refine Zs tb ?_ | refine Zu tb ?_))
  refine WL_cons rfl (Hv_call tb (Γ1 := []) rfl rfl rfl (List.Perm.refl _) (fun w hs => gathered_t A l cap s true w (h.call hs)) rfl ?_)
  rintro v Γ' ⟨V, c, rfl, rfl⟩
  (repeat' (first | refine Zv tb ?_ | (refine Zt (fun ht => ?_) (fun ht => ?_) <;> (dsimp only [cmpP, cmpN] at ht) <;> (try (exfalso; omega))) | refine Z0 ?_ | refine Zq ?_ | refine Zr ?_ | refine Zk ?_ | refine Zy ?_ | refine Zn ?_ | refine Zj ?_ | refine Ze ?_ | refine Zx ?_ | refine Zqr ?_ | refine Zqs ?_ | refine Zqc ?_ | refine Zqx ?_ | refine Zqf ?_ | refine Zm tb fun b => ?_ | refine Zb fun b => ?_ | refine Zs tb ?_ | refine Zu tb ?_))
  exact fin_spl (.tmp rfl (.tmp rfl .nil)) (List.Perm.refl _) rfl rfl
end Go.Proofs.Ytdnngagahhleiaa
