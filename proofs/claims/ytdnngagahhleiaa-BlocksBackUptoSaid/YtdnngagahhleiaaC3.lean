/- claims: Walk. -/
import Derived.Test.YtdnngagahhleiaaC2
import Derived.Test.YtdnngagahhleiaaSxA
namespace Go.Proofs.Ytdnngagahhleiaa
open Go.Sx
attribute [local irreducible] W WL WP Hv Yl
set_option maxRecDepth 10000
set_option linter.unusedVariables false
abbrev Pc := Sp × Bool
def wkEnd (y p : Int) : List Pc := if p < y then [((p, y), false)] else []
def wk (y : Int) : List Sp → Int → List Pc
  | [], p => wkEnd y p
  | h :: r, p => if h.2 ≤ p then wk y r p else if y ≤ h.1 then wkEnd y p else
    (if p < h.1 then [((p, h.1), false)] else []) ++ ((if max p h.1 < min h.2 y then [((max p h.1, min h.2 y), true)] else []) ++ wk y r (min h.2 y))
def pieces (l : List Sp) (s : Sp) : List Pc := if Right l ∧ askedB s = true then wk s.2 l s.1 else []
def pcv (q : Pc) : List Value := [.agg #[.int .i64 q.1.1, .int .i64 q.1.2], .bool q.2]
def pcE (l : List Pc) (k : Nat) : List Value := pcv (l.getD k ((0, 0), false))
theorem drop_cons' {α : Type} {l : List α} {k : Nat} {x d : α} {r : List α} (h : l.drop k = x :: r) : k < l.length ∧ l.getD k d = x ∧ l.drop (k + 1) = r := by
  have h1 : k < l.length := by
    rcases Nat.lt_or_ge k l.length with h' | h'
    · exact h'
    · rw [List.drop_eq_nil_of_le h'] at h; cases h
  rw [List.drop_eq_getElem_cons h1] at h
  refine ⟨h1, ?_, (List.cons.inj h).2⟩
  rw [List.getD_eq_getElem?_getD, List.getElem?_eq_getElem h1]; exact (List.cons.inj h).1
theorem drop_nil' {α : Type} {l : List α} {k : Nat} (hk : k ≤ l.length) (h : l.drop k = []) : k = l.length := by
  have := List.drop_eq_nil_iff.1 h; omega
theorem perm_tl (K c : List It) (x : It) : (x :: (K ++ c)).Perm ((c ++ K) ++ [x]) := (List.perm_append_comm (l₁ := [x])).trans (List.Perm.append_right _ List.perm_append_comm)
theorem fin_w {P : Program} {C : Nat → List It → Prop} {Cx : List It → Prop} {N : Nat} {K c : List It} {x : It} {fr : Fr} (h : C N c ∨ Cx c) : Fin P [] (fun _ Γ' => ∃ c', (C N c' ∨ Cx c') ∧ Γ' = c' ++ K) fr (x :: (K ++ c)) := ⟨_, _, .nil, ⟨c, h, rfl⟩, _, perm_tl K c x⟩
theorem fin_w0 {P : Program} {C : Nat → List It → Prop} {Cx : List It → Prop} {N : Nat} {K c : List It} {fr : Fr} (h : C N c ∨ Cx c) : Fin P [] (fun _ Γ' => ∃ c', (C N c' ∨ Cx c') ∧ Γ' = c' ++ K) fr (K ++ c) := ⟨_, _, .nil, ⟨c, h, rfl⟩, [], by simpa using List.perm_append_comm⟩
set_option maxHeartbeats 1000000 in
theorem walk2_it (b1 b2 : Nat) (V : Option Addr) (cp : Nat) (l : List Sp) (s : Sp) (hm : l.length ≤ 9223372036854775807) : ItC Try.prog 86 [.pointer (some ⟨b1, 0, none⟩), .pointer (some ⟨b2, 0, none⟩)]
    [.blk b1 (spC.enc s) 61, .blk b2 [.slice V l.length cp] 43, .row (.slice V l.length cp) 61 2 l.length (spC.cells l)] (wk s.2 l s.1).length (pcE (wk s.2 l s.1)) := by
  intro lp C Cx hY w c0 hc0
  refine Tr_intro (rs := []) (args := [yv lp, .pointer (some ⟨b1, 0, none⟩), .pointer (some ⟨b2, 0, none⟩)]) Try.func86 rfl rfl 66 rfl rfl ?_
  refine W_perm List.perm_append_comm ?_
  (repeat' (first | refine Zv tb ?_ | (refine Zt (fun ht => ?_) (fun ht => ?_) <;> (dsimp only [cmpP, cmpN] at ht) <;> (try (exfalso; omega))) | refine Z0 ?_ | refine Zq ?_ | refine Zr ?_ | refine Zk ?_ | refine Zy ?_ | refine Zn ?_ | refine Zj ?_ | refine Ze ?_ | refine Zx ?_ | refine Zqr ?_ | refine Zqs ?_ | refine Zqc ?_ | refine Zqx ?_ | refine Zqf ?_ | refine Zm tb fun b => ?_ | refine Zb fun b => ?_ | refine Zs tb ?_ | refine Zu tb ?_))
  obtain ⟨L, hL⟩ : ∃ L, wk s.2 l s.1 = L := ⟨_, rfl⟩
  rw [hL] at hY ⊢
  refine W_loop (σ := Nat × Int × Nat × List It) (fun | (j, p, k, c) => [(0, yv lp), (1, .pointer (some ⟨b1, 0, none⟩)), (10, .slice V l.length cp), (11, .int .i64 l.length), (12, .int .i64 j), (4, .int .i64 p)])
    (fun | (j, p, k, c) => [.blk b1 (spC.enc s) 61, .blk b2 [.slice V l.length cp] 43, .row (.slice V l.length cp) 61 2 l.length (spC.cells l)] ++ c)
    (fun | (j, p, k, c) => j ≤ l.length ∧ C k c ∧ k ≤ L.length ∧ L.drop k = wk s.2 (l.drop j) p) (fun | (j, _) => l.length - j) (0, s.1, 0, c0) ⟨Nat.zero_le _, hc0, Nat.zero_le _, by simp [hL]⟩ (by repeat (first | exact Sub.nil | refine Sub.cons rfl ?_)) (keepAll _) ?_
  rintro ⟨j, p, k, c⟩ ⟨hj, hC, hk, hd⟩
  dsimp only
  by_cases hlt : j < l.length
  · refine W_fact (p := V = none → l.length = 0) (fun w hs h => ((hs.row_fact (List.mem_cons_of_mem _ (List.mem_cons_of_mem _ (List.mem_cons_self ..)))).1 h).2) fun hVn => ?_
    obtain ⟨v, rfl⟩ : ∃ v, V = some v := by cases V with
      | some v => exact ⟨v, rfl⟩
      | none => have := hVn rfl; omega
    rw [List.drop_eq_getElem_cons hlt, wk] at hd
    (repeat' (first | refine Zv tb ?_ | (refine Zt (fun ht => ?_) (fun ht => ?_) <;> (dsimp only [cmpP, cmpN] at ht) <;> (try (exfalso; omega))) | refine Z0 ?_ | refine Zq ?_ | refine Zr ?_ | refine Zk ?_ | refine Zy ?_ | refine Zn ?_ | refine Zj ?_ | refine Ze ?_ | refine Zx ?_ | refine Zqr ?_ | refine Zqs ?_ | refine Zqc ?_ | refine Zqx ?_ | refine Zqf ?_ | refine Zm tb fun b => ?_ | refine Zb fun b => ?_ | refine Zs tb ?_ | refine WL_u (by first | exact Yl_indexAddr tb j rfl rfl rfl rfl hlt | exact Yl_loadA tb _ rfl rfl (Has.row (by repeat (first | exact List.Mem.head _ | apply List.Mem.tail))) (cells_seg spC hlt) rfl) rfl rfl ?_ | refine Zu tb ?_))
    · refine ⟨(j + 1, p, k, c), ⟨by omega, hC, hk, by rw [hd, if_pos ht]⟩, by dsimp only; omega, (by repeat (first | exact Sub.nil | refine Sub.cons rfl ?_)), _, List.perm_append_comm (l₁ := [_])⟩
    · have hd' : L.drop k = [((p, s.2), false)] := by rw [hd, if_neg (by omega), if_pos (by omega), wkEnd, if_pos (by omega)]
      obtain ⟨hk1, hk2, hk3⟩ := drop_cons' (d := ((0, 0), false)) hd'
      refine WL_cons rfl (Hv_yieldR (Γ2 := [_, _, _, _]) hY rfl rfl rfl rfl hC hk1 (by rw [pcE, hk2]; rfl) (fun c1 hc1 => ?_) (fun c1 hc1 => ?_) (fun _ _ _ hp h => WL_perm hp h))
      · (repeat' (first | refine Zv tb ?_ | (refine Zt (fun ht => ?_) (fun ht => ?_) <;> (dsimp only [cmpP, cmpN] at ht) <;> (try (exfalso; omega))) | refine Z0 ?_ | refine Zq ?_ | refine Zr ?_ | refine Zk ?_ | refine Zy ?_ | refine Zn ?_ | refine Zj ?_ | refine Ze ?_ | refine Zx ?_ | refine Zqr ?_ | refine Zqs ?_ | refine Zqc ?_ | refine Zqx ?_ | refine Zqf ?_ | refine Zm tb fun b => ?_ | refine Zb fun b => ?_ | refine Zs tb ?_ | refine Zu tb ?_))
        exact fin_w (.inl (by rw [← drop_nil' hk1 hk3]; exact hc1))
      · (repeat' (first | refine Zv tb ?_ | (refine Zt (fun ht => ?_) (fun ht => ?_) <;> (dsimp only [cmpP, cmpN] at ht) <;> (try (exfalso; omega))) | refine Z0 ?_ | refine Zq ?_ | refine Zr ?_ | refine Zk ?_ | refine Zy ?_ | refine Zn ?_ | refine Zj ?_ | refine Ze ?_ | refine Zx ?_ | refine Zqr ?_ | refine Zqs ?_ | refine Zqc ?_ | refine Zqx ?_ | refine Zqf ?_ | refine Zm tb fun b => ?_ | refine Zb fun b => ?_ | refine Zs tb ?_ | refine Zu tb ?_))
        exact fin_w (.inr hc1)
    · have hd' : L.drop k = [] := by rw [hd, if_neg (by omega), if_pos (by omega), wkEnd, if_neg (by omega)]
      exact fin_w (.inl (by rw [← drop_nil' hk hd']; exact hC))
    · have hd' : L.drop k = ((p, l[j].1), false) :: ((if max p l[j].1 < min l[j].2 s.2 then [((max p l[j].1, min l[j].2 s.2), true)] else []) ++ wk s.2 (List.drop (j + 1) l) (min l[j].2 s.2)) := by
        rw [hd, if_neg (by omega), if_neg (by omega), if_pos (by omega)]; rfl
      obtain ⟨hk1, hk2, hk3⟩ := drop_cons' (d := ((0, 0), false)) hd'
      rw [show max p l[j].1 = l[j].1 by omega] at hk3
      refine WL_cons rfl (Hv_yieldR (Γ2 := [_, _, _, _]) hY rfl rfl rfl rfl hC hk1 (by rw [pcE, hk2]; rfl) (fun c1 hc1 => ?_) (fun c1 hc1 => ?_) (fun _ _ _ hp h => WL_perm hp h))
      · (repeat' (first | refine Zv tb ?_ | (refine Zt (fun ht => ?_) (fun ht => ?_) <;> (dsimp only [cmpP, cmpN] at ht) <;> (try (exfalso; omega))) | refine Z0 ?_ | refine Zq ?_ | refine Zr ?_ | refine Zk ?_ | refine Zy ?_ | refine Zn ?_ | refine Zj ?_ | refine Ze ?_ | refine Zx ?_ | refine Zqr ?_ | refine Zqs ?_ | refine Zqc ?_ | refine Zqx ?_ | refine Zqf ?_ | refine Zm tb fun b => ?_ | refine Zb fun b => ?_ | refine Zs tb ?_ | refine Zu tb ?_))
        · rw [if_pos (by omega)] at hk3
          obtain ⟨hq1, hq2, hq3⟩ := drop_cons' (d := ((0, 0), false)) hk3
          refine WL_cons rfl (Hv_yieldR (Γ2 := [_, _, _, _]) hY rfl rfl rfl rfl hc1 hq1 (by rw [pcE, hq2]; rfl) (fun c1 hc1 => ?_) (fun c1 hc1 => ?_) (fun _ _ _ hp h => WL_perm hp h))
          · (repeat' (first | refine Zv tb ?_ | (refine Zt (fun ht => ?_) (fun ht => ?_) <;> (dsimp only [cmpP, cmpN] at ht) <;> (try (exfalso; omega))) | refine Z0 ?_ | refine Zq ?_ | refine Zr ?_ | refine Zk ?_ | refine Zy ?_ | refine Zn ?_ | refine Zj ?_ | refine Ze ?_ | refine Zx ?_ | refine Zqr ?_ | refine Zqs ?_ | refine Zqc ?_ | refine Zqx ?_ | refine Zqf ?_ | refine Zm tb fun b => ?_ | refine Zb fun b => ?_ | refine Zs tb ?_ | refine Zu tb ?_))
            refine ⟨(j + 1, min l[j].2 s.2, k + 1 + 1, c1), ⟨by omega, hc1, hq1, hq3⟩, by dsimp only; omega, (by repeat (first | exact Sub.nil | refine Sub.cons rfl ?_)), _, List.perm_append_comm (l₁ := [_])⟩
          · (repeat' (first | refine Zv tb ?_ | (refine Zt (fun ht => ?_) (fun ht => ?_) <;> (dsimp only [cmpP, cmpN] at ht) <;> (try (exfalso; omega))) | refine Z0 ?_ | refine Zq ?_ | refine Zr ?_ | refine Zk ?_ | refine Zy ?_ | refine Zn ?_ | refine Zj ?_ | refine Ze ?_ | refine Zx ?_ | refine Zqr ?_ | refine Zqs ?_ | refine Zqc ?_ | refine Zqx ?_ | refine Zqf ?_ | refine Zm tb fun b => ?_ | refine Zb fun b => ?_ | refine Zs tb ?_ | refine Zu tb ?_))
            exact fin_w (.inr hc1)
        · rw [if_neg (by omega)] at hk3
          refine ⟨(j + 1, min l[j].2 s.2, k + 1, c1), ⟨by omega, hc1, hk1, hk3⟩, by dsimp only; omega, (by repeat (first | exact Sub.nil | refine Sub.cons rfl ?_)), _, List.perm_append_comm (l₁ := [_])⟩
      · (repeat' (first | refine Zv tb ?_ | (refine Zt (fun ht => ?_) (fun ht => ?_) <;> (dsimp only [cmpP, cmpN] at ht) <;> (try (exfalso; omega))) | refine Z0 ?_ | refine Zq ?_ | refine Zr ?_ | refine Zk ?_ | refine Zy ?_ | refine Zn ?_ | refine Zj ?_ | refine Ze ?_ | refine Zx ?_ | refine Zqr ?_ | refine Zqs ?_ | refine Zqc ?_ | refine Zqx ?_ | refine Zqf ?_ | refine Zm tb fun b => ?_ | refine Zb fun b => ?_ | refine Zs tb ?_ | refine Zu tb ?_))
        exact fin_w (.inr hc1)
    all_goals rw [if_neg (by omega), if_neg (by omega), if_neg (by omega), show max p l[j].1 = p by omega] at hd
    · rw [if_pos (by omega)] at hd
      obtain ⟨hk1, hk2, hk3⟩ := drop_cons' (d := ((0, 0), false)) hd
      refine WL_cons rfl (Hv_yieldR (Γ2 := [_, _, _, _]) hY rfl rfl rfl rfl hC hk1 (by rw [pcE, hk2]; rfl) (fun c1 hc1 => ?_) (fun c1 hc1 => ?_) (fun _ _ _ hp h => WL_perm hp h))
      · (repeat' (first | refine Zv tb ?_ | (refine Zt (fun ht => ?_) (fun ht => ?_) <;> (dsimp only [cmpP, cmpN] at ht) <;> (try (exfalso; omega))) | refine Z0 ?_ | refine Zq ?_ | refine Zr ?_ | refine Zk ?_ | refine Zy ?_ | refine Zn ?_ | refine Zj ?_ | refine Ze ?_ | refine Zx ?_ | refine Zqr ?_ | refine Zqs ?_ | refine Zqc ?_ | refine Zqx ?_ | refine Zqf ?_ | refine Zm tb fun b => ?_ | refine Zb fun b => ?_ | refine Zs tb ?_ | refine Zu tb ?_))
        refine ⟨(j + 1, min l[j].2 s.2, k + 1, c1), ⟨by omega, hc1, hk1, hk3⟩, by dsimp only; omega, (by repeat (first | exact Sub.nil | refine Sub.cons rfl ?_)), _, List.perm_append_comm (l₁ := [_])⟩
      · (repeat' (first | refine Zv tb ?_ | (refine Zt (fun ht => ?_) (fun ht => ?_) <;> (dsimp only [cmpP, cmpN] at ht) <;> (try (exfalso; omega))) | refine Z0 ?_ | refine Zq ?_ | refine Zr ?_ | refine Zk ?_ | refine Zy ?_ | refine Zn ?_ | refine Zj ?_ | refine Ze ?_ | refine Zx ?_ | refine Zqr ?_ | refine Zqs ?_ | refine Zqc ?_ | refine Zqx ?_ | refine Zqf ?_ | refine Zm tb fun b => ?_ | refine Zb fun b => ?_ | refine Zs tb ?_ | refine Zu tb ?_))
        exact fin_w (.inr hc1)
    · rw [if_neg (by omega)] at hd
      refine ⟨(j + 1, min l[j].2 s.2, k, c), ⟨by omega, hC, hk, hd⟩, by dsimp only; omega, (by repeat (first | exact Sub.nil | refine Sub.cons rfl ?_)), _, List.perm_append_comm (l₁ := [_])⟩
  · have hd' : L.drop k = wkEnd s.2 p := by rw [hd, List.drop_eq_nil_of_le (by omega)]; rfl
    (repeat' (first | refine Zv tb ?_ | (refine Zt (fun ht => ?_) (fun ht => ?_) <;> (dsimp only [cmpP, cmpN] at ht) <;> (try (exfalso; omega))) | refine Z0 ?_ | refine Zq ?_ | refine Zr ?_ | refine Zk ?_ | refine Zy ?_ | refine Zn ?_ | refine Zj ?_ | refine Ze ?_ | refine Zx ?_ | refine Zqr ?_ | refine Zqs ?_ | refine Zqc ?_ | refine Zqx ?_ | refine Zqf ?_ | refine Zm tb fun b => ?_ | refine Zb fun b => ?_ | refine Zs tb ?_ | refine Zu tb ?_))
    · rw [wkEnd, if_pos (by omega)] at hd'
      obtain ⟨hk1, hk2, hk3⟩ := drop_cons' (d := ((0, 0), false)) hd'
      refine WL_cons rfl (Hv_yieldR (Γ2 := [_, _, _]) hY rfl rfl rfl rfl hC hk1 (by rw [pcE, hk2]; rfl) (fun c1 hc1 => ?_) (fun c1 hc1 => ?_) (fun _ _ _ hp h => WL_perm hp h))
      · (repeat' (first | refine Zv tb ?_ | (refine Zt (fun ht => ?_) (fun ht => ?_) <;> (dsimp only [cmpP, cmpN] at ht) <;> (try (exfalso; omega))) | refine Z0 ?_ | refine Zq ?_ | refine Zr ?_ | refine Zk ?_ | refine Zy ?_ | refine Zn ?_ | refine Zj ?_ | refine Ze ?_ | refine Zx ?_ | refine Zqr ?_ | refine Zqs ?_ | refine Zqc ?_ | refine Zqx ?_ | refine Zqf ?_ | refine Zm tb fun b => ?_ | refine Zb fun b => ?_ | refine Zs tb ?_ | refine Zu tb ?_))
        exact fin_w0 (.inl (by rw [← drop_nil' hk1 hk3]; exact hc1))
      · (repeat' (first | refine Zv tb ?_ | (refine Zt (fun ht => ?_) (fun ht => ?_) <;> (dsimp only [cmpP, cmpN] at ht) <;> (try (exfalso; omega))) | refine Z0 ?_ | refine Zq ?_ | refine Zr ?_ | refine Zk ?_ | refine Zy ?_ | refine Zn ?_ | refine Zj ?_ | refine Ze ?_ | refine Zx ?_ | refine Zqr ?_ | refine Zqs ?_ | refine Zqc ?_ | refine Zqx ?_ | refine Zqf ?_ | refine Zm tb fun b => ?_ | refine Zb fun b => ?_ | refine Zs tb ?_ | refine Zu tb ?_))
        exact fin_w0 (.inr hc1)
    · rw [wkEnd, if_neg (by omega)] at hd'
      exact fin_w0 (.inl (by rw [← drop_nil' hk hd']; exact hC))
theorem walk1_it : ItC Try.prog 85 [] [] 0 (pcE []) := by
  intro lp C Cx hY w c0 hc0
  refine Tr_intro (rs := []) (args := [yv lp]) Try.func85 rfl rfl 2 rfl rfl ?_
  (repeat' (first | refine Zv tb ?_ | (refine Zt (fun ht => ?_) (fun ht => ?_) <;> (dsimp only [cmpP, cmpN] at ht) <;> (try (exfalso; omega))) | refine Z0 ?_ | refine Zq ?_ | refine Zr ?_ | refine Zk ?_ | refine Zy ?_ | refine Zn ?_ | refine Zj ?_ | refine Ze ?_ | refine Zx ?_ | refine Zqr ?_ | refine Zqs ?_ | refine Zqc ?_ | refine Zqx ?_ | refine Zqf ?_ | refine Zm tb fun b => ?_ | refine Zb fun b => ?_ | refine Zs tb ?_ | refine Zu tb ?_))
  exact ⟨_, c0 ++ [], .nil, ⟨c0, .inl hc0, rfl⟩, [], by simp⟩
theorem spC_all (l : List Sp) : (spC.cells l).all Value.oneCell' = true := cells_all spC (fun _ => rfl) l
def WkR (l : List Sp) (s : Sp) (v : Value) (Γ : List It) : Prop := ∃ gf u lb, v = .func (.func gf) #[] (List.toArray lb) ∧ find2 tb.fns gf = some u ∧ ItC Try.prog gf lb Γ (pieces l s).length (pcE (pieces l s))
set_option maxHeartbeats 1000000 in
theorem Walk_t (A : Option Addr) (l : List Sp) (cap : Nat) (s : Sp) (w : World) (h : SlO w [] A l.length cap (spC.cells l)) :
    Tr Try.prog 81 #[.slice A l.length cap, spV s] w [] (WkR l s) := by
  refine Tr_intro (rs := [.tmp 4]) (args := [.slice A l.length cap, spV s]) Try.func81 rfl rfl 17 rfl rfl ?_
  refine W_nilrow 61 2 ?_
  (repeat' (first | refine Zv tb ?_ | (refine Zt (fun ht => ?_) (fun ht => ?_) <;> (dsimp only [cmpP, cmpN] at ht) <;> (try (exfalso; omega))) | refine Z0 ?_ | refine Zq ?_ | refine Zr ?_ | refine Zk ?_ | refine Zy ?_ | refine Zn ?_ | refine Zj ?_ | refine Ze ?_ | refine Zx ?_ | refine Zqr ?_ | refine Zqs ?_ | refine Zqc ?_ | refine Zqx ?_ | refine Zqf ?_ | refine Zm tb fun b => ?_ | refine Zb fun b => ?_ | refine Zs tb ?_ | refine Zu tb ?_))
  revert b
  intro b0
  refine WL_cons rfl (Hv_call tb (Γ1 := []) rfl rfl rfl (List.Perm.refl _) (fun w hs => right_t A l cap w (h.call hs).rd h.max) rfl ?_)
  rintro v Γ' ⟨rfl, rfl⟩
  cases h1 : decide (Right l)
  · (repeat' (first | refine Zv tb ?_ | (refine Zt (fun ht => ?_) (fun ht => ?_) <;> (dsimp only [cmpP, cmpN] at ht) <;> (try (exfalso; omega))) | refine Z0 ?_ | refine Zq ?_ | refine Zr ?_ | refine Zk ?_ | refine Zy ?_ | refine Zn ?_ | refine Zj ?_ | refine Ze ?_ | refine Zx ?_ | refine Zqr ?_ | refine Zqs ?_ | refine Zqc ?_ | refine Zqx ?_ | refine Zqf ?_ | refine Zm tb fun b => ?_ | refine Zb fun b => ?_ | refine Zs tb ?_ | refine Zu tb ?_))
    refine ⟨_, [], .tmp rfl .nil, ⟨85, _, [], rfl, rfl, ?_⟩, _, List.Perm.refl _⟩
    rw [show pieces l s = [] from if_neg (by simp at h1; simp [h1])]
    exact walk1_it
  (repeat' (first | refine Zv tb ?_ | (refine Zt (fun ht => ?_) (fun ht => ?_) <;> (dsimp only [cmpP, cmpN] at ht) <;> (try (exfalso; omega))) | refine Z0 ?_ | refine Zq ?_ | refine Zr ?_ | refine Zk ?_ | refine Zy ?_ | refine Zn ?_ | refine Zj ?_ | refine Ze ?_ | refine Zx ?_ | refine Zqr ?_ | refine Zqs ?_ | refine Zqc ?_ | refine Zqx ?_ | refine Zqf ?_ | refine Zm tb fun b => ?_ | refine Zb fun b => ?_ | refine Zs tb ?_ | refine Zu tb ?_))
  refine WL_cons rfl (Hv_call tb (Γ1 := []) rfl rfl rfl (List.Perm.refl _) (fun w hs => asked_t s.1 s.2 w) rfl ?_)
  rintro v Γ' ⟨rfl, rfl⟩
  cases h2 : askedB (s.1, s.2)
  · (repeat' (first | refine Zv tb ?_ | (refine Zt (fun ht => ?_) (fun ht => ?_) <;> (dsimp only [cmpP, cmpN] at ht) <;> (try (exfalso; omega))) | refine Z0 ?_ | refine Zq ?_ | refine Zr ?_ | refine Zk ?_ | refine Zy ?_ | refine Zn ?_ | refine Zj ?_ | refine Ze ?_ | refine Zx ?_ | refine Zqr ?_ | refine Zqs ?_ | refine Zqc ?_ | refine Zqx ?_ | refine Zqf ?_ | refine Zm tb fun b => ?_ | refine Zb fun b => ?_ | refine Zs tb ?_ | refine Zu tb ?_))
    refine ⟨_, [], .tmp rfl .nil, ⟨85, _, [], rfl, rfl, ?_⟩, _, List.Perm.refl _⟩
    rw [show pieces l s = [] from if_neg (by rw [show s = (s.1, s.2) from rfl, h2]; simp)]
    exact walk1_it
  simp only [decide_eq_true_eq] at h1
  have hl := h1.1
  have hpc : pieces l s = wk s.2 l s.1 := if_pos ⟨h1, h2⟩
  have app : ∀ {fr : Fr} {K : Kont} {d : Option Tmp} {x y : Operand} {ty : TypeId} {ps : String} {af : Array Edge} {g : Option (Nat × Bool)} {Γ : List It}, evo fr x = some (.slice none 0 0) → evo fr y = some (.slice A l.length cap) → dstOk 17 d = true →
      (∀ V c, K (putF d (.slice V l.length c) fr) (.row (.slice V l.length c) 61 2 l.length (spC.cells l) :: Γ)) →
      Hv Try.prog none w [] 17 [] ⟨d, .call { callee := .builtin .append, args := #[x, y], argTypes := #[43, 43] }, ty, ps, af, g⟩ K fr (.row (.slice none 0 0) 61 2 0 [] :: Γ) := by
    intro fr K d x y ty ps af g Γ hx hy hd hK
    cases A with
    | none =>
      obtain ⟨h3, h4⟩ := h.nil rfl
      obtain rfl : l = [] := List.eq_nil_of_length_eq_zero h3
      rw [h3, h4] at hy
      exact Hv_appendNil tb (k := 0) hx hy rfl rfl hd (hK none 0)
    | some a =>
      refine Hv_append tb (k := 0) (m := l.length) (news := spC.cells l) hx hy rfl rfl rfl (by decide) rfl (fun w' hs' => ?_) (cells_length spC l) (spC_all l) (by omega) (by omega) hd fun V c hV => ?_
      · intro j u hu
        obtain ⟨a', h5, h6⟩ := h.rd (by intro e; simp [e] at hu)
        cases h5
        exact hs'.old_cells h6 j u hu
      · have := hK V c
        simpa using this
  (repeat' (first | refine Zv tb ?_ | (refine Zt (fun ht => ?_) (fun ht => ?_) <;> (dsimp only [cmpP, cmpN] at ht) <;> (try (exfalso; omega))) | refine Z0 ?_ | refine Zq ?_ | refine Zr ?_ | refine Zk ?_ | refine Zy ?_ | refine Zn ?_ | refine Zj ?_ | refine Ze ?_ | refine Zx ?_ | refine Zqr ?_ | refine Zqs ?_ | refine Zqc ?_ | refine Zqx ?_ | refine Zqf ?_ | refine Zm tb fun b => ?_ | refine Zb fun b => ?_ | refine Zs tb ?_ | refine Zu tb ?_))
  refine WL_perm (List.perm_append_comm (l₁ := [_])) ?_
  refine WL_cons rfl (app rfl rfl rfl fun V c => ?_)
  (repeat' (first | refine Zv tb ?_ | (refine Zt (fun ht => ?_) (fun ht => ?_) <;> (dsimp only [cmpP, cmpN] at ht) <;> (try (exfalso; omega))) | refine Z0 ?_ | refine Zq ?_ | refine Zr ?_ | refine Zk ?_ | refine Zy ?_ | refine Zn ?_ | refine Zj ?_ | refine Ze ?_ | refine Zx ?_ | refine Zqr ?_ | refine Zqs ?_ | refine Zqc ?_ | refine Zqx ?_ | refine Zqf ?_ | refine Zm tb fun b => ?_ | refine Zb fun b => ?_ | refine Zs tb ?_ | refine Zu tb ?_))
  refine ⟨_, [.blk b0 (spC.enc s) 61, .blk b [.slice V l.length c] 43, .row (.slice V l.length c) 61 2 l.length (spC.cells l)], .tmp rfl .nil, ⟨86, _, [.pointer (some ⟨b0, 0, none⟩), .pointer (some ⟨b, 0, none⟩)], rfl, rfl, ?_⟩, [], ?_⟩
  · rw [hpc]
    exact walk2_it _ _ V c l s h.max
  · exact List.perm_append_comm (l₁ := [_, _])
end Go.Proofs.Ytdnngagahhleiaa
