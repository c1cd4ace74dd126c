/- claims: Size, Covers. -/
import Derived.Test.YtdnngagahhleiaaC5
namespace Go.Proofs.Ytdnngagahhleiaa
open Go.Sx
attribute [local irreducible] W WL WP Hv Yl
set_option maxRecDepth 10000
set_option linter.unusedVariables false
set_option linter.unusedSimpArgs false
theorem At_retB {P : Program} {w0 : World} {X : List Nat} {n id : Nat} {df : List Deferred} {fr : Fr} {Γ : List It} {Qr : Exit → Act → World → Prop} {y : Act → World → Prop} (h : At w0 X n df fr Γ (Qr .ret)) : At w0 X n df fr Γ ((Code.ret).wpIn (FW none) 0 P (Exit.inBlock id (Exit.then y Qr))) := fun a w hs hf hd => wpIn_ret (h a w hs hf hd)
attribute [local irreducible] WQ At QP QF Rnd
def sumL (l : List Sp) : Int := (l.map fun s => s.2 - s.1).sum
def size (l : List Sp) : Int := if Right l then sumL l else 0
theorem sumL_succ {l : List Sp} {i : Nat} (h : i < l.length) : sumL (l.take (i + 1)) = sumL (l.take i) + (l[i].2 - l[i].1) := by
  unfold sumL
  rw [List.take_succ_eq_append_getElem h, List.map_append, List.sum_append]
  simp
theorem sumL_le {l : List Sp} (h : Right l) : ∀ i, i ≤ l.length → 0 ≤ sumL (l.take i) ∧ (0 < i → sumL (l.take i) ≤ (gp l (i - 1)).2)
  | 0, _ => by simp [sumL]
  | i + 1, hi => by
    obtain ⟨h1, h2⟩ := sumL_le h i (by omega)
    have h3 := (h.2 i (by omega)).1
    simp only [mayB, decide_eq_true_eq] at h3
    rw [sumL_succ (by omega), gp_eq (by omega)]
    refine ⟨by omega, fun _ => ?_⟩
    rw [Nat.add_sub_cancel]
    rcases Nat.eq_zero_or_pos i with h4 | h4
    · subst h4; simp [sumL]; omega
    · have h5 := (h.2 i (by omega)).2 h4
      have := h2 h4
      omega
set_option maxHeartbeats 1000000 in
theorem Size_t (A : Option Addr) (l : List Sp) (cap : Nat) (w : World) (h : SlO w [] A l.length cap (spC.cells l)) :
    Tr Try.prog 70 #[.slice A l.length cap] w [] (fun v Γ => v = .int .i64 (size l) ∧ Γ = []) := by
  refine Tr_intro (rs := [.tmp 2]) (args := [.slice A l.length cap]) Try.func70 rfl rfl 24 rfl rfl ?_
  (repeat' (first | refine Zv tb ?_ | (refine Zt (fun ht => ?_) (fun ht => ?_) <;> (dsimp only [cmpP, cmpN] at ht) <;> (try (exfalso; omega))) | refine Z0 ?_ | refine Zq ?_ | refine Zr ?_ | refine Zk ?_ | refine Zy ?_ | refine Zn ?_ | refine Zj ?_ | refine Ze ?_ | refine Zx ?_ | refine Zqr ?_ | refine Zqs ?_ | refine Zqc ?_ | refine Zqx ?_ | refine Zqf ?_ | refine Zm tb fun b => ?_ | refine Zb fun b => ?_ | refine Zs tb ?_ | refine Zu tb ?_))
  refine WL_cons rfl (Hv_call tb (Γ1 := []) rfl rfl rfl (List.Perm.refl _) (fun w hs => right_t A l cap w (h.call hs).rd h.max) rfl ?_)
  rintro v Γ' ⟨rfl, rfl⟩
  cases h1 : decide (Right l)
  · (repeat' (first | refine Zv tb ?_ | (refine Zt (fun ht => ?_) (fun ht => ?_) <;> (dsimp only [cmpP, cmpN] at ht) <;> (try (exfalso; omega))) | refine Z0 ?_ | refine Zq ?_ | refine Zr ?_ | refine Zk ?_ | refine Zy ?_ | refine Zn ?_ | refine Zj ?_ | refine Ze ?_ | refine Zx ?_ | refine Zqr ?_ | refine Zqs ?_ | refine Zqc ?_ | refine Zqx ?_ | refine Zqf ?_ | refine Zm tb fun b => ?_ | refine Zb fun b => ?_ | refine Zs tb ?_ | refine Zu tb ?_))
    first | refine ⟨_, [], .tmp rfl .nil, ⟨?_, rfl⟩, _, List.Perm.refl _⟩ | refine ⟨_, _, .tmp rfl .nil, ⟨?_, rfl⟩, _, List.perm_append_comm⟩
    simp at h1
    simp [tup, size, h1]
  simp only [decide_eq_true_eq] at h1
  have hl := h1.1
  (repeat' (first | refine Zv tb ?_ | (refine Zt (fun ht => ?_) (fun ht => ?_) <;> (dsimp only [cmpP, cmpN] at ht) <;> (try (exfalso; omega))) | refine Z0 ?_ | refine Zq ?_ | refine Zr ?_ | refine Zk ?_ | refine Zy ?_ | refine Zn ?_ | refine Zj ?_ | refine Ze ?_ | refine Zx ?_ | refine Zqr ?_ | refine Zqs ?_ | refine Zqc ?_ | refine Zqx ?_ | refine Zqf ?_ | refine Zm tb fun b => ?_ | refine Zb fun b => ?_ | refine Zs tb ?_ | refine Zu tb ?_))
  refine W_loop (σ := Nat) (fun i => [(9, .slice A l.length cap), (10, .int .i64 l.length), (11, .int .i64 i), (3, .int .i64 (sumL (l.take i)))]) (fun _ => []) (fun i => i ≤ l.length) (fun i => l.length - i) 0 (Nat.zero_le _) (by repeat (first | exact Sub.nil | refine Sub.cons rfl ?_)) (keepAll _) ?_
  intro i hi
  by_cases hlt : i < l.length
  · obtain ⟨a, rfl, hH0⟩ := h.rd (cells_ne spC (by intro h; simp [h] at hlt) (by decide))
    have h2 := sumL_succ hlt
    have h3 := sumL_le h1 i hi
    have h4 := sumL_le h1 (i + 1) (by omega)
    have h5 := (h1.2 i hlt).1
    rw [← gp_eq hlt] at h5
    simp only [mayB, decide_eq_true_eq] at h5
    have h6 := h4.2 (Nat.succ_pos _)
    rw [Nat.add_sub_cancel, ← gp_eq hlt] at h6
    (repeat' (first | refine Zv tb ?_ | (refine Zt (fun ht => ?_) (fun ht => ?_) <;> (dsimp only [cmpP, cmpN] at ht) <;> (try (exfalso; omega))) | refine Z0 ?_ | refine Zq ?_ | refine Zr ?_ | refine Zk ?_ | refine Zy ?_ | refine Zn ?_ | refine Zj ?_ | refine Ze ?_ | refine Zx ?_ | refine Zqr ?_ | refine Zqs ?_ | refine Zqc ?_ | refine Zqx ?_ | refine Zqf ?_ | refine Zm tb fun b => ?_ | refine Zb fun b => ?_ | refine Zs tb ?_ | refine WL_u (by first | exact Yl_indexAddr tb i rfl rfl rfl rfl hlt | exact Yl_loadA tb _ rfl rfl (Has.old hH0) (cells_seg spC hlt) rfl) rfl rfl ?_ | refine Zu tb ?_))
    refine ⟨i + 1, by omega, by omega, ?_, keepNil _⟩
    rw [h2]
    exact (by repeat (first | exact Sub.nil | refine Sub.cons rfl ?_))
  · (repeat' (first | refine Zv tb ?_ | (refine Zt (fun ht => ?_) (fun ht => ?_) <;> (dsimp only [cmpP, cmpN] at ht) <;> (try (exfalso; omega))) | refine Z0 ?_ | refine Zq ?_ | refine Zr ?_ | refine Zk ?_ | refine Zy ?_ | refine Zn ?_ | refine Zj ?_ | refine Ze ?_ | refine Zx ?_ | refine Zqr ?_ | refine Zqs ?_ | refine Zqc ?_ | refine Zqx ?_ | refine Zqf ?_ | refine Zm tb fun b => ?_ | refine Zb fun b => ?_ | refine Zs tb ?_ | refine Zu tb ?_))
    first | refine ⟨_, [], .tmp rfl .nil, ⟨?_, rfl⟩, _, List.Perm.refl _⟩ | refine ⟨_, _, .tmp rfl .nil, ⟨?_, rfl⟩, _, List.perm_append_comm⟩
    have : l.take i = l := List.take_of_length_le (by omega)
    simp [tup, size, h1, this]
/-- does a set hold all bytes of a span? -/
def covers (l : List Sp) (s : Sp) : Bool := decide (Right l) && askedB s && (pieces l s).all (·.2)
set_option maxHeartbeats 1000000 in
theorem Covers_t (A : Option Addr) (l : List Sp) (cap : Nat) (s : Sp) (w : World) (h : SlO w [] A l.length cap (spC.cells l)) :
    Tr Try.prog 69 #[.slice A l.length cap, spV s] w [] (fun v Γ => v = .bool (covers l s) ∧ Γ = []) := by
  refine TrD_intro (rs := [.cell 4 4]) (args := [.slice A l.length cap, spV s]) Try.func69 rfl rfl 22 rfl rfl ?_
  (repeat' (first | refine Zv tb ?_ | (refine Zt (fun ht => ?_) (fun ht => ?_) <;> (dsimp only [cmpP, cmpN] at ht) <;> (try (exfalso; omega))) | refine Z0 ?_ | refine Zq ?_ | refine Zr ?_ | refine Zk ?_ | refine Zy ?_ | refine Zn ?_ | refine Zj ?_ | refine Ze ?_ | refine Zx ?_ | refine Zqr ?_ | refine Zqs ?_ | refine Zqc ?_ | refine Zqx ?_ | refine Zqf ?_ | refine Zm tb fun b => ?_ | refine Zb fun b => ?_ | refine Zs tb ?_ | refine Zu tb ?_))
  refine WL_cons rfl (Hv_call tb (Γ1 := []) rfl rfl rfl (List.Perm.refl _) (fun w hs => right_t A l cap w (h.call hs).rd h.max) rfl ?_)
  rintro v Γ' ⟨rfl, rfl⟩
  cases h1 : decide (Right l)
  · (repeat' (first | refine Zv tb ?_ | (refine Zt (fun ht => ?_) (fun ht => ?_) <;> (dsimp only [cmpP, cmpN] at ht) <;> (try (exfalso; omega))) | refine Z0 ?_ | refine Zq ?_ | refine Zr ?_ | refine Zk ?_ | refine Zy ?_ | refine Zn ?_ | refine Zj ?_ | refine Ze ?_ | refine Zx ?_ | refine Zqr ?_ | refine Zqs ?_ | refine Zqc ?_ | refine Zqx ?_ | refine Zqf ?_ | refine Zm tb fun b => ?_ | refine Zb fun b => ?_ | refine Zs tb ?_ | refine Zu tb ?_))
    exact ⟨_, [], .cell1 rfl (by repeat (first | exact List.Mem.head _ | apply List.Mem.tail)) rfl .nil, ⟨by simp [tup, covers, h1], rfl⟩, _, List.Perm.refl _⟩
  (repeat' (first | refine Zv tb ?_ | (refine Zt (fun ht => ?_) (fun ht => ?_) <;> (dsimp only [cmpP, cmpN] at ht) <;> (try (exfalso; omega))) | refine Z0 ?_ | refine Zq ?_ | refine Zr ?_ | refine Zk ?_ | refine Zy ?_ | refine Zn ?_ | refine Zj ?_ | refine Ze ?_ | refine Zx ?_ | refine Zqr ?_ | refine Zqs ?_ | refine Zqc ?_ | refine Zqx ?_ | refine Zqf ?_ | refine Zm tb fun b => ?_ | refine Zb fun b => ?_ | refine Zs tb ?_ | refine Zu tb ?_))
  refine WL_cons rfl (Hv_call tb (Γ1 := []) rfl rfl rfl (List.Perm.refl _) (fun w hs => asked_t s.1 s.2 w) rfl ?_)
  rintro v Γ' ⟨rfl, rfl⟩
  cases h2 : askedB (s.1, s.2)
  · (repeat' (first | refine Zv tb ?_ | (refine Zt (fun ht => ?_) (fun ht => ?_) <;> (dsimp only [cmpP, cmpN] at ht) <;> (try (exfalso; omega))) | refine Z0 ?_ | refine Zq ?_ | refine Zr ?_ | refine Zk ?_ | refine Zy ?_ | refine Zn ?_ | refine Zj ?_ | refine Ze ?_ | refine Zx ?_ | refine Zqr ?_ | refine Zqs ?_ | refine Zqc ?_ | refine Zqx ?_ | refine Zqf ?_ | refine Zm tb fun b => ?_ | refine Zb fun b => ?_ | refine Zs tb ?_ | refine Zu tb ?_))
    exact ⟨_, [], .cell1 rfl (by repeat (first | exact List.Mem.head _ | apply List.Mem.tail)) rfl .nil, ⟨by simp [tup, covers, show askedB s = false from h2], rfl⟩, _, List.Perm.refl _⟩
  simp only [decide_eq_true_eq] at h1
  (repeat' (first | refine Zv tb ?_ | (refine Zt (fun ht => ?_) (fun ht => ?_) <;> (dsimp only [cmpP, cmpN] at ht) <;> (try (exfalso; omega))) | refine Z0 ?_ | refine Zq ?_ | refine Zr ?_ | refine Zk ?_ | refine Zy ?_ | refine Zn ?_ | refine Zj ?_ | refine Ze ?_ | refine Zx ?_ | refine Zqr ?_ | refine Zqs ?_ | refine Zqc ?_ | refine Zqx ?_ | refine Zqf ?_ | refine Zm tb fun b => ?_ | refine Zb fun b => ?_ | refine Zs tb ?_ | refine Zu tb ?_))
  refine WQ_seq2 ?_
  (repeat' (first | refine Zv tb ?_ | (refine Zt (fun ht => ?_) (fun ht => ?_) <;> (dsimp only [cmpP, cmpN] at ht) <;> (try (exfalso; omega))) | refine Z0 ?_ | refine Zq ?_ | refine Zr ?_ | refine Zk ?_ | refine Zy ?_ | refine Zn ?_ | refine Zj ?_ | refine Ze ?_ | refine Zx ?_ | refine Zqr ?_ | refine Zqs ?_ | refine Zqc ?_ | refine Zqx ?_ | refine Zqf ?_ | refine Zm tb fun b => ?_ | refine Zb fun b => ?_ | refine Zs tb ?_ | refine Zu tb ?_))
  refine WL_cons rfl (Hv_call tb (Γ1 := []) rfl rfl rfl (List.Perm.refl _) (fun w hs => Walk_t A l cap s w (h.call hs)) rfl ?_)
  rintro v Kw ⟨gf, u, lb, rfl, hfn, hit⟩
  (repeat' (first | refine Zv tb ?_ | (refine Zt (fun ht => ?_) (fun ht => ?_) <;> (dsimp only [cmpP, cmpN] at ht) <;> (try (exfalso; omega))) | refine Z0 ?_ | refine Zq ?_ | refine Zr ?_ | refine Zk ?_ | refine Zy ?_ | refine Zn ?_ | refine Zj ?_ | refine Ze ?_ | refine Zx ?_ | refine Zqr ?_ | refine Zqs ?_ | refine Zqc ?_ | refine Zqx ?_ | refine Zqf ?_ | refine Zm tb fun b => ?_ | refine Zb fun b => ?_ | refine Zs tb ?_ | refine Zu tb ?_))
  refine WQ_block ?_
  refine WQ_range tb (by rfl) hfn hit (fun _ => by rfl) (by rfl) (fun _ : Unit => [.blk b [.bool false] 4]) (fun i _ => ∀ j, j < i → ((pieces l s).getD j ((0, 0), false)).2 = true) (fun cd Γx => cd = .ret ∧ covers l s = false ∧ ∃ R, Γx.Perm ([.blk b [.bool false] 4] ++ R)) () (fun j h => by omega) List.perm_middle ?_ ?_ ?_
  · rintro i hi _ hI lp w1
    obtain ⟨⟨⟨x, y⟩, z⟩, hq⟩ : ∃ q, (pieces l s).getD i ((0, 0), false) = q := ⟨_, rfl⟩
    rw [show pcE (pieces l s) i = [.agg #[.int .i64 x, .int .i64 y], .bool z] from by rw [pcE, hq]; rfl]
    (repeat' (first | refine Zv tb ?_ | (refine Zt (fun ht => ?_) (fun ht => ?_) <;> (dsimp only [cmpP, cmpN] at ht) <;> (try (exfalso; omega))) | refine Z0 ?_ | refine Zq ?_ | refine Zr ?_ | refine Zk ?_ | refine Zy ?_ | refine Zn ?_ | refine Zj ?_ | refine Ze ?_ | refine Zx ?_ | refine Zqr ?_ | refine Zqs ?_ | refine Zqc ?_ | refine Zqx ?_ | refine Zqf ?_ | refine Zm tb fun b => ?_ | refine Zb fun b => ?_ | refine Zs tb ?_ | refine Zu tb ?_))
    intro w2
    cases z
    · (repeat' (first | refine Zv tb ?_ | (refine Zt (fun ht => ?_) (fun ht => ?_) <;> (dsimp only [cmpP, cmpN] at ht) <;> (try (exfalso; omega))) | refine Z0 ?_ | refine Zq ?_ | refine Zr ?_ | refine Zk ?_ | refine Zy ?_ | refine Zn ?_ | refine Zj ?_ | refine Ze ?_ | refine Zx ?_ | refine Zqr ?_ | refine Zqs ?_ | refine Zqc ?_ | refine Zqx ?_ | refine Zqf ?_ | refine Zm tb fun b => ?_ | refine Zb fun b => ?_ | refine Zs tb ?_ | refine Zu tb ?_))
      refine ⟨rfl, ?_, keepAll _⟩
      unfold covers
      rw [Bool.and_eq_false_iff]
      refine .inr (List.all_eq_false.2 ⟨(pieces l s)[i], List.getElem_mem _, ?_⟩)
      have : (pieces l s)[i] = ((x, y), false) := by rw [← hq]; simp [hi]
      simp [this]
    · (repeat' (first | refine Zv tb ?_ | (refine Zt (fun ht => ?_) (fun ht => ?_) <;> (dsimp only [cmpP, cmpN] at ht) <;> (try (exfalso; omega))) | refine Z0 ?_ | refine Zq ?_ | refine Zr ?_ | refine Zk ?_ | refine Zy ?_ | refine Zn ?_ | refine Zj ?_ | refine Ze ?_ | refine Zx ?_ | refine Zqr ?_ | refine Zqs ?_ | refine Zqc ?_ | refine Zqx ?_ | refine Zqf ?_ | refine Zm tb fun b => ?_ | refine Zb fun b => ?_ | refine Zs tb ?_ | refine Zu tb ?_))
      refine ⟨(), fun j hj => ?_, keepAll _⟩
      by_cases hji : j = i
      · subst hji; rw [hq]
      · exact hI j (by omega)
  · rintro D _ hI
    have hc : covers l s = true := by
      unfold covers
      rw [show askedB s = true from h2]
      simp only [h1, decide_true, Bool.true_and, List.all_eq_true]
      intro q hq
      obtain ⟨j, hj, rfl⟩ := List.getElem_of_mem hq
      have := hI j hj
      simpa [hj] using this
    rw [hc]
    refine WQ_at ?_
    (repeat' (first | refine Zv tb ?_ | (refine Zt (fun ht => ?_) (fun ht => ?_) <;> (dsimp only [cmpP, cmpN] at ht) <;> (try (exfalso; omega))) | refine Z0 ?_ | refine Zq ?_ | refine Zr ?_ | refine Zk ?_ | refine Zy ?_ | refine Zn ?_ | refine Zj ?_ | refine Ze ?_ | refine Zx ?_ | refine Zqr ?_ | refine Zqs ?_ | refine Zqc ?_ | refine Zqx ?_ | refine Zqf ?_ | refine Zm tb fun b => ?_ | refine Zb fun b => ?_ | refine Zs tb ?_ | refine Zu tb ?_))
    exact QF_end [D] (.inr rfl) (List.Perm.refl _) ⟨_, [], .cell1 rfl (List.mem_cons_self ..) rfl .nil, ⟨rfl, rfl⟩, _, List.Perm.refl _⟩
  · rintro D cd Γx ⟨rfl, hc, R, hp⟩
    rw [hc]
    refine At_retB ?_
    refine At_perm (List.Perm.cons _ (hp.append_right _)) ?_
    exact QF_end [D] (.inr rfl) (List.Perm.refl _) ⟨_, [], .cell1 rfl (List.mem_cons_self ..) rfl .nil, ⟨rfl, rfl⟩, _, List.Perm.refl _⟩
end Go.Proofs.Ytdnngagahhleiaa
