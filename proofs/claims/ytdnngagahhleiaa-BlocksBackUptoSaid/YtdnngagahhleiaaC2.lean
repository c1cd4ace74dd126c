/- claims: merged, Union. -/
import Derived.Test.YtdnngagahhleiaaC1
import Derived.Test.YtdnngagahhleiaaSxA
namespace Go.Proofs.Ytdnngagahhleiaa
open Go.Sx
attribute [local irreducible] W WL WP Hv Yl
set_option maxRecDepth 10000
set_option linter.unusedVariables false
abbrev Sp := Int × Int
def pk : List Sp → List Sp → Sp × List Sp × List Sp
  | x :: a, [] => (x, a, [])
  | [], y :: b => (y, [], b)
  | x :: a, y :: b => if x.1 ≤ y.1 then (x, a, y :: b) else (y, x :: a, b)
  | [], [] => ((0, 0), [], [])
def put (out : List Sp) (s : Sp) : List Sp := if 0 < out.length ∧ s.1 ≤ (gp out (out.length - 1)).2 then out.set (out.length - 1) ((gp out (out.length - 1)).1, max (gp out (out.length - 1)).2 s.2) else out ++ [s]
def mg : Nat → List Sp → List Sp → List Sp → List Sp
  | 0, _, _, out => out
  | n + 1, a, b, out => mg n (pk a b).2.1 (pk a b).2.2 (put out (pk a b).1)
def merged (a b : List Sp) : List Sp := mg (a.length + b.length) a b []
theorem put_len (out : List Sp) (s : Sp) : (put out s).length ≤ out.length + 1 := by unfold put; split <;> simp
theorem cells_set1 (l : List Sp) (i : Nat) (h : i < l.length) (v : Int) : putL (spC.cells l) (i * 2 + 1) [.int .i64 v] = spC.cells (l.set i ((gp l i).1, v)) := by
  have h1 := cells_put spC h ((gp l i).1, v)
  rw [← h1]
  apply List.ext_getElem?
  intro j
  have hl : (spC.cells l).length = l.length * 2 := cells_length spC l
  rw [putL_get _ _ _ _ (by rw [hl]; simp; omega), putL_get _ _ _ _ (by rw [hl]; simp [spC]; omega)]
  show (if i * 2 + 1 ≤ j ∧ j < i * 2 + 1 + 1 then _ else _) = (if i * 2 ≤ j ∧ j < i * 2 + 2 then _ else _)
  by_cases h2 : j = i * 2 + 1
  · subst h2
    rw [if_pos ⟨Nat.le_refl _, by omega⟩, if_pos ⟨by omega, by omega⟩]
    simp [spC]
  · rw [if_neg (by omega)]
    by_cases h3 : j = i * 2
    · subst h3
      rw [if_pos ⟨by omega, by omega⟩]
      have := cells_get spC h (j := 0) (by decide)
      simp only [Nat.add_zero] at this
      show (spC.cells l)[i * 2]? = _
      rw [show i * 2 = i * spC.sz from rfl, this]
      simp [spC, gp_eq h]
    · rw [if_neg (by omega)]
theorem tlR {w : World} {X : List Nat} {K : List It} {A : Option Addr} {x : Sp} {a : List Sp} {ca : Nat} (h : RdA w X K A (spC.cells (x :: a))) (hc : (x :: a).length ≤ ca) : RdA w X K (sA A ca 1 2) (spC.cells a) := by
  have := h.sl (cap := ca) (j := 1) (sz := 2) (by rw [cells_length]; exact Nat.mul_le_mul_right 2 hc)
  rwa [show 1 * 2 = 1 * spC.sz from rfl, cells_drop] at this
set_option maxHeartbeats 1000000 in
theorem merged_t (A B : Option Addr) (la lb : List Sp) (ca cb : Nat) (w : World) (hA : RdO w [] A (spC.cells la)) (hB : RdO w [] B (spC.cells lb)) (hca : la.length ≤ ca) (hcb : lb.length ≤ cb) (hm : la.length + lb.length ≤ 100000) :
    Tr Try.prog 87 #[.slice A la.length ca, .slice B lb.length cb] w [] (fun v Γ => ∃ V c, v = .slice V (merged la lb).length c ∧ Γ = [.row v 61 2 (merged la lb).length (spC.cells (merged la lb))]) := by
  refine Tr_intro (rs := [.tmp 4]) (args := [.slice A la.length ca, .slice B lb.length cb]) Try.func87 rfl rfl 79 rfl rfl ?_
  refine W_nilrow 61 2 ?_
  (repeat' (first | refine Zv tb ?_ | (refine Zt (fun ht => ?_) (fun ht => ?_) <;> (dsimp only [cmpP, cmpN] at ht) <;> (try (exfalso; omega))) | refine Z0 ?_ | refine Zq ?_ | refine Zr ?_ | refine Zk ?_ | refine Zy ?_ | refine Zn ?_ | refine Zj ?_ | refine Ze ?_ | refine Zx ?_ | refine Zqr ?_ | refine Zqs ?_ | refine Zqc ?_ | refine Zqx ?_ | refine Zqf ?_ | refine Zm tb fun b => ?_ | refine Zb fun b => ?_ | refine Zs tb ?_ | refine Zu tb ?_))
  refine W_loop (σ := List Sp × List Sp × List Sp × Nat × Option Addr × Option Addr × Option Addr × Nat × Nat × Nat)
    (fun | (a, b, out, n, A, B, V, ca, cb, c) => [(0, .slice A a.length ca), (1, .slice B b.length cb), (5, .slice V n c)]) (fun | (a, b, out, n, A, B, V, ca, cb, c) => [.row (.slice V n c) 61 2 n (spC.cells out)])
    (fun | (a', b', out, n, A, B, V, ca, cb, c) => out.length = n ∧ RdA w [] [] A (spC.cells a') ∧ RdA w [] [] B (spC.cells b') ∧ a'.length ≤ ca ∧ b'.length ≤ cb ∧ a'.length + b'.length + out.length ≤ 100000 ∧ mg (a'.length + b'.length) a' b' out = merged la lb) (fun | (a, b, _) => a.length + b.length)
    (la, lb, [], 0, A, B, none, ca, cb, 0) ⟨rfl, hA.rd _, hB.rd _, hca, hcb, by simpa using hm, rfl⟩ (by repeat (first | exact Sub.nil | refine Sub.cons rfl ?_)) (keepAll _) ?_
  rintro ⟨a', b', out, n, A, B, V, ca', cb', c⟩ ⟨hn, hA, hB, hca', hcb', hsz, hmg⟩
  dsimp only
  have l0 : ([] : List Sp).length = 0 := rfl
  by_cases hz : a'.length + b'.length = 0
  · (repeat' (first | refine Zv tb ?_ | (refine Zt (fun ht => ?_) (fun ht => ?_) <;> (dsimp only [cmpP, cmpN] at ht) <;> (try (exfalso; omega))) | refine Z0 ?_ | refine Zq ?_ | refine Zr ?_ | refine Zk ?_ | refine Zy ?_ | refine Zn ?_ | refine Zj ?_ | refine Ze ?_ | refine Zx ?_ | refine Zqr ?_ | refine Zqs ?_ | refine Zqc ?_ | refine Zqx ?_ | refine Zqf ?_ | refine Zm tb fun b => ?_ | refine Zb fun b => ?_ | refine Zs tb ?_ | refine Zu tb ?_))
    obtain rfl : out = merged la lb := by rw [← hmg, hz]; rfl
    subst hn
    exact ⟨_, _, .tmp rfl .nil, ⟨V, c, rfl, rfl⟩, _, List.Perm.refl _⟩
  · refine W_seq (W_seq (W_cut2 (σ := Unit) (fun _ => [(0, .slice A a'.length ca'), (1, .slice B b'.length cb'), (5, .slice V n c)]) (fun _ => [.row (.slice V n c) 61 2 n (spC.cells out)]) (fun _ => True) ?_ ?_))
    · (repeat' (first | refine Zv tb ?_ | (refine Zt (fun ht => ?_) (fun ht => ?_) <;> (dsimp only [cmpP, cmpN] at ht) <;> (try (exfalso; omega))) | refine Z0 ?_ | refine Zq ?_ | refine Zr ?_ | refine Zk ?_ | refine Zy ?_ | refine Zn ?_ | refine Zj ?_ | refine Ze ?_ | refine Zx ?_ | refine Zqr ?_ | refine Zqs ?_ | refine Zqc ?_ | refine Zqx ?_ | refine Zqf ?_ | refine Zm tb fun b => ?_ | refine Zb fun b => ?_ | refine Zs tb ?_ | refine Zu tb ?_))
      all_goals exact ⟨(), trivial, (by repeat (first | exact Sub.nil | refine Sub.cons rfl ?_)), keepAll _⟩
    intro _ _
    (repeat' (first | refine Zv tb ?_ | (refine Zt (fun ht => ?_) (fun ht => ?_) <;> (dsimp only [cmpP, cmpN] at ht) <;> (try (exfalso; omega))) | refine Z0 ?_ | refine Zq ?_ | refine Zr ?_ | refine Zk ?_ | refine Zy ?_ | refine Zn ?_ | refine Zj ?_ | refine Ze ?_ | refine Zx ?_ | refine Zqr ?_ | refine Zqs ?_ | refine Zqc ?_ | refine Zqx ?_ | refine Zqf ?_ | refine Zm tb fun b => ?_ | refine Zb fun b => ?_ | refine Zs tb ?_ | refine Zu tb ?_))
    refine W_cut2 (σ := Sp × List Sp × List Sp × Option Addr × Option Addr × Nat × Nat) (fun | (s, a, d, A, B, ca, cb) => [(0, .slice A a.length ca), (1, .slice B d.length cb), (5, .slice V n c), (6, .pointer (some ⟨b, 0, none⟩))])
      (fun | (s, a, d, A, B, ca, cb) => [.blk b (spC.enc s) 61, .row (.slice V n c) 61 2 n (spC.cells out)])
      (fun | (s, a, d, A, B, ca, cb) => (s, a, d) = pk a' b' ∧ RdA w [] [] A (spC.cells a) ∧ RdA w [] [] B (spC.cells d) ∧ a.length ≤ ca ∧ d.length ≤ cb ∧ a.length + d.length + 1 = a'.length + b'.length) ?_ ?_
    · rcases a' with _ | ⟨x, a'⟩
      · rcases b' with _ | ⟨y, b'⟩
        · exfalso; simp at hz
        have l2 : (y :: b').length = b'.length + 1 := rfl
        obtain ⟨bb, rfl, hHb⟩ := hB (by simp [spC, Cod.cells])
        (repeat refine W_seq ?_); refine W_regionD tb [] _ [(0, 0), (1, 0), (2, 0), (3, 0), (4, 0), (5, 0), (6, 0), (7, 0), (8, 0), (9, 0), (10, 0), (11, 1), (12, 0), (13, 0), (14, 0), (15, 1), (16, 0), (17, 0), (18, 0)] (by kernel_rfl) (keepAll _) ?_
        (repeat' (first | refine Zpv tb ?_ | (refine Zpt (fun ht => ?_) (fun ht => ?_) <;> (dsimp only [cmpP, cmpN] at ht) <;> (try (exfalso; omega))) | refine Zpw ?_ | refine Zpu tb ?_ | refine Zps tb ?_ | refine Zpk ?_ | refine Zp0 ?_))
        (repeat' (first | refine Zv tb ?_ | (refine Zt (fun ht => ?_) (fun ht => ?_) <;> (dsimp only [cmpP, cmpN] at ht) <;> (try (exfalso; omega))) | refine Z0 ?_ | refine Zq ?_ | refine Zr ?_ | refine Zk ?_ | refine Zy ?_ | refine Zn ?_ | refine Zj ?_ | refine Ze ?_ | refine Zx ?_ | refine Zqr ?_ | refine Zqs ?_ | refine Zqc ?_ | refine Zqx ?_ | refine Zqf ?_ | refine Zm tb fun b => ?_ | refine Zb fun b => ?_ | refine Zs tb ?_ | refine Zu tb ?_))
        (repeat refine W_seq ?_); refine W_regionD tb [5] _ [(0, 0), (1, 0), (2, 1), (3, 0), (4, 0), (5, 2), (6, 0)] (by kernel_rfl) (keepAll _) ?_
        (repeat' (first | refine Zpv tb ?_ | (refine Zpt (fun ht => ?_) (fun ht => ?_) <;> (dsimp only [cmpP, cmpN] at ht) <;> (try (exfalso; omega))) | refine WP_u0 rfl (by first | exact Yl_indexAddr tb 0 rfl rfl rfl rfl (by omega) | exact Yl_loadA tb _ rfl rfl (hHb.weak (keepNil _)) (cells_seg spC (xs := y :: b') (i := 0) (by omega)) rfl | exact Yl_sliceL tb 1 rfl rfl rfl rfl (by omega)) rfl rfl ?_ | refine WP_u1 rfl (by first | exact Yl_indexAddr tb 0 rfl rfl rfl rfl (by omega) | exact Yl_loadA tb _ rfl rfl (hHb.weak (keepNil _)) (cells_seg spC (xs := y :: b') (i := 0) (by omega)) rfl | exact Yl_sliceL tb 1 rfl rfl rfl rfl (by omega)) rfl rfl ?_ | refine Zpw ?_ | refine Zpu tb ?_ | refine Zps tb ?_ | refine Zpk ?_ | refine Zp0 ?_))
        refine ⟨(y, [], b', _, _, _, _), ⟨rfl, hA, tlR hB hcb', hca', ?_, ?_⟩, (by repeat (first | exact Sub.nil | refine Sub.cons rfl ?_)), keepAll _⟩ <;> simp at * <;> omega
      have l1 : (x :: a').length = a'.length + 1 := rfl
      obtain ⟨aa, rfl, hHa⟩ := hA (by simp [spC, Cod.cells])
      rcases b' with _ | ⟨y, b'⟩
      · (repeat refine W_seq ?_); refine W_regionD tb [] _ [(0, 0), (1, 0), (2, 0), (3, 0), (4, 0), (5, 0), (6, 0), (7, 0), (8, 0), (9, 0), (10, 0), (11, 1), (12, 0), (13, 0), (14, 0), (15, 1), (16, 0), (17, 0), (18, 0)] (by kernel_rfl) (keepAll _) ?_
        (repeat' (first | refine Zpv tb ?_ | (refine Zpt (fun ht => ?_) (fun ht => ?_) <;> (dsimp only [cmpP, cmpN] at ht) <;> (try (exfalso; omega))) | refine Zpw ?_ | refine Zpu tb ?_ | refine Zps tb ?_ | refine Zpk ?_ | refine Zp0 ?_))
        (repeat' (first | refine Zv tb ?_ | (refine Zt (fun ht => ?_) (fun ht => ?_) <;> (dsimp only [cmpP, cmpN] at ht) <;> (try (exfalso; omega))) | refine Z0 ?_ | refine Zq ?_ | refine Zr ?_ | refine Zk ?_ | refine Zy ?_ | refine Zn ?_ | refine Zj ?_ | refine Ze ?_ | refine Zx ?_ | refine Zqr ?_ | refine Zqs ?_ | refine Zqc ?_ | refine Zqx ?_ | refine Zqf ?_ | refine Zm tb fun b => ?_ | refine Zb fun b => ?_ | refine Zs tb ?_ | refine Zu tb ?_))
        (repeat refine W_seq ?_); refine W_regionD tb [5] _ [(0, 0), (1, 0), (2, 1), (3, 0), (4, 0), (5, 2), (6, 0)] (by kernel_rfl) (keepAll _) ?_
        (repeat' (first | refine Zpv tb ?_ | (refine Zpt (fun ht => ?_) (fun ht => ?_) <;> (dsimp only [cmpP, cmpN] at ht) <;> (try (exfalso; omega))) | refine WP_u0 rfl (by first | exact Yl_indexAddr tb 0 rfl rfl rfl rfl (by omega) | exact Yl_loadA tb _ rfl rfl (hHa.weak (keepNil _)) (cells_seg spC (xs := x :: a') (i := 0) (by omega)) rfl | exact Yl_sliceL tb 1 rfl rfl rfl rfl (by omega)) rfl rfl ?_ | refine WP_u1 rfl (by first | exact Yl_indexAddr tb 0 rfl rfl rfl rfl (by omega) | exact Yl_loadA tb _ rfl rfl (hHa.weak (keepNil _)) (cells_seg spC (xs := x :: a') (i := 0) (by omega)) rfl | exact Yl_sliceL tb 1 rfl rfl rfl rfl (by omega)) rfl rfl ?_ | refine Zpw ?_ | refine Zpu tb ?_ | refine Zps tb ?_ | refine Zpk ?_ | refine Zp0 ?_))
        refine ⟨(x, a', [], _, _, _, _), ⟨rfl, tlR hA hca', hB, ?_, hcb', ?_⟩, (by repeat (first | exact Sub.nil | refine Sub.cons rfl ?_)), keepAll _⟩ <;> simp at * <;> omega
      · have l2 : (y :: b').length = b'.length + 1 := rfl
        obtain ⟨bb, rfl, hHb⟩ := hB (by simp [spC, Cod.cells])
        (repeat refine W_seq ?_); refine W_regionD tb [] _ [(0, 0), (1, 0), (2, 0), (3, 0), (4, 0), (5, 0), (6, 0), (7, 0), (8, 0), (9, 0), (10, 0), (11, 1), (12, 0), (13, 0), (14, 0), (15, 1), (16, 0), (17, 0), (18, 0)] (by kernel_rfl) (keepAll _) ?_
        (repeat' (first | refine Zpv tb ?_ | (refine Zpt (fun ht => ?_) (fun ht => ?_) <;> (dsimp only [cmpP, cmpN] at ht) <;> (try (exfalso; omega))) | refine WP_u0 rfl (by first | exact Yl_indexAddr tb 0 rfl rfl rfl rfl (by omega) | exact Yl_load1 tb rfl rfl ((hHa.weak (keepNil _)).el (c := spC) (i := 0) (by omega)) rfl | exact Yl_load1 tb rfl rfl ((hHb.weak (keepNil _)).el (c := spC) (i := 0) (by omega)) rfl) rfl rfl ?_ | refine WP_u1 rfl (by first | exact Yl_indexAddr tb 0 rfl rfl rfl rfl (by omega) | exact Yl_load1 tb rfl rfl ((hHa.weak (keepNil _)).el (c := spC) (i := 0) (by omega)) rfl | exact Yl_load1 tb rfl rfl ((hHb.weak (keepNil _)).el (c := spC) (i := 0) (by omega)) rfl) rfl rfl ?_ | refine Zpw ?_ | refine Zpu tb ?_ | refine Zps tb ?_ | refine Zpk ?_ | refine Zp0 ?_))
        all_goals (repeat' (first | refine Zv tb ?_ | (refine Zt (fun ht => ?_) (fun ht => ?_) <;> (dsimp only [cmpP, cmpN] at ht) <;> (try (exfalso; omega))) | refine Z0 ?_ | refine Zq ?_ | refine Zr ?_ | refine Zk ?_ | refine Zy ?_ | refine Zn ?_ | refine Zj ?_ | refine Ze ?_ | refine Zx ?_ | refine Zqr ?_ | refine Zqs ?_ | refine Zqc ?_ | refine Zqx ?_ | refine Zqf ?_ | refine Zm tb fun b => ?_ | refine Zb fun b => ?_ | refine Zs tb ?_ | refine Zu tb ?_))
        · have ht' : x.1 ≤ y.1 := ht
          (repeat refine W_seq ?_); refine W_regionD tb [5] _ [(0, 0), (1, 0), (2, 1), (3, 0), (4, 0), (5, 2), (6, 0)] (by kernel_rfl) (keepAll _) ?_
          (repeat' (first | refine Zpv tb ?_ | (refine Zpt (fun ht => ?_) (fun ht => ?_) <;> (dsimp only [cmpP, cmpN] at ht) <;> (try (exfalso; omega))) | refine WP_u0 rfl (by first | exact Yl_indexAddr tb 0 rfl rfl rfl rfl (by omega) | exact Yl_loadA tb _ rfl rfl (hHa.weak (keepNil _)) (cells_seg spC (xs := x :: a') (i := 0) (by omega)) rfl | exact Yl_sliceL tb 1 rfl rfl rfl rfl (by omega)) rfl rfl ?_ | refine WP_u1 rfl (by first | exact Yl_indexAddr tb 0 rfl rfl rfl rfl (by omega) | exact Yl_loadA tb _ rfl rfl (hHa.weak (keepNil _)) (cells_seg spC (xs := x :: a') (i := 0) (by omega)) rfl | exact Yl_sliceL tb 1 rfl rfl rfl rfl (by omega)) rfl rfl ?_ | refine Zpw ?_ | refine Zpu tb ?_ | refine Zps tb ?_ | refine Zpk ?_ | refine Zp0 ?_))
          refine ⟨(x, a', y :: b', _, _, _, _), ⟨by simp [pk, ht'], tlR hA hca', hB, ?_, hcb', ?_⟩, (by repeat (first | exact Sub.nil | refine Sub.cons rfl ?_)), keepAll _⟩ <;> simp at * <;> omega
        · have ht' : ¬ x.1 ≤ y.1 := Int.not_le.2 ht
          (repeat refine W_seq ?_); refine W_regionD tb [5] _ [(0, 0), (1, 0), (2, 1), (3, 0), (4, 0), (5, 2), (6, 0)] (by kernel_rfl) (keepAll _) ?_
          (repeat' (first | refine Zpv tb ?_ | (refine Zpt (fun ht => ?_) (fun ht => ?_) <;> (dsimp only [cmpP, cmpN] at ht) <;> (try (exfalso; omega))) | refine WP_u0 rfl (by first | exact Yl_indexAddr tb 0 rfl rfl rfl rfl (by omega) | exact Yl_loadA tb _ rfl rfl (hHb.weak (keepNil _)) (cells_seg spC (xs := y :: b') (i := 0) (by omega)) rfl | exact Yl_sliceL tb 1 rfl rfl rfl rfl (by omega)) rfl rfl ?_ | refine WP_u1 rfl (by first | exact Yl_indexAddr tb 0 rfl rfl rfl rfl (by omega) | exact Yl_loadA tb _ rfl rfl (hHb.weak (keepNil _)) (cells_seg spC (xs := y :: b') (i := 0) (by omega)) rfl | exact Yl_sliceL tb 1 rfl rfl rfl rfl (by omega)) rfl rfl ?_ | refine Zpw ?_ | refine Zpu tb ?_ | refine Zps tb ?_ | refine Zpk ?_ | refine Zp0 ?_))
          refine ⟨(y, x :: a', b', _, _, _, _), ⟨by simp [pk, ht'], hA, tlR hB hcb', hca', ?_, ?_⟩, (by repeat (first | exact Sub.nil | refine Sub.cons rfl ?_)), keepAll _⟩ <;> simp at * <;> omega
    · rintro ⟨s, a1, d1, A1, B1, ca1, cb1⟩ ⟨hpk, hA1, hB1, h1, h2, h3⟩
      dsimp only
      (repeat' (first | refine Zv tb ?_ | (refine Zt (fun ht => ?_) (fun ht => ?_) <;> (dsimp only [cmpP, cmpN] at ht) <;> (try (exfalso; omega))) | refine Z0 ?_ | refine Zq ?_ | refine Zr ?_ | refine Zk ?_ | refine Zy ?_ | refine Zn ?_ | refine Zj ?_ | refine Ze ?_ | refine Zx ?_ | refine Zqr ?_ | refine Zqs ?_ | refine Zqc ?_ | refine Zqx ?_ | refine Zqf ?_ | refine Zm tb fun b => ?_ | refine Zb fun b => ?_ | refine Zs tb ?_ | refine Zu tb ?_))
      have hmg1 : mg (a1.length + d1.length) a1 d1 (put out s) = merged la lb := by
        rw [← hmg, ← h3]
        show _ = mg (a1.length + d1.length) (pk a' b').2.1 (pk a' b').2.2 (put out (pk a' b').1)
        rw [← hpk]
      refine W_fact (p := V = none → n = 0) (fun w hs h => ((hs.row_fact (List.mem_cons_of_mem _ (List.mem_cons_self ..))).1 h).2) fun hVn => ?_
      by_cases h0 : n = 0
      · (repeat refine W_seq ?_); refine W_regionD tb [] _ [(0, 0), (1, 0), (2, 0), (3, 0), (4, 1), (5, 0), (6, 0), (7, 0), (8, 0), (9, 0), (10, 1), (11, 0), (12, 0)] (by kernel_rfl) (keepAll _) ?_
        (repeat' (first | refine Zpv tb ?_ | (refine Zpt (fun ht => ?_) (fun ht => ?_) <;> (dsimp only [cmpP, cmpN] at ht) <;> (try (exfalso; omega))) | refine Zpw ?_ | refine Zpu tb ?_ | refine Zps tb ?_ | refine Zpk ?_ | refine Zp0 ?_))
        (repeat' (first | refine Zv tb ?_ | (refine Zt (fun ht => ?_) (fun ht => ?_) <;> (dsimp only [cmpP, cmpN] at ht) <;> (try (exfalso; omega))) | refine Z0 ?_ | refine Zq ?_ | refine Zr ?_ | refine Zk ?_ | refine Zy ?_ | refine Zn ?_ | refine Zj ?_ | refine Ze ?_ | refine Zx ?_ | refine Zqr ?_ | refine Zqs ?_ | refine Zqc ?_ | refine Zqx ?_ | refine Zqf ?_ | refine Zm tb fun b => ?_ | refine Zb fun b => ?_ | refine Zs tb ?_ | refine Zu tb ?_))
        refine WL_cons rfl (Hv_buildSlice tb rfl rfl rfl (by decide) rfl rfl rfl rfl fun q => ?_); (repeat' (first | refine Zv tb ?_ | (refine Zt (fun ht => ?_) (fun ht => ?_) <;> (dsimp only [cmpP, cmpN] at ht) <;> (try (exfalso; omega))) | refine Z0 ?_ | refine Zq ?_ | refine Zr ?_ | refine Zk ?_ | refine Zy ?_ | refine Zn ?_ | refine Zj ?_ | refine Ze ?_ | refine Zx ?_ | refine Zqr ?_ | refine Zqs ?_ | refine Zqc ?_ | refine Zqx ?_ | refine Zqf ?_ | refine Zm tb fun b => ?_ | refine Zb fun b => ?_ | refine Zs tb ?_ | refine Zu tb ?_)); refine WL_cons rfl (Hv_append tb (k := 2) (m := 1) rfl rfl rfl rfl rfl (by decide) rfl (Has.row (List.mem_cons_self ..)) rfl rfl (by omega) (by omega) rfl fun V' c' hV' => ?_)
        (repeat' (first | refine Zv tb ?_ | (refine Zt (fun ht => ?_) (fun ht => ?_) <;> (dsimp only [cmpP, cmpN] at ht) <;> (try (exfalso; omega))) | refine Z0 ?_ | refine Zq ?_ | refine Zr ?_ | refine Zk ?_ | refine Zy ?_ | refine Zn ?_ | refine Zj ?_ | refine Ze ?_ | refine Zx ?_ | refine Zqr ?_ | refine Zqs ?_ | refine Zqc ?_ | refine Zqx ?_ | refine Zqf ?_ | refine Zm tb fun b => ?_ | refine Zb fun b => ?_ | refine Zs tb ?_ | refine Zu tb ?_))
        have hp : put out s = out ++ [s] := by unfold put; rw [if_neg (by omega)]
        refine ⟨(a1, d1, put out s, n + 1, A1, B1, V', ca1, cb1, c'), ⟨by rw [hp]; simp [hn], hA1, hB1, h1, h2, by rw [hp]; simp; omega, hmg1⟩, by dsimp only; omega, (by repeat (first | exact Sub.nil | refine Sub.cons rfl ?_)), ?_⟩
        rw [hp, cells_append, cells_one]
        exact ⟨_, List.perm_append_comm (l₁ := [_, _])⟩
      · obtain ⟨v, rfl⟩ : ∃ v, V = some v := by cases V with
          | some v => exact ⟨v, rfl⟩
          | none => exact absurd (hVn rfl) h0
        have hR : ∀ K, Has w [] (K ++ [It.row (.slice (some v) n c) 61 2 n (spC.cells out)]) v (spC.cells out) := fun K => Has.row (List.mem_append_right _ (List.mem_cons_self ..))
        have hlt : n - 1 < out.length := by omega
        (repeat refine W_seq ?_); refine W_regionD tb [] _ [(0, 0), (1, 0), (2, 0), (3, 0), (4, 1), (5, 0), (6, 0), (7, 0), (8, 0), (9, 0), (10, 1), (11, 0), (12, 0)] (by kernel_rfl) (keepAll _) ?_
        (repeat' (first | refine Zpv tb ?_ | (refine Zpt (fun ht => ?_) (fun ht => ?_) <;> (dsimp only [cmpP, cmpN] at ht) <;> (try (exfalso; omega))) | refine WP_u0 rfl (by first | exact Yl_indexAddr tb (n - 1) rfl rfl rfl (by omega) (by omega) | exact Yl_load1 tb rfl rfl ((hR [_]).el (c := spC) (i := n - 1) (by omega)) rfl) rfl rfl ?_ | refine WP_u1 rfl (by first | exact Yl_indexAddr tb (n - 1) rfl rfl rfl (by omega) (by omega) | exact Yl_load1 tb rfl rfl ((hR [_]).el (c := spC) (i := n - 1) (by omega)) rfl) rfl rfl ?_ | refine Zpw ?_ | refine Zpu tb ?_ | refine Zps tb ?_ | refine Zpk ?_ | refine Zp0 ?_))
        all_goals (repeat' (first | refine Zv tb ?_ | (refine Zt (fun ht => ?_) (fun ht => ?_) <;> (dsimp only [cmpP, cmpN] at ht) <;> (try (exfalso; omega))) | refine Z0 ?_ | refine Zq ?_ | refine Zr ?_ | refine Zk ?_ | refine Zy ?_ | refine Zn ?_ | refine Zj ?_ | refine Ze ?_ | refine Zx ?_ | refine Zqr ?_ | refine Zqs ?_ | refine Zqc ?_ | refine Zqx ?_ | refine Zqf ?_ | refine Zm tb fun b => ?_ | refine Zb fun b => ?_ | refine Zs tb ?_ | refine Zu tb ?_))
        · (repeat refine W_seq ?_); refine W_regionD tb [14] _ [(0, 0), (1, 0), (2, 0), (3, 0), (4, 0), (5, 0), (6, 0), (7, 0), (8, 1), (9, 0), (10, 1), (11, 0), (12, 0), (13, 0), (14, 2)] (by kernel_rfl) (keepAll _) ?_
          (repeat' (first | refine Zpv tb ?_ | (refine Zpt (fun ht => ?_) (fun ht => ?_) <;> (dsimp only [cmpP, cmpN] at ht) <;> (try (exfalso; omega))) | refine WP_u0 rfl (by first | exact Yl_indexAddr tb (n - 1) rfl rfl rfl (by omega) (by omega) | exact Yl_load1 tb rfl rfl ((hR [_]).el (c := spC) (i := n - 1) (by omega)) rfl) rfl rfl ?_ | refine WP_u1 rfl (by first | exact Yl_indexAddr tb (n - 1) rfl rfl rfl (by omega) (by omega) | exact Yl_load1 tb rfl rfl ((hR [_]).el (c := spC) (i := n - 1) (by omega)) rfl) rfl rfl ?_ | refine Zpw ?_ | refine Zpu tb ?_ | refine Zps tb ?_ | refine Zpk ?_ | refine Zp0 ?_))
          refine WP_2 rfl rfl (Hv_storeRow tb (k := 1) (a := v) (o := (n - 1) * 2 + 1) (by rw [← add_add]; rfl) rfl rfl rfl rfl (by omega) rfl rfl rfl ⟨.inl rfl, ?_⟩)
          (repeat' (first | refine Zpv tb ?_ | (refine Zpt (fun ht => ?_) (fun ht => ?_) <;> (dsimp only [cmpP, cmpN] at ht) <;> (try (exfalso; omega))) | refine Zpw ?_ | refine Zpu tb ?_ | refine Zps tb ?_ | refine Zpk ?_ | refine Zp0 ?_))
          have hp : put out s = out.set (n - 1) ((gp out (n - 1)).1, max (gp out (n - 1)).2 s.2) := by unfold put; rw [hn, if_pos ⟨by omega, by rw [← gp_eq hlt]; exact ht⟩]
          refine ⟨(a1, d1, put out s, n, A1, B1, some v, ca1, cb1, c), ⟨by rw [hp]; simp [hn], hA1, hB1, h1, h2, by rw [hp]; simp; omega, hmg1⟩, by dsimp only; omega, (by repeat (first | exact Sub.nil | refine Sub.cons rfl ?_)), ?_⟩
          rw [hp, ← cells_set1 _ _ hlt, ← gp_eq hlt]
          exact ⟨_, List.perm_append_comm (l₁ := [_])⟩
        · refine WL_cons rfl (Hv_buildSlice tb rfl rfl rfl (by decide) rfl rfl rfl rfl fun q => ?_); (repeat' (first | refine Zv tb ?_ | (refine Zt (fun ht => ?_) (fun ht => ?_) <;> (dsimp only [cmpP, cmpN] at ht) <;> (try (exfalso; omega))) | refine Z0 ?_ | refine Zq ?_ | refine Zr ?_ | refine Zk ?_ | refine Zy ?_ | refine Zn ?_ | refine Zj ?_ | refine Ze ?_ | refine Zx ?_ | refine Zqr ?_ | refine Zqs ?_ | refine Zqc ?_ | refine Zqx ?_ | refine Zqf ?_ | refine Zm tb fun b => ?_ | refine Zb fun b => ?_ | refine Zs tb ?_ | refine Zu tb ?_)); refine WL_cons rfl (Hv_append tb (k := 2) (m := 1) rfl rfl rfl rfl rfl (by decide) rfl (Has.row (List.mem_cons_self ..)) rfl rfl (by omega) (by omega) rfl fun V' c' hV' => ?_)
          (repeat' (first | refine Zv tb ?_ | (refine Zt (fun ht => ?_) (fun ht => ?_) <;> (dsimp only [cmpP, cmpN] at ht) <;> (try (exfalso; omega))) | refine Z0 ?_ | refine Zq ?_ | refine Zr ?_ | refine Zk ?_ | refine Zy ?_ | refine Zn ?_ | refine Zj ?_ | refine Ze ?_ | refine Zx ?_ | refine Zqr ?_ | refine Zqs ?_ | refine Zqc ?_ | refine Zqx ?_ | refine Zqf ?_ | refine Zm tb fun b => ?_ | refine Zb fun b => ?_ | refine Zs tb ?_ | refine Zu tb ?_))
          have hp : put out s = out ++ [s] := by unfold put; rw [hn, if_neg (by rw [← gp_eq hlt]; omega)]
          refine ⟨(a1, d1, put out s, n + 1, A1, B1, V', ca1, cb1, c'), ⟨by rw [hp]; simp [hn], hA1, hB1, h1, h2, by rw [hp]; simp; omega, hmg1⟩, by dsimp only; omega, (by repeat (first | exact Sub.nil | refine Sub.cons rfl ?_)), ?_⟩
          rw [hp, cells_append, cells_one]
          exact ⟨_, List.perm_append_comm (l₁ := [_, _])⟩
def uni (a b : List Sp) : List Sp × Int := if Right a ∧ Right b then (if 2000 < (merged a b).length then ([], 3) else (merged a b, 0)) else ([], 30)
def Lst {α : Type} (T : TypeId) (c : Cod α) (out : List α) (vs : List Value) (v : Value) (Γ : List It) : Prop := ∃ V cp, v = tup (.slice V out.length cp :: vs) ∧ Γ = [.row (.slice V out.length cp) T c.sz out.length (c.cells out)]
abbrev SpL (out : List Sp) (vs : List Value) : Value → List It → Prop := Lst 61 spC out vs
theorem fin_spl {rs : List ResultVar} {fr : Fr} {Γ D : List It} {V : Option Addr} {n cp : Nat} {cs : List Value} {out : List Sp} {vs : List Value} (hR : Res Try.prog fr Γ rs (.slice V n cp :: vs)) (hp : Γ.Perm (.row (.slice V n cp) 61 2 n cs :: D)) (hn : n = out.length) (hcs : cs = spC.cells out) : Fin Try.prog rs (SpL out vs) fr Γ := by
  subst hn hcs
  exact ⟨_, _, hR, ⟨V, cp, rfl, rfl⟩, D, hp⟩
end Go.Proofs.Ytdnngagahhleiaa
