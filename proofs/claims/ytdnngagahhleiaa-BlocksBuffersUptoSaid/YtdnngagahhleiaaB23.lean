/- the document's buffer: spans, with. -/
import Derived.Test.YtdnngagahhleiaaB22
namespace Go.Proofs.Ytdnngagahhleiaa
open Go.Sx
attribute [local irreducible] W WL WP Hv Yl WQ At QP QF Rnd
set_option maxRecDepth 10000
set_option linter.unusedVariables false
set_option linter.unusedSimpArgs false
def inC : Cod Int := ⟨1, fun z => [.int .i64 z], fun _ => rfl⟩
theorem in_get {l : List Int} {i : Nat} (h : i < l.length) : (inC.cells l)[i * 1]? = some (.int .i64 (pz l i)) := by
  have := cells_get inC h (j := 0) (by decide)
  rw [pz_eq h] at this
  simpa [inC] using this
theorem in_len (l : List Int) : (inC.cells l).length = l.length := by rw [cells_length]; exact Nat.mul_one _
theorem in_all (l : List Int) : (inC.cells l).all Value.oneCell' = true := cells_all inC (fun _ => rfl) l
theorem pz_ext {l m : List Int} (hl : l.length = m.length) (h : ∀ j, j < l.length → pz l j = pz m j) : l = m := by
  apply List.ext_getElem hl
  intro j h1 h2
  have := h j h1
  rwa [← pz_eq h1, ← pz_eq h2] at this
theorem pz_set {l : List Int} {i j : Nat} {x : Int} (h : i < l.length) : pz (l.set i x) j = if i = j then x else pz l j := by
  unfold pz
  simp only [List.getD_eq_getElem?_getD, List.getElem?_set]
  split
  · rename_i h'; subst h'; simp [h]
  · rfl
abbrev inI (U : Option Addr) (n c : Nat) (l : List Int) : It := .row (.slice U n c) 3 1 n (inC.cells l)
abbrev refI (rb : Nat) (R : Rf) (V : Option Addr) (c : Nat) : List It := [.blk rb [.slice V R.pl.length c, .bool R.dr] 141, inI V R.pl.length c R.pl]
theorem spF_len (pl : List Int) : ∀ i, (spF pl i).length ≤ i
  | 0 => Nat.le_refl _
  | i + 1 => by
    have := spF_len pl i
    rw [spF]
    split
    · omega
    · split
      · unfold ext1; simp; omega
      · simp; omega
set_option maxHeartbeats 1000000 in
theorem rspans_t (A : Option Addr) (l : List Int) (cap : Nat) (w : World) (h : SlO w [] A l.length cap (inC.cells l)) (hm : l.length ≤ 1000000) :
    Tr Try.prog 79 #[.slice A l.length cap] w [] (SpL (spF l l.length) []) := by
  refine Tr_intro (rs := [.tmp 2]) (args := [.slice A l.length cap]) Try.func79 rfl rfl 42 rfl rfl ?_
  refine W_nilrow 61 2 ?_
  (repeat' (first | refine Zv tb ?_ | (refine Zt (fun ht => ?_) (fun ht => ?_) <;> (dsimp only [cmpP, cmpN] at ht) <;> (try (exfalso; omega))) | refine Z0 ?_ | refine Zq ?_ | refine Zr ?_ | refine Zk ?_ | refine Zy ?_ | refine Zn ?_ | refine Zj ?_ | refine Ze ?_ | refine Zx ?_ | refine Zqr ?_ | refine Zqs ?_ | refine Zqc ?_ | refine Zqx ?_ | refine Zqf ?_ | refine Zm tb fun b => ?_ | refine Zb fun b => ?_ | refine Zs tb ?_ | refine Zu tb ?_))
  refine W_loop (σ := Nat × Option Addr × Nat × Nat) (fun | (i, V, n, c) => [(0, .slice A l.length cap), (3, .slice V n c), (4, .int .i64 i)]) (fun | (i, V, n, c) => [.row (.slice V n c) 61 2 n (spC.cells (spF l i))])
    (fun | (i, V, n, c) => i ≤ l.length ∧ n = (spF l i).length) (fun | (i, _) => l.length - i) (0, none, 0, 0) ⟨Nat.zero_le _, rfl⟩ (by repeat (first | exact Sub.nil | refine Sub.cons rfl ?_)) (keepAll _) ?_
  rintro ⟨i, V, n, c⟩ ⟨hi, hn⟩
  dsimp only at hi hn ⊢
  have hln := spF_len l i
  by_cases hlt : i < l.length
  · obtain ⟨a, rfl, hHa⟩ := h.rd (cells_ne inC (by intro h; simp [h] at hlt) (by decide))
    have hlt1 : i - 1 < l.length := by omega
    by_cases hz : pz l i < 0
    · (repeat' (first | refine Zv tb ?_ | (refine Zt (fun ht => ?_) (fun ht => ?_) <;> (dsimp only [cmpP, cmpN] at ht) <;> (try (exfalso; omega))) | refine Z0 ?_ | refine Zq ?_ | refine Zr ?_ | refine Zk ?_ | refine Zy ?_ | refine Zn ?_ | refine Zj ?_ | refine Ze ?_ | refine Zx ?_ | refine Zqr ?_ | refine Zqs ?_ | refine Zqc ?_ | refine Zqx ?_ | refine Zqf ?_ | refine Zm tb fun b => ?_ | refine Zb fun b => ?_ | refine Zs tb ?_ | refine WL_u (by first | exact Yl_indexAddr tb (i - 1) rfl rfl rfl (by omega) hlt1 | exact Yl_indexAddr tb i rfl rfl rfl rfl hlt | exact Yl_load1 tb rfl rfl (Has.old hHa) (in_get hlt) | exact Yl_load1 tb rfl rfl (Has.old hHa) (in_get hlt1)) rfl rfl ?_ | refine Zu tb ?_))
      have e : spF l (i + 1) = spF l i := by rw [spF, if_pos hz]
      refine ⟨(i + 1, V, n, c), ⟨by dsimp only; omega, by dsimp only; rw [e]; exact hn⟩, by dsimp only; omega, (by repeat (first | exact Sub.nil | refine Sub.cons rfl ?_)), ?_⟩
      dsimp only
      rw [e]; exact keepAll _
    by_cases hb : 0 < i ∧ 0 ≤ pz l (i - 1)
    · have e : spF l (i + 1) = ext1 (spF l i) ((i : Int) + 1) := by rw [spF, if_neg (by omega), if_pos hb]
      obtain ⟨o, q, ho, hq⟩ := (spF_spec l i).2.2 hb.1 hb.2
      have hn1 : 1 ≤ n := by rw [hn, ho]; simp
      refine W_fact (p := V = none → n = 0) (fun w hs h => ((hs.row_fact (List.mem_cons_self ..)).1 h).2) fun hV => ?_
      obtain ⟨v, rfl⟩ : ∃ v, V = some v := by cases V with
        | some v => exact ⟨v, rfl⟩
        | none => have := hV rfl; omega
      (repeat' (first | refine Zv tb ?_ | (refine Zt (fun ht => ?_) (fun ht => ?_) <;> (dsimp only [cmpP, cmpN] at ht) <;> (try (exfalso; omega))) | refine Z0 ?_ | refine Zq ?_ | refine Zr ?_ | refine Zk ?_ | refine Zy ?_ | refine Zn ?_ | refine Zj ?_ | refine Ze ?_ | refine Zx ?_ | refine Zqr ?_ | refine Zqs ?_ | refine Zqc ?_ | refine Zqx ?_ | refine Zqf ?_ | refine Zm tb fun b => ?_ | refine Zb fun b => ?_ | refine Zs tb ?_ | refine WL_u (by first | exact Yl_indexAddr tb (i - 1) rfl rfl rfl (by omega) hlt1 | exact Yl_indexAddr tb i rfl rfl rfl rfl hlt | exact Yl_load1 tb rfl rfl (Has.old hHa) (in_get hlt) | exact Yl_load1 tb rfl rfl (Has.old hHa) (in_get hlt1) | exact Yl_indexAddr tb (n - 1) rfl rfl rfl (by omega) (by omega)) rfl rfl ?_ | refine Zu tb ?_))
      refine WL_cons rfl (Hv_storeRow tb (k := 0) (a := v) (o := (n - 1) * 2 + 1) (by rw [← add_add]; rfl) rfl rfl rfl rfl (by omega) rfl (cells_set1 _ _ (by omega) _) rfl ?_)
      (repeat' (first | refine Zv tb ?_ | (refine Zt (fun ht => ?_) (fun ht => ?_) <;> (dsimp only [cmpP, cmpN] at ht) <;> (try (exfalso; omega))) | refine Z0 ?_ | refine Zq ?_ | refine Zr ?_ | refine Zk ?_ | refine Zy ?_ | refine Zn ?_ | refine Zj ?_ | refine Ze ?_ | refine Zx ?_ | refine Zqr ?_ | refine Zqs ?_ | refine Zqc ?_ | refine Zqx ?_ | refine Zqf ?_ | refine Zm tb fun b => ?_ | refine Zb fun b => ?_ | refine Zs tb ?_ | refine Zu tb ?_))
      refine ⟨(i + 1, some v, n, c), ⟨by dsimp only; omega, by dsimp only; rw [e]; unfold ext1; simp; exact hn⟩, by dsimp only; omega, (by repeat (first | exact Sub.nil | refine Sub.cons rfl ?_)), ?_⟩
      dsimp only
      rw [e]
      unfold ext1
      rw [← hn]
      exact keepAll _
    · have e : spF l (i + 1) = spF l i ++ [((i : Int), (i : Int) + 1)] := by rw [spF, if_neg (by omega), if_neg hb]
      (repeat' (first | refine Zv tb ?_ | (refine Zt (fun ht => ?_) (fun ht => ?_) <;> (dsimp only [cmpP, cmpN] at ht) <;> (try (exfalso; omega))) | refine Z0 ?_ | refine Zq ?_ | refine Zr ?_ | refine Zk ?_ | refine Zy ?_ | refine Zn ?_ | refine Zj ?_ | refine Ze ?_ | refine Zx ?_ | refine Zqr ?_ | refine Zqs ?_ | refine Zqc ?_ | refine Zqx ?_ | refine Zqf ?_ | refine Zm tb fun b => ?_ | refine Zb fun b => ?_ | refine Zs tb ?_ | refine WL_u (by first | exact Yl_indexAddr tb (i - 1) rfl rfl rfl (by omega) hlt1 | exact Yl_indexAddr tb i rfl rfl rfl rfl hlt | exact Yl_load1 tb rfl rfl (Has.old hHa) (in_get hlt) | exact Yl_load1 tb rfl rfl (Has.old hHa) (in_get hlt1)) rfl rfl ?_ | refine Zu tb ?_))
      all_goals first | (exfalso; omega) | skip
      all_goals refine WL_cons rfl (Hv_buildSlice tb rfl rfl rfl (by decide) rfl rfl rfl rfl fun q => ?_); (repeat' (first | refine Zv tb ?_ | (refine Zt (fun ht => ?_) (fun ht => ?_) <;> (dsimp only [cmpP, cmpN] at ht) <;> (try (exfalso; omega))) | refine Z0 ?_ | refine Zq ?_ | refine Zr ?_ | refine Zk ?_ | refine Zy ?_ | refine Zn ?_ | refine Zj ?_ | refine Ze ?_ | refine Zx ?_ | refine Zqr ?_ | refine Zqs ?_ | refine Zqc ?_ | refine Zqx ?_ | refine Zqf ?_ | refine Zm tb fun b => ?_ | refine Zb fun b => ?_ | refine Zs tb ?_ | refine Zu tb ?_)); refine WL_cons rfl (Hv_append tb (k := 1) (m := 1) rfl rfl rfl rfl rfl (by decide) rfl (Has.row (List.mem_cons_self ..)) rfl rfl (by omega) (by omega) rfl fun V' c' hV' => ?_)
      all_goals (repeat' (first | refine Zv tb ?_ | (refine Zt (fun ht => ?_) (fun ht => ?_) <;> (dsimp only [cmpP, cmpN] at ht) <;> (try (exfalso; omega))) | refine Z0 ?_ | refine Zq ?_ | refine Zr ?_ | refine Zk ?_ | refine Zy ?_ | refine Zn ?_ | refine Zj ?_ | refine Ze ?_ | refine Zx ?_ | refine Zqr ?_ | refine Zqs ?_ | refine Zqc ?_ | refine Zqx ?_ | refine Zqf ?_ | refine Zm tb fun b => ?_ | refine Zb fun b => ?_ | refine Zs tb ?_ | refine Zu tb ?_))
      all_goals refine ⟨(i + 1, V', n + 1, c'), ⟨by dsimp only; omega, by dsimp only; rw [e]; simp; exact hn⟩, by dsimp only; omega, (by repeat (first | exact Sub.nil | refine Sub.cons rfl ?_)), ?_⟩
      all_goals dsimp only
      all_goals rw [e, cells_append, cells_one]
      all_goals exact ⟨_, perm_picks [1] rfl⟩
  · obtain rfl : i = l.length := by omega
    subst hn
    (repeat' (first | refine Zv tb ?_ | (refine Zt (fun ht => ?_) (fun ht => ?_) <;> (dsimp only [cmpP, cmpN] at ht) <;> (try (exfalso; omega))) | refine Z0 ?_ | refine Zq ?_ | refine Zr ?_ | refine Zk ?_ | refine Zy ?_ | refine Zn ?_ | refine Zj ?_ | refine Ze ?_ | refine Zx ?_ | refine Zqr ?_ | refine Zqs ?_ | refine Zqc ?_ | refine Zqx ?_ | refine Zqf ?_ | refine Zm tb fun b => ?_ | refine Zb fun b => ?_ | refine Zs tb ?_ | refine Zu tb ?_))
    exact ⟨_, _, .tmp rfl .nil, ⟨V, c, rfl, rfl⟩, keepAll _⟩
end Go.Proofs.Ytdnngagahhleiaa
