/- the law's own helpers of layer 4: lent, back, owned, sameSegment. -/
import Derived.Test.YtdnngagahhleiaaB12
import Derived.Test.YtdnngagahhleiaaSx17
namespace Go.Proofs.Ytdnngagahhleiaa
open Go.Sx
attribute [local irreducible] W WL WP Hv Yl WQ At QP QF Rnd
set_option maxRecDepth 10000
set_option linter.unusedVariables false
set_option linter.unusedSimpArgs false
theorem cells_get1 {l : List Int} {k : Nat} (h : k < l.length) : (byC.cells l)[k * 1]? = some (.int .u8 l[k]) := by
  have := by_get h
  rwa [← bz_eq h] at this
def lentB (l : List Int) : List Int := l ++ List.replicate 9 201
theorem lentB_len (l : List Int) : (lentB l).length = l.length + 9 := by simp [lentB]
theorem bz_lent1 {l : List Int} {j : Nat} (h : j < l.length) : bz (lentB l) j = bz l j := by rw [← bz_eq h, ← bz_eq (by rw [lentB_len]; omega)]; simp [lentB, h]
theorem bz_lent2 {l : List Int} {j : Nat} (h : l.length ≤ j) (h2 : j < l.length + 9) : bz (lentB l) j = 201 := by
  rw [← bz_eq (by rw [lentB_len]; omega)]
  simp only [lentB]
  rw [List.getElem_append_right h, List.getElem_replicate]
theorem bz_set {l : List Int} {i j : Nat} {x : Int} (h : i < l.length) : bz (l.set i x) j = if i = j then x else bz l j := by
  unfold bz
  simp only [List.getD_eq_getElem?_getD, List.getElem?_set]
  split
  · rename_i h'; subst h'; simp [h]
  · rfl
set_option maxHeartbeats 1000000 in
theorem lent_t (A : Option Addr) (l : List Int) (cap : Nat) (w : World) (h : SlO w [] A l.length cap (byC.cells l)) (hm : l.length ≤ 1048576) :
    Tr Try.prog 23 #[.slice A l.length cap] w [] (fun v Γ => ∃ q, v = .slice (some ⟨q, 0, none⟩) (l.length + 9) (l.length + 9) ∧ Γ = [byI (some ⟨q, 0, none⟩) (l.length + 9) (l.length + 9) (lentB l)]) := by
  refine Tr_intro (rs := [.tmp 2]) (args := [.slice A l.length cap]) Try.func23 rfl rfl 24 rfl rfl ?_
  (repeat' (first | refine Zv tb ?_ | (refine Zt (fun ht => ?_) (fun ht => ?_) <;> (dsimp only [cmpP, cmpN] at ht) <;> (try (exfalso; omega))) | refine Z0 ?_ | refine Zq ?_ | refine Zr ?_ | refine Zk ?_ | refine Zy ?_ | refine Zn ?_ | refine Zj ?_ | refine Ze ?_ | refine Zx ?_ | refine Zqr ?_ | refine Zqs ?_ | refine Zqc ?_ | refine Zqx ?_ | refine Zqf ?_ | refine Zm tb fun b => ?_ | refine Zb fun b => ?_ | refine Zs tb ?_ | refine Zu tb ?_))
  refine WL_cons rfl (Hv_makeSlice tb (len := l.length + 9) rfl rfl rfl (by decide) rfl rfl (by omega) (by omega) (by omega) (by omega) rfl fun q => ?_)
  rw [cells_rep byC (z := [.int .u8 0]) (x := (0 : Int)) rfl]
  (repeat' (first | refine Zv tb ?_ | (refine Zt (fun ht => ?_) (fun ht => ?_) <;> (dsimp only [cmpP, cmpN] at ht) <;> (try (exfalso; omega))) | refine Z0 ?_ | refine Zq ?_ | refine Zr ?_ | refine Zk ?_ | refine Zy ?_ | refine Zn ?_ | refine Zj ?_ | refine Ze ?_ | refine Zx ?_ | refine Zqr ?_ | refine Zqs ?_ | refine Zqc ?_ | refine Zqx ?_ | refine Zqf ?_ | refine Zm tb fun b => ?_ | refine Zb fun b => ?_ | refine Zs tb ?_ | refine Zu tb ?_))
  refine WL_cons rfl (Hv_copy tb (kk := 0) (a := ⟨q, 0, none⟩) (o := 0) (news := byC.cells l) (len := l.length + 9) (cap := l.length + 9) (m := l.length) rfl rfl rfl rfl (fun h => rfl) (h.rd.rd _) (fun hn => (h.nil hn).1) (by rw [by_len, Nat.min_eq_left (by omega)]; omega) (by decide) (by rw [by_len]; omega) (by_all l) (cells_putL0 byC (by simp)) rfl ?_)
  (repeat' (first | refine Zv tb ?_ | (refine Zt (fun ht => ?_) (fun ht => ?_) <;> (dsimp only [cmpP, cmpN] at ht) <;> (try (exfalso; omega))) | refine Z0 ?_ | refine Zq ?_ | refine Zr ?_ | refine Zk ?_ | refine Zy ?_ | refine Zn ?_ | refine Zj ?_ | refine Ze ?_ | refine Zx ?_ | refine Zqr ?_ | refine Zqs ?_ | refine Zqc ?_ | refine Zqx ?_ | refine Zqf ?_ | refine Zm tb fun b => ?_ | refine Zb fun b => ?_ | refine Zs tb ?_ | refine Zu tb ?_))
  refine W_loop (σ := Nat × List Int) (fun | (i, Y) => [(3, .slice (some ⟨q, 0, none⟩) (l.length + 9) (l.length + 9)), (4, .int .i64 i)]) (fun | (i, Y) => [byI (some ⟨q, 0, none⟩) (l.length + 9) (l.length + 9) Y])
    (fun | (i, Y) => l.length ≤ i ∧ i ≤ l.length + 9 ∧ Y.length = l.length + 9 ∧ ∀ j, j < i → bz Y j = bz (lentB l) j) (fun | (i, Y) => l.length + 9 - i) (l.length, l ++ (List.replicate (l.length + 9) 0).drop l.length) ⟨Nat.le_refl _, by omega, by simp, fun j hj => ?_⟩ (by repeat (first | exact Sub.nil | refine Sub.cons rfl ?_)) (keepAll _) ?_
  · rw [bz_lent1 hj, ← bz_eq hj, ← bz_eq (by simp; omega), List.getElem_append_left]
  rintro ⟨i, Y⟩ ⟨hi0, hi, hY, hok⟩
  dsimp only at hi0 hi hY hok ⊢
  by_cases hlt : i < l.length + 9
  · (repeat' (first | refine Zv tb ?_ | (refine Zt (fun ht => ?_) (fun ht => ?_) <;> (dsimp only [cmpP, cmpN] at ht) <;> (try (exfalso; omega))) | refine Z0 ?_ | refine Zq ?_ | refine Zr ?_ | refine Zk ?_ | refine Zy ?_ | refine Zn ?_ | refine Zj ?_ | refine Ze ?_ | refine Zx ?_ | refine Zqr ?_ | refine Zqs ?_ | refine Zqc ?_ | refine Zqx ?_ | refine Zqf ?_ | refine Zm tb fun b => ?_ | refine Zb fun b => ?_ | refine Zs tb ?_ | refine WL_u (by first | exact Yl_indexAddr tb i rfl rfl rfl rfl hlt) rfl rfl ?_ | refine Zu tb ?_))
    refine WL_cons rfl (Hv_storeRow tb (k := 0) (a := ⟨q, 0, none⟩) (o := i * 1) rfl rfl rfl rfl rfl (by omega) rfl (cells_put byC (i := i) (by omega) 201) rfl ?_)
    (repeat' (first | refine Zv tb ?_ | (refine Zt (fun ht => ?_) (fun ht => ?_) <;> (dsimp only [cmpP, cmpN] at ht) <;> (try (exfalso; omega))) | refine Z0 ?_ | refine Zq ?_ | refine Zr ?_ | refine Zk ?_ | refine Zy ?_ | refine Zn ?_ | refine Zj ?_ | refine Ze ?_ | refine Zx ?_ | refine Zqr ?_ | refine Zqs ?_ | refine Zqc ?_ | refine Zqx ?_ | refine Zqf ?_ | refine Zm tb fun b => ?_ | refine Zb fun b => ?_ | refine Zs tb ?_ | refine Zu tb ?_))
    refine ⟨(i + 1, Y.set i 201), ⟨by dsimp only; omega, by dsimp only; omega, by simp [hY], fun j hj => ?_⟩, by dsimp only; omega, (by repeat (first | exact Sub.nil | refine Sub.cons rfl ?_)), keepAll _⟩
    dsimp only at hj ⊢
    rw [bz_set (by omega)]
    by_cases hji : i = j
    · subst hji; rw [if_pos rfl, bz_lent2 hi0 hlt]
    · rw [if_neg hji]; exact hok j (by omega)
  · (repeat' (first | refine Zv tb ?_ | (refine Zt (fun ht => ?_) (fun ht => ?_) <;> (dsimp only [cmpP, cmpN] at ht) <;> (try (exfalso; omega))) | refine Z0 ?_ | refine Zq ?_ | refine Zr ?_ | refine Zk ?_ | refine Zy ?_ | refine Zn ?_ | refine Zj ?_ | refine Ze ?_ | refine Zx ?_ | refine Zqr ?_ | refine Zqs ?_ | refine Zqc ?_ | refine Zqx ?_ | refine Zqf ?_ | refine Zm tb fun b => ?_ | refine Zb fun b => ?_ | refine Zs tb ?_ | refine Zu tb ?_))
    obtain rfl : i = l.length + 9 := by omega
    obtain rfl : Y = lentB l := by_ext (by rw [lentB_len]; omega) fun j hj => hok j (by omega)
    exact ⟨_, _, .tmp rfl .nil, ⟨q, rfl, rfl⟩, keepAll _⟩
set_option maxHeartbeats 1000000 in
theorem back_t (q : Nat) (B : Option Addr) (l : List Int) (cc cap : Nat) (w : World) (h : SlO w (fps [byI (some ⟨q, 0, none⟩) (l.length + 9) cc (lentB l)]) B l.length cap (byC.cells l)) (hm : l.length ≤ 1048576) :
    Tr Try.prog 25 #[.slice (some ⟨q, 0, none⟩) (l.length + 9) cc, .slice B l.length cap] w [byI (some ⟨q, 0, none⟩) (l.length + 9) cc (lentB l)] (fun v Γ => v = .bool true ∧ ∃ Z : List Int, Z.length = l.length + 9 ∧ Γ = [byI (some ⟨q, 0, none⟩) (l.length + 9) cc Z]) := by
  refine Tr_intro (rs := [.tmp 4]) (args := [.slice (some ⟨q, 0, none⟩) (l.length + 9) cc, .slice B l.length cap]) Try.func25 rfl rfl 40 rfl rfl ?_
  (repeat' (first | refine Zv tb ?_ | (refine Zt (fun ht => ?_) (fun ht => ?_) <;> (dsimp only [cmpP, cmpN] at ht) <;> (try (exfalso; omega))) | refine Z0 ?_ | refine Zq ?_ | refine Zr ?_ | refine Zk ?_ | refine Zy ?_ | refine Zn ?_ | refine Zj ?_ | refine Ze ?_ | refine Zx ?_ | refine Zqr ?_ | refine Zqs ?_ | refine Zqc ?_ | refine Zqx ?_ | refine Zqf ?_ | refine Zm tb fun b => ?_ | refine Zb fun b => ?_ | refine Zs tb ?_ | refine Zu tb ?_))
  refine W_loop (σ := Nat × List Int) (fun | (i, Y) => [(0, .slice (some ⟨q, 0, none⟩) (l.length + 9) cc), (1, .slice B l.length cap), (5, .bool true), (6, .int .i64 i)]) (fun | (i, Y) => [byI (some ⟨q, 0, none⟩) (l.length + 9) cc Y])
    (fun | (i, Y) => i ≤ l.length + 9 ∧ Y.length = l.length + 9 ∧ ∀ j, i ≤ j → bz Y j = bz (lentB l) j) (fun | (i, Y) => l.length + 9 - i) (0, lentB l) ⟨by omega, lentB_len l, fun j hj => rfl⟩ (by repeat (first | exact Sub.nil | refine Sub.cons rfl ?_)) (keepAll _) ?_
  rintro ⟨i, Y⟩ ⟨hi, hY, hok⟩
  dsimp only at hi hY hok ⊢
  by_cases hlt : i < l.length + 9
  · have hYi := hok i (Nat.le_refl _)
    have hiY : i < Y.length := by omega
    have hnx : ∀ v : Int, ∀ j, i + 1 ≤ j → bz (Y.set i v) j = bz (lentB l) j := fun v j hj => by rw [bz_set hiY, if_neg (by omega)]; exact hok j (by omega)
    by_cases hil : i < l.length
    · obtain ⟨a, rfl, hHa⟩ := h.rd (cells_ne byC (by intro h; simp [h] at hil) (by decide))
      have hv1 : (byC.cells Y)[i * 1]? = some (.int .u8 (bz l i)) := by rw [by_get hiY, hYi, bz_lent1 hil]
      (repeat' (first | refine Zv tb ?_ | (refine Zt (fun ht => ?_) (fun ht => ?_) <;> (dsimp only [cmpP, cmpN] at ht) <;> (try (exfalso; omega))) | refine Z0 ?_ | refine Zq ?_ | refine Zr ?_ | refine Zk ?_ | refine Zy ?_ | refine Zn ?_ | refine Zj ?_ | refine Ze ?_ | refine Zx ?_ | refine Zqr ?_ | refine Zqs ?_ | refine Zqc ?_ | refine Zqx ?_ | refine Zqf ?_ | refine Zm tb fun b => ?_ | refine Zb fun b => ?_ | refine Zs tb ?_ | refine WL_u (by first | exact Yl_indexAddr tb i rfl rfl rfl rfl hil | exact Yl_indexAddr tb i rfl rfl rfl rfl hlt | exact Yl_load1 tb rfl rfl (Has.row (by repeat (first | exact List.Mem.head _ | apply List.Mem.tail))) hv1 | exact Yl_load1 tb rfl rfl (Has.old hHa) (by_get hil) | exact Yl_xor rfl rfl) rfl rfl ?_ | refine Zu tb ?_))
      refine WL_cons rfl (Hv_storeRow tb (k := 0) (a := ⟨q, 0, none⟩) (o := i * 1) rfl rfl rfl rfl rfl (by omega) rfl (cells_put byC (i := i) hiY (xorK .u8 (bz l i) 33)) rfl ?_)
      (repeat' (first | refine Zv tb ?_ | (refine Zt (fun ht => ?_) (fun ht => ?_) <;> (dsimp only [cmpP, cmpN] at ht) <;> (try (exfalso; omega))) | refine Z0 ?_ | refine Zq ?_ | refine Zr ?_ | refine Zk ?_ | refine Zy ?_ | refine Zn ?_ | refine Zj ?_ | refine Ze ?_ | refine Zx ?_ | refine Zqr ?_ | refine Zqs ?_ | refine Zqc ?_ | refine Zqx ?_ | refine Zqf ?_ | refine Zm tb fun b => ?_ | refine Zb fun b => ?_ | refine Zs tb ?_ | refine Zu tb ?_))
      exact ⟨(i + 1, Y.set i (xorK .u8 (bz l i) 33)), ⟨by dsimp only; omega, by simp [hY], hnx _⟩, by dsimp only; omega, (by repeat (first | exact Sub.nil | refine Sub.cons rfl ?_)), keepAll _⟩
    · have hv1 : (byC.cells Y)[i * 1]? = some (.int .u8 201) := by rw [by_get hiY, hYi, bz_lent2 (by omega) hlt]
      (repeat' (first | refine Zv tb ?_ | (refine Zt (fun ht => ?_) (fun ht => ?_) <;> (dsimp only [cmpP, cmpN] at ht) <;> (try (exfalso; omega))) | refine Z0 ?_ | refine Zq ?_ | refine Zr ?_ | refine Zk ?_ | refine Zy ?_ | refine Zn ?_ | refine Zj ?_ | refine Ze ?_ | refine Zx ?_ | refine Zqr ?_ | refine Zqs ?_ | refine Zqc ?_ | refine Zqx ?_ | refine Zqf ?_ | refine Zm tb fun b => ?_ | refine Zb fun b => ?_ | refine Zs tb ?_ | refine WL_u (by first | exact Yl_indexAddr tb i rfl rfl rfl rfl hlt | exact Yl_load1 tb rfl rfl (Has.row (by repeat (first | exact List.Mem.head _ | apply List.Mem.tail))) hv1 | exact Yl_xor rfl rfl) rfl rfl ?_ | refine Zu tb ?_))
      refine WL_cons rfl (Hv_storeRow tb (k := 0) (a := ⟨q, 0, none⟩) (o := i * 1) rfl rfl rfl rfl rfl (by omega) rfl (cells_put byC (i := i) hiY (xorK .u8 201 33)) rfl ?_)
      (repeat' (first | refine Zv tb ?_ | (refine Zt (fun ht => ?_) (fun ht => ?_) <;> (dsimp only [cmpP, cmpN] at ht) <;> (try (exfalso; omega))) | refine Z0 ?_ | refine Zq ?_ | refine Zr ?_ | refine Zk ?_ | refine Zy ?_ | refine Zn ?_ | refine Zj ?_ | refine Ze ?_ | refine Zx ?_ | refine Zqr ?_ | refine Zqs ?_ | refine Zqc ?_ | refine Zqx ?_ | refine Zqf ?_ | refine Zm tb fun b => ?_ | refine Zb fun b => ?_ | refine Zs tb ?_ | refine Zu tb ?_))
      exact ⟨(i + 1, Y.set i (xorK .u8 201 33)), ⟨by dsimp only; omega, by simp [hY], hnx _⟩, by dsimp only; omega, (by repeat (first | exact Sub.nil | refine Sub.cons rfl ?_)), keepAll _⟩
  · (repeat' (first | refine Zv tb ?_ | (refine Zt (fun ht => ?_) (fun ht => ?_) <;> (dsimp only [cmpP, cmpN] at ht) <;> (try (exfalso; omega))) | refine Z0 ?_ | refine Zq ?_ | refine Zr ?_ | refine Zk ?_ | refine Zy ?_ | refine Zn ?_ | refine Zj ?_ | refine Ze ?_ | refine Zx ?_ | refine Zqr ?_ | refine Zqs ?_ | refine Zqc ?_ | refine Zqx ?_ | refine Zqf ?_ | refine Zm tb fun b => ?_ | refine Zb fun b => ?_ | refine Zs tb ?_ | refine Zu tb ?_))
    exact ⟨_, _, .tmp rfl .nil, ⟨rfl, Y, hY, rfl⟩, keepAll _⟩
def mkPB (i k : Nat) : List Int := List.replicate k (IntKind.u8.wrap (1 + (i : Int) % 250))
theorem mkP_lenB (i k : Nat) : (mkPB i k).length = k := by simp [mkPB]
abbrev pcIB (V : Option Addr) (n c : Nat) (L : List Int) : It := .row (.slice V n c) 5 1 n (byC.cells L)
def gqB (l : List Int) (j : Nat) : Int := l.getD j 0
theorem gq_eqB {l : List Int} {j : Nat} (h : j < l.length) : l[j] = gqB l j := by simp [gqB, h]
theorem gq_extB {l m : List Int} (hl : l.length = m.length) (h : ∀ j, j < l.length → gqB l j = gqB m j) : l = m := by
  apply List.ext_getElem hl
  intro j h1 h2
  have := h j h1
  rwa [← gq_eqB h1, ← gq_eqB h2] at this
theorem gq_setB {l : List Int} {i j : Nat} {x : Int} (hi : i < l.length) : gqB (l.set i x) j = if i = j then x else gqB l j := by
  unfold gqB
  simp only [List.getD_eq_getElem?_getD, List.getElem?_set]
  split
  · rename_i h; subst h; simp [hi]
  · rfl
theorem gq_mkPB {i k j : Nat} (h : j < k) : gqB (mkPB i k) j = (IntKind.u8.wrap (1 + (i : Int) % 250)) := by simp [gqB, mkPB, h]
theorem mkP_succB (i k : Nat) : mkPB i (k + 1) = mkPB i k ++ [(IntKind.u8.wrap (1 + (i : Int) % 250))] := by unfold mkPB; exact List.replicate_succ'
abbrev twIB (A : Option Nat) (n : Nat) (L : List Int) (V : Option Addr) (k c : Nat) (L' : List Int) : It := Sx.twin A (byC.cells L) (.slice V k c) 5 1 k (byC.cells L')
set_option maxHeartbeats 4000000 in
theorem owned_t (RV : Option Addr) (m rc : Nat) (A : Nat → Option Nat) (n c : Nat → Nat) (Z : Nat → List Int) (w : World) (hm : m ≤ 100000000) (hn : ∀ i, i < m → n i ≤ 1000000) (hZ : ∀ i, i < m → (Z i).length = n i) :
    Tr Try.prog 28 #[.slice RV m rc] w (.row (.slice RV m rc) 26 1 m (hdq A n c m) :: fam m fun j => pcIB (adr (A j)) (n j) (c j) (Z j)) (fun v Γ => v = .bool true ∧ Γ = []) := by
  refine Tr_intro (rs := [.tmp 2]) (args := [.slice RV m rc]) Try.func28 rfl rfl 93 rfl rfl ?_
  refine W_fact (p := RV = none → m = 0) (fun w hs h => ((hs.row_fact (List.mem_cons_self ..)).1 h).2) fun hRV => ?_
  refine W_fact (p := ∀ i, i < m → A i = none → n i = 0) (fun w hs i hi h => ((hs.row_fact (List.mem_cons_of_mem _ (fam_mem (f := fun j => pcIB (adr (A j)) (n j) (c j) (Z j)) hi))).1 (by rw [h]; rfl)).2) fun hAn => ?_
  (repeat' (first | refine Zv tb ?_ | (refine Zt (fun ht => ?_) (fun ht => ?_) <;> (dsimp only [cmpP, cmpN] at ht) <;> (try (exfalso; omega))) | refine Z0 ?_ | refine Zq ?_ | refine Zr ?_ | refine Zk ?_ | refine Zy ?_ | refine Zn ?_ | refine Zj ?_ | refine Ze ?_ | refine Zx ?_ | refine Zqr ?_ | refine Zqs ?_ | refine Zqc ?_ | refine Zqx ?_ | refine Zqf ?_ | refine Zm tb fun b => ?_ | refine Zb fun b => ?_ | refine Zs tb ?_ | refine Zu tb ?_))
  refine W_cutB (σ := Unit) (fun _ => [(0, .slice RV m rc)]) (fun _ => .row (.slice RV m rc) 26 1 m (hdq A n c m) :: fam m fun j => pcIB (adr (A j)) (n j) (c j) (mkPB j (n j))) (fun _ => True) ?_ ?_
  · refine W_loop (σ := Nat × (Nat → List Int)) (fun p => [(0, .slice RV m rc), (3, .int .i64 p.1)])
      (fun p => .row (.slice RV m rc) 26 1 m (hdq A n c m) :: fam m fun j => pcIB (adr (A j)) (n j) (c j) (p.2 j))
      (fun p => p.1 ≤ m ∧ (∀ j, j < m → (p.2 j).length = n j) ∧ ∀ j, j < p.1 → p.2 j = mkPB j (n j)) (fun p => m - p.1) (0, Z) ⟨Nat.zero_le _, hZ, fun j h => by omega⟩ (by repeat (first | exact Sub.nil | refine Sub.cons rfl ?_)) (keepAll _) ?_
    rintro ⟨i, ct⟩ ⟨hi, hlen, hok⟩
    dsimp only at hi hlen hok ⊢
    by_cases him : i < m
    · obtain ⟨ra, rfl⟩ : ∃ v, RV = some v := by cases RV with
        | some v => exact ⟨v, rfl⟩
        | none => have := hRV rfl; omega
      have hv := hdq_get (A := A) (n := n) (c := c) him
      have hni := hn i him
      (repeat' (first | refine Zv tb ?_ | (refine Zt (fun ht => ?_) (fun ht => ?_) <;> (dsimp only [cmpP, cmpN] at ht) <;> (try (exfalso; omega))) | refine Z0 ?_ | refine Zq ?_ | refine Zr ?_ | refine Zk ?_ | refine Zy ?_ | refine Zn ?_ | refine Zj ?_ | refine Ze ?_ | refine Zx ?_ | refine Zqr ?_ | refine Zqs ?_ | refine Zqc ?_ | refine Zqx ?_ | refine Zqf ?_ | refine Zm tb fun b => ?_ | refine Zb fun b => ?_ | refine Zs tb ?_ | refine Zu tb ?_))
      refine W_loop (σ := Nat × List Int) (fun p => [(0, .slice (some ra) m rc), (3, .int .i64 i), (4, .int .i64 p.1)])
        (fun p => .row (.slice (some ra) m rc) 26 1 m (hdq A n c m) :: fam m (upd (fun j => pcIB (adr (A j)) (n j) (c j) (ct j)) i (pcIB (adr (A i)) (n i) (c i) p.2)))
        (fun p => p.1 ≤ n i ∧ p.2.length = n i ∧ ∀ j, j < p.1 → gqB p.2 j = (IntKind.u8.wrap (1 + (i : Int) % 250))) (fun p => n i - p.1) (0, ct i) ⟨Nat.zero_le _, hlen i him, fun j h => by omega⟩ (by repeat (first | exact Sub.nil | refine Sub.cons rfl ?_))
        ⟨[], List.Perm.of_eq (by simp only [List.append_nil]; congr 1; exact fam_ext fun j _ => by unfold upd; split <;> simp_all)⟩ ?_
      rintro ⟨k, Y⟩ ⟨hk, hY, hyk⟩
      dsimp only at hk hY hyk ⊢
      by_cases hkn : k < n i
      · obtain ⟨bA, ha⟩ := adr_some (hAn i him) (by omega)
        have hv' : (hdq A n c m)[i * 1]? = some (.slice (some ⟨bA, 0, none⟩) (n i) (c i)) := by rw [hv, ha]; rfl
        (repeat' (first | refine Zv tb ?_ | (refine Zt (fun ht => ?_) (fun ht => ?_) <;> (dsimp only [cmpP, cmpN] at ht) <;> (try (exfalso; omega))) | refine Z0 ?_ | refine Zq ?_ | refine Zr ?_ | refine Zk ?_ | refine Zy ?_ | refine Zn ?_ | refine Zj ?_ | refine Ze ?_ | refine Zx ?_ | refine Zqr ?_ | refine Zqs ?_ | refine Zqc ?_ | refine Zqx ?_ | refine Zqf ?_ | refine Zm tb fun b => ?_ | refine Zb fun b => ?_ | refine Zs tb ?_ | refine WL_u (by first | exact Yl_indexAddr tb i rfl rfl rfl rfl him | exact Yl_load1 tb rfl rfl (Has.row (by repeat (first | exact List.Mem.head _ | apply List.Mem.tail))) hv' | exact Yl_indexAddr tb k rfl rfl rfl rfl hkn | exact Yl_rem rfl rfl (by omega) (by omega)) rfl rfl ?_ | refine Zu tb ?_))
        refine WL_cons rfl (Hv_storeRow tb (k := i + 1) (a := ⟨bA, 0, none⟩) (o := k * 1) (len := n i) (cap := c i) rfl rfl rfl (show (fam m _)[i]? = _ from (fam_get him).trans (by rw [upd_same, ha]; rfl)) rfl (by omega) rfl (cells_put byC (i := k) (by omega) (IntKind.u8.wrap (1 + (i : Int) % 250))) rfl ?_)
        (repeat' (first | refine Zv tb ?_ | (refine Zt (fun ht => ?_) (fun ht => ?_) <;> (dsimp only [cmpP, cmpN] at ht) <;> (try (exfalso; omega))) | refine Z0 ?_ | refine Zq ?_ | refine Zr ?_ | refine Zk ?_ | refine Zy ?_ | refine Zn ?_ | refine Zj ?_ | refine Ze ?_ | refine Zx ?_ | refine Zqr ?_ | refine Zqs ?_ | refine Zqc ?_ | refine Zqx ?_ | refine Zqf ?_ | refine Zm tb fun b => ?_ | refine Zb fun b => ?_ | refine Zs tb ?_ | refine Zu tb ?_))
        refine ⟨(k + 1, Y.set k (IntKind.u8.wrap (1 + (i : Int) % 250))), ⟨by dsimp only; omega, by simp [hY], fun j hj => ?_⟩, by dsimp only; omega, (by repeat (first | exact Sub.nil | refine Sub.cons rfl ?_)), [], List.Perm.of_eq ?_⟩
        · dsimp only at hj ⊢
          rw [gq_setB (by omega)]
          by_cases hkj : k = j
          · subst hkj; simp
          · rw [if_neg hkj]; exact hyk j (by omega)
        · show _ :: ((fam m _).set i _) = _
          rw [fam_set, fam_updq, List.append_nil, ha]
          rfl
      · (repeat' (first | refine Zv tb ?_ | (refine Zt (fun ht => ?_) (fun ht => ?_) <;> (dsimp only [cmpP, cmpN] at ht) <;> (try (exfalso; omega))) | refine Z0 ?_ | refine Zq ?_ | refine Zr ?_ | refine Zk ?_ | refine Zy ?_ | refine Zn ?_ | refine Zj ?_ | refine Ze ?_ | refine Zx ?_ | refine Zqr ?_ | refine Zqs ?_ | refine Zqc ?_ | refine Zqx ?_ | refine Zqf ?_ | refine Zm tb fun b => ?_ | refine Zb fun b => ?_ | refine Zs tb ?_ | refine WL_u (by first | exact Yl_indexAddr tb i rfl rfl rfl rfl him | exact Yl_load1 tb rfl rfl (Has.row (by repeat (first | exact List.Mem.head _ | apply List.Mem.tail))) hv) rfl rfl ?_ | refine Zu tb ?_))
        have hYm : Y = mkPB i (n i) := gq_extB (by rw [hY, mkP_lenB]) fun j hj => by rw [hyk j (by omega), gq_mkPB (by omega)]
        refine ⟨(i + 1, upd ct i Y), ⟨by dsimp only; omega, fun j hj => ?_, fun j hj => ?_⟩, by dsimp only; omega, (by repeat (first | exact Sub.nil | refine Sub.cons rfl ?_)), [], List.Perm.of_eq ?_⟩
        · dsimp only; unfold upd; split
          · rename_i h; rw [h]; exact hY
          · exact hlen j hj
        · dsimp only at hj ⊢; unfold upd; split
          · rename_i h; rw [h]; exact hYm
          · exact hok j (by omega)
        · rw [List.append_nil]; congr 1; exact fam_ext fun j _ => by dsimp only; unfold upd; split <;> simp_all
    · (repeat' (first | refine Zv tb ?_ | (refine Zt (fun ht => ?_) (fun ht => ?_) <;> (dsimp only [cmpP, cmpN] at ht) <;> (try (exfalso; omega))) | refine Z0 ?_ | refine Zq ?_ | refine Zr ?_ | refine Zk ?_ | refine Zy ?_ | refine Zn ?_ | refine Zj ?_ | refine Ze ?_ | refine Zx ?_ | refine Zqr ?_ | refine Zqs ?_ | refine Zqc ?_ | refine Zqx ?_ | refine Zqf ?_ | refine Zm tb fun b => ?_ | refine Zb fun b => ?_ | refine Zs tb ?_ | refine Zu tb ?_))
      refine ⟨(), trivial, (by repeat (first | exact Sub.nil | refine Sub.cons rfl ?_)), [], List.Perm.of_eq ?_⟩
      rw [List.append_nil]
      congr 1
      exact fam_ext fun j hj => by rw [hok j (by omega)]
  intro _ _
  refine W_nilrow 26 1 ?_
  (repeat' (first | refine Zv tb ?_ | (refine Zt (fun ht => ?_) (fun ht => ?_) <;> (dsimp only [cmpP, cmpN] at ht) <;> (try (exfalso; omega))) | refine Z0 ?_ | refine Zq ?_ | refine Zr ?_ | refine Zk ?_ | refine Zy ?_ | refine Zn ?_ | refine Zj ?_ | refine Ze ?_ | refine Zx ?_ | refine Zqr ?_ | refine Zqs ?_ | refine Zqc ?_ | refine Zqx ?_ | refine Zqf ?_ | refine Zm tb fun b => ?_ | refine Zb fun b => ?_ | refine Zs tb ?_ | refine Zu tb ?_))
  refine W_cutB (σ := Option Addr × Nat × (Nat → Option Addr) × (Nat → Nat)) (fun | (LV, lc, gA, gc) => [(0, .slice RV m rc), (5, .slice LV (2 * m) lc)])
    (fun | (LV, lc, gA, gc) => .row (.slice LV (2 * m) lc) 26 1 (2 * m) (lng A n c gA gc m) :: fam m fun j => twIB (A j) (n j) (mkPB j (n j)) (gA j) (n j + 40) (gc j) (mkPB j (n j + 40))) (fun _ => True) ?_ ?_
  · refine W_loop (σ := Nat × Option Addr × Nat × (Nat → Option Addr) × (Nat → Nat)) (fun | (i, LV, lc, gA, gc) => [(0, .slice RV m rc), (5, .slice LV (2 * i) lc), (6, .int .i64 i)])
      (fun | (i, LV, lc, gA, gc) => .row (.slice LV (2 * i) lc) 26 1 (2 * i) (lng A n c gA gc i) :: .row (.slice RV m rc) 26 1 m (hdq A n c m) ::
        fam m fun j => if j < i then twIB (A j) (n j) (mkPB j (n j)) (gA j) (n j + 40) (gc j) (mkPB j (n j + 40)) else pcIB (adr (A j)) (n j) (c j) (mkPB j (n j)))
      (fun | (i, _) => i ≤ m) (fun | (i, _) => m - i) (0, none, 0, fun _ => none, fun _ => 0) (Nat.zero_le _) (by repeat (first | exact Sub.nil | refine Sub.cons rfl ?_)) ⟨[], List.Perm.of_eq (by simp [lng])⟩ ?_
    rintro ⟨i, LV, lc, gA, gc⟩ hi
    dsimp only at hi ⊢
    by_cases him : i < m
    · obtain ⟨ra, rfl⟩ : ∃ v, RV = some v := by cases RV with
        | some v => exact ⟨v, rfl⟩
        | none => have := hRV rfl; omega
      have hv := hdq_get (A := A) (n := n) (c := c) him
      have hni := hn i him
      (repeat' (first | refine Zv tb ?_ | (refine Zt (fun ht => ?_) (fun ht => ?_) <;> (dsimp only [cmpP, cmpN] at ht) <;> (try (exfalso; omega))) | refine Z0 ?_ | refine Zq ?_ | refine Zr ?_ | refine Zk ?_ | refine Zy ?_ | refine Zn ?_ | refine Zj ?_ | refine Ze ?_ | refine Zx ?_ | refine Zqr ?_ | refine Zqs ?_ | refine Zqc ?_ | refine Zqx ?_ | refine Zqf ?_ | refine Zm tb fun b => ?_ | refine Zb fun b => ?_ | refine Zs tb ?_ | refine WL_u (by first | exact Yl_indexAddr tb i rfl rfl rfl rfl him | exact Yl_load1 tb rfl rfl (Has.row (by repeat (first | exact List.Mem.head _ | apply List.Mem.tail))) hv) rfl rfl ?_ | refine Zu tb ?_))
      refine W_twin (A := A i) (t := 5) (sz := 1) (m := n i) (c := c i) (cs := byC.cells (mkPB i (n i))) (i + 2) (show (fam m _)[i]? = _ from (fam_get him).trans (by rw [if_neg (Nat.lt_irrefl _)]; rfl)) ?_
      refine W_cutB (σ := Option Addr × Nat) (fun | (B, bc) => [(0, .slice (some ra) m rc), (5, .slice LV (2 * i) lc), (6, .int .i64 i), (7, .slice B (n i + 40) bc)])
        (fun | (B, bc) => .row (.slice LV (2 * i) lc) 26 1 (2 * i) (lng A n c gA gc i) :: .row (.slice (some ra) m rc) 26 1 m (hdq A n c m) ::
          fam m (upd (fun j => if j < i then twIB (A j) (n j) (mkPB j (n j)) (gA j) (n j + 40) (gc j) (mkPB j (n j + 40)) else pcIB (adr (A j)) (n j) (c j) (mkPB j (n j))) i (twIB (A i) (n i) (mkPB i (n i)) B (n i + 40) bc (mkPB i (n i + 40))))) (fun _ => True) ?_ ?_
      · refine W_loop (σ := Nat × Option Addr × Nat) (fun | (k, B, bc) => [(0, .slice (some ra) m rc), (5, .slice LV (2 * i) lc), (6, .int .i64 i), (7, .slice B (n i + k) bc), (8, .int .i64 k)])
          (fun | (k, B, bc) => .row (.slice LV (2 * i) lc) 26 1 (2 * i) (lng A n c gA gc i) :: .row (.slice (some ra) m rc) 26 1 m (hdq A n c m) ::
            fam m (upd (fun j => if j < i then twIB (A j) (n j) (mkPB j (n j)) (gA j) (n j + 40) (gc j) (mkPB j (n j + 40)) else pcIB (adr (A j)) (n j) (c j) (mkPB j (n j))) i (twIB (A i) (n i) (mkPB i (n i)) B (n i + k) bc (mkPB i (n i + k))))) (fun | (k, _) => k ≤ 40) (fun | (k, _) => 40 - k) (0, adr (A i), c i) (by dsimp only; omega) (by repeat (first | exact Sub.nil | refine Sub.cons rfl ?_)) ⟨[], List.Perm.of_eq ?_⟩ ?_
        · show _ :: _ :: ((fam m _).set i _) = _
          rw [fam_set, List.append_nil]; rfl
        rintro ⟨k, B, bc⟩ hk
        dsimp only at hk ⊢
        by_cases hk40 : k < 40
        · (repeat' (first | refine Zv tb ?_ | (refine Zt (fun ht => ?_) (fun ht => ?_) <;> (dsimp only [cmpP, cmpN] at ht) <;> (try (exfalso; omega))) | refine Z0 ?_ | refine Zq ?_ | refine Zr ?_ | refine Zk ?_ | refine Zy ?_ | refine Zn ?_ | refine Zj ?_ | refine Ze ?_ | refine Zx ?_ | refine Zqr ?_ | refine Zqs ?_ | refine Zqc ?_ | refine Zqx ?_ | refine Zqf ?_ | refine Zm tb fun b => ?_ | refine Zb fun b => ?_ | refine Zs tb ?_ | refine WL_u (by first | exact Yl_rem rfl rfl (by omega) (by omega)) rfl rfl ?_ | refine Zu tb ?_))
          refine WL_cons rfl (Hv_buildSlice tb rfl rfl rfl (by decide) rfl rfl rfl rfl fun q => ?_)
          (repeat' (first | refine Zv tb ?_ | (refine Zt (fun ht => ?_) (fun ht => ?_) <;> (dsimp only [cmpP, cmpN] at ht) <;> (try (exfalso; omega))) | refine Z0 ?_ | refine Zq ?_ | refine Zr ?_ | refine Zk ?_ | refine Zy ?_ | refine Zn ?_ | refine Zj ?_ | refine Ze ?_ | refine Zx ?_ | refine Zqr ?_ | refine Zqs ?_ | refine Zqc ?_ | refine Zqx ?_ | refine Zqf ?_ | refine Zm tb fun b => ?_ | refine Zb fun b => ?_ | refine Zs tb ?_ | refine Zu tb ?_))
          refine WL_cons rfl (Hv_appendT tb (k := i + 3) (m := 1) rfl rfl rfl rfl rfl (by decide) (show (fam m _)[i]? = _ from (fam_get him).trans (by rw [upd_same])) (Has.row (List.mem_cons_self ..)) rfl rfl (by omega) (by omega) rfl fun V' c' hV' => ?_)
          (repeat' (first | refine Zv tb ?_ | (refine Zt (fun ht => ?_) (fun ht => ?_) <;> (dsimp only [cmpP, cmpN] at ht) <;> (try (exfalso; omega))) | refine Z0 ?_ | refine Zq ?_ | refine Zr ?_ | refine Zk ?_ | refine Zy ?_ | refine Zn ?_ | refine Zj ?_ | refine Ze ?_ | refine Zx ?_ | refine Zqr ?_ | refine Zqs ?_ | refine Zqc ?_ | refine Zqx ?_ | refine Zqf ?_ | refine Zm tb fun b => ?_ | refine Zb fun b => ?_ | refine Zs tb ?_ | refine Zu tb ?_))
          refine ⟨(k + 1, V', c'), by dsimp only; omega, by dsimp only; omega, (by repeat (first | exact Sub.nil | refine Sub.cons rfl ?_)), keepCq (x := ?_) ?_⟩
          rotate_left
          show _ :: _ :: _ :: ((fam m _).set i _) = _
          rw [fam_set, fam_updq]
          dsimp only
          rw [show n i + (k + 1) = (n i + k) + 1 from rfl, mkP_succB]
          unfold twIB
          rw [cells_append, cells_one]
          rfl
        · obtain rfl : k = 40 := by omega
          (repeat' (first | refine Zv tb ?_ | (refine Zt (fun ht => ?_) (fun ht => ?_) <;> (dsimp only [cmpP, cmpN] at ht) <;> (try (exfalso; omega))) | refine Z0 ?_ | refine Zq ?_ | refine Zr ?_ | refine Zk ?_ | refine Zy ?_ | refine Zn ?_ | refine Zj ?_ | refine Ze ?_ | refine Zx ?_ | refine Zqr ?_ | refine Zqs ?_ | refine Zqc ?_ | refine Zqx ?_ | refine Zqf ?_ | refine Zm tb fun b => ?_ | refine Zb fun b => ?_ | refine Zs tb ?_ | refine Zu tb ?_))
          exact ⟨(B, bc), trivial, (by repeat (first | exact Sub.nil | refine Sub.cons rfl ?_)), keepAll _⟩
      rintro ⟨B, bc⟩ -
      (repeat' (first | refine Zv tb ?_ | (refine Zt (fun ht => ?_) (fun ht => ?_) <;> (dsimp only [cmpP, cmpN] at ht) <;> (try (exfalso; omega))) | refine Z0 ?_ | refine Zq ?_ | refine Zr ?_ | refine Zk ?_ | refine Zy ?_ | refine Zn ?_ | refine Zj ?_ | refine Ze ?_ | refine Zx ?_ | refine Zqr ?_ | refine Zqs ?_ | refine Zqc ?_ | refine Zqx ?_ | refine Zqf ?_ | refine Zm tb fun b => ?_ | refine Zb fun b => ?_ | refine Zs tb ?_ | refine WL_u (by first | exact Yl_indexAddr tb i rfl rfl rfl rfl him | exact Yl_load1 tb rfl rfl (Has.row (by repeat (first | exact List.Mem.head _ | apply List.Mem.tail))) hv) rfl rfl ?_ | refine Zu tb ?_))
      refine WL_cons rfl (Hv_buildSlice tb rfl rfl rfl (by decide) rfl rfl rfl rfl fun q => ?_)
      (repeat' (first | refine Zv tb ?_ | (refine Zt (fun ht => ?_) (fun ht => ?_) <;> (dsimp only [cmpP, cmpN] at ht) <;> (try (exfalso; omega))) | refine Z0 ?_ | refine Zq ?_ | refine Zr ?_ | refine Zk ?_ | refine Zy ?_ | refine Zn ?_ | refine Zj ?_ | refine Ze ?_ | refine Zx ?_ | refine Zqr ?_ | refine Zqs ?_ | refine Zqc ?_ | refine Zqx ?_ | refine Zqf ?_ | refine Zm tb fun b => ?_ | refine Zb fun b => ?_ | refine Zs tb ?_ | refine Zu tb ?_))
      refine WL_cons rfl (Hv_append tb (k := 1) (m := 2) rfl rfl rfl rfl rfl (by decide) rfl (Has.row (List.mem_cons_self ..)) rfl rfl (by omega) (by omega) rfl fun V' c' hV' => ?_)
      (repeat' (first | refine Zv tb ?_ | (refine Zt (fun ht => ?_) (fun ht => ?_) <;> (dsimp only [cmpP, cmpN] at ht) <;> (try (exfalso; omega))) | refine Z0 ?_ | refine Zq ?_ | refine Zr ?_ | refine Zk ?_ | refine Zy ?_ | refine Zn ?_ | refine Zj ?_ | refine Ze ?_ | refine Zx ?_ | refine Zqr ?_ | refine Zqs ?_ | refine Zqc ?_ | refine Zqx ?_ | refine Zqf ?_ | refine Zm tb fun b => ?_ | refine Zb fun b => ?_ | refine Zs tb ?_ | refine Zu tb ?_))
      refine ⟨(i + 1, V', c', upd gA i B, upd gc i bc), by dsimp only; omega, by dsimp only; omega, (by repeat (first | exact Sub.nil | refine Sub.cons rfl ?_)), keepCq (x := ?_) ?_⟩
      rotate_left
      dsimp only
      rw [lng, upd_same, upd_same, lng_ext (gA := upd gA i B) (gA' := gA) (gc := upd gc i bc) (gc' := gc) fun j hj => ⟨upd_other _ _ (by omega), upd_other _ _ (by omega)⟩]
      rw [show (fam m fun j => if j < i + 1 then twIB (A j) (n j) (mkPB j (n j)) (upd gA i B j) (n j + 40) (upd gc i bc j) (mkPB j (n j + 40)) else pcIB (adr (A j)) (n j) (c j) (mkPB j (n j))) = fam m (upd (fun j => if j < i then twIB (A j) (n j) (mkPB j (n j)) (gA j) (n j + 40) (gc j) (mkPB j (n j + 40)) else pcIB (adr (A j)) (n j) (c j) (mkPB j (n j))) i (twIB (A i) (n i) (mkPB i (n i)) B (n i + 40) bc (mkPB i (n i + 40)))) from fam_ext fun j _ => by
        by_cases h : j = i
        · subst h; rw [if_pos (Nat.lt_succ_self _), upd_same, upd_same, upd_same]
        · rw [upd_other _ _ h, upd_other _ _ h, upd_other _ _ h]
          by_cases h2 : j < i
          · rw [if_pos (by omega), if_pos h2]
          · rw [if_neg (by omega), if_neg h2]]
      rfl
    · obtain rfl : i = m := by omega
      (repeat' (first | refine Zv tb ?_ | (refine Zt (fun ht => ?_) (fun ht => ?_) <;> (dsimp only [cmpP, cmpN] at ht) <;> (try (exfalso; omega))) | refine Z0 ?_ | refine Zq ?_ | refine Zr ?_ | refine Zk ?_ | refine Zy ?_ | refine Zn ?_ | refine Zj ?_ | refine Ze ?_ | refine Zx ?_ | refine Zqr ?_ | refine Zqs ?_ | refine Zqc ?_ | refine Zqx ?_ | refine Zqf ?_ | refine Zm tb fun b => ?_ | refine Zb fun b => ?_ | refine Zs tb ?_ | refine Zu tb ?_))
      refine ⟨(LV, lc, gA, gc), trivial, (by repeat (first | exact Sub.nil | refine Sub.cons rfl ?_)), ?_⟩
      dsimp only
      rw [show (fam i fun j => if j < i then twIB (A j) (n j) (mkPB j (n j)) (gA j) (n j + 40) (gc j) (mkPB j (n j + 40)) else pcIB (adr (A j)) (n j) (c j) (mkPB j (n j))) = fam i fun j => twIB (A j) (n j) (mkPB j (n j)) (gA j) (n j + 40) (gc j) (mkPB j (n j + 40)) from fam_ext fun j hj => if_pos hj]
      exact ⟨_, List.Perm.cons _ (List.perm_append_comm (l₁ := [_]))⟩
  rintro ⟨LV, lc, gA, gc⟩ -
  dsimp only
  refine W_fact (p := LV = none → 2 * m = 0) (fun w hs h => ((hs.row_fact (List.mem_cons_self ..)).1 h).2) fun hLV => ?_
  refine W_fact (p := ∀ j, j < m → gA j ≠ none) (fun w hs j hj h => by
    have h1 := fam_mem (f := fun j => twIB (A j) (n j) (mkPB j (n j)) (gA j) (n j + 40) (gc j) (mkPB j (n j + 40))) hj
    have h2 : Sx.TwOk (A j) (byC.cells (mkPB j (n j))) (.slice (gA j) (n j + 40) (gc j)) 5 1 (n j + 40) (byC.cells (mkPB j (n j + 40))) w := hs.ok _ (List.mem_cons_of_mem _ h1)
    rcases h2.row.2 with ⟨_, h3⟩ | ⟨gg, cap, cur, h3, _⟩
    · omega
    · rw [h] at h3; cases h3) fun hgA => ?_
  (repeat' (first | refine Zv tb ?_ | (refine Zt (fun ht => ?_) (fun ht => ?_) <;> (dsimp only [cmpP, cmpN] at ht) <;> (try (exfalso; omega))) | refine Z0 ?_ | refine Zq ?_ | refine Zr ?_ | refine Zk ?_ | refine Zy ?_ | refine Zn ?_ | refine Zj ?_ | refine Ze ?_ | refine Zx ?_ | refine Zqr ?_ | refine Zqs ?_ | refine Zqc ?_ | refine Zqx ?_ | refine Zqf ?_ | refine Zm tb fun b => ?_ | refine Zb fun b => ?_ | refine Zs tb ?_ | refine Zu tb ?_))
  refine W_loop (σ := Nat) (fun r => [(5, .slice LV (2 * m) lc), (9, .int .i64 r)]) (fun r => .row (.slice LV (2 * m) lc) 26 1 (2 * m) (lng A n c gA gc m) :: fam m fun j => twIB (A j) (n j) (mkPB j (n j)) (gA j) (n j + 40) (gc j) (mkPB j (n j + 40))) (fun r => r ≤ 2 * m) (fun r => 2 * m - r) 0 (Nat.zero_le _) (by repeat (first | exact Sub.nil | refine Sub.cons rfl ?_)) (keepAll _) ?_
  intro r hr
  by_cases hlt : r < 2 * m
  · obtain ⟨lv, rfl⟩ : ∃ v, LV = some v := by cases LV with
      | some v => exact ⟨v, rfl⟩
      | none => have := hLV rfl; omega
    have hi : r / 2 < m := by omega
    have hni := hn (r / 2) hi
    have hmem : ∀ x : It, twIB (A (r / 2)) (n (r / 2)) (mkPB (r / 2) (n (r / 2))) (gA (r / 2)) (n (r / 2) + 40) (gc (r / 2)) (mkPB (r / 2) (n (r / 2) + 40)) ∈ x :: fam m fun j => twIB (A j) (n j) (mkPB j (n j)) (gA j) (n j + 40) (gc j) (mkPB j (n j + 40)) := fun x => List.mem_cons_of_mem _ (fam_mem (f := fun j => twIB (A j) (n j) (mkPB j (n j)) (gA j) (n j + 40) (gc j) (mkPB j (n j + 40))) hi)
    have key : ∃ (V : Option Addr) (K cc : Nat), (lng A n c gA gc m)[r * 1]? = some (.slice V K cc) ∧ K ≤ 1000040 ∧ (0 < K → ∃ a, V = some a ∧ ∀ (w0 : World) (X : List Nat) (x : It), Has w0 X (x :: fam m fun j => twIB (A j) (n j) (mkPB j (n j)) (gA j) (n j + 40) (gc j) (mkPB j (n j + 40))) a (byC.cells (mkPB (r / 2) K))) := by
      obtain ⟨g1, g2⟩ := lng_get A n c gA gc m (r / 2) hi
      rw [Nat.mul_one]
      by_cases hp : r % 2 = 0
      · rw [show r = 2 * (r / 2) by omega]
        rw [show 2 * (r / 2) / 2 = r / 2 by omega]
        refine ⟨_, _, _, g1, by omega, fun _ => ?_⟩
        obtain ⟨a, ha⟩ : ∃ v, gA (r / 2) = some v := by
          cases h : gA (r / 2) with
          | some v => exact ⟨v, rfl⟩
          | none => exact absurd h (hgA _ hi)
        refine ⟨a, ha, fun w0 X x => ?_⟩
        have := hmem x
        unfold twIB at this
        rw [ha] at this
        exact Has.twNew this
      · have e : (lng A n c gA gc m)[r]? = some (.slice (adr (A (r / 2))) (n (r / 2)) (c (r / 2))) := by rw [← g2]; congr 1; omega
        refine ⟨_, _, _, e, by omega, fun h0 => ?_⟩
        obtain ⟨b, hb⟩ := adr_some (hAn (r / 2) hi) h0
        refine ⟨⟨b, 0, none⟩, by rw [hb]; rfl, fun w0 X x => ?_⟩
        have := hmem x
        unfold twIB at this
        rw [hb] at this
        exact Has.twOld this
    obtain ⟨V, K, cc, hv, hK, hV⟩ := key
    (repeat' (first | refine Zv tb ?_ | (refine Zt (fun ht => ?_) (fun ht => ?_) <;> (dsimp only [cmpP, cmpN] at ht) <;> (try (exfalso; omega))) | refine Z0 ?_ | refine Zq ?_ | refine Zr ?_ | refine Zk ?_ | refine Zy ?_ | refine Zn ?_ | refine Zj ?_ | refine Ze ?_ | refine Zx ?_ | refine Zqr ?_ | refine Zqs ?_ | refine Zqc ?_ | refine Zqx ?_ | refine Zqf ?_ | refine Zm tb fun b => ?_ | refine Zb fun b => ?_ | refine Zs tb ?_ | refine Zu tb ?_))
    refine W_loop (σ := Nat) (fun k => [(5, .slice (some lv) (2 * m) lc), (9, .int .i64 r), (10, .int .i64 k)]) (fun _ => .row (.slice (some lv) (2 * m) lc) 26 1 (2 * m) (lng A n c gA gc m) :: fam m fun j => twIB (A j) (n j) (mkPB j (n j)) (gA j) (n j + 40) (gc j) (mkPB j (n j + 40))) (fun k => k ≤ K) (fun k => K - k) 0 (Nat.zero_le _) (by repeat (first | exact Sub.nil | refine Sub.cons rfl ?_)) (keepAll _) ?_
    intro k hk
    by_cases hkK : k < K
    · obtain ⟨a, rfl, hH⟩ := hV (by omega)
      have hkl : k < (mkPB (r / 2) K).length := by rw [mkP_lenB]; exact hkK
      have hx : (mkPB (r / 2) K)[k] = (IntKind.u8.wrap (1 + ((r : Int) / 2) % 250)) := by rw [gq_eqB hkl, gq_mkPB hkK]; congr 1
      have hv2 : (byC.cells (mkPB (r / 2) K))[k * 1]? = some (.int .u8 (IntKind.u8.wrap (1 + ((r : Int) / 2) % 250))) := by rw [cells_get1 hkl, hx]
      (repeat' (first | refine Zv tb ?_ | (refine Zt (fun ht => ?_) (fun ht => ?_) <;> (dsimp only [cmpP, cmpN] at ht) <;> (try (exfalso; omega))) | refine Z0 ?_ | refine Zq ?_ | refine Zr ?_ | refine Zk ?_ | refine Zy ?_ | refine Zn ?_ | refine Zj ?_ | refine Ze ?_ | refine Zx ?_ | refine Zqr ?_ | refine Zqs ?_ | refine Zqc ?_ | refine Zqx ?_ | refine Zqf ?_ | refine Zm tb fun b => ?_ | refine Zb fun b => ?_ | refine Zs tb ?_ | refine WL_u (by first | exact Yl_indexAddr tb r rfl rfl rfl rfl hlt | exact Yl_load1 tb rfl rfl (Has.row (List.mem_cons_self ..)) hv | exact Yl_indexAddr tb k rfl rfl rfl rfl hkK | exact Yl_load1 tb rfl rfl (hH _ _ _) hv2 | exact Yl_quo rfl rfl (by omega) (by omega) (wrap_i64 (by omega) (by omega)) | exact Yl_rem rfl rfl (by omega) (by omega)) rfl rfl ?_ | refine Zu tb ?_))
      exact ⟨k + 1, by omega, by omega, (by repeat (first | exact Sub.nil | refine Sub.cons rfl ?_)), keepAll _⟩
    · (repeat' (first | refine Zv tb ?_ | (refine Zt (fun ht => ?_) (fun ht => ?_) <;> (dsimp only [cmpP, cmpN] at ht) <;> (try (exfalso; omega))) | refine Z0 ?_ | refine Zq ?_ | refine Zr ?_ | refine Zk ?_ | refine Zy ?_ | refine Zn ?_ | refine Zj ?_ | refine Ze ?_ | refine Zx ?_ | refine Zqr ?_ | refine Zqs ?_ | refine Zqc ?_ | refine Zqx ?_ | refine Zqf ?_ | refine Zm tb fun b => ?_ | refine Zb fun b => ?_ | refine Zs tb ?_ | refine WL_u (by first | exact Yl_indexAddr tb r rfl rfl rfl rfl hlt | exact Yl_load1 tb rfl rfl (Has.row (List.mem_cons_self ..)) hv) rfl rfl ?_ | refine Zu tb ?_))
      exact ⟨r + 1, by omega, by omega, (by repeat (first | exact Sub.nil | refine Sub.cons rfl ?_)), keepAll _⟩
  · (repeat' (first | refine Zv tb ?_ | (refine Zt (fun ht => ?_) (fun ht => ?_) <;> (dsimp only [cmpP, cmpN] at ht) <;> (try (exfalso; omega))) | refine Z0 ?_ | refine Zq ?_ | refine Zr ?_ | refine Zk ?_ | refine Zy ?_ | refine Zn ?_ | refine Zj ?_ | refine Ze ?_ | refine Zx ?_ | refine Zqr ?_ | refine Zqs ?_ | refine Zqc ?_ | refine Zqx ?_ | refine Zqf ?_ | refine Zm tb fun b => ?_ | refine Zb fun b => ?_ | refine Zs tb ?_ | refine Zu tb ?_))
    exact ⟨_, [], .tmp rfl .nil, ⟨rfl, rfl⟩, _, List.Perm.refl _⟩
end Go.Proofs.Ytdnngagahhleiaa
