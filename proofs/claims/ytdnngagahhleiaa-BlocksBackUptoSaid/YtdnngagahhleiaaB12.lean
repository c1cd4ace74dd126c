/- the law's own helpers of layer 4: samePieces, mine. -/
import Derived.Test.YtdnngagahhleiaaB11
import Derived.Test.YtdnngagahhleiaaB7
import Derived.Test.YtdnngagahhleiaaSxB
namespace Go.Proofs.Ytdnngagahhleiaa
open Go.Sx
attribute [local irreducible] W WL WP Hv Yl WQ At QP QF Rnd
set_option maxRecDepth 10000
set_option linter.unusedVariables false
set_option linter.unusedSimpArgs false
set_option maxHeartbeats 1000000 in
theorem samePieces_t (A B : Option Addr) (l : List Pce) (ca cb : Nat) (w : World) (hA : SlO w [] A l.length ca (pcC5.cells l)) (hB : SlO w [] B l.length cb (pcC5.cells l)) :
    Tr Try.prog 19 #[.slice A l.length ca, .slice B l.length cb] w [] (fun v Γ => v = .bool true ∧ Γ = []) := by
  refine Tr_intro (rs := [.tmp 4]) (args := [.slice A l.length ca, .slice B l.length cb]) Try.func19 rfl rfl 26 rfl rfl ?_
  have hm1 := hA.max
  (repeat' (first | refine Zv tb ?_ | (refine Zt (fun ht => ?_) (fun ht => ?_) <;> (dsimp only [cmpP, cmpN] at ht) <;> (try (exfalso; omega))) | refine Z0 ?_ | refine Zq ?_ | refine Zr ?_ | refine Zk ?_ | refine Zy ?_ | refine Zn ?_ | refine Zj ?_ | refine Ze ?_ | refine Zx ?_ | refine Zqr ?_ | refine Zqs ?_ | refine Zqc ?_ | refine Zqx ?_ | refine Zqf ?_ | refine Zm tb fun b => ?_ | refine Zb fun b => ?_ | refine Zs tb ?_ | refine Zu tb ?_))
  refine W_loop (σ := Nat) (fun i => [(0, .slice A l.length ca), (1, .slice B l.length cb), (5, .int .i64 i)]) (fun _ => []) (fun i => i ≤ l.length) (fun i => l.length - i) 0 (Nat.zero_le _) (by repeat (first | exact Sub.nil | refine Sub.cons rfl ?_)) (keepAll _) ?_
  intro i hi
  by_cases hlt : i < l.length
  · obtain ⟨a, rfl, hHa⟩ := hA.rd (cells_ne pcC5 (by intro h; simp [h] at hlt) (by decide))
    obtain ⟨b, rfl, hHb⟩ := hB.rd (cells_ne pcC5 (by intro h; simp [h] at hlt) (by decide))
    have heq : EqS Try.prog 65 (pcC5.enc l[i]) (pcC5.enc l[i]) true := by
      have := pce_eq l[i] l[i]
      rwa [show decide (l[i] = l[i]) = true by simp] at this
    (repeat' (first | refine Zv tb ?_ | (refine Zt (fun ht => ?_) (fun ht => ?_) <;> (dsimp only [cmpP, cmpN] at ht) <;> (try (exfalso; omega))) | refine Z0 ?_ | refine Zq ?_ | refine Zr ?_ | refine Zk ?_ | refine Zy ?_ | refine Zn ?_ | refine Zj ?_ | refine Ze ?_ | refine Zx ?_ | refine Zqr ?_ | refine Zqs ?_ | refine Zqc ?_ | refine Zqx ?_ | refine Zqf ?_ | refine Zm tb fun b => ?_ | refine Zb fun b => ?_ | refine Zs tb ?_ | refine Zu tb ?_))
    (repeat refine W_seq ?_); refine W_regionD tb [] _ [(0, 0), (1, 0), (2, 0), (3, 1), (4, 0), (5, 0), (6, 0), (7, 1), (8, 0)] (by kernel_rfl) (keepAll _) ?_
    (repeat' (first | refine Zpv tb ?_ | (refine Zpt (fun ht => ?_) (fun ht => ?_) <;> (dsimp only [cmpP, cmpN] at ht) <;> (try (exfalso; omega))) | refine WP_u0 rfl (by first | exact Yl_indexAddr tb i rfl rfl rfl rfl hlt | exact Yl_loadA tb _ rfl rfl (Has.old hHa) (cells_seg pcC5 hlt) rfl | exact Yl_loadA tb _ rfl rfl (Has.old hHb) (cells_seg pcC5 hlt) rfl | exact Yl_neS rfl rfl pce_fi heq) rfl rfl ?_ | refine WP_u1 rfl (by first | exact Yl_indexAddr tb i rfl rfl rfl rfl hlt | exact Yl_loadA tb _ rfl rfl (Has.old hHa) (cells_seg pcC5 hlt) rfl | exact Yl_loadA tb _ rfl rfl (Has.old hHb) (cells_seg pcC5 hlt) rfl | exact Yl_neS rfl rfl pce_fi heq) rfl rfl ?_ | refine Zpw ?_ | refine Zpu tb ?_ | refine Zps tb ?_ | refine Zpk ?_ | refine Zp0 ?_))
    (repeat' (first | refine Zv tb ?_ | (refine Zt (fun ht => ?_) (fun ht => ?_) <;> (dsimp only [cmpP, cmpN] at ht) <;> (try (exfalso; omega))) | refine Z0 ?_ | refine Zq ?_ | refine Zr ?_ | refine Zk ?_ | refine Zy ?_ | refine Zn ?_ | refine Zj ?_ | refine Ze ?_ | refine Zx ?_ | refine Zqr ?_ | refine Zqs ?_ | refine Zqc ?_ | refine Zqx ?_ | refine Zqf ?_ | refine Zm tb fun b => ?_ | refine Zb fun b => ?_ | refine Zs tb ?_ | refine Zu tb ?_))
    exact ⟨i + 1, by omega, by omega, (by repeat (first | exact Sub.nil | refine Sub.cons rfl ?_)), keepAll _⟩
  · (repeat' (first | refine Zv tb ?_ | (refine Zt (fun ht => ?_) (fun ht => ?_) <;> (dsimp only [cmpP, cmpN] at ht) <;> (try (exfalso; omega))) | refine Z0 ?_ | refine Zq ?_ | refine Zr ?_ | refine Zk ?_ | refine Zy ?_ | refine Zn ?_ | refine Zj ?_ | refine Ze ?_ | refine Zx ?_ | refine Zqr ?_ | refine Zqs ?_ | refine Zqc ?_ | refine Zqx ?_ | refine Zqf ?_ | refine Zm tb fun b => ?_ | refine Zb fun b => ?_ | refine Zs tb ?_ | refine Zu tb ?_))
    first | refine ⟨_, [], .tmp rfl .nil, ⟨?_, rfl⟩, _, List.Perm.refl _⟩ | refine ⟨_, _, .tmp rfl .nil, ⟨?_, rfl⟩, _, List.perm_append_comm⟩
    rfl
def adr (A : Option Nat) : Option Addr := A.map fun b => ⟨b, 0, none⟩
def hdq (A : Nat → Option Nat) (n c : Nat → Nat) (m : Nat) : List Value := (List.range m).map fun j => .slice (adr (A j)) (n j) (c j)
theorem hdq_get {A : Nat → Option Nat} {n c : Nat → Nat} {m i : Nat} (h : i < m) : (hdq A n c m)[i * 1]? = some (.slice (adr (A i)) (n i) (c i)) := by simp [hdq, h]
def mkP (i k : Nat) : List Pce := List.replicate k ⟨-1 - (i : Int), 0, 0, 0, 0⟩
theorem mkP_len (i k : Nat) : (mkP i k).length = k := by simp [mkP]
abbrev pcI (V : Option Addr) (n c : Nat) (L : List Pce) : It := .row (.slice V n c) 65 5 n (pcC5.cells L)
def gq (l : List Pce) (j : Nat) : Pce := l.getD j ⟨0, 0, 0, 0, 0⟩
theorem gq_eq {l : List Pce} {j : Nat} (h : j < l.length) : l[j] = gq l j := by simp [gq, h]
theorem gq_ext {l m : List Pce} (hl : l.length = m.length) (h : ∀ j, j < l.length → gq l j = gq m j) : l = m := by
  apply List.ext_getElem hl
  intro j h1 h2
  have := h j h1
  rwa [← gq_eq h1, ← gq_eq h2] at this
theorem gq_set {l : List Pce} {i j : Nat} {x : Pce} (hi : i < l.length) : gq (l.set i x) j = if i = j then x else gq l j := by
  unfold gq
  simp only [List.getD_eq_getElem?_getD, List.getElem?_set]
  split
  · rename_i h; subst h; simp [hi]
  · rfl
theorem gq_mkP {i k j : Nat} (h : j < k) : gq (mkP i k) j = ⟨-1 - (i : Int), 0, 0, 0, 0⟩ := by simp [gq, mkP, h]
theorem adr_some {A : Option Nat} {n : Nat} (h : A = none → n = 0) (hn : 0 < n) : ∃ b, A = some b := by
  cases A with
  | some b => exact ⟨b, rfl⟩
  | none => have := h rfl; omega
theorem keepCq {Γ G' : List It} {x : It} (h : Γ = x :: G') : ∃ R, Γ.Perm (G' ++ R) := ⟨[x], h ▸ List.perm_append_comm (l₁ := [x])⟩
theorem mkP_succ (i k : Nat) : mkP i (k + 1) = mkP i k ++ [⟨-1 - (i : Int), 0, 0, 0, 0⟩] := by unfold mkP; exact List.replicate_succ'
theorem fam_updq {m i : Nat} {f : Nat → It} {x y : It} : fam m (upd (upd f i x) i y) = fam m (upd f i y) := fam_ext fun j _ => by unfold upd; split <;> rfl
abbrev twI (A : Option Nat) (n : Nat) (L : List Pce) (V : Option Addr) (k c : Nat) (L' : List Pce) : It := Sx.twin A (pcC5.cells L) (.slice V k c) 65 5 k (pcC5.cells L')
/-- the lists, each behind its grown one. -/
def lng (A : Nat → Option Nat) (n c : Nat → Nat) (gA : Nat → Option Addr) (gc : Nat → Nat) : Nat → List Value
  | 0 => []
  | i + 1 => lng A n c gA gc i ++ [.slice (gA i) (n i + 40) (gc i), .slice (adr (A i)) (n i) (c i)]
theorem lng_len (A : Nat → Option Nat) (n c : Nat → Nat) (gA : Nat → Option Addr) (gc : Nat → Nat) : ∀ i, (lng A n c gA gc i).length = 2 * i
  | 0 => rfl
  | i + 1 => by rw [lng, List.length_append, lng_len]; simp; omega
theorem lng_get (A : Nat → Option Nat) (n c : Nat → Nat) (gA : Nat → Option Addr) (gc : Nat → Nat) : ∀ (m i : Nat), i < m → (lng A n c gA gc m)[2 * i]? = some (.slice (gA i) (n i + 40) (gc i)) ∧ (lng A n c gA gc m)[2 * i + 1]? = some (.slice (adr (A i)) (n i) (c i))
  | 0, i, h => by omega
  | m + 1, i, h => by
    rw [lng]
    have hl := lng_len A n c gA gc m
    by_cases hi : i < m
    · have := lng_get A n c gA gc m i hi
      rw [List.getElem?_append_left (by omega), List.getElem?_append_left (by omega)]
      exact this
    · obtain rfl : i = m := by omega
      rw [List.getElem?_append_right (by omega), List.getElem?_append_right (by omega), hl, Nat.sub_self, show 2 * i + 1 - 2 * i = 1 by omega]
      exact ⟨rfl, rfl⟩
theorem lng_ext {A : Nat → Option Nat} {n c : Nat → Nat} {gA gA' : Nat → Option Addr} {gc gc' : Nat → Nat} : ∀ {m : Nat}, (∀ i, i < m → gA i = gA' i ∧ gc i = gc' i) → lng A n c gA gc m = lng A n c gA' gc' m
  | 0, _ => rfl
  | m + 1, h => by rw [lng, lng, lng_ext fun i hi => h i (by omega), (h m (by omega)).1, (h m (by omega)).2]
set_option maxHeartbeats 4000000 in
theorem mine_t (RV : Option Addr) (m rc : Nat) (A : Nat → Option Nat) (n c : Nat → Nat) (Z : Nat → List Pce) (w : World) (hm : m ≤ 100000) (hn : ∀ i, i < m → n i ≤ 1000000) (hZ : ∀ i, i < m → (Z i).length = n i) :
    Tr Try.prog 20 #[.slice RV m rc] w (.row (.slice RV m rc) 51 1 m (hdq A n c m) :: fam m fun j => pcI (adr (A j)) (n j) (c j) (Z j)) (fun v Γ => v = .bool true ∧ Γ = []) := by
  refine Tr_intro (rs := [.tmp 2]) (args := [.slice RV m rc]) Try.func20 rfl rfl 90 rfl rfl ?_
  refine W_fact (p := RV = none → m = 0) (fun w hs h => ((hs.row_fact (List.mem_cons_self ..)).1 h).2) fun hRV => ?_
  refine W_fact (p := ∀ i, i < m → A i = none → n i = 0) (fun w hs i hi h => ((hs.row_fact (List.mem_cons_of_mem _ (fam_mem (f := fun j => pcI (adr (A j)) (n j) (c j) (Z j)) hi))).1 (by rw [h]; rfl)).2) fun hAn => ?_
  (repeat' (first | refine Zv tb ?_ | (refine Zt (fun ht => ?_) (fun ht => ?_) <;> (dsimp only [cmpP, cmpN] at ht) <;> (try (exfalso; omega))) | refine Z0 ?_ | refine Zq ?_ | refine Zr ?_ | refine Zk ?_ | refine Zy ?_ | refine Zn ?_ | refine Zj ?_ | refine Ze ?_ | refine Zx ?_ | refine Zqr ?_ | refine Zqs ?_ | refine Zqc ?_ | refine Zqx ?_ | refine Zqf ?_ | refine Zm tb fun b => ?_ | refine Zb fun b => ?_ | refine Zs tb ?_ | refine Zu tb ?_))
  refine W_cutB (σ := Unit) (fun _ => [(0, .slice RV m rc)]) (fun _ => .row (.slice RV m rc) 51 1 m (hdq A n c m) :: fam m fun j => pcI (adr (A j)) (n j) (c j) (mkP j (n j))) (fun _ => True) ?_ ?_
  · refine W_loop (σ := Nat × (Nat → List Pce)) (fun p => [(0, .slice RV m rc), (3, .int .i64 p.1)])
      (fun p => .row (.slice RV m rc) 51 1 m (hdq A n c m) :: fam m fun j => pcI (adr (A j)) (n j) (c j) (p.2 j))
      (fun p => p.1 ≤ m ∧ (∀ j, j < m → (p.2 j).length = n j) ∧ ∀ j, j < p.1 → p.2 j = mkP j (n j)) (fun p => m - p.1) (0, Z) ⟨Nat.zero_le _, hZ, fun j h => by omega⟩ (by repeat (first | exact Sub.nil | refine Sub.cons rfl ?_)) (keepAll _) ?_
    rintro ⟨i, ct⟩ ⟨hi, hlen, hok⟩
    dsimp only at hi hlen hok ⊢
    by_cases him : i < m
    · obtain ⟨ra, rfl⟩ : ∃ v, RV = some v := by cases RV with
        | some v => exact ⟨v, rfl⟩
        | none => have := hRV rfl; omega
      have hv := hdq_get (A := A) (n := n) (c := c) him
      have hni := hn i him
      (repeat' (first | refine Zv tb ?_ | (refine Zt (fun ht => ?_) (fun ht => ?_) <;> (dsimp only [cmpP, cmpN] at ht) <;> (try (exfalso; omega))) | refine Z0 ?_ | refine Zq ?_ | refine Zr ?_ | refine Zk ?_ | refine Zy ?_ | refine Zn ?_ | refine Zj ?_ | refine Ze ?_ | refine Zx ?_ | refine Zqr ?_ | refine Zqs ?_ | refine Zqc ?_ | refine Zqx ?_ | refine Zqf ?_ | refine Zm tb fun b => ?_ | refine Zb fun b => ?_ | refine Zs tb ?_ | refine Zu tb ?_))
      refine W_loop (σ := Nat × List Pce) (fun p => [(0, .slice (some ra) m rc), (3, .int .i64 i), (4, .int .i64 p.1)])
        (fun p => .row (.slice (some ra) m rc) 51 1 m (hdq A n c m) :: fam m (upd (fun j => pcI (adr (A j)) (n j) (c j) (ct j)) i (pcI (adr (A i)) (n i) (c i) p.2)))
        (fun p => p.1 ≤ n i ∧ p.2.length = n i ∧ ∀ j, j < p.1 → gq p.2 j = ⟨-1 - (i : Int), 0, 0, 0, 0⟩) (fun p => n i - p.1) (0, ct i) ⟨Nat.zero_le _, hlen i him, fun j h => by omega⟩ (by repeat (first | exact Sub.nil | refine Sub.cons rfl ?_))
        ⟨[], List.Perm.of_eq (by simp only [List.append_nil]; congr 1; exact fam_ext fun j _ => by unfold upd; split <;> simp_all)⟩ ?_
      rintro ⟨k, Y⟩ ⟨hk, hY, hyk⟩
      dsimp only at hk hY hyk ⊢
      by_cases hkn : k < n i
      · obtain ⟨bA, ha⟩ := adr_some (hAn i him) (by omega)
        have hv' : (hdq A n c m)[i * 1]? = some (.slice (some ⟨bA, 0, none⟩) (n i) (c i)) := by rw [hv, ha]; rfl
        (repeat' (first | refine Zv tb ?_ | (refine Zt (fun ht => ?_) (fun ht => ?_) <;> (dsimp only [cmpP, cmpN] at ht) <;> (try (exfalso; omega))) | refine Z0 ?_ | refine Zq ?_ | refine Zr ?_ | refine Zk ?_ | refine Zy ?_ | refine Zn ?_ | refine Zj ?_ | refine Ze ?_ | refine Zx ?_ | refine Zqr ?_ | refine Zqs ?_ | refine Zqc ?_ | refine Zqx ?_ | refine Zqf ?_ | refine Zm tb fun b => ?_ | refine Zb fun b => ?_ | refine Zs tb ?_ | refine WL_u (by first | exact Yl_indexAddr tb i rfl rfl rfl rfl him | exact Yl_load1 tb rfl rfl (Has.row (by repeat (first | exact List.Mem.head _ | apply List.Mem.tail))) hv' | exact Yl_indexAddr tb k rfl rfl rfl rfl hkn) rfl rfl ?_ | refine Zu tb ?_))
        refine WL_cons rfl (Hv_storeRow tb (k := i + 1) (a := ⟨bA, 0, none⟩) (o := k * 5) (len := n i) (cap := c i) rfl rfl rfl (show (fam m _)[i]? = _ from (fam_get him).trans (by rw [upd_same, ha]; rfl)) rfl (by omega) rfl (cells_put pcC5 (i := k) (by omega) ⟨-1 - (i : Int), 0, 0, 0, 0⟩) rfl ?_)
        (repeat' (first | refine Zv tb ?_ | (refine Zt (fun ht => ?_) (fun ht => ?_) <;> (dsimp only [cmpP, cmpN] at ht) <;> (try (exfalso; omega))) | refine Z0 ?_ | refine Zq ?_ | refine Zr ?_ | refine Zk ?_ | refine Zy ?_ | refine Zn ?_ | refine Zj ?_ | refine Ze ?_ | refine Zx ?_ | refine Zqr ?_ | refine Zqs ?_ | refine Zqc ?_ | refine Zqx ?_ | refine Zqf ?_ | refine Zm tb fun b => ?_ | refine Zb fun b => ?_ | refine Zs tb ?_ | refine Zu tb ?_))
        refine ⟨(k + 1, Y.set k ⟨-1 - (i : Int), 0, 0, 0, 0⟩), ⟨by dsimp only; omega, by simp [hY], fun j hj => ?_⟩, by dsimp only; omega, (by repeat (first | exact Sub.nil | refine Sub.cons rfl ?_)), [], List.Perm.of_eq ?_⟩
        · dsimp only at hj ⊢
          rw [gq_set (by omega)]
          by_cases hkj : k = j
          · subst hkj; simp
          · rw [if_neg hkj]; exact hyk j (by omega)
        · show _ :: ((fam m _).set i _) = _
          rw [fam_set, fam_updq, List.append_nil, ha]
          rfl
      · (repeat' (first | refine Zv tb ?_ | (refine Zt (fun ht => ?_) (fun ht => ?_) <;> (dsimp only [cmpP, cmpN] at ht) <;> (try (exfalso; omega))) | refine Z0 ?_ | refine Zq ?_ | refine Zr ?_ | refine Zk ?_ | refine Zy ?_ | refine Zn ?_ | refine Zj ?_ | refine Ze ?_ | refine Zx ?_ | refine Zqr ?_ | refine Zqs ?_ | refine Zqc ?_ | refine Zqx ?_ | refine Zqf ?_ | refine Zm tb fun b => ?_ | refine Zb fun b => ?_ | refine Zs tb ?_ | refine WL_u (by first | exact Yl_indexAddr tb i rfl rfl rfl rfl him | exact Yl_load1 tb rfl rfl (Has.row (by repeat (first | exact List.Mem.head _ | apply List.Mem.tail))) hv) rfl rfl ?_ | refine Zu tb ?_))
        have hYm : Y = mkP i (n i) := gq_ext (by rw [hY, mkP_len]) fun j hj => by rw [hyk j (by omega), gq_mkP (by omega)]
        refine ⟨(i + 1, upd ct i Y), ⟨by dsimp only; omega, fun j hj => ?_, fun j hj => ?_⟩, by dsimp only; omega, (by repeat (first | exact Sub.nil | refine Sub.cons rfl ?_)), [], List.Perm.of_eq ?_⟩
        · dsimp only; unfold upd; split
          · rename_i h; rw [h]; exact hY
          · exact hlen j hj
        · dsimp only at hj ⊢; unfold upd; split
          · rename_i h; rw [h]; exact hYm
          · exact hok j (by omega)
        · rw [List.append_nil]; congr 1; exact fam_ext fun j _ => by dsimp only; unfold upd; split <;> simp_all
    · (repeat' (first | refine Zv tb ?_ | (refine Zt (fun ht => ?_) (fun ht => ?_) <;> (dsimp only [cmpP, cmpN] at ht) <;> (try (exfalso; omega))) | refine Z0 ?_ | refine Zq ?_ | refine Zr ?_ | refine Zk ?_ | refine Zy ?_ | refine Zn ?_ | refine Zj ?_ | refine Ze ?_ | refine Zx ?_ | refine Zqr ?_ | refine Zqs ?_ | refine Zqc ?_ | refine Zqx ?_ | refine Zqf ?_ | refine Zm tb fun b => ?_ | refine Zb fun b => ?_ | refine Zs tb ?_ | refine Zu tb ?_))
      refine ⟨(), trivial, (by repeat (first | exact Sub.nil | refine Sub.cons rfl ?_)), [], List.Perm.of_eq ?_⟩
      rw [List.append_nil]
      congr 1
      exact fam_ext fun j hj => by rw [hok j (by omega)]
  intro _ _
  refine W_nilrow 51 1 ?_
  (repeat' (first | refine Zv tb ?_ | (refine Zt (fun ht => ?_) (fun ht => ?_) <;> (dsimp only [cmpP, cmpN] at ht) <;> (try (exfalso; omega))) | refine Z0 ?_ | refine Zq ?_ | refine Zr ?_ | refine Zk ?_ | refine Zy ?_ | refine Zn ?_ | refine Zj ?_ | refine Ze ?_ | refine Zx ?_ | refine Zqr ?_ | refine Zqs ?_ | refine Zqc ?_ | refine Zqx ?_ | refine Zqf ?_ | refine Zm tb fun b => ?_ | refine Zb fun b => ?_ | refine Zs tb ?_ | refine Zu tb ?_))
  refine W_cutB (σ := Option Addr × Nat × (Nat → Option Addr) × (Nat → Nat)) (fun | (LV, lc, gA, gc) => [(0, .slice RV m rc), (5, .slice LV (2 * m) lc)])
    (fun | (LV, lc, gA, gc) => .row (.slice LV (2 * m) lc) 51 1 (2 * m) (lng A n c gA gc m) :: fam m fun j => twI (A j) (n j) (mkP j (n j)) (gA j) (n j + 40) (gc j) (mkP j (n j + 40))) (fun _ => True) ?_ ?_
  · refine W_loop (σ := Nat × Option Addr × Nat × (Nat → Option Addr) × (Nat → Nat)) (fun | (i, LV, lc, gA, gc) => [(0, .slice RV m rc), (5, .slice LV (2 * i) lc), (6, .int .i64 i)])
      (fun | (i, LV, lc, gA, gc) => .row (.slice LV (2 * i) lc) 51 1 (2 * i) (lng A n c gA gc i) :: .row (.slice RV m rc) 51 1 m (hdq A n c m) ::
        fam m fun j => if j < i then twI (A j) (n j) (mkP j (n j)) (gA j) (n j + 40) (gc j) (mkP j (n j + 40)) else pcI (adr (A j)) (n j) (c j) (mkP j (n j)))
      (fun | (i, _) => i ≤ m) (fun | (i, _) => m - i) (0, none, 0, fun _ => none, fun _ => 0) (Nat.zero_le _) (by repeat (first | exact Sub.nil | refine Sub.cons rfl ?_)) ⟨[], List.Perm.of_eq (by simp [lng])⟩ ?_
    rintro ⟨i, LV, lc, gA, gc⟩ hi
    dsimp only at hi ⊢
    by_cases him : i < m
    · obtain ⟨ra, rfl⟩ : ∃ v, RV = some v := by cases RV with
        | some v => exact ⟨v, rfl⟩
        | none => have := hRV rfl; omega
      have hv := hdq_get (A := A) (n := n) (c := c) him
      have hni := hn i him
      (repeat' (first | refine Zv tb ?_ | (refine Zt (fun ht => ?_) (fun ht => ?_) <;> (dsimp only [cmpP, cmpN] at ht) <;> (try (exfalso; omega))) | refine Z0 ?_ | refine Zq ?_ | refine Zr ?_ | refine Zk ?_ | refine Zy ?_ | refine Zn ?_ | refine Zj ?_ | refine Ze ?_ | refine Zx ?_ | refine Zqr ?_ | refine Zqs ?_ | refine Zqc ?_ | refine Zqx ?_ | refine Zqf ?_ | refine Zm tb fun b => ?_ | refine Zb fun b => ?_ | refine Zs tb ?_ | refine WL_u (by first | exact Yl_indexAddr tb i rfl rfl rfl rfl him | exact Yl_load1 tb rfl rfl (Has.row (by repeat (first | exact List.Mem.head _ | apply List.Mem.tail))) hv) rfl rfl ?_ | refine Zu tb ?_))
      refine W_twin (A := A i) (t := 65) (sz := 5) (m := n i) (c := c i) (cs := pcC5.cells (mkP i (n i))) (i + 2) (show (fam m _)[i]? = _ from (fam_get him).trans (by rw [if_neg (Nat.lt_irrefl _)]; rfl)) ?_
      refine W_cutB (σ := Option Addr × Nat) (fun | (B, bc) => [(0, .slice (some ra) m rc), (5, .slice LV (2 * i) lc), (6, .int .i64 i), (7, .slice B (n i + 40) bc)])
        (fun | (B, bc) => .row (.slice LV (2 * i) lc) 51 1 (2 * i) (lng A n c gA gc i) :: .row (.slice (some ra) m rc) 51 1 m (hdq A n c m) ::
          fam m (upd (fun j => if j < i then twI (A j) (n j) (mkP j (n j)) (gA j) (n j + 40) (gc j) (mkP j (n j + 40)) else pcI (adr (A j)) (n j) (c j) (mkP j (n j))) i (twI (A i) (n i) (mkP i (n i)) B (n i + 40) bc (mkP i (n i + 40))))) (fun _ => True) ?_ ?_
      · refine W_loop (σ := Nat × Option Addr × Nat) (fun | (k, B, bc) => [(0, .slice (some ra) m rc), (5, .slice LV (2 * i) lc), (6, .int .i64 i), (7, .slice B (n i + k) bc), (8, .int .i64 k)])
          (fun | (k, B, bc) => .row (.slice LV (2 * i) lc) 51 1 (2 * i) (lng A n c gA gc i) :: .row (.slice (some ra) m rc) 51 1 m (hdq A n c m) ::
            fam m (upd (fun j => if j < i then twI (A j) (n j) (mkP j (n j)) (gA j) (n j + 40) (gc j) (mkP j (n j + 40)) else pcI (adr (A j)) (n j) (c j) (mkP j (n j))) i (twI (A i) (n i) (mkP i (n i)) B (n i + k) bc (mkP i (n i + k))))) (fun | (k, _) => k ≤ 40) (fun | (k, _) => 40 - k) (0, adr (A i), c i) (by dsimp only; omega) (by repeat (first | exact Sub.nil | refine Sub.cons rfl ?_)) ⟨[], List.Perm.of_eq ?_⟩ ?_
        · show _ :: _ :: ((fam m _).set i _) = _
          rw [fam_set, List.append_nil]; rfl
        rintro ⟨k, B, bc⟩ hk
        dsimp only at hk ⊢
        by_cases hk40 : k < 40
        · (repeat' (first | refine Zv tb ?_ | (refine Zt (fun ht => ?_) (fun ht => ?_) <;> (dsimp only [cmpP, cmpN] at ht) <;> (try (exfalso; omega))) | refine Z0 ?_ | refine Zq ?_ | refine Zr ?_ | refine Zk ?_ | refine Zy ?_ | refine Zn ?_ | refine Zj ?_ | refine Ze ?_ | refine Zx ?_ | refine Zqr ?_ | refine Zqs ?_ | refine Zqc ?_ | refine Zqx ?_ | refine Zqf ?_ | refine Zm tb fun b => ?_ | refine Zb fun b => ?_ | refine Zs tb ?_ | refine Zu tb ?_))
          refine WL_cons rfl (Hv_buildSlice tb rfl rfl rfl (by decide) rfl rfl rfl rfl fun q => ?_)
          (repeat' (first | refine Zv tb ?_ | (refine Zt (fun ht => ?_) (fun ht => ?_) <;> (dsimp only [cmpP, cmpN] at ht) <;> (try (exfalso; omega))) | refine Z0 ?_ | refine Zq ?_ | refine Zr ?_ | refine Zk ?_ | refine Zy ?_ | refine Zn ?_ | refine Zj ?_ | refine Ze ?_ | refine Zx ?_ | refine Zqr ?_ | refine Zqs ?_ | refine Zqc ?_ | refine Zqx ?_ | refine Zqf ?_ | refine Zm tb fun b => ?_ | refine Zb fun b => ?_ | refine Zs tb ?_ | refine Zu tb ?_))
          refine WL_cons rfl (Hv_appendT tb (k := i + 3) (m := 1) rfl rfl rfl rfl rfl (by decide) (show (fam m _)[i]? = _ from (fam_get him).trans (by rw [upd_same])) (Has.row (List.mem_cons_self ..)) rfl rfl (by omega) (by omega) rfl fun V' c' hV' => ?_)
          (repeat' (first | refine Zv tb ?_ | (refine Zt (fun ht => ?_) (fun ht => ?_) <;> (dsimp only [cmpP, cmpN] at ht) <;> (try (exfalso; omega))) | refine Z0 ?_ | refine Zq ?_ | refine Zr ?_ | refine Zk ?_ | refine Zy ?_ | refine Zn ?_ | refine Zj ?_ | refine Ze ?_ | refine Zx ?_ | refine Zqr ?_ | refine Zqs ?_ | refine Zqc ?_ | refine Zqx ?_ | refine Zqf ?_ | refine Zm tb fun b => ?_ | refine Zb fun b => ?_ | refine Zs tb ?_ | refine Zu tb ?_))
          refine ⟨(k + 1, V', c'), by dsimp only; omega, by dsimp only; omega, (by repeat (first | exact Sub.nil | refine Sub.cons rfl ?_)), keepCq (x := ?_) ?_⟩
          rotate_left
          show _ :: _ :: _ :: ((fam m _).set i _) = _
          rw [fam_set, fam_updq]
          dsimp only
          rw [show n i + (k + 1) = (n i + k) + 1 from rfl, mkP_succ]
          unfold twI
          rw [cells_append, cells_one]
          rfl
        · obtain rfl : k = 40 := by omega
          (repeat' (first | refine Zv tb ?_ | (refine Zt (fun ht => ?_) (fun ht => ?_) <;> (dsimp only [cmpP, cmpN] at ht) <;> (try (exfalso; omega))) | refine Z0 ?_ | refine Zq ?_ | refine Zr ?_ | refine Zk ?_ | refine Zy ?_ | refine Zn ?_ | refine Zj ?_ | refine Ze ?_ | refine Zx ?_ | refine Zqr ?_ | refine Zqs ?_ | refine Zqc ?_ | refine Zqx ?_ | refine Zqf ?_ | refine Zm tb fun b => ?_ | refine Zb fun b => ?_ | refine Zs tb ?_ | refine Zu tb ?_))
          exact ⟨(B, bc), trivial, (by repeat (first | exact Sub.nil | refine Sub.cons rfl ?_)), keepAll _⟩
      rintro ⟨B, bc⟩ -
      (repeat' (first | refine Zv tb ?_ | (refine Zt (fun ht => ?_) (fun ht => ?_) <;> (dsimp only [cmpP, cmpN] at ht) <;> (try (exfalso; omega))) | refine Z0 ?_ | refine Zq ?_ | refine Zr ?_ | refine Zk ?_ | refine Zy ?_ | refine Zn ?_ | refine Zj ?_ | refine Ze ?_ | refine Zx ?_ | refine Zqr ?_ | refine Zqs ?_ | refine Zqc ?_ | refine Zqx ?_ | refine Zqf ?_ | refine Zm tb fun b => ?_ | refine Zb fun b => ?_ | refine Zs tb ?_ | refine WL_u (by first | exact Yl_indexAddr tb i rfl rfl rfl rfl him | exact Yl_load1 tb rfl rfl (Has.row (by repeat (first | exact List.Mem.head _ | apply List.Mem.tail))) hv) rfl rfl ?_ | refine Zu tb ?_))
      refine WL_cons rfl (Hv_buildSlice tb rfl rfl rfl (by decide) rfl rfl rfl rfl fun q => ?_)
      (repeat' (first | refine Zv tb ?_ | (refine Zt (fun ht => ?_) (fun ht => ?_) <;> (dsimp only [cmpP, cmpN] at ht) <;> (try (exfalso; omega))) | refine Z0 ?_ | refine Zq ?_ | refine Zr ?_ | refine Zk ?_ | refine Zy ?_ | refine Zn ?_ | refine Zj ?_ | refine Ze ?_ | refine Zx ?_ | refine Zqr ?_ | refine Zqs ?_ | refine Zqc ?_ | refine Zqx ?_ | refine Zqf ?_ | refine Zm tb fun b => ?_ | refine Zb fun b => ?_ | refine Zs tb ?_ | refine Zu tb ?_))
      refine WL_cons rfl (Hv_append tb (k := 1) (m := 2) rfl rfl rfl rfl rfl (by decide) rfl (Has.row (List.mem_cons_self ..)) rfl rfl (by omega) (by omega) rfl fun V' c' hV' => ?_)
      (repeat' (first | refine Zv tb ?_ | (refine Zt (fun ht => ?_) (fun ht => ?_) <;> (dsimp only [cmpP, cmpN] at ht) <;> (try (exfalso; omega))) | refine Z0 ?_ | refine Zq ?_ | refine Zr ?_ | refine Zk ?_ | refine Zy ?_ | refine Zn ?_ | refine Zj ?_ | refine Ze ?_ | refine Zx ?_ | refine Zqr ?_ | refine Zqs ?_ | refine Zqc ?_ | refine Zqx ?_ | refine Zqf ?_ | refine Zm tb fun b => ?_ | refine Zb fun b => ?_ | refine Zs tb ?_ | refine Zu tb ?_))
      refine ⟨(i + 1, V', c', upd gA i B, upd gc i bc), by dsimp only; omega, by dsimp only; omega, (by repeat (first | exact Sub.nil | refine Sub.cons rfl ?_)), keepCq (x := ?_) ?_⟩
      rotate_left
      dsimp only
      rw [lng, upd_same, upd_same, lng_ext (gA := upd gA i B) (gA' := gA) (gc := upd gc i bc) (gc' := gc) fun j hj => ⟨upd_other _ _ (by omega), upd_other _ _ (by omega)⟩]
      rw [show (fam m fun j => if j < i + 1 then twI (A j) (n j) (mkP j (n j)) (upd gA i B j) (n j + 40) (upd gc i bc j) (mkP j (n j + 40)) else pcI (adr (A j)) (n j) (c j) (mkP j (n j))) = fam m (upd (fun j => if j < i then twI (A j) (n j) (mkP j (n j)) (gA j) (n j + 40) (gc j) (mkP j (n j + 40)) else pcI (adr (A j)) (n j) (c j) (mkP j (n j))) i (twI (A i) (n i) (mkP i (n i)) B (n i + 40) bc (mkP i (n i + 40)))) from fam_ext fun j _ => by
        by_cases h : j = i
        · subst h; rw [if_pos (Nat.lt_succ_self _), upd_same, upd_same, upd_same]
        · rw [upd_other _ _ h, upd_other _ _ h, upd_other _ _ h]
          by_cases h2 : j < i
          · rw [if_pos (by omega), if_pos h2]
          · rw [if_neg (by omega), if_neg h2]]
      rfl
    · obtain rfl : i = m := by omega
      (repeat' (first | refine Zv tb ?_ | (refine Zt (fun ht => ?_) (fun ht => ?_) <;> (dsimp only [cmpP, cmpN] at ht) <;> (try (exfalso; omega))) | refine Z0 ?_ | refine Zq ?_ | refine Zr ?_ | refine Zk ?_ | refine Zy ?_ | refine Zn ?_ | refine Zj ?_ | refine Ze ?_ | refine Zx ?_ | refine Zqr ?_ | refine Zqs ?_ | refine Zqc ?_ | refine Zqx ?_ | refine Zqf ?_ | refine Zm tb fun b => ?_ | refine Zb fun b => ?_ | refine Zs tb ?_ | refine Zu tb ?_))
      refine ⟨(LV, lc, gA, gc), trivial, (by repeat (first | exact Sub.nil | refine Sub.cons rfl ?_)), ?_⟩
      dsimp only
      rw [show (fam i fun j => if j < i then twI (A j) (n j) (mkP j (n j)) (gA j) (n j + 40) (gc j) (mkP j (n j + 40)) else pcI (adr (A j)) (n j) (c j) (mkP j (n j))) = fam i fun j => twI (A j) (n j) (mkP j (n j)) (gA j) (n j + 40) (gc j) (mkP j (n j + 40)) from fam_ext fun j hj => if_pos hj]
      exact ⟨_, List.Perm.cons _ (List.perm_append_comm (l₁ := [_]))⟩
  rintro ⟨LV, lc, gA, gc⟩ -
  dsimp only
  refine W_fact (p := LV = none → 2 * m = 0) (fun w hs h => ((hs.row_fact (List.mem_cons_self ..)).1 h).2) fun hLV => ?_
  refine W_fact (p := ∀ j, j < m → gA j ≠ none) (fun w hs j hj h => by
    have h1 := fam_mem (f := fun j => twI (A j) (n j) (mkP j (n j)) (gA j) (n j + 40) (gc j) (mkP j (n j + 40))) hj
    have h2 : Sx.TwOk (A j) (pcC5.cells (mkP j (n j))) (.slice (gA j) (n j + 40) (gc j)) 65 5 (n j + 40) (pcC5.cells (mkP j (n j + 40))) w := hs.ok _ (List.mem_cons_of_mem _ h1)
    rcases h2.row.2 with ⟨_, h3⟩ | ⟨gg, cap, cur, h3, _⟩
    · omega
    · rw [h] at h3; cases h3) fun hgA => ?_
  (repeat' (first | refine Zv tb ?_ | (refine Zt (fun ht => ?_) (fun ht => ?_) <;> (dsimp only [cmpP, cmpN] at ht) <;> (try (exfalso; omega))) | refine Z0 ?_ | refine Zq ?_ | refine Zr ?_ | refine Zk ?_ | refine Zy ?_ | refine Zn ?_ | refine Zj ?_ | refine Ze ?_ | refine Zx ?_ | refine Zqr ?_ | refine Zqs ?_ | refine Zqc ?_ | refine Zqx ?_ | refine Zqf ?_ | refine Zm tb fun b => ?_ | refine Zb fun b => ?_ | refine Zs tb ?_ | refine Zu tb ?_))
  refine W_loop (σ := Nat) (fun r => [(5, .slice LV (2 * m) lc), (9, .int .i64 r)]) (fun r => .row (.slice LV (2 * m) lc) 51 1 (2 * m) (lng A n c gA gc m) :: fam m fun j => twI (A j) (n j) (mkP j (n j)) (gA j) (n j + 40) (gc j) (mkP j (n j + 40))) (fun r => r ≤ 2 * m) (fun r => 2 * m - r) 0 (Nat.zero_le _) (by repeat (first | exact Sub.nil | refine Sub.cons rfl ?_)) (keepAll _) ?_
  intro r hr
  by_cases hlt : r < 2 * m
  · obtain ⟨lv, rfl⟩ : ∃ v, LV = some v := by cases LV with
      | some v => exact ⟨v, rfl⟩
      | none => have := hLV rfl; omega
    have hi : r / 2 < m := by omega
    have hni := hn (r / 2) hi
    have hmem : ∀ x : It, twI (A (r / 2)) (n (r / 2)) (mkP (r / 2) (n (r / 2))) (gA (r / 2)) (n (r / 2) + 40) (gc (r / 2)) (mkP (r / 2) (n (r / 2) + 40)) ∈ x :: fam m fun j => twI (A j) (n j) (mkP j (n j)) (gA j) (n j + 40) (gc j) (mkP j (n j + 40)) := fun x => List.mem_cons_of_mem _ (fam_mem (f := fun j => twI (A j) (n j) (mkP j (n j)) (gA j) (n j + 40) (gc j) (mkP j (n j + 40))) hi)
    have key : ∃ (V : Option Addr) (K cc : Nat), (lng A n c gA gc m)[r * 1]? = some (.slice V K cc) ∧ K ≤ 1000040 ∧ (0 < K → ∃ a, V = some a ∧ ∀ (w0 : World) (X : List Nat) (x : It), Has w0 X (x :: fam m fun j => twI (A j) (n j) (mkP j (n j)) (gA j) (n j + 40) (gc j) (mkP j (n j + 40))) a (pcC5.cells (mkP (r / 2) K))) := by
      obtain ⟨g1, g2⟩ := lng_get A n c gA gc m (r / 2) hi
      rw [Nat.mul_one]
      by_cases hp : r % 2 = 0
      · rw [show r = 2 * (r / 2) by omega]
        rw [show 2 * (r / 2) / 2 = r / 2 by omega]
        refine ⟨_, _, _, g1, by omega, fun _ => ?_⟩
        obtain ⟨a, ha⟩ : ∃ v, gA (r / 2) = some v := by
          cases h : gA (r / 2) with
          | some v => exact ⟨v, rfl⟩
          | none => exact absurd h (hgA _ hi)
        refine ⟨a, ha, fun w0 X x => ?_⟩
        have := hmem x
        unfold twI at this
        rw [ha] at this
        exact Has.twNew this
      · have e : (lng A n c gA gc m)[r]? = some (.slice (adr (A (r / 2))) (n (r / 2)) (c (r / 2))) := by rw [← g2]; congr 1; omega
        refine ⟨_, _, _, e, by omega, fun h0 => ?_⟩
        obtain ⟨b, hb⟩ := adr_some (hAn (r / 2) hi) h0
        refine ⟨⟨b, 0, none⟩, by rw [hb]; rfl, fun w0 X x => ?_⟩
        have := hmem x
        unfold twI at this
        rw [hb] at this
        exact Has.twOld this
    obtain ⟨V, K, cc, hv, hK, hV⟩ := key
    (repeat' (first | refine Zv tb ?_ | (refine Zt (fun ht => ?_) (fun ht => ?_) <;> (dsimp only [cmpP, cmpN] at ht) <;> (try (exfalso; omega))) | refine Z0 ?_ | refine Zq ?_ | refine Zr ?_ | refine Zk ?_ | refine Zy ?_ | refine Zn ?_ | refine Zj ?_ | refine Ze ?_ | refine Zx ?_ | refine Zqr ?_ | refine Zqs ?_ | refine Zqc ?_ | refine Zqx ?_ | refine Zqf ?_ | refine Zm tb fun b => ?_ | refine Zb fun b => ?_ | refine Zs tb ?_ | refine Zu tb ?_))
    refine W_loop (σ := Nat) (fun k => [(5, .slice (some lv) (2 * m) lc), (9, .int .i64 r), (10, .int .i64 k)]) (fun _ => .row (.slice (some lv) (2 * m) lc) 51 1 (2 * m) (lng A n c gA gc m) :: fam m fun j => twI (A j) (n j) (mkP j (n j)) (gA j) (n j + 40) (gc j) (mkP j (n j + 40))) (fun k => k ≤ K) (fun k => K - k) 0 (Nat.zero_le _) (by repeat (first | exact Sub.nil | refine Sub.cons rfl ?_)) (keepAll _) ?_
    intro k hk
    by_cases hkK : k < K
    · obtain ⟨a, rfl, hH⟩ := hV (by omega)
      have hkl : k < (mkP (r / 2) K).length := by rw [mkP_len]; exact hkK
      have hx : (mkP (r / 2) K)[k] = ⟨-1 - ((r : Int) / 2), 0, 0, 0, 0⟩ := by rw [gq_eq hkl, gq_mkP hkK]; congr 1
      have heq : EqS Try.prog 65 (pcC5.enc (mkP (r / 2) K)[k]) (pcC5.enc ⟨-1 - ((r : Int) / 2), 0, 0, 0, 0⟩) true := by
        have := pce_eq (mkP (r / 2) K)[k] ⟨-1 - ((r : Int) / 2), 0, 0, 0, 0⟩
        rwa [show decide ((mkP (r / 2) K)[k] = ⟨-1 - ((r : Int) / 2), 0, 0, 0, 0⟩) = true by simp [hx]] at this
      (repeat' (first | refine Zv tb ?_ | (refine Zt (fun ht => ?_) (fun ht => ?_) <;> (dsimp only [cmpP, cmpN] at ht) <;> (try (exfalso; omega))) | refine Z0 ?_ | refine Zq ?_ | refine Zr ?_ | refine Zk ?_ | refine Zy ?_ | refine Zn ?_ | refine Zj ?_ | refine Ze ?_ | refine Zx ?_ | refine Zqr ?_ | refine Zqs ?_ | refine Zqc ?_ | refine Zqx ?_ | refine Zqf ?_ | refine Zm tb fun b => ?_ | refine Zb fun b => ?_ | refine Zs tb ?_ | refine WL_u (by first | exact Yl_indexAddr tb r rfl rfl rfl rfl hlt | exact Yl_load1 tb rfl rfl (Has.row (List.mem_cons_self ..)) hv | exact Yl_indexAddr tb k rfl rfl rfl rfl hkK | exact Yl_loadA tb _ rfl rfl (hH _ _ _) (cells_seg pcC5 hkl) rfl | exact Yl_quo rfl rfl (by omega) (by omega) (wrap_i64 (by omega) (by omega)) | exact Yl_neS rfl rfl pce_fi heq) rfl rfl ?_ | refine Zu tb ?_))
      exact ⟨k + 1, by omega, by omega, (by repeat (first | exact Sub.nil | refine Sub.cons rfl ?_)), keepAll _⟩
    · (repeat' (first | refine Zv tb ?_ | (refine Zt (fun ht => ?_) (fun ht => ?_) <;> (dsimp only [cmpP, cmpN] at ht) <;> (try (exfalso; omega))) | refine Z0 ?_ | refine Zq ?_ | refine Zr ?_ | refine Zk ?_ | refine Zy ?_ | refine Zn ?_ | refine Zj ?_ | refine Ze ?_ | refine Zx ?_ | refine Zqr ?_ | refine Zqs ?_ | refine Zqc ?_ | refine Zqx ?_ | refine Zqf ?_ | refine Zm tb fun b => ?_ | refine Zb fun b => ?_ | refine Zs tb ?_ | refine WL_u (by first | exact Yl_indexAddr tb r rfl rfl rfl rfl hlt | exact Yl_load1 tb rfl rfl (Has.row (List.mem_cons_self ..)) hv) rfl rfl ?_ | refine Zu tb ?_))
      exact ⟨r + 1, by omega, by omega, (by repeat (first | exact Sub.nil | refine Sub.cons rfl ?_)), keepAll _⟩
  · (repeat' (first | refine Zv tb ?_ | (refine Zt (fun ht => ?_) (fun ht => ?_) <;> (dsimp only [cmpP, cmpN] at ht) <;> (try (exfalso; omega))) | refine Z0 ?_ | refine Zq ?_ | refine Zr ?_ | refine Zk ?_ | refine Zy ?_ | refine Zn ?_ | refine Zj ?_ | refine Ze ?_ | refine Zx ?_ | refine Zqr ?_ | refine Zqs ?_ | refine Zqc ?_ | refine Zqx ?_ | refine Zqf ?_ | refine Zm tb fun b => ?_ | refine Zb fun b => ?_ | refine Zs tb ?_ | refine Zu tb ?_))
    exact ⟨_, [], .tmp rfl .nil, ⟨rfl, rfl⟩, _, List.Perm.refl _⟩
end Go.Proofs.Ytdnngagahhleiaa
