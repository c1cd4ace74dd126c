/- a World's end: all that came out is as it was told, and its owner's. -/
import Derived.Test.YtdnngagahhleiaaB28
namespace Go.Proofs.Ytdnngagahhleiaa
open Go.Sx
attribute [local irreducible] W WL WP Hv Yl WQ At QP QF Rnd
set_option maxRecDepth 10000
set_option linter.unusedVariables false
set_option linter.unusedSimpArgs false
def mkPS (i k : Nat) : List Sp := List.replicate k (-1 - (i : Int), 0)
theorem mkP_lenS (i k : Nat) : (mkPS i k).length = k := by simp [mkPS]
abbrev pcIS (V : Option Addr) (n c : Nat) (L : List Sp) : It := .row (.slice V n c) 61 2 n (spC.cells L)
def gqS (l : List Sp) (j : Nat) : Sp := l.getD j (0, 0)
theorem gq_eqS {l : List Sp} {j : Nat} (h : j < l.length) : l[j] = gqS l j := by simp [gqS, h]
theorem gq_extS {l m : List Sp} (hl : l.length = m.length) (h : ∀ j, j < l.length → gqS l j = gqS m j) : l = m := by
  apply List.ext_getElem hl
  intro j h1 h2
  have := h j h1
  rwa [← gq_eqS h1, ← gq_eqS h2] at this
theorem gq_setS {l : List Sp} {i j : Nat} {x : Sp} (hi : i < l.length) : gqS (l.set i x) j = if i = j then x else gqS l j := by
  unfold gqS
  simp only [List.getD_eq_getElem?_getD, List.getElem?_set]
  split
  · rename_i h; subst h; simp [hi]
  · rfl
theorem gq_mkPS {i k j : Nat} (h : j < k) : gqS (mkPS i k) j = (-1 - (i : Int), 0) := by simp [gqS, mkPS, h]
theorem mkP_succS (i k : Nat) : mkPS i (k + 1) = mkPS i k ++ [(-1 - (i : Int), 0)] := by unfold mkPS; exact List.replicate_succ'
abbrev twIS (A : Option Nat) (n : Nat) (L : List Sp) (V : Option Addr) (k c : Nat) (L' : List Sp) : It := Sx.twin A (spC.cells L) (.slice V k c) 61 2 k (spC.cells L')
theorem perm_own {a b c d e : It} {P Q : List It} : (a :: b :: c :: d :: e :: (P ++ Q)).Perm ((b :: P) ++ (a :: c :: d :: e :: Q)) := by
  have h1 : ∀ (x : It) (Q : List It), (x :: (P ++ Q)).Perm (P ++ x :: Q) := fun x Q => List.perm_middle.symm
  refine (List.Perm.swap b a _).trans (List.Perm.cons b ?_)
  exact ((((h1 e Q).cons d).cons c).cons a).trans ((((h1 d (e :: Q)).cons c).cons a).trans (((h1 c (d :: e :: Q)).cons a).trans (h1 a (c :: d :: e :: Q))))
theorem perm_own2 {a c d e : It} {P Q : List It} : (a :: c :: d :: e :: (P ++ Q)).Perm ((a :: d :: P) ++ (c :: e :: Q)) := by
  have h1 : ∀ (x : It) (Q : List It), (x :: (P ++ Q)).Perm (P ++ x :: Q) := fun x Q => List.perm_middle.symm
  refine List.Perm.cons a ((List.Perm.swap d c _).trans (List.Perm.cons d ?_))
  exact ((h1 e Q).cons c).trans (h1 c (e :: Q))
theorem wnt_get {Z : Nat → List Int} {m i : Nat} (h : i < m) : (wnt Z m)[i * 1]? = some (.string (strOfNums (Z (i / 2)))) := by simp [wnt, h]
set_option maxHeartbeats 8000000 in
theorem wends_t (bw N : Nat) (e0 e1 e2 e3 : Value) (s : Sst) (w : World) (hs0 : s.Ok N) (hN : N ≤ 3000000) :
    Tr Try.prog 31 #[.pointer (some ⟨bw, 0, none⟩)] w
      (.blk bw [e0, e1, e2, e3, .slice s.RV (2 * s.p1) s.rc, .slice s.WV (2 * s.p1) s.wc, .slice s.SV (2 * s.p2) s.sc, .slice s.AV (2 * s.p2) s.ac] 85 :: s.rowR :: s.rowW :: s.rowS :: s.rowA :: s.T) (fun v Γ => v = .bool true ∧ Γ = []) := by
  obtain ⟨V4, V5, RV, V7, k4, k5, rc, k7, p1, p2, A1, A, A3, c1, c, c3, Z1, Y⟩ := s
  obtain ⟨hp1, hp2, hz, hy⟩ := hs0
  dsimp only at hp1 hp2 hz hy
  obtain ⟨m, hm0⟩ : ∃ m, m = 2 * p2 := ⟨_, rfl⟩
  obtain ⟨FR, hFR⟩ : ∃ FR, FR = fam (2 * p1) fun j => byI (adr (A1 j)) (Z1 (j / 2)).length (c1 j) (Z1 (j / 2)) := ⟨_, rfl⟩
  obtain ⟨FS, hFS⟩ : ∃ FS, FS = fam m fun j => spI (adr (A j)) (Y (j / 2)).length (c j) (Y (j / 2)) := ⟨_, rfl⟩
  obtain ⟨FA, hFA⟩ : ∃ FA, FA = fam p2 fun i => spI (adr (A3 i)) (Y i).length (c3 i) (Y i) := ⟨_, rfl⟩
  obtain ⟨x4, hx4⟩ : ∃ x4, x4 = Value.slice V4 (2 * p1) k4 := ⟨_, rfl⟩
  obtain ⟨x5, hx5⟩ : ∃ x5, x5 = Value.slice V5 (2 * p1) k5 := ⟨_, rfl⟩
  obtain ⟨x7, hx7⟩ : ∃ x7, x7 = Value.slice V7 m k7 := ⟨_, rfl⟩
  have hall : (Sst.T ⟨V4, V5, RV, V7, k4, k5, rc, k7, p1, p2, A1, A, A3, c1, c, c3, Z1, Y⟩) = FR ++ (FS ++ FA) := by rw [hFR, hFS, hFA, hm0]; rfl
  rw [hall]
  show Tr _ _ _ w (.blk bw [e0, e1, e2, e3, .slice V4 (2 * p1) k4, .slice V5 (2 * p1) k5, .slice RV (2 * p2) rc, .slice V7 (2 * p2) k7] 85 :: .row (.slice V4 (2 * p1) k4) 26 1 (2 * p1) (hdq A1 (fun j => (Z1 (j / 2)).length) c1 (2 * p1)) :: .row (.slice V5 (2 * p1) k5) 9 1 (2 * p1) (wnt Z1 (2 * p1)) ::
    .row (.slice RV (2 * p2) rc) 43 1 (2 * p2) (hdq A (fun j => (Y (j / 2)).length) c (2 * p2)) :: .row (.slice V7 (2 * p2) k7) 43 1 (2 * p2) (hdq (fun j => A3 (j / 2)) (fun j => (Y (j / 2)).length) (fun j => c3 (j / 2)) (2 * p2)) :: (FR ++ (FS ++ FA))) _
  rw [← hm0]
  have mR : ∀ {x1 x2 x3 x4 x5 : It} (j : Nat), j < 2 * p1 → byI (adr (A1 j)) (Z1 (j / 2)).length (c1 j) (Z1 (j / 2)) ∈ x1 :: x2 :: x3 :: x4 :: x5 :: (FR ++ (FS ++ FA)) := fun j hj => by
    rw [hFR]; exact List.mem_cons_of_mem _ (List.mem_cons_of_mem _ (List.mem_cons_of_mem _ (List.mem_cons_of_mem _ (List.mem_cons_of_mem _ (List.mem_append_left _ (fam_mem (f := fun j => byI (adr (A1 j)) (Z1 (j / 2)).length (c1 j) (Z1 (j / 2))) hj))))))
  have mS : ∀ {x1 x2 x3 x4 x5 : It} (j : Nat), j < m → spI (adr (A j)) (Y (j / 2)).length (c j) (Y (j / 2)) ∈ x1 :: x2 :: x3 :: x4 :: x5 :: (FR ++ (FS ++ FA)) := fun j hj => by
    rw [hFS]; exact List.mem_cons_of_mem _ (List.mem_cons_of_mem _ (List.mem_cons_of_mem _ (List.mem_cons_of_mem _ (List.mem_cons_of_mem _ (List.mem_append_right _ (List.mem_append_left _ (fam_mem (f := fun j => spI (adr (A j)) (Y (j / 2)).length (c j) (Y (j / 2))) hj)))))))
  have mA : ∀ {x1 x2 x3 x4 x5 : It} (i : Nat), i < p2 → spI (adr (A3 i)) (Y i).length (c3 i) (Y i) ∈ x1 :: x2 :: x3 :: x4 :: x5 :: (FR ++ (FS ++ FA)) := fun i hi => by
    rw [hFA]; exact List.mem_cons_of_mem _ (List.mem_cons_of_mem _ (List.mem_cons_of_mem _ (List.mem_cons_of_mem _ (List.mem_cons_of_mem _ (List.mem_append_right _ (List.mem_append_right _ (fam_mem (f := fun i => spI (adr (A3 i)) (Y i).length (c3 i) (Y i)) hi)))))))
  refine Tr_intro (rs := [.tmp 2]) (args := [.pointer (some ⟨bw, 0, none⟩)]) Try.func31 rfl rfl 169 rfl rfl ?_
  refine W_fact (p := V4 = none → 2 * p1 = 0) (fun w hs h => ((hs.row_fact (A := V4) (m := 2 * p1) (c := k4) (by repeat (first | exact List.Mem.head _ | apply List.Mem.tail))).1 h).2) fun hV4 => ?_
  refine W_fact (p := V5 = none → 2 * p1 = 0) (fun w hs h => ((hs.row_fact (A := V5) (m := 2 * p1) (c := k5) (by repeat (first | exact List.Mem.head _ | apply List.Mem.tail))).1 h).2) fun hV5 => ?_
  refine W_fact (p := RV = none → m = 0) (fun w hs h => ((hs.row_fact (A := RV) (m := m) (c := rc) (by repeat (first | exact List.Mem.head _ | apply List.Mem.tail))).1 h).2) fun hRV => ?_
  refine W_fact (p := V7 = none → m = 0) (fun w hs h => ((hs.row_fact (A := V7) (m := m) (c := k7) (by repeat (first | exact List.Mem.head _ | apply List.Mem.tail))).1 h).2) fun hV7 => ?_
  refine W_fact (p := ∀ j, j < 2 * p1 → adr (A1 j) = none → (Z1 (j / 2)).length = 0) (fun w hs j hj h => ((hs.row_fact (mR j hj)).1 h).2) fun hRn => ?_
  refine W_fact (p := ∀ j, j < m → A j = none → (Y (j / 2)).length = 0) (fun w hs j hj h => ((hs.row_fact (mS j hj)).1 (by rw [h]; rfl)).2) fun hSn => ?_
  obtain ⟨G0, hG0⟩ : ∃ G0 : List It, G0 = .blk bw [e0, e1, e2, e3, .slice V4 (2 * p1) k4, .slice V5 (2 * p1) k5, .slice RV m rc, .slice V7 m k7] 85 :: .row (.slice V4 (2 * p1) k4) 26 1 (2 * p1) (hdq A1 (fun j => (Z1 (j / 2)).length) c1 (2 * p1)) :: .row (.slice V5 (2 * p1) k5) 9 1 (2 * p1) (wnt Z1 (2 * p1)) ::
    .row (.slice RV m rc) 43 1 m (hdq A (fun j => (Y (j / 2)).length) c m) :: .row (.slice V7 m k7) 43 1 m (hdq (fun j => A3 (j / 2)) (fun j => (Y (j / 2)).length) (fun j => c3 (j / 2)) m) :: (FR ++ (FS ++ FA)) := ⟨_, rfl⟩
  (repeat' (first | refine Zv tb ?_ | (refine Zt (fun ht => ?_) (fun ht => ?_) <;> (dsimp only [cmpP, cmpN] at ht) <;> (try (exfalso; omega))) | refine Z0 ?_ | refine Zq ?_ | refine Zr ?_ | refine Zk ?_ | refine Zy ?_ | refine Zn ?_ | refine Zj ?_ | refine Ze ?_ | refine Zx ?_ | refine Zqr ?_ | refine Zqs ?_ | refine Zqc ?_ | refine Zqx ?_ | refine Zqf ?_ | refine Zm tb fun b => ?_ | refine Zb fun b => ?_ | refine Zs tb ?_ | refine Zu tb ?_))
  refine W_cutB (σ := Unit) (fun _ => [(0, .pointer (some ⟨bw, 0, none⟩))]) (fun _ => G0) (fun _ => True) ?_ ?_
  · refine W_loop (σ := Nat) (fun i => [(0, .pointer (some ⟨bw, 0, none⟩)), (3, .int .i64 i)]) (fun _ => G0) (fun i => i ≤ 2 * p1) (fun i => 2 * p1 - i) 0 (Nat.zero_le _) (by repeat (first | exact Sub.nil | refine Sub.cons rfl ?_)) (by rw [hG0]; exact keepAll _) ?_
    intro i hi
    rw [hG0]
    by_cases hlt : i < 2 * p1
    · obtain ⟨ra, rfl⟩ : ∃ v, V4 = some v := by cases V4 with
        | some v => exact ⟨v, rfl⟩
        | none => have := hV4 rfl; omega
      obtain ⟨wa, rfl⟩ : ∃ v, V5 = some v := by cases V5 with
        | some v => exact ⟨v, rfl⟩
        | none => have := hV5 rfl; omega
      have hv := hdq_get (A := A1) (n := fun j => (Z1 (j / 2)).length) (c := c1) hlt
      have hw := wnt_get (Z := Z1) hlt
      have hrd : ∀ {w0 : World} {X : List Nat} {x1 x2 x3 x4 x5 : It}, RdA w0 X (x1 :: x2 :: x3 :: x4 :: x5 :: (FR ++ (FS ++ FA))) (adr (A1 i)) ((Z1 (i / 2)).map (Value.int .u8)) := by
        intro w0 X x1 x2 x3 x4 x5
        rw [← by_map]; exact RdA.row (mR i hlt) (fun h => by rw [List.eq_nil_of_length_eq_zero (hRn i hlt h)]; rfl)
      (repeat' (first | refine Zv tb ?_ | (refine Zt (fun ht => ?_) (fun ht => ?_) <;> (dsimp only [cmpP, cmpN] at ht) <;> (try (exfalso; omega))) | refine Z0 ?_ | refine Zq ?_ | refine Zr ?_ | refine Zk ?_ | refine Zy ?_ | refine Zn ?_ | refine Zj ?_ | refine Ze ?_ | refine Zx ?_ | refine Zqr ?_ | refine Zqs ?_ | refine Zqc ?_ | refine Zqx ?_ | refine Zqf ?_ | refine Zm tb fun b => ?_ | refine Zb fun b => ?_ | refine Zs tb ?_ | refine Zu tb ?_))
      (repeat refine W_seq ?_); refine W_regionD tb [] _ [(0, 0), (1, 0), (2, 0), (3, 1), (4, 0), (5, 0), (6, 1), (7, 1), (8, 0), (9, 0), (10, 0), (11, 1), (12, 0), (13, 0), (14, 1), (15, 0)] (by kernel_rfl) (keepAll _) ?_
      (repeat' (first | refine Zpv tb ?_ | (refine Zpt (fun ht => ?_) (fun ht => ?_) <;> (dsimp only [cmpP, cmpN] at ht) <;> (try (exfalso; omega))) | refine WP_u0 rfl (by first | exact Yl_indexAddr tb i rfl rfl rfl rfl hlt | exact Yl_load1 tb rfl rfl (Has.row (by repeat (first | exact List.Mem.head _ | apply List.Mem.tail))) hv | exact Yl_load1 tb rfl rfl (Has.row (by repeat (first | exact List.Mem.head _ | apply List.Mem.tail))) hw | exact Yl_bstr Try.underlying26 Try.underlying5 Try.underlying9 rfl (hRn i hlt) hrd rfl | exact Yl_neStrF rfl rfl) rfl rfl ?_ | refine WP_u1 rfl (by first | exact Yl_indexAddr tb i rfl rfl rfl rfl hlt | exact Yl_load1 tb rfl rfl (Has.row (by repeat (first | exact List.Mem.head _ | apply List.Mem.tail))) hv | exact Yl_load1 tb rfl rfl (Has.row (by repeat (first | exact List.Mem.head _ | apply List.Mem.tail))) hw | exact Yl_bstr Try.underlying26 Try.underlying5 Try.underlying9 rfl (hRn i hlt) hrd rfl | exact Yl_neStrF rfl rfl) rfl rfl ?_ | refine Zpw ?_ | refine Zpu tb ?_ | refine Zps tb ?_ | refine Zpk ?_ | refine Zp0 ?_))
      (repeat' (first | refine Zv tb ?_ | (refine Zt (fun ht => ?_) (fun ht => ?_) <;> (dsimp only [cmpP, cmpN] at ht) <;> (try (exfalso; omega))) | refine Z0 ?_ | refine Zq ?_ | refine Zr ?_ | refine Zk ?_ | refine Zy ?_ | refine Zn ?_ | refine Zj ?_ | refine Ze ?_ | refine Zx ?_ | refine Zqr ?_ | refine Zqs ?_ | refine Zqc ?_ | refine Zqx ?_ | refine Zqf ?_ | refine Zm tb fun b => ?_ | refine Zb fun b => ?_ | refine Zs tb ?_ | refine Zu tb ?_))
      exact ⟨i + 1, by omega, by omega, (by repeat (first | exact Sub.nil | refine Sub.cons rfl ?_)), keepAll _⟩
    · (repeat' (first | refine Zv tb ?_ | (refine Zt (fun ht => ?_) (fun ht => ?_) <;> (dsimp only [cmpP, cmpN] at ht) <;> (try (exfalso; omega))) | refine Z0 ?_ | refine Zq ?_ | refine Zr ?_ | refine Zk ?_ | refine Zy ?_ | refine Zn ?_ | refine Zj ?_ | refine Ze ?_ | refine Zx ?_ | refine Zqr ?_ | refine Zqs ?_ | refine Zqc ?_ | refine Zqx ?_ | refine Zqf ?_ | refine Zm tb fun b => ?_ | refine Zb fun b => ?_ | refine Zs tb ?_ | refine Zu tb ?_))
      exact ⟨(), trivial, (by repeat (first | exact Sub.nil | refine Sub.cons rfl ?_)), keepAll _⟩
  intro _ _
  rw [hG0]
  (repeat' (first | refine Zv tb ?_ | (refine Zt (fun ht => ?_) (fun ht => ?_) <;> (dsimp only [cmpP, cmpN] at ht) <;> (try (exfalso; omega))) | refine Z0 ?_ | refine Zq ?_ | refine Zr ?_ | refine Zk ?_ | refine Zy ?_ | refine Zn ?_ | refine Zj ?_ | refine Ze ?_ | refine Zx ?_ | refine Zqr ?_ | refine Zqs ?_ | refine Zqc ?_ | refine Zqx ?_ | refine Zqf ?_ | refine Zm tb fun b => ?_ | refine Zb fun b => ?_ | refine Zs tb ?_ | refine Zu tb ?_))
  refine W_cutB (σ := Unit) (fun _ => [(0, .pointer (some ⟨bw, 0, none⟩))]) (fun _ => G0) (fun _ => True) ?_ ?_
  · refine W_loop (σ := Nat) (fun i => [(0, .pointer (some ⟨bw, 0, none⟩)), (4, .int .i64 i)]) (fun _ => G0) (fun i => i ≤ m) (fun i => m - i) 0 (Nat.zero_le _) (by repeat (first | exact Sub.nil | refine Sub.cons rfl ?_)) (by rw [hG0]; exact keepAll _) ?_
    intro i hi
    rw [hG0]
    by_cases hlt : i < m
    · obtain ⟨ra, rfl⟩ : ∃ v, RV = some v := by cases RV with
        | some v => exact ⟨v, rfl⟩
        | none => have := hRV rfl; omega
      obtain ⟨wa, rfl⟩ : ∃ v, V7 = some v := by cases V7 with
        | some v => exact ⟨v, rfl⟩
        | none => have := hV7 rfl; omega
      have hi2 : i / 2 < p2 := by omega
      have hv := hdq_get (A := A) (n := fun j => (Y (j / 2)).length) (c := c) hlt
      have hw := hdq_get (A := fun j => A3 (j / 2)) (n := fun j => (Y (j / 2)).length) (c := fun j => c3 (j / 2)) hlt
      (repeat' (first | refine Zv tb ?_ | (refine Zt (fun ht => ?_) (fun ht => ?_) <;> (dsimp only [cmpP, cmpN] at ht) <;> (try (exfalso; omega))) | refine Z0 ?_ | refine Zq ?_ | refine Zr ?_ | refine Zk ?_ | refine Zy ?_ | refine Zn ?_ | refine Zj ?_ | refine Ze ?_ | refine Zx ?_ | refine Zqr ?_ | refine Zqs ?_ | refine Zqc ?_ | refine Zqx ?_ | refine Zqf ?_ | refine Zm tb fun b => ?_ | refine Zb fun b => ?_ | refine Zs tb ?_ | refine Zu tb ?_))
      (repeat refine W_seq ?_); refine W_regionD tb [14] _ [(0, 0), (1, 0), (2, 0), (3, 1), (4, 0), (5, 0), (6, 1), (7, 0), (8, 0), (9, 0), (10, 1), (11, 0), (12, 0), (13, 1), (14, 2), (15, 0)] (by kernel_rfl) (keepAll _) ?_
      (repeat' (first | refine Zpv tb ?_ | (refine Zpt (fun ht => ?_) (fun ht => ?_) <;> (dsimp only [cmpP, cmpN] at ht) <;> (try (exfalso; omega))) | refine WP_u0 rfl (by first | exact Yl_indexAddr tb i rfl rfl rfl rfl hlt | exact Yl_load1 tb rfl rfl (Has.row (by repeat (first | exact List.Mem.head _ | apply List.Mem.tail))) hv | exact Yl_load1 tb rfl rfl (Has.row (by repeat (first | exact List.Mem.head _ | apply List.Mem.tail))) hw) rfl rfl ?_ | refine WP_u1 rfl (by first | exact Yl_indexAddr tb i rfl rfl rfl rfl hlt | exact Yl_load1 tb rfl rfl (Has.row (by repeat (first | exact List.Mem.head _ | apply List.Mem.tail))) hv | exact Yl_load1 tb rfl rfl (Has.row (by repeat (first | exact List.Mem.head _ | apply List.Mem.tail))) hw) rfl rfl ?_ | refine Zpw ?_ | refine Zpu tb ?_ | refine Zps tb ?_ | refine Zpk ?_ | refine Zp0 ?_))
      refine WP_2 rfl rfl (Hv_call tb (Γ1 := []) rfl rfl rfl (List.Perm.refl _) (fun w hs => sameSpans_t (adr (A i)) (adr (A3 (i / 2))) (Y (i / 2)) (c i) (c3 (i / 2)) w (SlO.row hs (mS i hlt)) (SlO.row hs (mA (i / 2) hi2))) rfl ?_)
      rintro v Γ' ⟨rfl, rfl⟩
      refine ⟨.inr (keepAll _), ?_⟩
      (repeat' (first | refine Zpv tb ?_ | (refine Zpt (fun ht => ?_) (fun ht => ?_) <;> (dsimp only [cmpP, cmpN] at ht) <;> (try (exfalso; omega))) | refine Zpw ?_ | refine Zpu tb ?_ | refine Zps tb ?_ | refine Zpk ?_ | refine Zp0 ?_))
      (repeat' (first | refine Zv tb ?_ | (refine Zt (fun ht => ?_) (fun ht => ?_) <;> (dsimp only [cmpP, cmpN] at ht) <;> (try (exfalso; omega))) | refine Z0 ?_ | refine Zq ?_ | refine Zr ?_ | refine Zk ?_ | refine Zy ?_ | refine Zn ?_ | refine Zj ?_ | refine Ze ?_ | refine Zx ?_ | refine Zqr ?_ | refine Zqs ?_ | refine Zqc ?_ | refine Zqx ?_ | refine Zqf ?_ | refine Zm tb fun b => ?_ | refine Zb fun b => ?_ | refine Zs tb ?_ | refine Zu tb ?_))
      exact ⟨i + 1, by omega, by omega, (by repeat (first | exact Sub.nil | refine Sub.cons rfl ?_)), keepAll _⟩
    · (repeat' (first | refine Zv tb ?_ | (refine Zt (fun ht => ?_) (fun ht => ?_) <;> (dsimp only [cmpP, cmpN] at ht) <;> (try (exfalso; omega))) | refine Z0 ?_ | refine Zq ?_ | refine Zr ?_ | refine Zk ?_ | refine Zy ?_ | refine Zn ?_ | refine Zj ?_ | refine Ze ?_ | refine Zx ?_ | refine Zqr ?_ | refine Zqs ?_ | refine Zqc ?_ | refine Zqx ?_ | refine Zqf ?_ | refine Zm tb fun b => ?_ | refine Zb fun b => ?_ | refine Zs tb ?_ | refine Zu tb ?_))
      exact ⟨(), trivial, (by repeat (first | exact Sub.nil | refine Sub.cons rfl ?_)), keepAll _⟩
  intro _ _
  rw [hG0]
  (repeat' (first | refine Zv tb ?_ | (refine Zt (fun ht => ?_) (fun ht => ?_) <;> (dsimp only [cmpP, cmpN] at ht) <;> (try (exfalso; omega))) | refine Z0 ?_ | refine Zq ?_ | refine Zr ?_ | refine Zk ?_ | refine Zy ?_ | refine Zn ?_ | refine Zj ?_ | refine Ze ?_ | refine Zx ?_ | refine Zqr ?_ | refine Zqs ?_ | refine Zqc ?_ | refine Zqx ?_ | refine Zqf ?_ | refine Zm tb fun b => ?_ | refine Zb fun b => ?_ | refine Zs tb ?_ | refine Zu tb ?_))
  refine WL_cons rfl (Hv_call tb  rfl rfl rfl (by rw [hFR]; exact perm_own) (fun w hs => owned_t V4 (2 * p1) k4 A1 (fun j => (Z1 (j / 2)).length) c1 (fun j => Z1 (j / 2)) w (by omega) (fun i hi => by have := hz (i / 2) (by omega); omega) (fun i hi => rfl)) rfl ?_)
  rintro v Γ' ⟨rfl, rfl⟩
  obtain ⟨n, hn0⟩ : ∃ n : Nat → Nat, n = fun j => (Y (j / 2)).length := ⟨_, rfl⟩
  obtain ⟨Z, hZ0⟩ : ∃ Z : Nat → List Sp, Z = fun j => Y (j / 2) := ⟨_, rfl⟩
  have hm : m ≤ 100000000 := by omega
  have hn : ∀ i, i < m → n i ≤ 1000000 := fun i hi => by rw [hn0]; have := hy (i / 2) (by omega); dsimp only; omega
  have hZ : ∀ i, i < m → (Z i).length = n i := fun i hi => by rw [hn0, hZ0]
  have hAn : ∀ i, i < m → A i = none → n i = 0 := fun i hi h => by rw [hn0]; exact hSn i hi h
  have hkeep : ∃ R, (.blk bw [e0, e1, e2, e3, x4, x5, .slice RV m rc, x7] 85 :: .row (.slice V5 (2 * p1) k5) 9 1 (2 * p1) (wnt Z1 (2 * p1)) :: .row (.slice RV m rc) 43 1 m (hdq A (fun j => (Y (j / 2)).length) c m) :: .row (.slice V7 m k7) 43 1 m (hdq (fun j => A3 (j / 2)) (fun j => (Y (j / 2)).length) (fun j => c3 (j / 2)) m) :: (FS ++ FA)).Perm
      ((.blk bw [e0, e1, e2, e3, x4, x5, .slice RV m rc, x7] 85 :: .row (.slice RV m rc) 43 1 m (hdq A n c m) :: fam m fun j => pcIS (adr (A j)) (n j) (c j) (Z j)) ++ R) := by
    rw [hFS, hn0, hZ0]; exact ⟨_, perm_own2⟩
  rw [hx4, hx5, hx7] at hkeep
  rw [← hx4, ← hx5, ← hx7] at hkeep ⊢
  (repeat' (first | refine Zv tb ?_ | (refine Zt (fun ht => ?_) (fun ht => ?_) <;> (dsimp only [cmpP, cmpN] at ht) <;> (try (exfalso; omega))) | refine Z0 ?_ | refine Zq ?_ | refine Zr ?_ | refine Zk ?_ | refine Zy ?_ | refine Zn ?_ | refine Zj ?_ | refine Ze ?_ | refine Zx ?_ | refine Zqr ?_ | refine Zqs ?_ | refine Zqc ?_ | refine Zqx ?_ | refine Zqf ?_ | refine Zm tb fun b => ?_ | refine Zb fun b => ?_ | refine Zs tb ?_ | refine Zu tb ?_))
  refine W_cutB (σ := Unit) (fun _ => [(0, .pointer (some ⟨bw, 0, none⟩)), (6, .bool true)]) (fun _ => .blk bw [e0, e1, e2, e3, x4, x5, .slice RV m rc, x7] 85 :: .row (.slice RV m rc) 43 1 m (hdq A n c m) :: fam m fun j => pcIS (adr (A j)) (n j) (c j) (mkPS j (n j))) (fun _ => True) ?_ ?_
  · refine W_loop (σ := Nat × (Nat → List Sp)) (fun p => [(0, .pointer (some ⟨bw, 0, none⟩)), (6, .bool true), (7, .int .i64 p.1)])
      (fun p => .blk bw [e0, e1, e2, e3, x4, x5, .slice RV m rc, x7] 85 :: .row (.slice RV m rc) 43 1 m (hdq A n c m) :: fam m fun j => pcIS (adr (A j)) (n j) (c j) (p.2 j))
      (fun p => p.1 ≤ m ∧ (∀ j, j < m → (p.2 j).length = n j) ∧ ∀ j, j < p.1 → p.2 j = mkPS j (n j)) (fun p => m - p.1) (0, Z) ⟨Nat.zero_le _, hZ, fun j h => by omega⟩ (by repeat (first | exact Sub.nil | refine Sub.cons rfl ?_)) hkeep ?_
    rintro ⟨i, ct⟩ ⟨hi, hlen, hok⟩
    dsimp only at hi hlen hok ⊢
    by_cases him : i < m
    · obtain ⟨ra, rfl⟩ : ∃ v, RV = some v := by cases RV with
        | some v => exact ⟨v, rfl⟩
        | none => have := hRV rfl; omega
      have hv := hdq_get (A := A) (n := n) (c := c) him
      have hni := hn i him
      (repeat' (first | refine Zv tb ?_ | (refine Zt (fun ht => ?_) (fun ht => ?_) <;> (dsimp only [cmpP, cmpN] at ht) <;> (try (exfalso; omega))) | refine Z0 ?_ | refine Zq ?_ | refine Zr ?_ | refine Zk ?_ | refine Zy ?_ | refine Zn ?_ | refine Zj ?_ | refine Ze ?_ | refine Zx ?_ | refine Zqr ?_ | refine Zqs ?_ | refine Zqc ?_ | refine Zqx ?_ | refine Zqf ?_ | refine Zm tb fun b => ?_ | refine Zb fun b => ?_ | refine Zs tb ?_ | refine Zu tb ?_))
      refine W_loop (σ := Nat × List Sp) (fun p => [(0, .pointer (some ⟨bw, 0, none⟩)), (6, .bool true), (7, .int .i64 i), (8, .int .i64 p.1)])
        (fun p => .blk bw [e0, e1, e2, e3, x4, x5, .slice (some ra) m rc, x7] 85 :: .row (.slice (some ra) m rc) 43 1 m (hdq A n c m) :: fam m (upd (fun j => pcIS (adr (A j)) (n j) (c j) (ct j)) i (pcIS (adr (A i)) (n i) (c i) p.2)))
        (fun p => p.1 ≤ n i ∧ p.2.length = n i ∧ ∀ j, j < p.1 → gqS p.2 j = (-1 - (i : Int), 0)) (fun p => n i - p.1) (0, ct i) ⟨Nat.zero_le _, hlen i him, fun j h => by omega⟩ (by repeat (first | exact Sub.nil | refine Sub.cons rfl ?_))
        ⟨[], List.Perm.of_eq (by simp only [List.append_nil]; congr 2; exact fam_ext fun j _ => by unfold upd; split <;> simp_all)⟩ ?_
      rintro ⟨k, Y⟩ ⟨hk, hY, hyk⟩
      dsimp only at hk hY hyk ⊢
      by_cases hkn : k < n i
      · obtain ⟨bA, ha⟩ := adr_some (hAn i him) (by omega)
        have hv' : (hdq A n c m)[i * 1]? = some (.slice (some ⟨bA, 0, none⟩) (n i) (c i)) := by rw [hv, ha]; rfl
        (repeat' (first | refine Zv tb ?_ | (refine Zt (fun ht => ?_) (fun ht => ?_) <;> (dsimp only [cmpP, cmpN] at ht) <;> (try (exfalso; omega))) | refine Z0 ?_ | refine Zq ?_ | refine Zr ?_ | refine Zk ?_ | refine Zy ?_ | refine Zn ?_ | refine Zj ?_ | refine Ze ?_ | refine Zx ?_ | refine Zqr ?_ | refine Zqs ?_ | refine Zqc ?_ | refine Zqx ?_ | refine Zqf ?_ | refine Zm tb fun b => ?_ | refine Zb fun b => ?_ | refine Zs tb ?_ | refine WL_u (by first | exact Yl_indexAddr tb i rfl rfl rfl rfl him | exact Yl_load1 tb rfl rfl (Has.row (by repeat (first | exact List.Mem.head _ | apply List.Mem.tail))) hv' | exact Yl_indexAddr tb k rfl rfl rfl rfl hkn) rfl rfl ?_ | refine Zu tb ?_))
        refine WL_cons rfl (Hv_storeRow tb (k := i + 2) (a := ⟨bA, 0, none⟩) (o := k * 2) (len := n i) (cap := c i) rfl rfl rfl (show (fam m _)[i]? = _ from (fam_get him).trans (by rw [upd_same, ha]; rfl)) rfl (by omega) rfl (cells_put spC (i := k) (by omega) (-1 - (i : Int), 0)) rfl ?_)
        (repeat' (first | refine Zv tb ?_ | (refine Zt (fun ht => ?_) (fun ht => ?_) <;> (dsimp only [cmpP, cmpN] at ht) <;> (try (exfalso; omega))) | refine Z0 ?_ | refine Zq ?_ | refine Zr ?_ | refine Zk ?_ | refine Zy ?_ | refine Zn ?_ | refine Zj ?_ | refine Ze ?_ | refine Zx ?_ | refine Zqr ?_ | refine Zqs ?_ | refine Zqc ?_ | refine Zqx ?_ | refine Zqf ?_ | refine Zm tb fun b => ?_ | refine Zb fun b => ?_ | refine Zs tb ?_ | refine Zu tb ?_))
        refine ⟨(k + 1, Y.set k (-1 - (i : Int), 0)), ⟨by dsimp only; omega, by simp [hY], fun j hj => ?_⟩, by dsimp only; omega, (by repeat (first | exact Sub.nil | refine Sub.cons rfl ?_)), [], List.Perm.of_eq ?_⟩
        · dsimp only at hj ⊢
          rw [gq_setS (by omega)]
          by_cases hkj : k = j
          · subst hkj; simp
          · rw [if_neg hkj]; exact hyk j (by omega)
        · show _ :: _ :: ((fam m _).set i _) = _
          rw [fam_set, fam_updq, List.append_nil, ha]
          rfl
      · (repeat' (first | refine Zv tb ?_ | (refine Zt (fun ht => ?_) (fun ht => ?_) <;> (dsimp only [cmpP, cmpN] at ht) <;> (try (exfalso; omega))) | refine Z0 ?_ | refine Zq ?_ | refine Zr ?_ | refine Zk ?_ | refine Zy ?_ | refine Zn ?_ | refine Zj ?_ | refine Ze ?_ | refine Zx ?_ | refine Zqr ?_ | refine Zqs ?_ | refine Zqc ?_ | refine Zqx ?_ | refine Zqf ?_ | refine Zm tb fun b => ?_ | refine Zb fun b => ?_ | refine Zs tb ?_ | refine WL_u (by first | exact Yl_indexAddr tb i rfl rfl rfl rfl him | exact Yl_load1 tb rfl rfl (Has.row (by repeat (first | exact List.Mem.head _ | apply List.Mem.tail))) hv) rfl rfl ?_ | refine Zu tb ?_))
        have hYm : Y = mkPS i (n i) := gq_extS (by rw [hY, mkP_lenS]) fun j hj => by rw [hyk j (by omega), gq_mkPS (by omega)]
        refine ⟨(i + 1, upd ct i Y), ⟨by dsimp only; omega, fun j hj => ?_, fun j hj => ?_⟩, by dsimp only; omega, (by repeat (first | exact Sub.nil | refine Sub.cons rfl ?_)), [], List.Perm.of_eq ?_⟩
        · dsimp only; unfold upd; split
          · rename_i h; rw [h]; exact hY
          · exact hlen j hj
        · dsimp only at hj ⊢; unfold upd; split
          · rename_i h; rw [h]; exact hYm
          · exact hok j (by omega)
        · rw [List.append_nil]; congr 2; exact fam_ext fun j _ => by dsimp only; unfold upd; split <;> simp_all
    · (repeat' (first | refine Zv tb ?_ | (refine Zt (fun ht => ?_) (fun ht => ?_) <;> (dsimp only [cmpP, cmpN] at ht) <;> (try (exfalso; omega))) | refine Z0 ?_ | refine Zq ?_ | refine Zr ?_ | refine Zk ?_ | refine Zy ?_ | refine Zn ?_ | refine Zj ?_ | refine Ze ?_ | refine Zx ?_ | refine Zqr ?_ | refine Zqs ?_ | refine Zqc ?_ | refine Zqx ?_ | refine Zqf ?_ | refine Zm tb fun b => ?_ | refine Zb fun b => ?_ | refine Zs tb ?_ | refine Zu tb ?_))
      refine ⟨(), trivial, (by repeat (first | exact Sub.nil | refine Sub.cons rfl ?_)), [], List.Perm.of_eq ?_⟩
      rw [List.append_nil]
      congr 2
      exact fam_ext fun j hj => by rw [hok j (by omega)]
  intro _ _
  refine W_nilrow 43 1 ?_
  (repeat' (first | refine Zv tb ?_ | (refine Zt (fun ht => ?_) (fun ht => ?_) <;> (dsimp only [cmpP, cmpN] at ht) <;> (try (exfalso; omega))) | refine Z0 ?_ | refine Zq ?_ | refine Zr ?_ | refine Zk ?_ | refine Zy ?_ | refine Zn ?_ | refine Zj ?_ | refine Ze ?_ | refine Zx ?_ | refine Zqr ?_ | refine Zqs ?_ | refine Zqc ?_ | refine Zqx ?_ | refine Zqf ?_ | refine Zm tb fun b => ?_ | refine Zb fun b => ?_ | refine Zs tb ?_ | refine Zu tb ?_))
  refine W_cutB (σ := Option Addr × Nat × (Nat → Option Addr) × (Nat → Nat)) (fun | (LV, lc, gA, gc) => [(0, .pointer (some ⟨bw, 0, none⟩)), (6, .bool true), (9, .slice LV (2 * m) lc)])
    (fun | (LV, lc, gA, gc) => .row (.slice LV (2 * m) lc) 43 1 (2 * m) (lng A n c gA gc m) :: fam m fun j => twIS (A j) (n j) (mkPS j (n j)) (gA j) (n j + 40) (gc j) (mkPS j (n j + 40))) (fun _ => True) ?_ ?_
  · refine W_loop (σ := Nat × Option Addr × Nat × (Nat → Option Addr) × (Nat → Nat)) (fun | (i, LV, lc, gA, gc) => [(0, .pointer (some ⟨bw, 0, none⟩)), (6, .bool true), (9, .slice LV (2 * i) lc), (10, .int .i64 i)])
      (fun | (i, LV, lc, gA, gc) => .row (.slice LV (2 * i) lc) 43 1 (2 * i) (lng A n c gA gc i) :: .blk bw [e0, e1, e2, e3, x4, x5, .slice RV m rc, x7] 85 :: .row (.slice RV m rc) 43 1 m (hdq A n c m) ::
        fam m fun j => if j < i then twIS (A j) (n j) (mkPS j (n j)) (gA j) (n j + 40) (gc j) (mkPS j (n j + 40)) else pcIS (adr (A j)) (n j) (c j) (mkPS j (n j)))
      (fun | (i, _) => i ≤ m) (fun | (i, _) => m - i) (0, none, 0, fun _ => none, fun _ => 0) (Nat.zero_le _) (by repeat (first | exact Sub.nil | refine Sub.cons rfl ?_)) ⟨[], List.Perm.of_eq (by simp [lng])⟩ ?_
    rintro ⟨i, LV, lc, gA, gc⟩ hi
    dsimp only at hi ⊢
    by_cases him : i < m
    · obtain ⟨ra, rfl⟩ : ∃ v, RV = some v := by cases RV with
        | some v => exact ⟨v, rfl⟩
        | none => have := hRV rfl; omega
      have hv := hdq_get (A := A) (n := n) (c := c) him
      have hni := hn i him
      (repeat' (first | refine Zv tb ?_ | (refine Zt (fun ht => ?_) (fun ht => ?_) <;> (dsimp only [cmpP, cmpN] at ht) <;> (try (exfalso; omega))) | refine Z0 ?_ | refine Zq ?_ | refine Zr ?_ | refine Zk ?_ | refine Zy ?_ | refine Zn ?_ | refine Zj ?_ | refine Ze ?_ | refine Zx ?_ | refine Zqr ?_ | refine Zqs ?_ | refine Zqc ?_ | refine Zqx ?_ | refine Zqf ?_ | refine Zm tb fun b => ?_ | refine Zb fun b => ?_ | refine Zs tb ?_ | refine WL_u (by first | exact Yl_indexAddr tb i rfl rfl rfl rfl him | exact Yl_load1 tb rfl rfl (Has.row (by repeat (first | exact List.Mem.head _ | apply List.Mem.tail))) hv) rfl rfl ?_ | refine Zu tb ?_))
      refine W_twin (A := A i) (t := 61) (sz := 2) (m := n i) (c := c i) (cs := spC.cells (mkPS i (n i))) (i + 3) (show (fam m _)[i]? = _ from (fam_get him).trans (by rw [if_neg (Nat.lt_irrefl _)]; rfl)) ?_
      refine W_cutB (σ := Option Addr × Nat) (fun | (B, bc) => [(0, .pointer (some ⟨bw, 0, none⟩)), (6, .bool true), (9, .slice LV (2 * i) lc), (10, .int .i64 i), (11, .slice B (n i + 40) bc)])
        (fun | (B, bc) => .row (.slice LV (2 * i) lc) 43 1 (2 * i) (lng A n c gA gc i) :: .blk bw [e0, e1, e2, e3, x4, x5, .slice (some ra) m rc, x7] 85 :: .row (.slice (some ra) m rc) 43 1 m (hdq A n c m) ::
          fam m (upd (fun j => if j < i then twIS (A j) (n j) (mkPS j (n j)) (gA j) (n j + 40) (gc j) (mkPS j (n j + 40)) else pcIS (adr (A j)) (n j) (c j) (mkPS j (n j))) i (twIS (A i) (n i) (mkPS i (n i)) B (n i + 40) bc (mkPS i (n i + 40))))) (fun _ => True) ?_ ?_
      · refine W_loop (σ := Nat × Option Addr × Nat) (fun | (k, B, bc) => [(0, .pointer (some ⟨bw, 0, none⟩)), (6, .bool true), (9, .slice LV (2 * i) lc), (10, .int .i64 i), (11, .slice B (n i + k) bc), (12, .int .i64 k)])
          (fun | (k, B, bc) => .row (.slice LV (2 * i) lc) 43 1 (2 * i) (lng A n c gA gc i) :: .blk bw [e0, e1, e2, e3, x4, x5, .slice (some ra) m rc, x7] 85 :: .row (.slice (some ra) m rc) 43 1 m (hdq A n c m) ::
            fam m (upd (fun j => if j < i then twIS (A j) (n j) (mkPS j (n j)) (gA j) (n j + 40) (gc j) (mkPS j (n j + 40)) else pcIS (adr (A j)) (n j) (c j) (mkPS j (n j))) i (twIS (A i) (n i) (mkPS i (n i)) B (n i + k) bc (mkPS i (n i + k))))) (fun | (k, _) => k ≤ 40) (fun | (k, _) => 40 - k) (0, adr (A i), c i) (by dsimp only; omega) (by repeat (first | exact Sub.nil | refine Sub.cons rfl ?_)) ⟨[], List.Perm.of_eq ?_⟩ ?_
        · show _ :: _ :: _ :: ((fam m _).set i _) = _
          rw [fam_set, List.append_nil]; rfl
        rintro ⟨k, B, bc⟩ hk
        dsimp only at hk ⊢
        by_cases hk40 : k < 40
        · (repeat' (first | refine Zv tb ?_ | (refine Zt (fun ht => ?_) (fun ht => ?_) <;> (dsimp only [cmpP, cmpN] at ht) <;> (try (exfalso; omega))) | refine Z0 ?_ | refine Zq ?_ | refine Zr ?_ | refine Zk ?_ | refine Zy ?_ | refine Zn ?_ | refine Zj ?_ | refine Ze ?_ | refine Zx ?_ | refine Zqr ?_ | refine Zqs ?_ | refine Zqc ?_ | refine Zqx ?_ | refine Zqf ?_ | refine Zm tb fun b => ?_ | refine Zb fun b => ?_ | refine Zs tb ?_ | refine Zu tb ?_))
          refine WL_cons rfl (Hv_buildSlice tb rfl rfl rfl (by decide) rfl rfl rfl rfl fun q => ?_)
          (repeat' (first | refine Zv tb ?_ | (refine Zt (fun ht => ?_) (fun ht => ?_) <;> (dsimp only [cmpP, cmpN] at ht) <;> (try (exfalso; omega))) | refine Z0 ?_ | refine Zq ?_ | refine Zr ?_ | refine Zk ?_ | refine Zy ?_ | refine Zn ?_ | refine Zj ?_ | refine Ze ?_ | refine Zx ?_ | refine Zqr ?_ | refine Zqs ?_ | refine Zqc ?_ | refine Zqx ?_ | refine Zqf ?_ | refine Zm tb fun b => ?_ | refine Zb fun b => ?_ | refine Zs tb ?_ | refine Zu tb ?_))
          refine WL_cons rfl (Hv_appendT tb (k := i + 4) (m := 1) rfl rfl rfl rfl rfl (by decide) (show (fam m _)[i]? = _ from (fam_get him).trans (by rw [upd_same])) (Has.row (List.mem_cons_self ..)) rfl rfl (by omega) (by omega) rfl fun V' c' hV' => ?_)
          (repeat' (first | refine Zv tb ?_ | (refine Zt (fun ht => ?_) (fun ht => ?_) <;> (dsimp only [cmpP, cmpN] at ht) <;> (try (exfalso; omega))) | refine Z0 ?_ | refine Zq ?_ | refine Zr ?_ | refine Zk ?_ | refine Zy ?_ | refine Zn ?_ | refine Zj ?_ | refine Ze ?_ | refine Zx ?_ | refine Zqr ?_ | refine Zqs ?_ | refine Zqc ?_ | refine Zqx ?_ | refine Zqf ?_ | refine Zm tb fun b => ?_ | refine Zb fun b => ?_ | refine Zs tb ?_ | refine Zu tb ?_))
          refine ⟨(k + 1, V', c'), by dsimp only; omega, by dsimp only; omega, (by repeat (first | exact Sub.nil | refine Sub.cons rfl ?_)), keepCq (x := ?_) ?_⟩
          rotate_left
          show _ :: _ :: _ :: _ :: ((fam m _).set i _) = _
          rw [fam_set, fam_updq]
          dsimp only
          rw [show n i + (k + 1) = (n i + k) + 1 from rfl, mkP_succS]
          unfold twIS
          rw [cells_append, cells_one]
          rfl
        · obtain rfl : k = 40 := by omega
          (repeat' (first | refine Zv tb ?_ | (refine Zt (fun ht => ?_) (fun ht => ?_) <;> (dsimp only [cmpP, cmpN] at ht) <;> (try (exfalso; omega))) | refine Z0 ?_ | refine Zq ?_ | refine Zr ?_ | refine Zk ?_ | refine Zy ?_ | refine Zn ?_ | refine Zj ?_ | refine Ze ?_ | refine Zx ?_ | refine Zqr ?_ | refine Zqs ?_ | refine Zqc ?_ | refine Zqx ?_ | refine Zqf ?_ | refine Zm tb fun b => ?_ | refine Zb fun b => ?_ | refine Zs tb ?_ | refine Zu tb ?_))
          exact ⟨(B, bc), trivial, (by repeat (first | exact Sub.nil | refine Sub.cons rfl ?_)), keepAll _⟩
      rintro ⟨B, bc⟩ -
      (repeat' (first | refine Zv tb ?_ | (refine Zt (fun ht => ?_) (fun ht => ?_) <;> (dsimp only [cmpP, cmpN] at ht) <;> (try (exfalso; omega))) | refine Z0 ?_ | refine Zq ?_ | refine Zr ?_ | refine Zk ?_ | refine Zy ?_ | refine Zn ?_ | refine Zj ?_ | refine Ze ?_ | refine Zx ?_ | refine Zqr ?_ | refine Zqs ?_ | refine Zqc ?_ | refine Zqx ?_ | refine Zqf ?_ | refine Zm tb fun b => ?_ | refine Zb fun b => ?_ | refine Zs tb ?_ | refine WL_u (by first | exact Yl_indexAddr tb i rfl rfl rfl rfl him | exact Yl_load1 tb rfl rfl (Has.row (by repeat (first | exact List.Mem.head _ | apply List.Mem.tail))) hv) rfl rfl ?_ | refine Zu tb ?_))
      refine WL_cons rfl (Hv_buildSlice tb rfl rfl rfl (by decide) rfl rfl rfl rfl fun q => ?_)
      (repeat' (first | refine Zv tb ?_ | (refine Zt (fun ht => ?_) (fun ht => ?_) <;> (dsimp only [cmpP, cmpN] at ht) <;> (try (exfalso; omega))) | refine Z0 ?_ | refine Zq ?_ | refine Zr ?_ | refine Zk ?_ | refine Zy ?_ | refine Zn ?_ | refine Zj ?_ | refine Ze ?_ | refine Zx ?_ | refine Zqr ?_ | refine Zqs ?_ | refine Zqc ?_ | refine Zqx ?_ | refine Zqf ?_ | refine Zm tb fun b => ?_ | refine Zb fun b => ?_ | refine Zs tb ?_ | refine Zu tb ?_))
      refine WL_cons rfl (Hv_append tb (k := 1) (m := 2) rfl rfl rfl rfl rfl (by decide) rfl (Has.row (List.mem_cons_self ..)) rfl rfl (by omega) (by omega) rfl fun V' c' hV' => ?_)
      (repeat' (first | refine Zv tb ?_ | (refine Zt (fun ht => ?_) (fun ht => ?_) <;> (dsimp only [cmpP, cmpN] at ht) <;> (try (exfalso; omega))) | refine Z0 ?_ | refine Zq ?_ | refine Zr ?_ | refine Zk ?_ | refine Zy ?_ | refine Zn ?_ | refine Zj ?_ | refine Ze ?_ | refine Zx ?_ | refine Zqr ?_ | refine Zqs ?_ | refine Zqc ?_ | refine Zqx ?_ | refine Zqf ?_ | refine Zm tb fun b => ?_ | refine Zb fun b => ?_ | refine Zs tb ?_ | refine Zu tb ?_))
      refine ⟨(i + 1, V', c', upd gA i B, upd gc i bc), by dsimp only; omega, by dsimp only; omega, (by repeat (first | exact Sub.nil | refine Sub.cons rfl ?_)), keepCq (x := ?_) ?_⟩
      rotate_left
      dsimp only
      rw [lng, upd_same, upd_same, lng_ext (gA := upd gA i B) (gA' := gA) (gc := upd gc i bc) (gc' := gc) fun j hj => ⟨upd_other _ _ (by omega), upd_other _ _ (by omega)⟩]
      rw [show (fam m fun j => if j < i + 1 then twIS (A j) (n j) (mkPS j (n j)) (upd gA i B j) (n j + 40) (upd gc i bc j) (mkPS j (n j + 40)) else pcIS (adr (A j)) (n j) (c j) (mkPS j (n j))) = fam m (upd (fun j => if j < i then twIS (A j) (n j) (mkPS j (n j)) (gA j) (n j + 40) (gc j) (mkPS j (n j + 40)) else pcIS (adr (A j)) (n j) (c j) (mkPS j (n j))) i (twIS (A i) (n i) (mkPS i (n i)) B (n i + 40) bc (mkPS i (n i + 40)))) from fam_ext fun j _ => by
        by_cases h : j = i
        · subst h; rw [if_pos (Nat.lt_succ_self _), upd_same, upd_same, upd_same]
        · rw [upd_other _ _ h, upd_other _ _ h, upd_other _ _ h]
          by_cases h2 : j < i
          · rw [if_pos (by omega), if_pos h2]
          · rw [if_neg (by omega), if_neg h2]]
      rfl
    · obtain rfl : i = m := by omega
      (repeat' (first | refine Zv tb ?_ | (refine Zt (fun ht => ?_) (fun ht => ?_) <;> (dsimp only [cmpP, cmpN] at ht) <;> (try (exfalso; omega))) | refine Z0 ?_ | refine Zq ?_ | refine Zr ?_ | refine Zk ?_ | refine Zy ?_ | refine Zn ?_ | refine Zj ?_ | refine Ze ?_ | refine Zx ?_ | refine Zqr ?_ | refine Zqs ?_ | refine Zqc ?_ | refine Zqx ?_ | refine Zqf ?_ | refine Zm tb fun b => ?_ | refine Zb fun b => ?_ | refine Zs tb ?_ | refine Zu tb ?_))
      refine ⟨(LV, lc, gA, gc), trivial, (by repeat (first | exact Sub.nil | refine Sub.cons rfl ?_)), ?_⟩
      dsimp only
      rw [show (fam i fun j => if j < i then twIS (A j) (n j) (mkPS j (n j)) (gA j) (n j + 40) (gc j) (mkPS j (n j + 40)) else pcIS (adr (A j)) (n j) (c j) (mkPS j (n j))) = fam i fun j => twIS (A j) (n j) (mkPS j (n j)) (gA j) (n j + 40) (gc j) (mkPS j (n j + 40)) from fam_ext fun j hj => if_pos hj]
      exact ⟨_, List.Perm.cons _ (List.perm_append_comm (l₁ := [_, _]))⟩
  rintro ⟨LV, lc, gA, gc⟩ -
  dsimp only
  refine W_fact (p := LV = none → 2 * m = 0) (fun w hs h => ((hs.row_fact (List.mem_cons_self ..)).1 h).2) fun hLV => ?_
  refine W_fact (p := ∀ j, j < m → gA j ≠ none) (fun w hs j hj h => by
    have h1 := fam_mem (f := fun j => twIS (A j) (n j) (mkPS j (n j)) (gA j) (n j + 40) (gc j) (mkPS j (n j + 40))) hj
    have h2 : Sx.TwOk (A j) (spC.cells (mkPS j (n j))) (.slice (gA j) (n j + 40) (gc j)) 61 2 (n j + 40) (spC.cells (mkPS j (n j + 40))) w := hs.ok _ (List.mem_cons_of_mem _ h1)
    rcases h2.row.2 with ⟨_, h3⟩ | ⟨gg, cap, cur, h3, _⟩
    · omega
    · rw [h] at h3; cases h3) fun hgA => ?_
  (repeat' (first | refine Zv tb ?_ | (refine Zt (fun ht => ?_) (fun ht => ?_) <;> (dsimp only [cmpP, cmpN] at ht) <;> (try (exfalso; omega))) | refine Z0 ?_ | refine Zq ?_ | refine Zr ?_ | refine Zk ?_ | refine Zy ?_ | refine Zn ?_ | refine Zj ?_ | refine Ze ?_ | refine Zx ?_ | refine Zqr ?_ | refine Zqs ?_ | refine Zqc ?_ | refine Zqx ?_ | refine Zqf ?_ | refine Zm tb fun b => ?_ | refine Zb fun b => ?_ | refine Zs tb ?_ | refine Zu tb ?_))
  refine W_loop (σ := Nat) (fun r => [(6, .bool true), (9, .slice LV (2 * m) lc), (13, .int .i64 r)]) (fun r => .row (.slice LV (2 * m) lc) 43 1 (2 * m) (lng A n c gA gc m) :: fam m fun j => twIS (A j) (n j) (mkPS j (n j)) (gA j) (n j + 40) (gc j) (mkPS j (n j + 40))) (fun r => r ≤ 2 * m) (fun r => 2 * m - r) 0 (Nat.zero_le _) (by repeat (first | exact Sub.nil | refine Sub.cons rfl ?_)) (keepAll _) ?_
  intro r hr
  by_cases hlt : r < 2 * m
  · obtain ⟨lv, rfl⟩ : ∃ v, LV = some v := by cases LV with
      | some v => exact ⟨v, rfl⟩
      | none => have := hLV rfl; omega
    have hi : r / 2 < m := by omega
    have hni := hn (r / 2) hi
    have hmem : ∀ x : It, twIS (A (r / 2)) (n (r / 2)) (mkPS (r / 2) (n (r / 2))) (gA (r / 2)) (n (r / 2) + 40) (gc (r / 2)) (mkPS (r / 2) (n (r / 2) + 40)) ∈ x :: fam m fun j => twIS (A j) (n j) (mkPS j (n j)) (gA j) (n j + 40) (gc j) (mkPS j (n j + 40)) := fun x => List.mem_cons_of_mem _ (fam_mem (f := fun j => twIS (A j) (n j) (mkPS j (n j)) (gA j) (n j + 40) (gc j) (mkPS j (n j + 40))) hi)
    have key : ∃ (V : Option Addr) (K cc : Nat), (lng A n c gA gc m)[r * 1]? = some (.slice V K cc) ∧ K ≤ 1000040 ∧ (0 < K → ∃ a, V = some a ∧ ∀ (w0 : World) (X : List Nat) (x : It), Has w0 X (x :: fam m fun j => twIS (A j) (n j) (mkPS j (n j)) (gA j) (n j + 40) (gc j) (mkPS j (n j + 40))) a (spC.cells (mkPS (r / 2) K))) := by
      obtain ⟨g1, g2⟩ := lng_get A n c gA gc m (r / 2) hi
      rw [Nat.mul_one]
      by_cases hp : r % 2 = 0
      · rw [show r = 2 * (r / 2) by omega]
        rw [show 2 * (r / 2) / 2 = r / 2 by omega]
        refine ⟨_, _, _, g1, by omega, fun _ => ?_⟩
        obtain ⟨a, ha⟩ : ∃ v, gA (r / 2) = some v := by
          cases h : gA (r / 2) with
          | some v => exact ⟨v, rfl⟩
          | none => exact absurd h (hgA _ hi)
        refine ⟨a, ha, fun w0 X x => ?_⟩
        have := hmem x
        unfold twIS at this
        rw [ha] at this
        exact Has.twNew this
      · have e : (lng A n c gA gc m)[r]? = some (.slice (adr (A (r / 2))) (n (r / 2)) (c (r / 2))) := by rw [← g2]; congr 1; omega
        refine ⟨_, _, _, e, by omega, fun h0 => ?_⟩
        obtain ⟨b, hb⟩ := adr_some (hAn (r / 2) hi) h0
        refine ⟨⟨b, 0, none⟩, by rw [hb]; rfl, fun w0 X x => ?_⟩
        have := hmem x
        unfold twIS at this
        rw [hb] at this
        exact Has.twOld this
    obtain ⟨V, K, cc, hv, hK, hV⟩ := key
    (repeat' (first | refine Zv tb ?_ | (refine Zt (fun ht => ?_) (fun ht => ?_) <;> (dsimp only [cmpP, cmpN] at ht) <;> (try (exfalso; omega))) | refine Z0 ?_ | refine Zq ?_ | refine Zr ?_ | refine Zk ?_ | refine Zy ?_ | refine Zn ?_ | refine Zj ?_ | refine Ze ?_ | refine Zx ?_ | refine Zqr ?_ | refine Zqs ?_ | refine Zqc ?_ | refine Zqx ?_ | refine Zqf ?_ | refine Zm tb fun b => ?_ | refine Zb fun b => ?_ | refine Zs tb ?_ | refine Zu tb ?_))
    refine W_loop (σ := Nat) (fun k => [(6, .bool true), (9, .slice (some lv) (2 * m) lc), (13, .int .i64 r), (14, .int .i64 k)]) (fun _ => .row (.slice (some lv) (2 * m) lc) 43 1 (2 * m) (lng A n c gA gc m) :: fam m fun j => twIS (A j) (n j) (mkPS j (n j)) (gA j) (n j + 40) (gc j) (mkPS j (n j + 40))) (fun k => k ≤ K) (fun k => K - k) 0 (Nat.zero_le _) (by repeat (first | exact Sub.nil | refine Sub.cons rfl ?_)) (keepAll _) ?_
    intro k hk
    by_cases hkK : k < K
    · obtain ⟨a, rfl, hH⟩ := hV (by omega)
      have hkl : k < (mkPS (r / 2) K).length := by rw [mkP_lenS]; exact hkK
      have hx : (mkPS (r / 2) K)[k] = (-1 - ((r : Int) / 2), 0) := by rw [gq_eqS hkl, gq_mkPS hkK]; congr 1
      have heq : EqS Try.prog 61 (spC.enc (mkPS (r / 2) K)[k]) (spC.enc (-1 - ((r : Int) / 2), 0)) true := by
        have := span_eq (mkPS (r / 2) K)[k] (-1 - ((r : Int) / 2), 0)
        rwa [show decide ((mkPS (r / 2) K)[k] = (-1 - ((r : Int) / 2), 0)) = true by simp [hx]] at this
      (repeat' (first | refine Zv tb ?_ | (refine Zt (fun ht => ?_) (fun ht => ?_) <;> (dsimp only [cmpP, cmpN] at ht) <;> (try (exfalso; omega))) | refine Z0 ?_ | refine Zq ?_ | refine Zr ?_ | refine Zk ?_ | refine Zy ?_ | refine Zn ?_ | refine Zj ?_ | refine Ze ?_ | refine Zx ?_ | refine Zqr ?_ | refine Zqs ?_ | refine Zqc ?_ | refine Zqx ?_ | refine Zqf ?_ | refine Zm tb fun b => ?_ | refine Zb fun b => ?_ | refine Zs tb ?_ | refine WL_u (by first | exact Yl_indexAddr tb r rfl rfl rfl rfl hlt | exact Yl_load1 tb rfl rfl (Has.row (List.mem_cons_self ..)) hv | exact Yl_indexAddr tb k rfl rfl rfl rfl hkK | exact Yl_loadA tb _ rfl rfl (hH _ _ _) (cells_seg spC hkl) rfl | exact Yl_quo rfl rfl (by omega) (by omega) (wrap_i64 (by omega) (by omega)) | exact Yl_neS rfl rfl span_fi heq) rfl rfl ?_ | refine Zu tb ?_))
      exact ⟨k + 1, by omega, by omega, (by repeat (first | exact Sub.nil | refine Sub.cons rfl ?_)), keepAll _⟩
    · (repeat' (first | refine Zv tb ?_ | (refine Zt (fun ht => ?_) (fun ht => ?_) <;> (dsimp only [cmpP, cmpN] at ht) <;> (try (exfalso; omega))) | refine Z0 ?_ | refine Zq ?_ | refine Zr ?_ | refine Zk ?_ | refine Zy ?_ | refine Zn ?_ | refine Zj ?_ | refine Ze ?_ | refine Zx ?_ | refine Zqr ?_ | refine Zqs ?_ | refine Zqc ?_ | refine Zqx ?_ | refine Zqf ?_ | refine Zm tb fun b => ?_ | refine Zb fun b => ?_ | refine Zs tb ?_ | refine WL_u (by first | exact Yl_indexAddr tb r rfl rfl rfl rfl hlt | exact Yl_load1 tb rfl rfl (Has.row (List.mem_cons_self ..)) hv) rfl rfl ?_ | refine Zu tb ?_))
      exact ⟨r + 1, by omega, by omega, (by repeat (first | exact Sub.nil | refine Sub.cons rfl ?_)), keepAll _⟩
  · (repeat' (first | refine Zv tb ?_ | (refine Zt (fun ht => ?_) (fun ht => ?_) <;> (dsimp only [cmpP, cmpN] at ht) <;> (try (exfalso; omega))) | refine Z0 ?_ | refine Zq ?_ | refine Zr ?_ | refine Zk ?_ | refine Zy ?_ | refine Zn ?_ | refine Zj ?_ | refine Ze ?_ | refine Zx ?_ | refine Zqr ?_ | refine Zqs ?_ | refine Zqc ?_ | refine Zqx ?_ | refine Zqf ?_ | refine Zm tb fun b => ?_ | refine Zb fun b => ?_ | refine Zs tb ?_ | refine Zu tb ?_))
    exact ⟨_, [], .tmp rfl .nil, ⟨rfl, rfl⟩, _, List.Perm.refl _⟩
end Go.Proofs.Ytdnngagahhleiaa
