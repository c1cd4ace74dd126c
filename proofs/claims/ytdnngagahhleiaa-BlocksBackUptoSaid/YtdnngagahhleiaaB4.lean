/- blocks: a buffer; what Put would answer. -/
import Derived.Test.YtdnngagahhleiaaB1
import Derived.Test.YtdnngagahhleiaaY1
import Derived.Test.YtdnngagahhleiaaC12
import Derived.Test.YtdnngagahhleiaaL4
namespace Go.Proofs.Ytdnngagahhleiaa
open Go.Sx
attribute [local irreducible] W WL WP Hv Yl WQ At QP QF Rnd
set_option maxRecDepth 10000
set_option linter.unusedVariables false
set_option linter.unusedSimpArgs false
/-- a buffer: which bytes came, the bytes, whether it was dropped. -/
structure Bf where
  came : List Sp
  bytes : List Int
  dr : Bool
/-- how many of the first n of a span's places differ. -/
def clN (bs data : List Int) (at' fr : Int) : Nat → Int
  | 0 => 0
  | n + 1 => clN bs data at' fr n + (if bz bs (fr + n).toNat = bz data (fr + n - at').toNat then 0 else 1)
def clL (bs data : List Int) (at' : Int) (l : List Sp) : Int := (l.map fun o => clN bs data at' o.1 (o.2 - o.1).toNat).sum
theorem clN_bd (bs data : List Int) (at' fr : Int) : ∀ n, 0 ≤ clN bs data at' fr n ∧ clN bs data at' fr n ≤ n
  | 0 => by simp [clN]
  | n + 1 => by
    have := clN_bd bs data at' fr n
    rw [clN]; split <;> omega
theorem clL_succ {bs data : List Int} {at' : Int} {l : List Sp} {i : Nat} (h : i < l.length) : clL bs data at' (l.take (i + 1)) = clL bs data at' (l.take i) + clN bs data at' l[i].1 (l[i].2 - l[i].1).toNat := by
  unfold clL
  rw [List.take_succ_eq_append_getElem h, List.map_append, List.sum_append]
  simp
structure WB (B : Bf) : Prop where
  right : Right B.came
  lt : ∀ x, mem B.came x → x < 65536
  has : B.dr = false → ∀ x, mem B.came x → x < B.bytes.length
  len : B.bytes.length ≤ 65536
def lookF (B : Bf) (at' : Int) (data : List Int) : List Sp × Int × Int × Int :=
  if 65536 < data.length then ([], 0, 0, 2) else if data.length = 0 ∨ at' < 0 ∨ 65536 - (data.length : Int) < at' then ([], 0, 0, 1) else
  if (add B.came (at', at' + data.length)).2.2 ≠ 0 then ([], 0, 0, 3) else
  ((add B.came (at', at' + data.length)).1, (add B.came (at', at' + data.length)).2.1, if B.dr then 0 else clL B.bytes data at' (sel (pieces B.came (at', at' + data.length)) true), 0)
abbrev bufI (bb : Nat) (B : Bf) (V : Option Addr) (c : Nat) (U : Option Addr) (cu : Nat) : List It :=
  [.blk bb [.slice V B.came.length c, .slice U B.bytes.length cu, .bool B.dr] 130, .row (.slice V B.came.length c) 61 2 B.came.length (spC.cells B.came), .row (.slice U B.bytes.length cu) 5 1 B.bytes.length (byC.cells B.bytes)]
def LkR (bb : Nat) (B : Bf) (V : Option Addr) (c : Nat) (U : Option Addr) (cu : Nat) (r : List Sp × Int × Int × Int) (v : Value) (Γ : List It) : Prop :=
  ∃ A ca, v = tup [.slice A r.1.length ca, .int .i64 r.2.1, .int .i64 r.2.2.1, .int .i64 r.2.2.2] ∧ Γ = bufI bb B V c U cu ++ [.row (.slice A r.1.length ca) 61 2 r.1.length (spC.cells r.1)]
set_option maxHeartbeats 4000000 in
theorem look_t (bb : Nat) (B : Bf) (V U D : Option Addr) (c cu dc : Nat) (at' : Int) (data : List Int) (w : World) (hB : WB B) (hD : SlO w (fps (bufI bb B V c U cu)) D data.length dc (byC.cells data)) :
    Tr Try.prog 71 #[.pointer (some ⟨bb, 0, none⟩), .int .i64 at', .slice D data.length dc] w (bufI bb B V c U cu) (LkR bb B V c U cu (lookF B at' data)) := by
  obtain ⟨cm, bs, dr⟩ := B
  obtain ⟨hr, hlt, hhas, hlen⟩ := hB
  dsimp only at hr hlt hhas hlen hD ⊢
  refine Tr_intro (rs := [.tmp 6, .tmp 7, .tmp 8, .tmp 9]) (args := [.pointer (some ⟨bb, 0, none⟩), .int .i64 at', .slice D data.length dc]) Try.func71 rfl rfl 105 rfl rfl ?_
  refine W_nilrow 61 2 ?_
  by_cases h1 : 65536 < data.length
  · have e : lookF ⟨cm, bs, dr⟩ at' data = ([], 0, 0, 2) := by unfold lookF; rw [if_pos h1]
    rw [e]
    (repeat' (first | refine Zv tb ?_ | (refine Zt (fun ht => ?_) (fun ht => ?_) <;> (dsimp only [cmpP, cmpN] at ht) <;> (try (exfalso; omega))) | refine Z0 ?_ | refine Zq ?_ | refine Zr ?_ | refine Zk ?_ | refine Zy ?_ | refine Zn ?_ | refine Zj ?_ | refine Ze ?_ | refine Zx ?_ | refine Zqr ?_ | refine Zqs ?_ | refine Zqc ?_ | refine Zqx ?_ | refine Zqf ?_ | refine Zm tb fun b => ?_ | refine Zb fun b => ?_ | refine Zs tb ?_ | refine Zu tb ?_))
    exact ⟨_, _, .tmp rfl (.tmp rfl (.tmp rfl (.tmp rfl .nil))), ⟨none, 0, rfl, rfl⟩, _, perm_picks [1, 1, 1, 0] rfl⟩
  by_cases h2 : data.length = 0 ∨ at' < 0 ∨ 65536 - (data.length : Int) < at'
  · have e : lookF ⟨cm, bs, dr⟩ at' data = ([], 0, 0, 1) := by unfold lookF; rw [if_neg h1, if_pos h2]
    rw [e]
    (repeat' (first | refine Zv tb ?_ | (refine Zt (fun ht => ?_) (fun ht => ?_) <;> (dsimp only [cmpP, cmpN] at ht) <;> (try (exfalso; omega))) | refine Z0 ?_ | refine Zq ?_ | refine Zr ?_ | refine Zk ?_ | refine Zy ?_ | refine Zn ?_ | refine Zj ?_ | refine Ze ?_ | refine Zx ?_ | refine Zqr ?_ | refine Zqs ?_ | refine Zqc ?_ | refine Zqx ?_ | refine Zqf ?_ | refine Zm tb fun b => ?_ | refine Zb fun b => ?_ | refine Zs tb ?_ | refine Zu tb ?_))
    all_goals exact ⟨_, _, .tmp rfl (.tmp rfl (.tmp rfl (.tmp rfl .nil))), ⟨none, 0, rfl, rfl⟩, _, perm_picks [1, 1, 1, 0] rfl⟩
  have hmay : mayB (at', at' + data.length) = true := by simp [mayB]; omega
  (repeat' (first | refine Zv tb ?_ | (refine Zt (fun ht => ?_) (fun ht => ?_) <;> (dsimp only [cmpP, cmpN] at ht) <;> (try (exfalso; omega))) | refine Z0 ?_ | refine Zq ?_ | refine Zr ?_ | refine Zk ?_ | refine Zy ?_ | refine Zn ?_ | refine Zj ?_ | refine Ze ?_ | refine Zx ?_ | refine Zqr ?_ | refine Zqs ?_ | refine Zqc ?_ | refine Zqx ?_ | refine Zqf ?_ | refine Zm tb fun b => ?_ | refine Zb fun b => ?_ | refine Zs tb ?_ | refine Zu tb ?_))
  revert b
  intro b10
  (repeat refine W_seq ?_); refine W_regionD tb [5] _ [(0, 0), (1, 0), (2, 0), (3, 1), (4, 1), (5, 2), (6, 0), (7, 0), (8, 0), (9, 0), (10, 0), (11, 0), (12, 0)] (by kernel_rfl) (keepAll _) ?_
  (repeat' (first | refine Zpv tb ?_ | (refine Zpt (fun ht => ?_) (fun ht => ?_) <;> (dsimp only [cmpP, cmpN] at ht) <;> (try (exfalso; omega))) | refine Zpw ?_ | refine Zpu tb ?_ | refine Zps tb ?_ | refine Zpk ?_ | refine Zp0 ?_))
  refine WP_2 rfl rfl (Hv_call tb (Γ1 := []) rfl rfl rfl (List.Perm.refl _) (fun w hs => Add_t V cm c (at', at' + data.length) w (SlO.row hs (by repeat (first | exact List.Mem.head _ | apply List.Mem.tail)))) rfl ?_)
  rintro v Γ' ⟨A1, ca1, rfl, rfl⟩
  refine ⟨.inl rfl, ?_⟩
  by_cases h3 : (add cm (at', at' + data.length)).2.2 ≠ 0
  · have e : lookF ⟨cm, bs, dr⟩ at' data = ([], 0, 0, 3) := by unfold lookF; rw [if_neg h1, if_neg h2, if_pos h3]
    rw [e]
    (repeat' (first | refine Zpv tb ?_ | (refine Zpt (fun ht => ?_) (fun ht => ?_) <;> (dsimp only [cmpP, cmpN] at ht) <;> (try (exfalso; omega))) | refine Zpw ?_ | refine Zpu tb ?_ | refine Zps tb ?_ | refine Zpk ?_ | refine Zp0 ?_))
    (repeat' (first | refine Zv tb ?_ | (refine Zt (fun ht => ?_) (fun ht => ?_) <;> (dsimp only [cmpP, cmpN] at ht) <;> (try (exfalso; omega))) | refine Z0 ?_ | refine Zq ?_ | refine Zr ?_ | refine Zk ?_ | refine Zy ?_ | refine Zn ?_ | refine Zj ?_ | refine Ze ?_ | refine Zx ?_ | refine Zqr ?_ | refine Zqs ?_ | refine Zqc ?_ | refine Zqx ?_ | refine Zqf ?_ | refine Zm tb fun b => ?_ | refine Zb fun b => ?_ | refine Zs tb ?_ | refine Zu tb ?_))
    exact ⟨_, _, .tmp rfl (.tmp rfl (.tmp rfl (.tmp rfl .nil))), ⟨none, 0, rfl, rfl⟩, _, perm_picks [3, 3, 3, 2] rfl⟩
  have e : lookF ⟨cm, bs, dr⟩ at' data = ((add cm (at', at' + data.length)).1, (add cm (at', at' + data.length)).2.1, if dr then 0 else clL bs data at' (sel (pieces cm (at', at' + data.length)) true), 0) := by unfold lookF; rw [if_neg h1, if_neg h2, if_neg h3]
  rw [e]
  generalize add cm (at', at' + data.length) = ad at *
  obtain ⟨ad1, ad2, ad3⟩ := ad
  dsimp only at h3 ⊢
  cases dr
  · have ha := may_asked hmay
    have hgt := gat_true hr ha
    have hwr := within_right hr ha
    have hwm := within_mem hr ha
    (repeat' (first | refine Zpv tb ?_ | (refine Zpt (fun ht => ?_) (fun ht => ?_) <;> (dsimp only [cmpP, cmpN] at ht) <;> (try (exfalso; omega))) | refine Zpw ?_ | refine Zpu tb ?_ | refine Zps tb ?_ | refine Zpk ?_ | refine Zp0 ?_))
    (repeat' (first | refine Zv tb ?_ | (refine Zt (fun ht => ?_) (fun ht => ?_) <;> (dsimp only [cmpP, cmpN] at ht) <;> (try (exfalso; omega))) | refine Z0 ?_ | refine Zq ?_ | refine Zr ?_ | refine Zk ?_ | refine Zy ?_ | refine Zn ?_ | refine Zj ?_ | refine Ze ?_ | refine Zx ?_ | refine Zqr ?_ | refine Zqs ?_ | refine Zqc ?_ | refine Zqx ?_ | refine Zqf ?_ | refine Zm tb fun b => ?_ | refine Zb fun b => ?_ | refine Zs tb ?_ | refine Zu tb ?_))
    (repeat refine W_seq ?_); refine W_regionD tb [5] _ [(0, 0), (1, 0), (2, 0), (3, 1), (4, 1), (5, 2), (6, 0), (7, 0), (8, 0), (9, 0), (10, 0)] (by kernel_rfl) (keepAll _) ?_
    (repeat' (first | refine Zpv tb ?_ | (refine Zpt (fun ht => ?_) (fun ht => ?_) <;> (dsimp only [cmpP, cmpN] at ht) <;> (try (exfalso; omega))) | refine Zpw ?_ | refine Zpu tb ?_ | refine Zps tb ?_ | refine Zpk ?_ | refine Zp0 ?_))
    refine WP_2 rfl rfl (Hv_call tb (Γ1 := []) rfl rfl rfl (List.Perm.refl _) (fun w hs => Within_t V cm c (at', at' + data.length) w (SlO.row hs (by repeat (first | exact List.Mem.head _ | apply List.Mem.tail)))) rfl ?_)
    rw [hgt]
    generalize sel (pieces cm (at', at' + data.length)) true = L at *
    have hsp : ∀ i (hi : i < L.length), at' ≤ L[i].1 ∧ L[i].1 < L[i].2 ∧ L[i].2 ≤ at' + data.length ∧ L[i].2 ≤ bs.length := fun i hi => by
      have hm := (hwr.2 i hi).1
      rw [← gp_eq hi] at hm
      simp only [mayB, decide_eq_true_eq] at hm
      have m1 := (hwm L[i].1).1 ⟨L[i], List.getElem_mem _, Int.le_refl _, by omega⟩
      have m2 := (hwm (L[i].2 - 1)).1 ⟨L[i], List.getElem_mem _, by omega, by omega⟩
      have m3 := hhas rfl _ m2.2
      dsimp only at m1 m2
      omega
    have hLn := hwr.1
    rintro v Γ' ⟨A2, ca2, rfl, rfl⟩
    refine ⟨.inl rfl, ?_⟩
    (repeat' (first | refine Zpv tb ?_ | (refine Zpt (fun ht => ?_) (fun ht => ?_) <;> (dsimp only [cmpP, cmpN] at ht) <;> (try (exfalso; omega))) | refine Zpw ?_ | refine Zpu tb ?_ | refine Zps tb ?_ | refine Zpk ?_ | refine Zp0 ?_))
    (repeat' (first | refine Zv tb ?_ | (refine Zt (fun ht => ?_) (fun ht => ?_) <;> (dsimp only [cmpP, cmpN] at ht) <;> (try (exfalso; omega))) | refine Z0 ?_ | refine Zq ?_ | refine Zr ?_ | refine Zk ?_ | refine Zy ?_ | refine Zn ?_ | refine Zj ?_ | refine Ze ?_ | refine Zx ?_ | refine Zqr ?_ | refine Zqs ?_ | refine Zqc ?_ | refine Zqx ?_ | refine Zqf ?_ | refine Zm tb fun b => ?_ | refine Zb fun b => ?_ | refine Zs tb ?_ | refine Zu tb ?_))
    refine W_cutB (σ := Unit) (fun _ => [(0, .pointer (some ⟨bb, 0, none⟩)), (1, .int .i64 at'), (2, .slice D data.length dc), (11, .slice A1 ad1.length ca1), (12, .int .i64 ad2), (71, .slice A2 L.length ca2), (72, .int .i64 L.length), (14, .int .i64 (clL bs data at' L))]) (fun _ => [.row (.slice A2 L.length ca2) 61 2 L.length (spC.cells L), .blk bb [.slice V cm.length c, .slice U bs.length cu, .bool false] 130, .row (.slice V cm.length c) 61 2 cm.length (spC.cells cm), .row (.slice U bs.length cu) 5 1 bs.length (byC.cells bs), .row (.slice A1 ad1.length ca1) 61 2 ad1.length (spC.cells ad1)]) (fun _ => True) ?_ ?_
    · refine W_loop (σ := Nat × Int) (fun | (i, cl) => [(0, .pointer (some ⟨bb, 0, none⟩)), (1, .int .i64 at'), (2, .slice D data.length dc), (11, .slice A1 ad1.length ca1), (12, .int .i64 ad2), (71, .slice A2 L.length ca2), (72, .int .i64 L.length), (73, .int .i64 i), (14, .int .i64 cl)]) (fun _ => [.row (.slice A2 L.length ca2) 61 2 L.length (spC.cells L), .blk bb [.slice V cm.length c, .slice U bs.length cu, .bool false] 130, .row (.slice V cm.length c) 61 2 cm.length (spC.cells cm), .row (.slice U bs.length cu) 5 1 bs.length (byC.cells bs), .row (.slice A1 ad1.length ca1) 61 2 ad1.length (spC.cells ad1)])
        (fun | (i, cl) => i ≤ L.length ∧ cl = clL bs data at' (L.take i) ∧ 0 ≤ cl ∧ cl ≤ 65536 * i) (fun | (i, _) => L.length - i) (0, 0) ⟨Nat.zero_le _, rfl, by omega, by omega⟩ (by repeat (first | exact Sub.nil | refine Sub.cons rfl ?_)) ⟨_, perm_picks [0, 3, 3, 3, 0] rfl⟩ ?_
      rintro ⟨i, cl⟩ ⟨hi, hcl, hc0, hc1⟩
      dsimp only at hi hcl hc0 hc1 ⊢
      by_cases hlt1 : i < L.length
      · have hsc := clL_succ (bs := bs) (data := data) (at' := at') hlt1
        obtain ⟨h5, h6, h7, h8⟩ := hsp i hlt1
        rw [← hcl] at hsc
        obtain ⟨⟨o1, o2⟩, ho⟩ : ∃ o, L[i] = o := ⟨_, rfl⟩
        have hseg := cells_seg spC hlt1
        rw [ho] at hsc h5 h6 h7 h8 hseg
        dsimp only at hsc h5 h6 h7 h8
        refine W_fact (p := A2 ≠ none ∧ U ≠ none) (fun w hs => ⟨fun h => by have := ((hs.row_fact (A := A2) (m := L.length) (by repeat (first | exact List.Mem.head _ | apply List.Mem.tail))).1 h).2; omega, fun h => by have := ((hs.row_fact (A := U) (m := bs.length) (by repeat (first | exact List.Mem.head _ | apply List.Mem.tail))).1 h).2; omega⟩) ?_
        rintro ⟨hA2, hU⟩
        obtain ⟨a2, rfl⟩ : ∃ v, A2 = some v := by cases A2 with
          | some v => exact ⟨v, rfl⟩
          | none => exact absurd rfl hA2
        obtain ⟨u, rfl⟩ : ∃ v, U = some v := by cases U with
          | some v => exact ⟨v, rfl⟩
          | none => exact absurd rfl hU
        obtain ⟨a, rfl, hHd⟩ := hD.rd (cells_ne byC (by intro h; simp [h] at h2) (by decide))
        (repeat' (first | refine Zv tb ?_ | (refine Zt (fun ht => ?_) (fun ht => ?_) <;> (dsimp only [cmpP, cmpN] at ht) <;> (try (exfalso; omega))) | refine Z0 ?_ | refine Zq ?_ | refine Zr ?_ | refine Zk ?_ | refine Zy ?_ | refine Zn ?_ | refine Zj ?_ | refine Ze ?_ | refine Zx ?_ | refine Zqr ?_ | refine Zqs ?_ | refine Zqc ?_ | refine Zqx ?_ | refine Zqf ?_ | refine Zm tb fun b => ?_ | refine Zb fun b => ?_ | refine Zs tb ?_ | refine WL_u (by first | exact Yl_indexAddr tb i rfl rfl rfl rfl hlt1 | exact Yl_loadA tb _ rfl rfl (Has.row (by repeat (first | exact List.Mem.head _ | apply List.Mem.tail))) hseg rfl) rfl rfl ?_ | refine Zu tb ?_))
        revert b
        intro b18
        (repeat' (first | refine Zv tb ?_ | (refine Zt (fun ht => ?_) (fun ht => ?_) <;> (dsimp only [cmpP, cmpN] at ht) <;> (try (exfalso; omega))) | refine Z0 ?_ | refine Zq ?_ | refine Zr ?_ | refine Zk ?_ | refine Zy ?_ | refine Zn ?_ | refine Zj ?_ | refine Ze ?_ | refine Zx ?_ | refine Zqr ?_ | refine Zqs ?_ | refine Zqc ?_ | refine Zqx ?_ | refine Zqf ?_ | refine Zm tb fun b => ?_ | refine Zb fun b => ?_ | refine Zs tb ?_ | refine Zu tb ?_))
        refine W_loop (σ := Nat × Int) (fun | (k, cx) => [(0, .pointer (some ⟨bb, 0, none⟩)), (1, .int .i64 at'), (2, .slice (some a) data.length dc), (11, .slice A1 ad1.length ca1), (12, .int .i64 ad2), (71, .slice (some a2) L.length ca2), (72, .int .i64 L.length), (73, .int .i64 i), (18, .pointer (some ⟨b18, 0, none⟩)), (19, .int .i64 (o1 + k)), (14, .int .i64 cx)]) (fun _ => [.row (.slice (some a2) L.length ca2) 61 2 L.length (spC.cells L), .blk bb [.slice V cm.length c, .slice (some u) bs.length cu, .bool false] 130, .row (.slice V cm.length c) 61 2 cm.length (spC.cells cm), .row (.slice (some u) bs.length cu) 5 1 bs.length (byC.cells bs), .row (.slice A1 ad1.length ca1) 61 2 ad1.length (spC.cells ad1), .blk b18 [.int .i64 o1, .int .i64 o2] 61])
          (fun | (k, cx) => k ≤ (o2 - o1).toNat ∧ cx = cl + clN bs data at' o1 k) (fun | (k, _) => (o2 - o1).toNat - k) (0, cl) ⟨Nat.zero_le _, by simp [clN]⟩ ?_ ⟨_, perm_picks [1, 1, 1, 1, 1, 0] rfl⟩ ?_
        · dsimp only
          rw [show o1 + ((0 : Nat) : Int) = o1 by omega]
          exact (by repeat (first | exact Sub.nil | refine Sub.cons rfl ?_))
        rintro ⟨k, cx⟩ ⟨hk, hcx⟩
        dsimp only at hk hcx ⊢
        have hcn := clN_bd bs data at' o1 k
        by_cases hlt2 : k < (o2 - o1).toNat
        · have hb1 := by_get (l := bs) (i := (o1 + k).toNat) (by omega)
          have hb2 := by_get (l := data) (i := (o1 + k - at').toNat) (by omega)
          have hcn1 : clN bs data at' o1 (k + 1) = clN bs data at' o1 k + (if bz bs (o1 + k).toNat = bz data (o1 + k - at').toNat then 0 else 1) := rfl
          (repeat' (first | refine Zv tb ?_ | (refine Zt (fun ht => ?_) (fun ht => ?_) <;> (dsimp only [cmpP, cmpN] at ht) <;> (try (exfalso; omega))) | refine Z0 ?_ | refine Zq ?_ | refine Zr ?_ | refine Zk ?_ | refine Zy ?_ | refine Zn ?_ | refine Zj ?_ | refine Ze ?_ | refine Zx ?_ | refine Zqr ?_ | refine Zqs ?_ | refine Zqc ?_ | refine Zqx ?_ | refine Zqf ?_ | refine Zm tb fun b => ?_ | refine Zb fun b => ?_ | refine Zs tb ?_ | refine Zu tb ?_))
          (repeat refine W_seq ?_); refine W_regionD tb [] _ [(0, 0), (1, 0), (2, 0), (3, 1), (4, 0), (5, 0), (6, 1), (7, 0), (8, 0), (9, 0), (10, 0), (11, 0), (12, 1), (13, 0)] (by kernel_rfl) (keepAll _) ?_
          (repeat' (first | refine Zpv tb ?_ | (refine Zpt (fun ht => ?_) (fun ht => ?_) <;> (dsimp only [cmpP, cmpN] at ht) <;> (try (exfalso; omega))) | refine WP_u0 rfl (by first | exact Yl_indexAddr tb (o1 + k).toNat rfl rfl rfl (by omega) (by omega) | exact Yl_load1 tb rfl rfl (Has.row (by repeat (first | exact List.Mem.head _ | apply List.Mem.tail))) hb1 | exact Yl_indexAddr tb (o1 + k - at').toNat rfl rfl rfl (by omega) (by omega) | exact Yl_load1 tb rfl rfl (Has.old hHd) hb2) rfl rfl ?_ | refine WP_u1 rfl (by first | exact Yl_indexAddr tb (o1 + k).toNat rfl rfl rfl (by omega) (by omega) | exact Yl_load1 tb rfl rfl (Has.row (by repeat (first | exact List.Mem.head _ | apply List.Mem.tail))) hb1 | exact Yl_indexAddr tb (o1 + k - at').toNat rfl rfl rfl (by omega) (by omega) | exact Yl_load1 tb rfl rfl (Has.old hHd) hb2) rfl rfl ?_ | refine Zpw ?_ | refine Zpu tb ?_ | refine Zps tb ?_ | refine Zpk ?_ | refine Zp0 ?_))
          · rw [if_neg (by assumption)] at hcn1
            (repeat' (first | refine Zv tb ?_ | (refine Zt (fun ht => ?_) (fun ht => ?_) <;> (dsimp only [cmpP, cmpN] at ht) <;> (try (exfalso; omega))) | refine Z0 ?_ | refine Zq ?_ | refine Zr ?_ | refine Zk ?_ | refine Zy ?_ | refine Zn ?_ | refine Zj ?_ | refine Ze ?_ | refine Zx ?_ | refine Zqr ?_ | refine Zqs ?_ | refine Zqc ?_ | refine Zqx ?_ | refine Zqf ?_ | refine Zm tb fun b => ?_ | refine Zb fun b => ?_ | refine Zs tb ?_ | refine Zu tb ?_))
            refine ⟨(k + 1, cx + 1), ⟨by dsimp only; omega, by dsimp only; omega⟩, by dsimp only; omega, ?_, keepAll _⟩
            dsimp only
            rw [show o1 + ((k + 1 : Nat) : Int) = o1 + k + 1 by omega]
            exact (by repeat (first | exact Sub.nil | refine Sub.cons rfl ?_))
          · rw [if_pos (by assumption)] at hcn1
            (repeat' (first | refine Zv tb ?_ | (refine Zt (fun ht => ?_) (fun ht => ?_) <;> (dsimp only [cmpP, cmpN] at ht) <;> (try (exfalso; omega))) | refine Z0 ?_ | refine Zq ?_ | refine Zr ?_ | refine Zk ?_ | refine Zy ?_ | refine Zn ?_ | refine Zj ?_ | refine Ze ?_ | refine Zx ?_ | refine Zqr ?_ | refine Zqs ?_ | refine Zqc ?_ | refine Zqx ?_ | refine Zqf ?_ | refine Zm tb fun b => ?_ | refine Zb fun b => ?_ | refine Zs tb ?_ | refine Zu tb ?_))
            refine ⟨(k + 1, cx), ⟨by dsimp only; omega, by dsimp only; omega⟩, by dsimp only; omega, ?_, keepAll _⟩
            dsimp only
            rw [show o1 + ((k + 1 : Nat) : Int) = o1 + k + 1 by omega]
            exact (by repeat (first | exact Sub.nil | refine Sub.cons rfl ?_))
        · obtain rfl : k = (o2 - o1).toNat := by omega
          (repeat' (first | refine Zv tb ?_ | (refine Zt (fun ht => ?_) (fun ht => ?_) <;> (dsimp only [cmpP, cmpN] at ht) <;> (try (exfalso; omega))) | refine Z0 ?_ | refine Zq ?_ | refine Zr ?_ | refine Zk ?_ | refine Zy ?_ | refine Zn ?_ | refine Zj ?_ | refine Ze ?_ | refine Zx ?_ | refine Zqr ?_ | refine Zqs ?_ | refine Zqc ?_ | refine Zqx ?_ | refine Zqf ?_ | refine Zm tb fun b => ?_ | refine Zb fun b => ?_ | refine Zs tb ?_ | refine Zu tb ?_))
          exact ⟨(i + 1, cx), ⟨by dsimp only; omega, by dsimp only; rw [hsc, hcx], by dsimp only; omega, by dsimp only; omega⟩, by dsimp only; omega, (by repeat (first | exact Sub.nil | refine Sub.cons rfl ?_)), _, perm_picks [0, 0, 0, 0, 0] rfl⟩
      · have ht1 : L.take i = L := List.take_of_length_le (by omega)
        rw [ht1] at hcl
        (repeat' (first | refine Zv tb ?_ | (refine Zt (fun ht => ?_) (fun ht => ?_) <;> (dsimp only [cmpP, cmpN] at ht) <;> (try (exfalso; omega))) | refine Z0 ?_ | refine Zq ?_ | refine Zr ?_ | refine Zk ?_ | refine Zy ?_ | refine Zn ?_ | refine Zj ?_ | refine Ze ?_ | refine Zx ?_ | refine Zqr ?_ | refine Zqs ?_ | refine Zqc ?_ | refine Zqx ?_ | refine Zqf ?_ | refine Zm tb fun b => ?_ | refine Zb fun b => ?_ | refine Zs tb ?_ | refine Zu tb ?_))
        refine ⟨(), trivial, ?_, keepAll _⟩
        rw [← hcl]
        exact (by repeat (first | exact Sub.nil | refine Sub.cons rfl ?_))
    intro _ _
    (repeat' (first | refine Zv tb ?_ | (refine Zt (fun ht => ?_) (fun ht => ?_) <;> (dsimp only [cmpP, cmpN] at ht) <;> (try (exfalso; omega))) | refine Z0 ?_ | refine Zq ?_ | refine Zr ?_ | refine Zk ?_ | refine Zy ?_ | refine Zn ?_ | refine Zj ?_ | refine Ze ?_ | refine Zx ?_ | refine Zqr ?_ | refine Zqs ?_ | refine Zqc ?_ | refine Zqx ?_ | refine Zqf ?_ | refine Zm tb fun b => ?_ | refine Zb fun b => ?_ | refine Zs tb ?_ | refine Zu tb ?_))
    exact ⟨_, _, .tmp rfl (.tmp rfl (.tmp rfl (.tmp rfl .nil))), ⟨A1, ca1, rfl, rfl⟩, _, perm_picks [1, 1, 1, 1] rfl⟩
  · (repeat' (first | refine Zpv tb ?_ | (refine Zpt (fun ht => ?_) (fun ht => ?_) <;> (dsimp only [cmpP, cmpN] at ht) <;> (try (exfalso; omega))) | refine Zpw ?_ | refine Zpu tb ?_ | refine Zps tb ?_ | refine Zpk ?_ | refine Zp0 ?_))
    (repeat' (first | refine Zv tb ?_ | (refine Zt (fun ht => ?_) (fun ht => ?_) <;> (dsimp only [cmpP, cmpN] at ht) <;> (try (exfalso; omega))) | refine Z0 ?_ | refine Zq ?_ | refine Zr ?_ | refine Zk ?_ | refine Zy ?_ | refine Zn ?_ | refine Zj ?_ | refine Ze ?_ | refine Zx ?_ | refine Zqr ?_ | refine Zqs ?_ | refine Zqc ?_ | refine Zqx ?_ | refine Zqf ?_ | refine Zm tb fun b => ?_ | refine Zb fun b => ?_ | refine Zs tb ?_ | refine Zu tb ?_))
    exact ⟨_, _, .tmp rfl (.tmp rfl (.tmp rfl (.tmp rfl .nil))), ⟨A1, ca1, rfl, rfl⟩, _, perm_picks [3, 3, 3, 0] rfl⟩
end Go.Proofs.Ytdnngagahhleiaa
