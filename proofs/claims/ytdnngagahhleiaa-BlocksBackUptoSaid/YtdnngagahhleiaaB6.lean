/- blocks: a buffer: Put, the walk. -/
import Derived.Test.YtdnngagahhleiaaB5
namespace Go.Proofs.Ytdnngagahhleiaa
open Go.Sx
attribute [local irreducible] W WL WP Hv Yl WQ At QP QF Rnd
set_option maxRecDepth 10000
set_option linter.unusedVariables false
set_option linter.unusedSimpArgs false
theorem W_perm' {P : Program} {r : Option Nat} {w0 : World} {X : List Nat} {n : Nat} {df : List Deferred} {c : Code} {K : Kont} {Q : Post} {fr : Fr} {Γ Γ' : List It} (hp : Γ.Perm Γ') (h : W P r w0 X n df c K Q fr Γ') : W P r w0 X n df c K Q fr Γ := W_perm hp h
theorem mixL_len (cm : List Sp) (bs data : List Int) (at' : Int) : (mixL cm bs data at').length = data.length := by simp [mixL]
theorem mixL_nil (bs data : List Int) (at' : Int) : mixL [] bs data at' = data := by
  refine by_ext (mixL_len _ _ _ _) fun j hj => ?_
  rw [mixL_len] at hj
  unfold mixL
  rw [bz_map hj]
  simp [memB]
theorem memB_take {L : List Sp} {i : Nat} (h : i < L.length) (x : Int) : memB (L.take (i + 1)) x = (memB (L.take i) x || decide (L[i].1 ≤ x ∧ x < L[i].2)) := by
  unfold memB
  rw [List.take_succ_eq_append_getElem h, List.any_append]
  simp
theorem bz_drop {l : List Int} {a b j : Nat} (hj : j < b) : bz ((l.drop a).take b) j = bz l (a + j) := by
  unfold bz
  simp only [List.getD_eq_getElem?_getD, List.getElem?_take, List.getElem?_drop, hj, if_true]
theorem mixL_step {L : List Sp} {bs data : List Int} {at' : Int} {i : Nat} (h : i < L.length) (h1 : at' ≤ L[i].1) (h2 : L[i].1 ≤ L[i].2) (h3 : L[i].2 ≤ at' + data.length) (h4 : L[i].2 ≤ bs.length) (h0 : 0 ≤ at') :
    putL (byC.cells (mixL (L.take i) bs data at')) (L[i].1 - at').toNat (byC.cells ((bs.drop L[i].1.toNat).take (L[i].2 - L[i].1).toNat)) = byC.cells (mixL (L.take (i + 1)) bs data at') := by
  have hsl : ((bs.drop L[i].1.toNat).take (L[i].2 - L[i].1).toNat).length = (L[i].2 - L[i].1).toNat := by simp; omega
  rw [by_put (by rw [hsl, mixL_len]; omega), hsl, mixL_len]
  congr 1
  unfold mixL
  refine List.map_congr_left fun j hj => ?_
  have hj' : j < data.length := by simpa using hj
  rw [memB_take h]
  by_cases hc : (L[i].1 - at').toNat ≤ j ∧ j < (L[i].1 - at').toNat + (L[i].2 - L[i].1).toNat
  · rw [if_pos hc, if_pos (by simp; right; omega), bz_drop (by omega)]
    congr 1; omega
  · rw [if_neg hc, bz_map hj']
    have : decide (L[i].1 ≤ at' + (j : Int) ∧ at' + (j : Int) < L[i].2) = false := by rw [decide_eq_false_iff_not]; omega
    rw [this, Bool.or_false]
theorem rd_seg {w0 : World} {X : List Nat} {K : List It} {U : Option Addr} {cu : Nat} {bs : List Int} (hK : byI U bs.length cu bs ∈ K) (hU : U = none → byC.cells bs = []) (a b : Nat) (hc : bs.length ≤ cu) : RdA w0 X K (sA U cu a 1) (byC.cells ((bs.drop a).take b)) := by
  have h1 : RdA w0 X K U (byC.cells bs) := RdA.row hK hU
  have := (h1.sl (cap := cu) (j := a) (sz := 1) (by rw [by_len]; omega)).tk (b * 1)
  rwa [show a * 1 = a * byC.sz from rfl, cells_drop, show b * 1 = b * byC.sz from rfl, cells_take] at this
theorem final_put {lk1 cm L : List Sp} {bs data : List Int} {at' : Int} (h0 : 0 ≤ at') (h1 : at' + data.length ≤ (max bs.length (lastT lk1) : Nat)) (hm : ∀ x, at' ≤ x → x < at' + data.length → (mem L x ↔ mem cm x)) :
    putL (byC.cells ((List.range (max bs.length (lastT lk1))).map fun j => bz bs j)) at'.toNat (byC.cells (mixL L bs data at')) = byC.cells (newB lk1 cm bs data at') := by
  rw [by_put (by rw [mixL_len]; simp; omega)]
  congr 1
  unfold newB
  rw [List.length_map, List.length_range, mixL_len]
  refine List.map_congr_left fun j hj => ?_
  have hj' : j < max bs.length (lastT lk1) := by simpa using hj
  by_cases hc : at'.toNat ≤ j ∧ j < at'.toNat + data.length
  · rw [if_pos hc, if_pos (by omega)]
    unfold mixL
    rw [bz_map (by omega)]
    have e1 : at' + ((j - at'.toNat : Nat) : Int) = (j : Int) := by omega
    rw [e1]
    have e2 : memB L j = memB cm j := by
      have := hm j (by omega) (by omega)
      rw [← memB_iff, ← memB_iff] at this
      exact Bool.eq_iff_iff.2 this
    rw [e2, show ((j : Int) - at').toNat = j - at'.toNat by omega, Int.toNat_natCast]
  · rw [if_neg hc, if_neg (by omega), bz_map hj']
theorem newB_len (cm' cm : List Sp) (bs data : List Int) (at' : Int) : (newB cm' cm bs data at').length = max bs.length (lastT cm') := by simp [newB]
def PtR (bb : Nat) (B : Bf) (x y z : Int) (v : Value) (Γ : List It) : Prop := v = tup [.int .i64 x, .int .i64 y, .int .i64 z] ∧ ∃ V c U cu, Γ = bufI bb B V c U cu
set_option maxHeartbeats 4000000 in
theorem Put_t (bb : Nat) (B : Bf) (V U D : Option Addr) (c cu dc : Nat) (at' : Int) (data : List Int) (w : World) (hB : WB B) (hD : SlO w (fps (bufI bb B V c U cu)) D data.length dc (byC.cells data)) :
    Tr Try.prog 43 #[.pointer (some ⟨bb, 0, none⟩), .int .i64 at', .slice D data.length dc] w (bufI bb B V c U cu) (PtR bb (putF B at' data).1 (putF B at' data).2.1 (putF B at' data).2.2.1 (putF B at' data).2.2.2) := by
  refine Tr_intro (rs := [.tmp 6, .tmp 7, .tmp 8]) (args := [.pointer (some ⟨bb, 0, none⟩), .int .i64 at', .slice D data.length dc]) Try.func43 rfl rfl 113 rfl rfl ?_
  (repeat' (first | refine Zv tb ?_ | (refine Zt (fun ht => ?_) (fun ht => ?_) <;> (dsimp only [cmpP, cmpN] at ht) <;> (try (exfalso; omega))) | refine Z0 ?_ | refine Zq ?_ | refine Zr ?_ | refine Zk ?_ | refine Zy ?_ | refine Zn ?_ | refine Zj ?_ | refine Ze ?_ | refine Zx ?_ | refine Zqr ?_ | refine Zqs ?_ | refine Zqc ?_ | refine Zqx ?_ | refine Zqf ?_ | refine Zm tb fun b => ?_ | refine Zb fun b => ?_ | refine Zs tb ?_ | refine Zu tb ?_))
  refine WL_cons rfl (Hv_call tb  rfl rfl rfl (perm_picks [0, 0, 0] rfl) (fun w hs => look_t bb B V U D c cu dc at' data w hB (hD.callP hs (perm_picks [0, 0, 0] rfl))) rfl ?_)
  by_cases h : (lookF B at' data).2.2.2 = 0
  · obtain ⟨d0, d1, d2, d3, d4, d5⟩ := look_ok hB h
    have hB' := hB
    have e : putF B at' data = (⟨(lookF B at' data).1, if B.dr = true then B.bytes else newB (lookF B at' data).1 B.came B.bytes data at', B.dr⟩, (lookF B at' data).2.1, (lookF B at' data).2.2.1, 0) := by unfold putF; rw [if_neg (by simpa using h)]
    have hpw := put_wb (data := data) (at' := at') hB
    rw [e]
    generalize lookF B at' data = lk at *
    obtain ⟨lk1, lk2, lk3, lk4⟩ := lk
    obtain ⟨cm, bs, dr⟩ := B
    dsimp only at h hpw d3 d4 hD e ⊢
    subst h
    rintro v Γ' hLk
    obtain ⟨A, ca, hv, hΓ⟩ := hLk
    dsimp only at hv hΓ
    subst hv hΓ
    have hlen := hB'.len
    have hr := hB'.right
    dsimp only at hlen hr
    cases dr
    · obtain ⟨q1, q2, q3, q4⟩ := hpw rfl rfl
      rw [if_neg (show ¬ (false = true) by decide)]
      have ha := may_asked d5
      have hgt := gat_true hr ha
      have hwr := within_right hr ha
      have hwm := within_mem hr ha
      have hhas := hB'.has rfl
      dsimp only at hhas
      generalize hL : sel (pieces cm (at', at' + data.length)) true = L at hgt hwr hwm
      (repeat' (first | refine Zv tb ?_ | (refine Zt (fun ht => ?_) (fun ht => ?_) <;> (dsimp only [cmpP, cmpN] at ht) <;> (try (exfalso; omega))) | refine Z0 ?_ | refine Zq ?_ | refine Zr ?_ | refine Zk ?_ | refine Zy ?_ | refine Zn ?_ | refine Zj ?_ | refine Ze ?_ | refine Zx ?_ | refine Zqr ?_ | refine Zqs ?_ | refine Zqc ?_ | refine Zqx ?_ | refine Zqf ?_ | refine Zm tb fun b => ?_ | refine Zb fun b => ?_ | refine Zs tb ?_ | refine Zu tb ?_))
      refine WL_nilrow 5 1 ?_
      refine WL_cons rfl (Hv_appendR tb (k := 0) (m := data.length) (news := byC.cells data) rfl rfl rfl rfl rfl (by decide) rfl (fun hn => hD.nil hn) (hD.rd.rd _) ((by_len _).trans (Nat.mul_one _).symm) (by_all _) (by omega) (by omega) rfl fun M mc => ?_)
      rw [Nat.zero_add, List.nil_append]
      (repeat' (first | refine Zv tb ?_ | (refine Zt (fun ht => ?_) (fun ht => ?_) <;> (dsimp only [cmpP, cmpN] at ht) <;> (try (exfalso; omega))) | refine Z0 ?_ | refine Zq ?_ | refine Zr ?_ | refine Zk ?_ | refine Zy ?_ | refine Zn ?_ | refine Zj ?_ | refine Ze ?_ | refine Zx ?_ | refine Zqr ?_ | refine Zqs ?_ | refine Zqc ?_ | refine Zqx ?_ | refine Zqf ?_ | refine Zm tb fun b => ?_ | refine Zb fun b => ?_ | refine Zs tb ?_ | refine Zu tb ?_))
      refine WL_cons rfl (Hv_call tb (Γ1 := []) rfl rfl rfl (List.Perm.refl _) (fun w hs => Within_t V cm c (at', at' + data.length) w (SlO.row hs (by repeat (first | exact List.Mem.head _ | apply List.Mem.tail)))) rfl ?_)
      rw [hgt]
      rintro v Γ' ⟨A2, ca2, rfl, rfl⟩
      (repeat' (first | refine Zv tb ?_ | (refine Zt (fun ht => ?_) (fun ht => ?_) <;> (dsimp only [cmpP, cmpN] at ht) <;> (try (exfalso; omega))) | refine Z0 ?_ | refine Zq ?_ | refine Zr ?_ | refine Zk ?_ | refine Zy ?_ | refine Zn ?_ | refine Zj ?_ | refine Ze ?_ | refine Zx ?_ | refine Zqr ?_ | refine Zqs ?_ | refine Zqc ?_ | refine Zqx ?_ | refine Zqf ?_ | refine Zm tb fun b => ?_ | refine Zb fun b => ?_ | refine Zs tb ?_ | refine Zu tb ?_))
      have hln := mixL_len
      have hsp : ∀ i (hi : i < L.length), at' ≤ L[i].1 ∧ L[i].1 < L[i].2 ∧ L[i].2 ≤ at' + data.length ∧ L[i].2 ≤ bs.length := fun i hi => by
        have hm := (hwr.2 i hi).1
        rw [← gp_eq hi] at hm
        simp only [mayB, decide_eq_true_eq] at hm
        have m1 := (hwm L[i].1).1 ⟨L[i], List.getElem_mem _, Int.le_refl _, by omega⟩
        have m2 := (hwm (L[i].2 - 1)).1 ⟨L[i], List.getElem_mem _, by omega, by omega⟩
        have m3 := hhas _ m2.2
        dsimp only at m1 m2
        omega
      have hLn := hwr.1
      refine W_fact (p := M ≠ none ∧ data.length ≤ mc ∧ bs.length ≤ cu ∧ (U = none → byC.cells bs = [])) (fun w hs => ?_) ?_
      · have h1 := hs.row_fact (A := M) (m := data.length) (by repeat (first | exact List.Mem.head _ | apply List.Mem.tail))
        have h2 := hs.row_fact (A := U) (m := bs.length) (by repeat (first | exact List.Mem.head _ | apply List.Mem.tail))
        exact ⟨fun h => by have := (h1.1 h).2; omega, h1.2.2.1, h2.2.2.1, fun h => (h2.1 h).1⟩
      rintro ⟨hM, hmc, hcu, hUn⟩
      obtain ⟨am, rfl⟩ : ∃ v, M = some v := by cases M with
        | some v => exact ⟨v, rfl⟩
        | none => exact absurd rfl hM
      refine W_cutB (σ := Unit) (fun _ => [(0, .pointer (some ⟨bb, 0, none⟩)), (1, .int .i64 at'), (2, .slice D data.length dc), (6, .int .i64 lk2), (7, .int .i64 lk3), (9, .slice A lk1.length ca), (10, .slice (some am) data.length mc)]) (fun _ => [byI (some am) data.length mc (mixL L bs data at'), .blk bb [.slice V cm.length c, .slice U bs.length cu, .bool false] 130, .row (.slice V cm.length c) 61 2 cm.length (spC.cells cm), byI U bs.length cu bs, .row (.slice A lk1.length ca) 61 2 lk1.length (spC.cells lk1)]) (fun _ => True) ?_ ?_
      · refine W_loop (σ := Nat) (fun i => [(0, .pointer (some ⟨bb, 0, none⟩)), (1, .int .i64 at'), (2, .slice D data.length dc), (6, .int .i64 lk2), (7, .int .i64 lk3), (9, .slice A lk1.length ca), (10, .slice (some am) data.length mc), (50, .slice A2 L.length ca2), (51, .int .i64 L.length), (52, .int .i64 i)]) (fun i => [.row (.slice A2 L.length ca2) 61 2 L.length (spC.cells L), byI (some am) data.length mc (mixL (L.take i) bs data at'), .blk bb [.slice V cm.length c, .slice U bs.length cu, .bool false] 130, .row (.slice V cm.length c) 61 2 cm.length (spC.cells cm), byI U bs.length cu bs, .row (.slice A lk1.length ca) 61 2 lk1.length (spC.cells lk1)])
          (fun i => i ≤ L.length) (fun i => L.length - i) 0 (Nat.zero_le _) (by repeat (first | exact Sub.nil | refine Sub.cons rfl ?_)) (by rw [List.take_zero, mixL_nil]; exact keepAll _) ?_
        intro i hi
        by_cases hlt1 : i < L.length
        · obtain ⟨h5, h6, h7, h8⟩ := hsp i hlt1
          have hmix := mixL_step (bs := bs) (data := data) (at' := at') hlt1 h5 (by omega) h7 h8 d1
          obtain ⟨⟨o1, o2⟩, ho⟩ : ∃ o, L[i] = o := ⟨_, rfl⟩
          have hseg := cells_seg spC hlt1
          rw [ho] at h5 h6 h7 h8 hseg hmix
          dsimp only at h5 h6 h7 h8 hmix
          refine W_fact (p := A2 ≠ none) (fun w hs h => by have := ((hs.row_fact (A := A2) (m := L.length) (by repeat (first | exact List.Mem.head _ | apply List.Mem.tail))).1 h).2; omega) fun hA2 => ?_
          obtain ⟨a2, rfl⟩ : ∃ v, A2 = some v := by cases A2 with
            | some v => exact ⟨v, rfl⟩
            | none => exact absurd rfl hA2
          (repeat' (first | refine Zv tb ?_ | (refine Zt (fun ht => ?_) (fun ht => ?_) <;> (dsimp only [cmpP, cmpN] at ht) <;> (try (exfalso; omega))) | refine Z0 ?_ | refine Zq ?_ | refine Zr ?_ | refine Zk ?_ | refine Zy ?_ | refine Zn ?_ | refine Zj ?_ | refine Ze ?_ | refine Zx ?_ | refine Zqr ?_ | refine Zqs ?_ | refine Zqc ?_ | refine Zqx ?_ | refine Zqf ?_ | refine Zm tb fun b => ?_ | refine Zb fun b => ?_ | refine Zs tb ?_ | refine WL_u (by first | exact Yl_indexAddr tb i rfl rfl rfl rfl hlt1 | exact Yl_loadA tb _ rfl rfl (Has.row (by repeat (first | exact List.Mem.head _ | apply List.Mem.tail))) hseg rfl) rfl rfl ?_ | refine Zu tb ?_))
          revert b
          intro b14
          (repeat' (first | refine Zv tb ?_ | (refine Zt (fun ht => ?_) (fun ht => ?_) <;> (dsimp only [cmpP, cmpN] at ht) <;> (try (exfalso; omega))) | refine Z0 ?_ | refine Zq ?_ | refine Zr ?_ | refine Zk ?_ | refine Zy ?_ | refine Zn ?_ | refine Zj ?_ | refine Ze ?_ | refine Zx ?_ | refine Zqr ?_ | refine Zqs ?_ | refine Zqc ?_ | refine Zqx ?_ | refine Zqf ?_ | refine Zm tb fun b => ?_ | refine Zb fun b => ?_ | refine Zs tb ?_ | refine Zu tb ?_))
          refine W_regionD tb [] [.blk b14 [.int .i64 o1, .int .i64 o2] 61, .blk bb [.slice V cm.length c, .slice U bs.length cu, .bool false] 130] [(0, 0), (1, 0), (2, 1), (3, 0), (4, 0), (5, 0), (6, 0), (7, 0), (8, 0), (9, 1), (10, 0), (11, 1), (12, 0), (13, 1), (14, 0), (15, 2)] (by kernel_rfl) ⟨_, perm_picks [0, 2] rfl⟩ ?_
          (repeat' (first | refine Zpv tb ?_ | (refine Zpt (fun ht => ?_) (fun ht => ?_) <;> (dsimp only [cmpP, cmpN] at ht) <;> (try (exfalso; omega))) | refine WP_u0 rfl (by first | exact Yl_sliceL tb (o1 - at').toNat rfl rfl rfl (by omega) (by omega) | exact Yl_sliceLH tb o1.toNat o2.toNat rfl rfl rfl rfl (by omega) (by omega) (by omega) (by omega)) rfl rfl ?_ | refine WP_u1 rfl (by first | exact Yl_sliceL tb (o1 - at').toNat rfl rfl rfl (by omega) (by omega) | exact Yl_sliceLH tb o1.toNat o2.toNat rfl rfl rfl rfl (by omega) (by omega) (by omega) (by omega)) rfl rfl ?_ | refine Zpw ?_ | refine Zpu tb ?_ | refine Zps tb ?_ | refine Zpk ?_ | refine Zp0 ?_))
          have hsl : ((bs.drop o1.toNat).take (o2 - o1).toNat).length = (o2 - o1).toNat := by simp; omega
          have hmn : min (o2.toNat - o1.toNat) (data.length - (o1 - at').toNat) = (o2 - o1).toNat := by omega
          refine WP_2 rfl rfl (Hv_copy tb (kk := 2) (a := am) (o := (o1 - at').toNat) (news := byC.cells ((bs.drop o1.toNat).take (o2 - o1).toNat)) (len := data.length) (cap := mc) rfl rfl rfl rfl (fun h => ?_) (rd_seg (by repeat (first | exact List.Mem.head _ | apply List.Mem.tail)) hUn _ _ hcu) (fun h => ?_) (by rw [by_len, hsl, hmn]; exact (Nat.mul_one _).symm) (by decide) (by rw [by_len, hsl]; omega) (by_all _) hmix rfl ⟨.inr ⟨_, perm_picks [0, 2] rfl⟩, ?_⟩)
          · unfold sA; rw [if_neg (by omega), Nat.mul_one]; rfl
          · have := hUn (sA_none h)
            have h9 := by_len bs
            rw [this] at h9
            simp at h9
            omega
          (repeat' (first | refine Zpv tb ?_ | (refine Zpt (fun ht => ?_) (fun ht => ?_) <;> (dsimp only [cmpP, cmpN] at ht) <;> (try (exfalso; omega))) | refine Zpw ?_ | refine Zpu tb ?_ | refine Zps tb ?_ | refine Zpk ?_ | refine Zp0 ?_))
          (repeat' (first | refine Zv tb ?_ | (refine Zt (fun ht => ?_) (fun ht => ?_) <;> (dsimp only [cmpP, cmpN] at ht) <;> (try (exfalso; omega))) | refine Z0 ?_ | refine Zq ?_ | refine Zr ?_ | refine Zk ?_ | refine Zy ?_ | refine Zn ?_ | refine Zj ?_ | refine Ze ?_ | refine Zx ?_ | refine Zqr ?_ | refine Zqs ?_ | refine Zqc ?_ | refine Zqx ?_ | refine Zqf ?_ | refine Zm tb fun b => ?_ | refine Zb fun b => ?_ | refine Zs tb ?_ | refine Zu tb ?_))
          exact ⟨i + 1, by omega, by omega, (by repeat (first | exact Sub.nil | refine Sub.cons rfl ?_)), _, perm_picks [1, 1, 1, 1, 1, 1] rfl⟩
        · have ht1 : L.take i = L := List.take_of_length_le (by omega)
          rw [ht1]
          (repeat' (first | refine Zv tb ?_ | (refine Zt (fun ht => ?_) (fun ht => ?_) <;> (dsimp only [cmpP, cmpN] at ht) <;> (try (exfalso; omega))) | refine Z0 ?_ | refine Zq ?_ | refine Zr ?_ | refine Zk ?_ | refine Zy ?_ | refine Zn ?_ | refine Zj ?_ | refine Ze ?_ | refine Zx ?_ | refine Zqr ?_ | refine Zqs ?_ | refine Zqc ?_ | refine Zqx ?_ | refine Zqf ?_ | refine Zm tb fun b => ?_ | refine Zb fun b => ?_ | refine Zs tb ?_ | refine Zu tb ?_))
          exact ⟨(), trivial, (by repeat (first | exact Sub.nil | refine Sub.cons rfl ?_)), _, perm_picks [1, 1, 1, 1, 1] rfl⟩
      intro _ _
      refine W_fact (p := A ≠ none) (fun w hs h => by have := ((hs.row_fact (A := A) (m := lk1.length) (by repeat (first | exact List.Mem.head _ | apply List.Mem.tail))).1 h).2; omega) fun hA => ?_
      obtain ⟨a9, rfl⟩ : ∃ v, A = some v := by cases A with
        | some v => exact ⟨v, rfl⟩
        | none => exact absurd rfl hA
      have hl1 := d4.1
      have hlp := last_mem d4 q2
      have hlast : lk1[lk1.length - 1].2 = (lastT lk1 : Int) := by rw [gp_eq (by omega)]; unfold lastT; omega
      have hlv : (spC.enc lk1[lk1.length - 1])[1]? = some (.int .i64 (lastT lk1)) := by rw [← hlast]; rfl
      have hfin := final_put (lk1 := lk1) (cm := cm) (bs := bs) (data := data) (at' := at') (L := L) d1 (by omega) (fun x hx1 hx2 => by
        have := hwm x
        dsimp only at this
        exact ⟨fun h => (this.1 h).2, fun h => this.2 ⟨⟨hx1, hx2⟩, h⟩⟩)
      (repeat' (first | refine Zv tb ?_ | (refine Zt (fun ht => ?_) (fun ht => ?_) <;> (dsimp only [cmpP, cmpN] at ht) <;> (try (exfalso; omega))) | refine Z0 ?_ | refine Zq ?_ | refine Zr ?_ | refine Zk ?_ | refine Zy ?_ | refine Zn ?_ | refine Zj ?_ | refine Ze ?_ | refine Zx ?_ | refine Zqr ?_ | refine Zqs ?_ | refine Zqc ?_ | refine Zqx ?_ | refine Zqf ?_ | refine Zm tb fun b => ?_ | refine Zb fun b => ?_ | refine Zs tb ?_ | refine WL_u (by first | exact Yl_indexAddr tb (lk1.length - 1) rfl rfl rfl (by omega) (by omega) | exact Yl_load1 tb rfl rfl (Has.el (c := spC) (xs := lk1) (i := lk1.length - 1) (Has.row (t := 61) (sz := 2) (n := lk1.length) (c := ca) (by repeat (first | exact List.Mem.head _ | apply List.Mem.tail))) (by omega)) hlv) rfl rfl ?_ | refine Zu tb ?_))
      · -- the row grows
        have hN : max bs.length (lastT lk1) = lastT lk1 := by omega
        rw [hN] at hfin
        refine WL_cons rfl (Hv_makeSlice tb (len := lastT lk1) rfl rfl rfl (by decide) rfl rfl (by omega) (by omega) (by omega) (by omega) rfl fun q => ?_)
        rw [by_zeros]
        (repeat' (first | refine Zv tb ?_ | (refine Zt (fun ht => ?_) (fun ht => ?_) <;> (dsimp only [cmpP, cmpN] at ht) <;> (try (exfalso; omega))) | refine Z0 ?_ | refine Zq ?_ | refine Zr ?_ | refine Zk ?_ | refine Zy ?_ | refine Zn ?_ | refine Zj ?_ | refine Ze ?_ | refine Zx ?_ | refine Zqr ?_ | refine Zqs ?_ | refine Zqc ?_ | refine Zqx ?_ | refine Zqf ?_ | refine Zm tb fun b => ?_ | refine Zb fun b => ?_ | refine Zs tb ?_ | refine Zu tb ?_))
        refine WL_cons rfl (Hv_copy tb (kk := 0) (a := ⟨q, 0, none⟩) (o := 0) (news := byC.cells bs) (len := lastT lk1) (cap := lastT lk1) (m := bs.length) rfl rfl rfl rfl (fun h => rfl) (RdA.row (by repeat (first | exact List.Mem.head _ | apply List.Mem.tail)) hUn) (fun h => by have := hUn h; have h9 := by_len bs; rw [this] at h9; simpa using h9.symm) (by rw [by_len, Nat.mul_one]; omega) (by decide) (by rw [by_len]; omega) (by_all _) (by_grow (by omega)) rfl ?_)
        (repeat' (first | refine Zv tb ?_ | (refine Zt (fun ht => ?_) (fun ht => ?_) <;> (dsimp only [cmpP, cmpN] at ht) <;> (try (exfalso; omega))) | refine Z0 ?_ | refine Zq ?_ | refine Zr ?_ | refine Zk ?_ | refine Zy ?_ | refine Zn ?_ | refine Zj ?_ | refine Ze ?_ | refine Zx ?_ | refine Zqr ?_ | refine Zqs ?_ | refine Zqc ?_ | refine Zqx ?_ | refine Zqf ?_ | refine Zm tb fun b => ?_ | refine Zb fun b => ?_ | refine Zs tb ?_ | refine WL_u (by first | exact Yl_sliceL tb at'.toNat rfl rfl rfl (by omega) (by omega)) rfl rfl ?_ | refine Zu tb ?_))
        refine WL_cons rfl (Hv_copy tb (kk := 0) (a := ⟨q, 0, none⟩) (o := at'.toNat) (news := byC.cells (mixL L bs data at')) (len := lastT lk1) (cap := lastT lk1) (m := data.length) rfl rfl rfl rfl (fun h => ?_) (RdA.row (by repeat (first | exact List.Mem.head _ | apply List.Mem.tail)) (fun h => by cases h)) (fun h => by cases h) (by rw [by_len, mixL_len, Nat.mul_one]; omega) (by decide) (by rw [by_len, mixL_len]; omega) (by_all _) hfin rfl ?_)
        · unfold sA; rw [if_neg (by omega), Nat.mul_one]; rfl
        (repeat' (first | refine Zv tb ?_ | (refine Zt (fun ht => ?_) (fun ht => ?_) <;> (dsimp only [cmpP, cmpN] at ht) <;> (try (exfalso; omega))) | refine Z0 ?_ | refine Zq ?_ | refine Zr ?_ | refine Zk ?_ | refine Zy ?_ | refine Zn ?_ | refine Zj ?_ | refine Ze ?_ | refine Zx ?_ | refine Zqr ?_ | refine Zqs ?_ | refine Zqc ?_ | refine Zqx ?_ | refine Zqf ?_ | refine Zm tb fun b => ?_ | refine Zb fun b => ?_ | refine Zs tb ?_ | refine Zu tb ?_))
        refine ⟨_, _, .tmp rfl (.tmp rfl (.tmp rfl .nil)), ⟨rfl, some a9, ca, some ⟨q, 0, none⟩, lastT lk1, rfl⟩, ?_⟩
        unfold bufI
        dsimp only
        rw [newB_len, hN]
        exact ⟨_, perm_picks [2, 4, 0] rfl⟩
      · have hN : max bs.length (lastT lk1) = bs.length := by omega
        rw [hN, by_id] at hfin
        obtain ⟨u, rfl⟩ : ∃ v, U = some v := by cases U with
          | some v => exact ⟨v, rfl⟩
          | none => have := hUn rfl; have h9 := by_len bs; rw [this] at h9; simp at h9; omega
        (repeat' (first | refine Zv tb ?_ | (refine Zt (fun ht => ?_) (fun ht => ?_) <;> (dsimp only [cmpP, cmpN] at ht) <;> (try (exfalso; omega))) | refine Z0 ?_ | refine Zq ?_ | refine Zr ?_ | refine Zk ?_ | refine Zy ?_ | refine Zn ?_ | refine Zj ?_ | refine Ze ?_ | refine Zx ?_ | refine Zqr ?_ | refine Zqs ?_ | refine Zqc ?_ | refine Zqx ?_ | refine Zqf ?_ | refine Zm tb fun b => ?_ | refine Zb fun b => ?_ | refine Zs tb ?_ | refine WL_u (by first | exact Yl_sliceL tb at'.toNat rfl rfl rfl (by omega) (by omega)) rfl rfl ?_ | refine Zu tb ?_))
        refine WL_cons rfl (Hv_copy tb (kk := 3) (a := u) (o := at'.toNat) (news := byC.cells (mixL L bs data at')) (len := bs.length) (cap := cu) (m := data.length) rfl rfl rfl rfl (fun h => ?_) (RdA.row (by repeat (first | exact List.Mem.head _ | apply List.Mem.tail)) (fun h => by cases h)) (fun h => by cases h) (by rw [by_len, mixL_len, Nat.mul_one]; omega) (by decide) (by rw [by_len, mixL_len]; omega) (by_all _) hfin rfl ?_)
        · unfold sA; rw [if_neg (by omega), Nat.mul_one]; rfl
        (repeat' (first | refine Zv tb ?_ | (refine Zt (fun ht => ?_) (fun ht => ?_) <;> (dsimp only [cmpP, cmpN] at ht) <;> (try (exfalso; omega))) | refine Z0 ?_ | refine Zq ?_ | refine Zr ?_ | refine Zk ?_ | refine Zy ?_ | refine Zn ?_ | refine Zj ?_ | refine Ze ?_ | refine Zx ?_ | refine Zqr ?_ | refine Zqs ?_ | refine Zqc ?_ | refine Zqx ?_ | refine Zqf ?_ | refine Zm tb fun b => ?_ | refine Zb fun b => ?_ | refine Zs tb ?_ | refine Zu tb ?_))
        refine ⟨_, _, .tmp rfl (.tmp rfl (.tmp rfl .nil)), ⟨rfl, some a9, ca, some u, cu, rfl⟩, ?_⟩
        unfold bufI
        dsimp only
        rw [newB_len, hN]
        exact ⟨_, perm_picks [1, 3, 2] rfl⟩
    · (repeat' (first | refine Zv tb ?_ | (refine Zt (fun ht => ?_) (fun ht => ?_) <;> (dsimp only [cmpP, cmpN] at ht) <;> (try (exfalso; omega))) | refine Z0 ?_ | refine Zq ?_ | refine Zr ?_ | refine Zk ?_ | refine Zy ?_ | refine Zn ?_ | refine Zj ?_ | refine Ze ?_ | refine Zx ?_ | refine Zqr ?_ | refine Zqs ?_ | refine Zqc ?_ | refine Zqx ?_ | refine Zqf ?_ | refine Zm tb fun b => ?_ | refine Zb fun b => ?_ | refine Zs tb ?_ | refine Zu tb ?_))
      exact ⟨_, _, .tmp rfl (.tmp rfl (.tmp rfl .nil)), ⟨rfl, A, ca, U, cu, rfl⟩, _, perm_picks [0, 2, 1] rfl⟩
  · have e : putF B at' data = (B, 0, 0, (lookF B at' data).2.2.2) := by unfold putF; rw [if_pos h]
    rw [e]
    rintro v Γ' ⟨A, ca, rfl, rfl⟩
    (repeat' (first | refine Zv tb ?_ | (refine Zt (fun ht => ?_) (fun ht => ?_) <;> (dsimp only [cmpP, cmpN] at ht) <;> (try (exfalso; omega))) | refine Z0 ?_ | refine Zq ?_ | refine Zr ?_ | refine Zk ?_ | refine Zy ?_ | refine Zn ?_ | refine Zj ?_ | refine Ze ?_ | refine Zx ?_ | refine Zqr ?_ | refine Zqs ?_ | refine Zqc ?_ | refine Zqx ?_ | refine Zqf ?_ | refine Zm tb fun b => ?_ | refine Zb fun b => ?_ | refine Zs tb ?_ | refine Zu tb ?_))
    exact ⟨_, _, .tmp rfl (.tmp rfl (.tmp rfl .nil)), ⟨rfl, V, c, U, cu, rfl⟩, _, perm_picks [0, 0, 0] rfl⟩
end Go.Proofs.Ytdnngagahhleiaa
