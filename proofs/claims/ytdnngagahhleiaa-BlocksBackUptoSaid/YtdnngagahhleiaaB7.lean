/- the law's own helpers of layer 4: home, awake; == of pieces. -/
import Derived.Test.YtdnngagahhleiaaB3
import Derived.Test.YtdnngagahhleiaaB6
import Derived.Test.YtdnngagahhleiaaSxB
namespace Go.Proofs.Ytdnngagahhleiaa
open Go.Sx
attribute [local irreducible] W WL WP Hv Yl WQ At QP QF Rnd
set_option maxRecDepth 10000
set_option linter.unusedVariables false
set_option linter.unusedSimpArgs false
theorem pce_fi : fieldsI Try.prog 65 = some [(3, 0), (3, 1), (3, 2), (3, 3), (3, 4)] := by kernel_rfl
theorem pce_eq (a b : Pce) : EqS Try.prog 65 (pcC5.enc a) (pcC5.enc b) (decide (a = b)) := fun d w => by
  rw [show d + 8 = (d + 7) + 1 from rfl, equalIn_struct pce_fi, eqL_int (d := d + 6) (k := .i64) (a := a.ty) (b := b.ty) int_und rfl rfl (eqL_int (d := d + 6) (k := .i64) (a := a.fr) (b := b.fr) int_und rfl rfl (eqL_int (d := d + 6) (k := .i64) (a := a.to) (b := b.to) int_und rfl rfl
    (eqL_int (d := d + 6) (k := .i64) (a := a.ck) (b := b.ck) int_und rfl rfl (eqL_int (d := d + 6) (k := .i64) (a := a.rp) (b := b.rp) int_und rfl rfl eqL_nil))))]
  congr 1
  obtain ⟨a1, a2, a3, a4, a5⟩ := a
  obtain ⟨b1, b2, b3, b4, b5⟩ := b
  simp [Bool.eq_iff_iff]
def hP : Prc := ⟨7, 72, 72, 80, 0⟩
theorem room_val {h m r : Nat} (h1 : h + sz r + r ≤ m) (h2 : m < h + sz (r + 1) + (r + 1)) : room h m = r := (room_uniq ⟨.inr h1, h2⟩).symm
theorem szI_lt {z : Int} (h : z < 128) : szI z = 1 := sz_lt (by omega)
theorem szI_201 : szI 201 = 2 := by unfold szI; rw [show (201 : Int).toNat = 201 from rfl, sz_ge (by decide), sz_lt (by decide)]
theorem s0 : szI 0 = 1 := szI_lt (by decide)
theorem s1 : szI 1 = 1 := szI_lt (by decide)
theorem s5 : szI 5 = 1 := szI_lt (by decide)
theorem s7 : szI 7 = 1 := szI_lt (by decide)
theorem s71 : szI 71 = 1 := szI_lt (by decide)
theorem room9 : room 9 80 = 70 := room_val (by rw [sz_lt (by decide)]; decide) (by rw [sz_lt (by decide)]; decide)
theorem room6 : room 6 80 = 73 := room_val (by rw [sz_lt (by decide)]; decide) (by rw [sz_lt (by decide)]; decide)
theorem cut_home : cut (1, 5) hP 200 = ([⟨0, 0, 71, 0, 0⟩, ⟨3, 71, 72, 201, 0⟩], 0) := by
  have r0 : roomC (1, 5) hP 0 201 0 = 70 := by
    have e : hd (1, 5) hP 0 + szI 201 + szI 0 = 9 := by simp only [hd, hP, s0, s1, s5, s7, szI_201]
    unfold roomC
    rw [e]
    exact congrArg Int.ofNat room9
  have r1 : roomP (1, 5) hP 0 = 73 := by
    have e : hd (1, 5) hP 0 = 6 := by simp only [hd, hP, s0, s1, s5, s7]
    unfold roomP
    rw [e]
    exact congrArg Int.ofNat room6
  have r2 : roomC (1, 5) hP 71 201 0 = 70 := by
    have e : hd (1, 5) hP 71 + szI 201 + szI 0 = 9 := by simp only [hd, hP, s0, s1, s5, s7, s71, szI_201]
    unfold roomC
    rw [e]
    exact congrArg Int.ofNat room9
  have c1 : cutR (1, 5) hP 72 0 0 200 = ⟨0, 0, 71, 0, 0⟩ :: cutR (1, 5) hP 71 71 1 200 := by
    show cutR (1, 5) hP (71 + 1) 0 0 200 = _
    rw [cutR, if_neg (by decide), show (200 : Int) + 1 = 201 from rfl, r0, r1, if_neg (by decide)]
    rfl
  have c2 : cutR (1, 5) hP 71 71 1 200 = ⟨3, 71, 72, 201, 0⟩ :: cutR (1, 5) hP 70 72 0 201 := by
    show cutR (1, 5) hP (70 + 1) 71 1 200 = _
    rw [cutR, if_neg (by decide), show (200 : Int) + 1 = 201 from rfl, r2, if_pos (by decide)]
    rfl
  have c3 : cutR (1, 5) hP 70 72 0 201 = [] := by
    show cutR (1, 5) hP (69 + 1) 72 0 201 = _
    rw [cutR, if_pos (by decide)]
  unfold cut
  rw [if_neg (by decide), if_neg (by decide), if_neg (by decide)]
  show (cutR (1, 5) hP 72 0 0 200 ++ cutG (1, 5) hP 0 72, 0) = _
  rw [c1, c2, c3]
  rfl
def eB : Bf := ⟨[], [], false⟩
theorem eB_wb : WB eB := ⟨⟨by decide, fun j h => by simp [eB] at h⟩, fun x h => by simp [eB, mem] at h, fun _ x h => by simp [eB, mem] at h, by decide⟩
theorem put_home : putF eB 3 [1, 2, 3] = (⟨[(3, 6)], [0, 0, 0, 1, 2, 3], false⟩, 3, 0, 0) := by
  have e : lookF eB 3 [1, 2, 3] = ([(3, 6)], 3, 0, 0) := by decide
  unfold putF
  rw [e]
  rfl
theorem home_t (w : World) : Tr Try.prog 42 #[] w [] (fun v Γ => v = .tuple #[sesV (1, 5), prcV hP] ∧ Γ = []) := by
  refine Tr_intro (rs := [.cell 0 23, .cell 1 25]) (args := []) Try.func42 rfl rfl 4 rfl rfl ?_
  (repeat' (first | refine Zv tb ?_ | (refine Zt (fun ht => ?_) (fun ht => ?_) <;> (dsimp only [cmpP, cmpN] at ht) <;> (try (exfalso; omega))) | refine Z0 ?_ | refine Zq ?_ | refine Zr ?_ | refine Zk ?_ | refine Zy ?_ | refine Zn ?_ | refine Zj ?_ | refine Ze ?_ | refine Zx ?_ | refine Zqr ?_ | refine Zqs ?_ | refine Zqc ?_ | refine Zqx ?_ | refine Zqf ?_ | refine Zm tb fun b => ?_ | refine Zb fun b => ?_ | refine Zs tb ?_ | refine Zu tb ?_))
  exact ⟨_, [], .cell rfl (by repeat (first | exact List.Mem.head _ | apply List.Mem.tail)) rfl rfl (.cell rfl (by repeat (first | exact List.Mem.head _ | apply List.Mem.tail)) rfl rfl .nil), ⟨rfl, rfl⟩, _, List.Perm.refl _⟩
theorem New_t (w : World) : Tr Try.prog 33 #[] w [] (fun v Γ => ∃ bb, v = .pointer (some ⟨bb, 0, none⟩) ∧ Γ = bufI bb eB none 0 none 0) := by
  refine Tr_intro (rs := [.tmp 0]) (args := []) Try.func33 rfl rfl 3 rfl rfl ?_
  refine W_nilrow 5 1 ?_
  refine W_nilrow 61 2 ?_
  (repeat' (first | refine Zv tb ?_ | (refine Zt (fun ht => ?_) (fun ht => ?_) <;> (dsimp only [cmpP, cmpN] at ht) <;> (try (exfalso; omega))) | refine Z0 ?_ | refine Zq ?_ | refine Zr ?_ | refine Zk ?_ | refine Zy ?_ | refine Zn ?_ | refine Zj ?_ | refine Ze ?_ | refine Zx ?_ | refine Zqr ?_ | refine Zqs ?_ | refine Zqc ?_ | refine Zqx ?_ | refine Zqf ?_ | refine Zm tb fun b => ?_ | refine Zb fun b => ?_ | refine Zs tb ?_ | refine Zu tb ?_))
  exact ⟨_, _, .tmp rfl .nil, ⟨b, rfl, rfl⟩, keepAll _⟩
theorem bp_und : Try.prog.underlying 78 = some (.pointer 130) := by kernel_rfl
set_option maxHeartbeats 2000000 in
theorem awake_t (w : World) : Tr Try.prog 15 #[] w [] (fun v Γ => v = .bool true ∧ Γ = []) := by
  refine Tr_intro (rs := [.tmp 0]) (args := []) Try.func15 rfl rfl 62 rfl rfl ?_
  (repeat' (first | refine Zv tb ?_ | (refine Zt (fun ht => ?_) (fun ht => ?_) <;> (dsimp only [cmpP, cmpN] at ht) <;> (try (exfalso; omega))) | refine Z0 ?_ | refine Zq ?_ | refine Zr ?_ | refine Zk ?_ | refine Zy ?_ | refine Zn ?_ | refine Zj ?_ | refine Ze ?_ | refine Zx ?_ | refine Zqr ?_ | refine Zqs ?_ | refine Zqc ?_ | refine Zqx ?_ | refine Zqf ?_ | refine Zm tb fun b => ?_ | refine Zb fun b => ?_ | refine Zs tb ?_ | refine Zu tb ?_))
  refine WL_cons rfl (Hv_call tb (Γ1 := []) rfl rfl rfl (List.Perm.refl _) (fun w hs => home_t w) rfl ?_)
  rintro v Γ' ⟨rfl, rfl⟩
  (repeat' (first | refine Zv tb ?_ | (refine Zt (fun ht => ?_) (fun ht => ?_) <;> (dsimp only [cmpP, cmpN] at ht) <;> (try (exfalso; omega))) | refine Z0 ?_ | refine Zq ?_ | refine Zr ?_ | refine Zk ?_ | refine Zy ?_ | refine Zn ?_ | refine Zj ?_ | refine Ze ?_ | refine Zx ?_ | refine Zqr ?_ | refine Zqs ?_ | refine Zqc ?_ | refine Zqx ?_ | refine Zqf ?_ | refine Zm tb fun b => ?_ | refine Zb fun b => ?_ | refine Zs tb ?_ | refine Zu tb ?_))
  refine WL_cons rfl (Hv_call tb (Γ1 := []) rfl rfl rfl (List.Perm.refl _) (fun w hs => Cut_t (1, 5) hP 200 w) rfl ?_)
  rw [cut_home]
  rintro v Γ' ⟨V1, c1, rfl, rfl⟩
  refine WL_fact (p := V1 ≠ none) (fun w hs h => by have := ((hs.row_fact (List.mem_cons_self ..)).1 h).2; simp at this) fun hV1 => ?_
  obtain ⟨v1, rfl⟩ : ∃ v, V1 = some v := by cases V1 with
    | some v => exact ⟨v, rfl⟩
    | none => exact absurd rfl hV1
  (repeat' (first | refine Zv tb ?_ | (refine Zt (fun ht => ?_) (fun ht => ?_) <;> (dsimp only [cmpP, cmpN] at ht) <;> (try (exfalso; omega))) | refine Z0 ?_ | refine Zq ?_ | refine Zr ?_ | refine Zk ?_ | refine Zy ?_ | refine Zn ?_ | refine Zj ?_ | refine Ze ?_ | refine Zx ?_ | refine Zqr ?_ | refine Zqs ?_ | refine Zqc ?_ | refine Zqx ?_ | refine Zqf ?_ | refine Zm tb fun b => ?_ | refine Zb fun b => ?_ | refine Zs tb ?_ | refine Zu tb ?_))
  refine WL_cons rfl (Hv_call tb (Γ1 := []) rfl rfl rfl (List.Perm.refl _) (fun w hs => New_t w) rfl ?_)
  rintro v Γ' ⟨bb, rfl, rfl⟩
  have l2 : ([⟨0, 0, 71, 0, 0⟩, ⟨3, 71, 72, 201, 0⟩] : List Pce).length = 2 := rfl
  (repeat' (first | refine Zv tb ?_ | (refine Zt (fun ht => ?_) (fun ht => ?_) <;> (dsimp only [cmpP, cmpN] at ht) <;> (try (exfalso; omega))) | refine Z0 ?_ | refine Zq ?_ | refine Zr ?_ | refine Zk ?_ | refine Zy ?_ | refine Zn ?_ | refine Zj ?_ | refine Ze ?_ | refine Zx ?_ | refine Zqr ?_ | refine Zqs ?_ | refine Zqc ?_ | refine Zqx ?_ | refine Zqf ?_ | refine Zm tb fun b => ?_ | refine Zb fun b => ?_ | refine Zs tb ?_ | refine WL_u (by first | exact Yl_eqPN rfl rfl bp_und) rfl rfl ?_ | refine Zu tb ?_))
  all_goals first | (exfalso; exact ht rfl) | skip
  refine WL_cons rfl (Hv_buildSlice tb rfl rfl rfl (by decide) rfl rfl rfl rfl fun q => ?_)
  (repeat' (first | refine Zv tb ?_ | (refine Zt (fun ht => ?_) (fun ht => ?_) <;> (dsimp only [cmpP, cmpN] at ht) <;> (try (exfalso; omega))) | refine Z0 ?_ | refine Zq ?_ | refine Zr ?_ | refine Zk ?_ | refine Zy ?_ | refine Zn ?_ | refine Zj ?_ | refine Ze ?_ | refine Zx ?_ | refine Zqr ?_ | refine Zqs ?_ | refine Zqc ?_ | refine Zqx ?_ | refine Zqf ?_ | refine Zm tb fun b => ?_ | refine Zb fun b => ?_ | refine Zs tb ?_ | refine Zu tb ?_))
  refine WL_cons rfl (Hv_call tb  rfl rfl rfl (perm_picks [1, 1, 1] rfl) (fun w hs => Put_t bb eB none none (some ⟨q, 0, none⟩) 0 0 3 3 [1, 2, 3] w eB_wb (SlO.rowX (sz := 1) hs (perm_picks [1, 1, 1] rfl) (by repeat (first | exact List.Mem.head _ | apply List.Mem.tail)))) rfl ?_)
  rw [put_home]
  rintro v Γ' ⟨rfl, V2, c2, U2, u2, rfl⟩
  have h1 : EqS Try.prog 65 (pcC5.enc ⟨0, 0, 71, 0, 0⟩) (pcC5.enc ⟨0, 0, 71, 0, 0⟩) true := pce_eq ⟨0, 0, 71, 0, 0⟩ ⟨0, 0, 71, 0, 0⟩
  have h2 : EqS Try.prog 65 (pcC5.enc ⟨3, 71, 72, 201, 0⟩) (pcC5.enc ⟨3, 71, 72, 201, 0⟩) true := pce_eq ⟨3, 71, 72, 201, 0⟩ ⟨3, 71, 72, 201, 0⟩
  (repeat' (first | refine Zv tb ?_ | (refine Zt (fun ht => ?_) (fun ht => ?_) <;> (dsimp only [cmpP, cmpN] at ht) <;> (try (exfalso; omega))) | refine Z0 ?_ | refine Zq ?_ | refine Zr ?_ | refine Zk ?_ | refine Zy ?_ | refine Zn ?_ | refine Zj ?_ | refine Ze ?_ | refine Zx ?_ | refine Zqr ?_ | refine Zqs ?_ | refine Zqc ?_ | refine Zqx ?_ | refine Zqf ?_ | refine Zm tb fun b => ?_ | refine Zb fun b => ?_ | refine Zs tb ?_ | refine WL_u (by first | exact Yl_indexAddr tb 0 rfl rfl rfl rfl (by decide) | exact Yl_indexAddr tb 1 rfl rfl rfl rfl (by decide) | exact Yl_loadA tb _ rfl rfl (Has.row (by repeat (first | exact List.Mem.head _ | apply List.Mem.tail))) (cells_seg pcC5 (xs := [⟨0, 0, 71, 0, 0⟩, ⟨3, 71, 72, 201, 0⟩]) (i := 0) (by decide)) rfl | exact Yl_loadA tb _ rfl rfl (Has.row (by repeat (first | exact List.Mem.head _ | apply List.Mem.tail))) (cells_seg pcC5 (xs := [⟨0, 0, 71, 0, 0⟩, ⟨3, 71, 72, 201, 0⟩]) (i := 1) (by decide)) rfl | exact Yl_eqS rfl rfl pce_fi h1 | exact Yl_eqS rfl rfl pce_fi h2) rfl rfl ?_ | refine Zu tb ?_))
  all_goals first | exact ⟨_, [], .tmp rfl .nil, ⟨rfl, rfl⟩, _, List.Perm.refl _⟩ | (exfalso; exact ht rfl)
end Go.Proofs.Ytdnngagahhleiaa
