/- A small calculus of triples. Part 15: the steps under short names; what a step asks is looked for by itself. -/
import Derived.Test.YtdnngagahhleiaaSx14
namespace Go.Sx
open Go.RowKit
set_option linter.unusedVariables false
def cmpP : Nat → Int → Int → Prop | 0, i, j => i < j | 1, i, j => i ≤ j | 2, i, j => i = j | _ + 3, i, j => i ≠ j
def cmpN : Nat → Int → Int → Prop | 0, i, j => j ≤ i | 1, i, j => j < i | 2, i, j => i ≠ j | _ + 3, i, j => i = j
theorem cmpP_of {k : Nat} {i j : Int} (h : cmpB (k, i, j) = true) : cmpP k i j := by
  match k with
  | 0 => simpa [cmpB, cmpP] using h
  | 1 => simpa [cmpB, cmpP] using h
  | 2 => simpa [cmpB, cmpP] using h
  | _ + 3 => simpa [cmpB, cmpP] using h
theorem cmpN_of {k : Nat} {i j : Int} (h : cmpB (k, i, j) = false) : cmpN k i j := by
  match k with
  | 0 => simpa [cmpB, cmpN] using h
  | 1 => simpa [cmpB, cmpN] using h
  | 2 => simpa [cmpB, cmpN] using h
  | _ + 3 => simpa [cmpB, cmpN] using h
theorem at0 {α : Type} {l : List α} (k : Nat) {x : α} (h : l[k]? = some x) : l[k]? = some x := h
section
variable {P : Program} {r : Option Nat} {w0 : World} {X : List Nat} {n : Nat} {df : List Deferred} {K : Kont} {Q : Post} {fr : Fr} {Γ Kp : List It} {l rest : List Oper} {o : Oper} {d : Tmp} {op : Op} {v : Value} {ty : TypeId} {ps : String} {af : Array Edge} {g : Option (Nat × Bool)}
variable {late : List Nat} {listed : Array Bool} {plan : List (Nat × Nat)} {i k : Nat}
/-- the next operation yields a value that a reckoning tells. -/
theorem Zv (T : Tab P) {p : Nat × Value} (k : WL P r w0 X n df l rest K (p :: fr) Γ) (h : stp T l n fr o = some p := by rfl) : WL P r w0 X n df l (o :: rest) K fr Γ := WL_v T h k
/-- it yields a value that is looked for. -/
theorem Zu (T : Tab P) (h : WL P r w0 X n df l rest K ((d, v) :: fr) Γ)
    (hy : Yl P w0 X n fr Γ ⟨some d, op, ty, ps, af, g⟩ v := by
      first
      | (apply Yl_ldBW tb rfl rfl; (repeat (first | exact List.Mem.head _ | apply List.Mem.tail)); rfl)
      | (apply Yl_ldB1 tb rfl rfl; (repeat (first | exact List.Mem.head _ | apply List.Mem.tail)); rfl)
      | exact Yl_fieldAddr tb rfl rfl
      | exact Yl_add rfl rfl (by omega) (by omega)
      | exact Yl_sub rfl rfl (by omega) (by omega)
      | exact Yl_mul rfl rfl (by omega) (by omega)
      | exact Yl_nilCheckP rfl)
    (hg : gdo l fr g = some true := by rfl) (hd : Nat.blt d n = true := by rfl) : WL P r w0 X n df l (⟨some d, op, ty, ps, af, g⟩ :: rest) K fr Γ := WL_u hy hg hd h
/-- a test. -/
theorem Zt {d' k : Nat} {i j : Int} (ht : cmpP k i j → WL P r w0 X n df l rest K ((d', .bool true) :: fr) Γ) (hf : cmpN k i j → WL P r w0 X n df l rest K ((d', .bool false) :: fr) Γ) (h : tstB l n fr o = some (d', k, i, j) := by rfl) : WL P r w0 X n df l (o :: rest) K fr Γ :=
  WL_c h (fun h => ht (cmpP_of h)) (fun h => hf (cmpN_of h))
/-- memory is made. -/
theorem Zm (T : Tab P) {t : TypeId} {z : List Value} {d : Option Tmp} (h : ∀ b, WL P r w0 X n df l rest K (putF d (.pointer (some ⟨b, 0, none⟩)) fr) (It.blk b z t :: Γ)) (hz : find2 T.zrs t = some z := by rfl) (hg : gdo l fr g = some true := by rfl) (hd : dstOk n d = true := by rfl) :
    WL P r w0 X n df l (⟨d, .alloc t, ty, ps, af, g⟩ :: rest) K fr Γ := WL_cons hg (Hv_alloc T hz hd h)
theorem Zb {t : TypeId} {x : Operand} {cs : List Value} {d : Option Tmp} (h : ∀ b, WL P r w0 X n df l rest K (putF d (.pointer (some ⟨b, 0, none⟩)) fr) (It.blk b cs t :: Γ)) (hx : evo fr x = some v := by rfl) (hv : v.cells.toList = cs := by rfl) (hg : gdo l fr g = some true := by rfl) (hd : dstOk n d = true := by rfl) :
    WL P r w0 X n df l (⟨d, .box t x, ty, ps, af, g⟩ :: rest) K fr Γ := WL_cons hg (Hv_box hx hv hd h)
/-- a store into a block. -/
theorem Zs (T : Tab P) {t t' : TypeId} {x y : Operand} {b o m k : Nat} {bb : Bool} {cs cs' : List Value} {d : Option Tmp} (h : WL P r w0 X n df l rest K (putF d undef fr) (Γ.set k (It.blk b cs' t')))
    (hx : evo fr x = some (.pointer (some ⟨b, o, none⟩)) := by rfl) (hy : evo fr y = some v := by rfl) (ht : find2 T.lds t = some (bb, m) := by rfl)
    (hk : Γ[k]? = some (It.blk b cs t') := by first | exact at0 0 rfl | exact at0 1 rfl | exact at0 2 rfl | exact at0 3 rfl | exact at0 4 rfl | exact at0 5 rfl | exact at0 6 rfl | exact at0 7 rfl | exact at0 8 rfl | exact at0 9 rfl | exact at0 10 rfl | exact at0 11 rfl)
    (hm : v.cells.toList.length = m := by rfl) (hfit : o + m ≤ cs.length := by exact Nat.le_of_ble_eq_true rfl) (h1 : (v.cells.toList.all Value.oneCell') = true := by rfl) (hc : putL cs o v.cells.toList = cs' := by rfl) (hg : gdo l fr g = some true := by rfl) (hd : dstOk n d = true := by rfl) :
    WL P r w0 X n df l (⟨d, .store t x y, ty, ps, af, g⟩ :: rest) K fr Γ := WL_cons hg (Hv_store T hx hy ht hk hm hfit h1 hc hd h)
theorem Z0 (h : K fr Γ) : WL P r w0 X n df l [] K fr Γ := WL_nil h
/-! code -/
theorem Zq {x y : Code} (h : W P r w0 X n df x (fun fr Γ => W P r w0 X n df y K Q fr Γ) Q fr Γ) : W P r w0 X n df (.seq x y) K Q fr Γ := W_seq h
theorem Zr {id : Nat} (h : WL P r w0 X n df l l K fr Γ) : W P r w0 X n df (.region id l.toArray false) K Q fr Γ := W_region h
theorem Zk {id : Nat} {c : Code} (h : W P r w0 X n df c K (Pblk id K Q) fr Γ) : W P r w0 X n df (.block id c) K Q fr Γ := W_block h
theorem Zy {c : Operand} {x y : Code} (h : W P r w0 X n df x K Q fr Γ) (hc : evo fr c = some (.bool true) := by rfl) : W P r w0 X n df (.cond c x y) K Q fr Γ := W_cond_t hc h
theorem Zn {c : Operand} {x y : Code} (h : W P r w0 X n df y K Q fr Γ) (hc : evo fr c = some (.bool false) := by rfl) : W P r w0 X n df (.cond c x y) K Q fr Γ := W_cond_f hc h
theorem Zj (h : K fr Γ) : W P r w0 X n df .skip K Q fr Γ := W_skip h
theorem Ze {id : Nat} (h : Q (.exit id) fr Γ) : W P r w0 X n df (.exit id) K Q fr Γ := W_exit h
theorem Zx (h : Q .ret fr Γ) : W P r w0 X n df .ret K Q fr Γ := W_ret h
section
variable {x y z : Code} {Qr : Exit → Act → World → Prop}
theorem Zqr {id : Nat} (h : WL P r w0 X n df l l (fun fr Γ => WQ P r w0 X n df y Qr fr Γ) fr Γ) : WQ P r w0 X n df (.seq (.region id l.toArray false) y) Qr fr Γ := WQ_seq (W_region h)
theorem Zqc {c : Operand} (h : W P r w0 X n df (.cond c x z) (fun fr Γ => WQ P r w0 X n df y Qr fr Γ) (QP w0 X n df Qr) fr Γ) : WQ P r w0 X n df (.seq (.cond c x z) y) Qr fr Γ := WQ_seq h
theorem Zqs {a : Code} {c : Operand} (h : W P r w0 X n df a (fun fr Γ => W P r w0 X n df (.cond c x z) (fun fr Γ => WQ P r w0 X n df y Qr fr Γ) (QP w0 X n df Qr) fr Γ) (QP w0 X n df Qr) fr Γ) : WQ P r w0 X n df (.seq (.seq a (.cond c x z)) y) Qr fr Γ := WQ_seq (W_seq h)
theorem Zqx (h : At w0 X n df fr Γ (Qr .ret)) : WQ P r w0 X n df .ret Qr fr Γ := WQ_ret h
theorem Zqf {rs : List ResultVar} {R : Value → List It → Prop} (h : Fin P rs R fr Γ) : QP w0 X n [] (QF P rs n w0 X R) .ret fr Γ := QF_ret0 h
end
/-! plans -/
theorem Zpv (T : Tab P) {kd : Nat} {p : Nat × Value} (k : WP P r w0 X n df l late Kp (listed.setIfInBounds i true) plan K (p :: fr) Γ) (hk : Nat.blt kd 2 = true := by rfl) (hi : l[i]? = some o := by rfl) (h : stp T l n fr o = some p := by rfl) : WP P r w0 X n df l late Kp listed ((i, kd) :: plan) K fr Γ := WP_v T hk hi h k
theorem Zpt {d' k : Nat} {x y : Int} (ht : cmpP k x y → WP P r w0 X n df l late Kp (listed.setIfInBounds i true) plan K ((d', .bool true) :: fr) Γ) (hf : cmpN k x y → WP P r w0 X n df l late Kp (listed.setIfInBounds i true) plan K ((d', .bool false) :: fr) Γ) (hi : l[i]? = some o := by rfl) (h : tstB l n fr o = some (d', k, x, y) := by rfl) :
    WP P r w0 X n df l late Kp listed ((i, 0) :: plan) K fr Γ := WP_c hi h (fun h => ht (cmpP_of h)) (fun h => hf (cmpN_of h))
theorem Zpu (T : Tab P) (h : WP P r w0 X n df l late Kp (listed.setIfInBounds i true) plan K ((d, v) :: fr) Γ) (hi : l[i]? = some ⟨some d, op, ty, ps, af, g⟩ := by rfl)
    (hy : Yl P w0 X n fr Kp ⟨some d, op, ty, ps, af, g⟩ v := by
      first
      | (apply Yl_ldBW tb rfl rfl; (repeat (first | exact List.Mem.head _ | apply List.Mem.tail)); rfl)
      | (apply Yl_ldB1 tb rfl rfl; (repeat (first | exact List.Mem.head _ | apply List.Mem.tail)); rfl))
    (hg : gdo l fr g = some true := by rfl) (hd : Nat.blt d n = true := by rfl) : WP P r w0 X n df l late Kp listed ((i, 1) :: plan) K fr Γ := WP_u1 hi hy hg hd h
theorem Zpw (h : WP P r w0 X n df l late Kp (listed.setIfInBounds i true) plan K ((d, v) :: fr) Γ) (hi : l[i]? = some ⟨some d, op, ty, ps, af, g⟩ := by rfl)
    (hy : Yl P w0 X n fr [] ⟨some d, op, ty, ps, af, g⟩ v := by
      first
      | exact Yl_fieldAddr tb rfl rfl
      | exact Yl_add rfl rfl (by omega) (by omega)
      | exact Yl_sub rfl rfl (by omega) (by omega)
      | exact Yl_mul rfl rfl (by omega) (by omega)
      | exact Yl_nilCheckP rfl)
    (hg : gdo l fr g = some true := by rfl) (hd : Nat.blt d n = true := by rfl) : WP P r w0 X n df l late Kp listed ((i, 0) :: plan) K fr Γ := WP_u0 hi hy hg hd h
theorem Zps (T : Tab P) {t t' : TypeId} {x y : Operand} {b o m k : Nat} {bb : Bool} {cs cs' : List Value} {d : Option Tmp} (h : WP P r w0 X n df l late Kp (listed.setIfInBounds i true) plan K (putF d undef fr) (Γ.set k (It.blk b cs' t'))) (hi : l[i]? = some ⟨d, .store t x y, ty, ps, af, g⟩ := by rfl)
    (hx : evo fr x = some (.pointer (some ⟨b, o, none⟩)) := by rfl) (hy : evo fr y = some v := by rfl) (ht : find2 T.lds t = some (bb, m) := by rfl)
    (hk : Γ[k]? = some (It.blk b cs t') := by first | exact at0 0 rfl | exact at0 1 rfl | exact at0 2 rfl | exact at0 3 rfl | exact at0 4 rfl | exact at0 5 rfl | exact at0 6 rfl)
    (hm : v.cells.toList.length = m := by rfl) (hfit : o + m ≤ cs.length := by exact Nat.le_of_ble_eq_true rfl) (h1 : (v.cells.toList.all Value.oneCell') = true := by rfl) (hc : putL cs o v.cells.toList = cs' := by rfl) (hg : gdo l fr g = some true := by rfl) (hd : dstOk n d = true := by rfl)
    (hl : (late.any fun j => Nat.beq j i || listed.getD j false) = true := by rfl) : WP P r w0 X n df l late Kp listed ((i, 2) :: plan) K fr Γ := WP_2 hi hg (Hv_store T hx hy ht hk hm hfit h1 hc hd ⟨.inl hl, h⟩)
theorem Zpk (h : WP P r w0 X n df l late Kp (listed.setIfInBounds i true) plan K (putF o.dst undef fr) Γ) (hi : l[i]? = some o := by rfl) (hg : gdo l fr o.guard = some false := by rfl) (hd : dstOk n o.dst = true := by rfl) (hk : ∃ R, Γ.Perm (Kp ++ R) := by exact keepAll _) : WP P r w0 X n df l late Kp listed ((i, 2) :: plan) K fr Γ := WP_skip2 hi hg hd h hk
theorem Zp0 (h : K fr Γ) : WP P r w0 X n df l late Kp listed [] K fr Γ := WP_nil h
end
end Go.Sx
