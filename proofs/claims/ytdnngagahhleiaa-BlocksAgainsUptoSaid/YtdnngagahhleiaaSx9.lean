/- A small calculus of triples. Part 9: makeSlice, equality of structs, nilCheck. -/
import Derived.Test.YtdnngagahhleiaaSx8
import Derived.Laws.StructEq
import Derived.Laws.OwnMore
namespace Go.Sx
open Go.RowKit
set_option linter.unusedVariables false
set_option linter.unusedSimpArgs false

/-! ### equality of structs, field by field -/
def eqL (d : Nat) (xs ys : Array Value) : List (TypeId × Nat) → Sem Bool
  | [] => pure true
  | (t, o) :: r => do
    let a ← part t xs o
    let b ← part t ys o
    let q ← Op.equalIn d t a b
    if (!q) = true then pure false else eqL d xs ys r
def fieldsI (P : Program) (t : TypeId) : Option (List (TypeId × Nat)) := match P.underlying t with
  | some (.struct fs) => if P.stoodInHeld t || P.eqGuardType P.depth t || fs.toList.any (fun f => f.name == "_") then none else some (fs.toList.map fun f => (f.type, f.offset))
  | _ => none
section
variable {P : Program} {w : World} {d : Nat} {t : TypeId} {xs ys : Array Value} {fl r : List (TypeId × Nat)} {o : Nat} {q : Bool}
theorem eqFields_eq : ∀ (fs : List Field), fs.any (fun f => f.name == "_") = false → Op.eqFields d xs ys fs = eqL d xs ys (fs.map fun f => (f.type, f.offset))
  | [], _ => rfl
  | f :: fs, h => by
    simp only [List.any_cons, Bool.or_eq_false_iff, beq_eq_false_iff_ne] at h
    simp only [Op.eqFields, List.map_cons, eqL]
    rw [if_pos h.1, eqFields_eq fs h.2]
theorem equalIn_struct (h : fieldsI P t = some fl) : (Op.equalIn (d + 1) t (.agg xs) (.agg ys)).run P w = (eqL d xs ys fl).run P w := by
  unfold fieldsI at h
  cases hu : P.underlying t with
  | none => simp [hu] at h
  | some k =>
    cases k <;> simp [hu] at h
    rename_i fs
    obtain ⟨⟨⟨h1, h2⟩, h3⟩, h4⟩ := h
    have hf : P.fieldsOf t = fs := by simp [Program.fieldsOf, hu]
    rw [run_equalIn_struct w d t xs ys (by rw [hf]; exact hu) h1, hf, eqFields_eq, ← h4]
    simpa using h3
theorem eqGuard_struct (h : fieldsI P t = some fl) (op : BinOp) (x y : Operand) : (eqGuard op t x y (.agg xs) (.agg ys)).run P w = .ok () w := by
  unfold fieldsI at h
  cases hu : P.underlying t with
  | none => simp [hu] at h
  | some k =>
    cases k <;> simp [hu] at h
    exact run_eqGuard_agg w op t x y xs ys h.1.1.2
theorem eqL_nil : (eqL d xs ys []).run P w = .ok true w := by simp [eqL]
theorem eqL_int {k : IntKind} {a b : Int} (hu : P.underlying t = some (.int k)) (hx : xs[o]? = some (.int k a)) (hy : ys[o]? = some (.int k b)) (hr : (eqL (d + 1) xs ys r).run P w = .ok q w) : (eqL (d + 1) xs ys ((t, o) :: r)).run P w = .ok (decide (a = b) && q) w := by
  have hp : ∀ {zs : Array Value} {c : Int}, zs[o]? = some (.int k c) → (part t zs o).run P w = .ok (.int k c) w := fun h => by simp [part, isAgg, run_underlying hu, h]
  simp only [eqL, Sem.run_bind, hp hx, hp hy, Result.andThen_ok, run_equalIn_int w d t k k a b hu]
  by_cases hab : a = b
  · simp [hab, hr]
  · simp [hab]
theorem eqL_bool {a b : Bool} (hu : P.underlying t = some .bool) (hx : xs[o]? = some (.bool a)) (hy : ys[o]? = some (.bool b)) (hr : (eqL (d + 1) xs ys r).run P w = .ok q w) : (eqL (d + 1) xs ys ((t, o) :: r)).run P w = .ok (decide (a = b) && q) w := by
  have hp : ∀ {zs : Array Value} {c : Bool}, zs[o]? = some (.bool c) → (part t zs o).run P w = .ok (.bool c) w := fun h => by simp [part, isAgg, run_underlying hu, h]
  simp only [eqL, Sem.run_bind, hp hx, hp hy, Result.andThen_ok, run_equalIn_bool' w d t a b hu]
  by_cases hab : a = b
  · simp [hab, hr]
  · simp [hab]
theorem eqL_sub {m : Nat} {b : Bool} {us vs : Array Value} (hl : ldInfo P t = some (true, m)) (hx : xs.extract o (o + m) = us) (hy : ys.extract o (o + m) = vs) (he : (Op.equalIn d t (.agg us) (.agg vs)).run P w = .ok b w) (hr : (eqL d xs ys r).run P w = .ok q w) :
    (eqL d xs ys ((t, o) :: r)).run P w = .ok (b && q) w := by
  have hp : ∀ (zs : Array Value), (part t zs o).run P w = .ok (.agg (zs.extract o (o + m))) w := fun zs => by
    have h1 := run_agg hl w
    have h2 := run_size hl w
    simp [part, h1, h2]
  simp only [eqL, Sem.run_bind, hp, Result.andThen_ok, hx, hy, he]
  cases b <;> simp [hr]
end
section
variable {P : Program} {w0 : World} {X : List Nat} {n : Nat} {fr : Fr} {Γ : List It} {d : Option Tmp} {ty : TypeId} {ps : String} {af : Array Edge} {g : Option (Nat × Bool)}
/-- == of two structs: what equalIn says. -/
def EqS (P : Program) (t : TypeId) (us vs : List Value) (b : Bool) : Prop := ∀ d w, (Op.equalIn (d + 8) t (.agg us.toArray) (.agg vs.toArray)).run P w = .ok b w
theorem Yl_eqS {t t' : TypeId} {x y : Operand} {us vs : List Value} {b : Bool} {fl : List (TypeId × Nat)} (hx : evo fr x = some (.agg us.toArray)) (hy : evo fr y = some (.agg vs.toArray)) (hf : fieldsI P t = some fl) (h : EqS P t us vs b) :
    Yl P w0 X n fr Γ ⟨d, .binOp .eql t x y t', ty, ps, af, g⟩ (.bool b) := Yl_bin hx hy fun w => by
  simp only [Sem.run_bind, eqGuard_struct hf, Result.andThen_ok]
  rw [run_eql_struct, h 9992 w]; rfl
theorem Yl_neS {t t' : TypeId} {x y : Operand} {us vs : List Value} {b : Bool} {fl : List (TypeId × Nat)} (hx : evo fr x = some (.agg us.toArray)) (hy : evo fr y = some (.agg vs.toArray)) (hf : fieldsI P t = some fl) (h : EqS P t us vs b) :
    Yl P w0 X n fr Γ ⟨d, .binOp .neq t x y t', ty, ps, af, g⟩ (.bool !b) := Yl_bin hx hy fun w => by
  simp only [Sem.run_bind, eqGuard_struct hf, Result.andThen_ok]
  rw [run_neq_struct, h 9992 w]; rfl
theorem Yl_eqB {t t' : TypeId} {x y : Operand} {a b : Bool} (hx : evo fr x = some (.bool a)) (hy : evo fr y = some (.bool b)) (hu : P.underlying t = some .bool) : Yl P w0 X n fr Γ ⟨d, .binOp .eql t x y t', ty, ps, af, g⟩ (.bool (a == b)) := Yl_bin hx hy fun w => by
  simp only [Sem.run_bind]
  have : (eqGuard .eql t x y (.bool a) (.bool b)).run P w = .ok () w := by simp [eqGuard]
  rw [this, Result.andThen_ok, run_eql_bool w t a b hu]
theorem Yl_neB {t t' : TypeId} {x y : Operand} {a b : Bool} (hx : evo fr x = some (.bool a)) (hy : evo fr y = some (.bool b)) (hu : P.underlying t = some .bool) : Yl P w0 X n fr Γ ⟨d, .binOp .neq t x y t', ty, ps, af, g⟩ (.bool (a != b)) := Yl_bin hx hy fun w => by
  simp only [Sem.run_bind]
  have : (eqGuard .neq t x y (.bool a) (.bool b)).run P w = .ok () w := by simp [eqGuard]
  rw [this, Result.andThen_ok]
  simp [binOp, Op.equal, Op.maxDepth, run_equalIn_bool' w 9999 t a b hu, bne]
theorem Yl_mul {t t' : TypeId} {x y : Operand} {i j : Int} (hx : evo fr x = some (.int .i64 i)) (hy : evo fr y = some (.int .i64 j)) (h0 : -9223372036854775808 ≤ i * j) (h1 : i * j ≤ 9223372036854775807) : Yl P w0 X n fr Γ ⟨d, .binOp .mul t x y t', ty, ps, af, g⟩ (.int .i64 (i * j)) := by
  have := Yl_mulw (P := P) (w0 := w0) (X := X) (n := n) (Γ := Γ) (d := d) (ty := ty) (ps := ps) (af := af) (g := g) (t := t) (t' := t') hx hy
  rwa [wrap_i64 h0 h1] at this
theorem Yl_nilCheckP {x : Operand} {a : Addr} (hx : evo fr x = some (.pointer (some a))) : Yl P w0 X n fr Γ ⟨d, .nilCheck x, ty, ps, af, g⟩ (.pointer (some a)) := ⟨fun _ => by simp, fun ac hf w hs => by simp [execOp, evo_sound hf hx]⟩
theorem equalIn_fn {P : Program} {t : TypeId} {f : Nat} {fi ca : Array Value} {a b c} (hu : P.underlying t = some (.func a b c)) (d : Nat) (w : World) : (Op.equalIn (d + 1) t (.func (.func f) fi ca) .nilFunc).run P w = .ok false w := by
  simp [Op.equalIn, run_underlying hu]
theorem Yl_eqFn {t t' : TypeId} {x y : Operand} {fi ca : Array Value} {f : Nat} {u : Nat} (hx : evo fr x = some (.func (.func f) fi ca)) (hy : evo fr y = some .nilFunc) {a b c} (hu : P.underlying t = some (.func a b c)) :
    Yl P w0 X n fr Γ ⟨d, .binOp .eql t x y t', ty, ps, af, g⟩ (.bool false) := Yl_bin hx hy fun w => by
  simp only [Sem.run_bind]
  have : (eqGuard .eql t x y (.func (.func f) fi ca) .nilFunc).run P w = .ok () w := by simp [eqGuard]
  rw [this, Result.andThen_ok]
  have e1 : (binOp .eql t (.func (.func f) fi ca) .nilFunc).run P w = ((Op.equalIn 10000 t (.func (.func f) fi ca) .nilFunc).run P w).andThen fun b w' => .ok (.bool b) w' := by
    simp only [binOp]
    simp [Op.equal, Op.maxDepth]
  rw [e1, equalIn_fn hu 9999 w]; rfl
end
section
variable {P : Program} {r : Option Nat} {w0 : World} {X : List Nat} {n : Nat} {df : List Deferred} {N : Kont} {fr : Fr} {Γ : List It} {d : Option Tmp} {ty : TypeId} {ps : String} {af : Array Edge} {g : Option (Nat × Bool)}
theorem madeCells_rep (z : List Value) (m : Nat) (hz : 0 < z.length) : (madeCells z.toArray (m * z.length)).toList = (List.replicate m z).flatten := by
  have := zeros_eq z m hz
  unfold madeCells
  have h2 := congrArg Array.toList this
  simpa using h2
theorem Hv_makeSlice (T : Tab P) {t e : TypeId} {x y : Operand} {len sz by_ : Nat} {z : List Value} {k k' : IntKind} {i j : Int} (ht : find2 T.els t = some (e, sz, by_)) (hz : find2 T.zrs e = some z) (hzs : z.length = sz) (h0 : 0 < sz)
    (hx : evo fr x = some (.int k i)) (hy : evo fr y = some (.int k' j)) (hi : i = (len : Int)) (hj : j = (len : Int)) (hb : by_ * len ≤ 281474976710656) (hm : len ≤ 9223372036854775807) (hd : dstOk n d = true)
    (h : ∀ b, N (putF d (.slice (some ⟨b, 0, none⟩) len len) fr) (It.row (.slice (some ⟨b, 0, none⟩) len len) e sz len (List.replicate len z).flatten :: Γ)) :
    Hv P r w0 X n df ⟨d, .makeSlice t x y, ty, ps, af, g⟩ N fr Γ := Hv_val (fun _ => by simp) hd fun ac w hs hf => by
  obtain ⟨hu, inf, hinf, hi2, hi3⟩ := sliceInfo_elem (AllP.mem T.els_ok _ (find2_mem ht))
  obtain ⟨inf', zv, h1', h2', h3'⟩ := zero_run (AllP.mem T.zrs_ok _ (find2_mem hz))
  dsimp only at hu hinf h1' hi2 hi3
  rw [hinf] at h1'
  cases h1'
  subst hi hj
  obtain ⟨w', hr, hown, hg⟩ := run_make_full (P := P) w 0 t e inf zv sz hu hinf h2' hi2 k k' len (by rw [hi3]; exact hb) (by unfold maxLen; omega) (Nat.zero_le _)
  refine ⟨_, w', _, by simp [execOp, evo_sound hf hx, evo_sound hf hy, hr], ?_, h w.heap.size⟩
  refine St.upd (A := []) (A' := [It.row (.slice (some ⟨w.heap.size, 0, none⟩) len len) e sz len (List.replicate len z).flatten]) hs hg.os hg.tape hg.output hg.size (fun b hb _ => hg.block b hb (by simp)) (fun i hi => ?_) (by simp [fps, It.fp, Value.ownBlock]) (fun b hb => .inr (by simp [fps, It.fp, Value.ownBlock] at hb; omega))
  obtain rfl : i = _ := (by simpa using hi)
  refine hasRow_of ?_
  rw [h3', ← hzs, madeCells_rep z len (by omega), hzs] at hown
  exact hown
end
end Go.Sx
