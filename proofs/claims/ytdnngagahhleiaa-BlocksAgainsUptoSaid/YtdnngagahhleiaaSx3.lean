/- A small calculus of triples. Part 3: addresses, loads, stores, blocks, rows. -/
import Derived.Test.YtdnngagahhleiaaSx2
namespace Go.Sx
open Go.RowKit
set_option linter.unusedVariables false
set_option linter.unusedSimpArgs false

/-- the cells from a on. -/
def Cells (w : World) (a : Addr) (cs : List Value) : Prop := ∀ j u, cs[j]? = some u → w.cell? (a.add j) = some u
theorem add_add (a : Addr) (i j : Nat) : (a.add i).add j = a.add (i + j) := by
  unfold Addr.add
  by_cases hi : i = 0 <;> by_cases hj : j = 0 <;> simp [hi, hj, Nat.add_assoc]
theorem add_block (a : Addr) (i : Nat) : (a.add i).block = a.block := by unfold Addr.add; split <;> rfl
theorem add_at0 (b o i : Nat) : (⟨b, o, none⟩ : Addr).add i = ⟨b, o + i, none⟩ := by unfold Addr.add; split <;> simp_all
theorem Cells.drop {w : World} {a : Addr} {cs : List Value} (h : Cells w a cs) (i : Nat) : Cells w (a.add i) (cs.drop i) := fun j u hu => by
  rw [add_add]; exact h (i + j) u (by simpa using hu)
theorem Cells.take {w : World} {a : Addr} {cs : List Value} (h : Cells w a cs) (i : Nat) : Cells w a (cs.take i) := fun j u hu => h j u (by
  rw [List.getElem?_take] at hu; split at hu
  · exact hu
  · cases hu)
theorem St.blk_cells {w0 w : World} {X : List Nat} {Γ : List It} {b : Nat} {cs : List Value} {t : TypeId} (h : St w0 X Γ w) (hm : It.blk b cs t ∈ Γ) : Cells w ⟨b, 0, none⟩ cs := fun j u hu => by
  rw [add_at0, Nat.zero_add, h.blk_cell hm]; exact hu
theorem St.row_cells {w0 w : World} {X : List Nat} {Γ : List It} {a : Addr} {t : TypeId} {sz n c : Nat} {cs : List Value} (h : St w0 X Γ w) (hm : It.row (.slice (some a) n c) t sz n cs ∈ Γ) : Cells w a cs := fun j u hu => by
  have := h.row_own hm
  rcases this.2 with ⟨h1, _⟩ | ⟨g, cap, cur, h1, _⟩
  · cases h1
  · cases h1
    exact this.cells (g := g) rfl j u hu
/-- cells of the world in which the call began, which nobody may write. -/
structure Old (w0 : World) (X : List Nat) (a : Addr) (cs : List Value) : Prop where
  cells : Cells w0 a cs
  lt : cs ≠ [] → a.block < w0.heap.size
  nx : a.block ∉ X
theorem St.old_cells {w0 w : World} {X : List Nat} {Γ : List It} {a : Addr} {cs : List Value} (h : St w0 X Γ w) (ho : Old w0 X a cs) : Cells w a cs := fun j u hu => by
  rw [h.old_cell (by rw [add_block]; exact ho.lt (fun e => by simp [e] at hu)) (by rw [add_block]; exact ho.nx)]
  exact ho.cells j u hu
/-- the items K (or what was there) say that these cells stand from a on. -/
def Has (w0 : World) (X : List Nat) (K : List It) (a : Addr) (cs : List Value) : Prop := ∀ w, St w0 X K w → Cells w a cs
theorem Has.blk {w0 : World} {X : List Nat} {K : List It} {b : Nat} {cs : List Value} {t : TypeId} (hm : It.blk b cs t ∈ K) : Has w0 X K ⟨b, 0, none⟩ cs := fun w hs => hs.blk_cells hm
theorem Has.row {w0 : World} {X : List Nat} {K : List It} {a : Addr} {t : TypeId} {sz n c : Nat} {cs : List Value} (hm : It.row (.slice (some a) n c) t sz n cs ∈ K) : Has w0 X K a cs := fun w hs => hs.row_cells hm
theorem Has.old {w0 : World} {X : List Nat} {K : List It} {a : Addr} {cs : List Value} (h : Old w0 X a cs) : Has w0 X K a cs := fun w hs => hs.old_cells h

/-! ### loads -/
theorem run_scalar {P : Program} {t : TypeId} {m : Nat} (h : ldInfo P t = some (false, m)) (w : World) : (isAgg t).run P w = .ok false w := by
  unfold ldInfo at h
  cases hu : P.underlying t with
  | none => simp [hu] at h
  | some d => cases d <;> simp [hu] at h <;> simp [isAgg, run_underlying hu]
theorem run_agg {P : Program} {t : TypeId} {m : Nat} (h : ldInfo P t = some (true, m)) (w : World) : (isAgg t).run P w = .ok true w := by
  unfold ldInfo at h
  cases hu : P.underlying t with
  | none => simp [hu] at h
  | some d => cases d <;> simp [hu] at h <;> simp [isAgg, run_underlying hu]
theorem run_size {P : Program} {t : TypeId} {m : Nat} {b : Bool} (h : ldInfo P t = some (b, m)) (w : World) : (sizeOf t).run P w = .ok m w := by
  unfold ldInfo at h
  cases hi : P.info? t with
  | none => cases hu : P.underlying t with
    | none => simp [hu] at h
    | some d => cases d <;> simp [hu, hi] at h
  | some i => cases hu : P.underlying t with
    | none => simp [hu] at h
    | some d => cases d <;> simp [hu, hi] at h <;> simp [sizeOf, typeInfo, hi, h.2]
theorem run_load1 {P : Program} {t : TypeId} {m : Nat} (h : ldInfo P t = some (false, m)) {w : World} {a : Addr} {v : Value} (hc : w.cell? a = some v) : (loadVar t a).run P w = .ok v w := by
  simp [loadVar, Sem.run_bind, run_scalar h, load, Sem.run, hc]
theorem run_loadA {P : Program} {t : TypeId} {m : Nat} (h : ldInfo P t = some (true, m)) {w : World} {a : Addr} {cs : List Value} (hl : cs.length = m) (hc : Cells w a cs) : (loadVar t a).run P w = .ok (.agg cs.toArray) w := by
  have := run_loadCells_list (P := P) w a cs hc
  rw [hl] at this
  simp [loadVar, Sem.run_bind, run_agg h, run_size h, this]
section
variable {P : Program} {w0 : World} {X : List Nat} {n : Nat} {fr : Fr} {Γ : List It} {d : Option Tmp} {ty : TypeId} {ps : String} {af : Array Edge} {g : Option (Nat × Bool)}
theorem run_fieldAt {s : TypeId} {f off : Nat} (h : fieldOff P s f = some off) (a : Addr) (w : World) : (Instr.fieldAt s (.pointer (some a)) f).run P w = .ok (.pointer (some (a.add off))) w := by
  unfold fieldOff at h
  cases hu : P.underlying s with
  | none => simp [hu] at h
  | some dd =>
    cases dd <;> try (simp [hu] at h; done)
    case struct fs =>
      simp only [hu] at h
      cases hf : fs[f]? with
      | none => simp [hf] at h
      | some fd =>
        simp only [hf] at h
        cases hi : P.info? fd.type with
        | none => simp [hi] at h
        | some i =>
          simp only [hi] at h
          split at h
          · cases h
          · rename_i h0
            cases h
            simp [Instr.fieldAt, run_underlying hu, hf, Instr.sureAddr, fieldPlace, sizeOf, typeInfo, hi, h0]
theorem Yl_fieldAddr (T : Tab P) {s : TypeId} {x : Operand} {f off : Nat} {a : Addr} (hx : evo fr x = some (.pointer (some a))) (hf : find3 T.fos s f = some off) :
    Yl P w0 X n fr Γ ⟨d, .fieldAddr s x f, ty, ps, af, g⟩ (.pointer (some (a.add off))) := ⟨fun _ => by simp, fun ac hfit w hs => by
  have := run_fieldAt (AllP.mem T.fos_ok _ (find3_mem hf)) a w
  simp only [execOp, evo_sound hfit hx, Sem.run_bind]
  dsimp only at this
  rw [this]; simp⟩
/-- of a block of the call's own: the place as a number. -/
theorem Yl_fieldBlk (T : Tab P) {s : TypeId} {x : Operand} {f off b o : Nat} (hx : evo fr x = some (.pointer (some ⟨b, o, none⟩))) (hf : find3 T.fos s f = some off) :
    Yl P w0 X n fr Γ ⟨d, .fieldAddr s x f, ty, ps, af, g⟩ (.pointer (some ⟨b, o + off, none⟩)) := by
  have := Yl_fieldAddr (w0 := w0) (X := X) (n := n) (Γ := Γ) (d := d) (ty := ty) (ps := ps) (af := af) (g := g) T hx hf
  rwa [add_at0] at this
theorem sliceInfo_elem {t e : TypeId} {sz by_ : Nat} (h : sliceInfo P t = some (e, sz, by_)) : P.underlying t = some (.slice e) ∧ ∃ i, P.info? e = some i ∧ i.size = sz ∧ i.bytes = by_ := by
  unfold sliceInfo at h
  cases hu : P.underlying t with
  | none => simp [hu] at h
  | some dd =>
    cases dd <;> try (simp [hu] at h; done)
    case slice e' =>
      simp only [hu] at h
      cases hi : P.info? e' with
      | none => simp [hi] at h
      | some i =>
        simp [hi] at h
        obtain ⟨rfl, h2, h3⟩ := h
        exact ⟨rfl, i, hi, h2, h3⟩
theorem Yl_indexAddr (T : Tab P) {t e : TypeId} {x ix : Operand} {a : Addr} {len cap sz by_ : Nat} {k : IntKind} {i : Int} (j : Nat) (hx : evo fr x = some (.slice (some a) len cap)) (hi : evo fr ix = some (.int k i))
    (ht : find2 T.els t = some (e, sz, by_)) (hj : i = j) (hl : j < len) : Yl P w0 X n fr Γ ⟨d, .indexAddr t x ix, ty, ps, af, g⟩ (.pointer (some (a.add (j * sz)))) := ⟨fun _ => by simp, fun ac hfit w hs => by
  obtain ⟨hu, inf, hinf, hsz, _⟩ := sliceInfo_elem (AllP.mem T.els_ok _ (find2_mem ht))
  dsimp only at hu
  subst hj
  have hl' : (0 : Int) ≤ (j : Int) ∧ (j : Int) < (len : Int) := ⟨by omega, by omega⟩
  simp [execOp, evo_sound hfit hx, evo_sound hfit hi, Instr.indexAt, run_underlying hu, asIntOf, hl', sizeOf, typeInfo, hinf, hsz]
  intro h; omega⟩
theorem Yl_load1 (T : Tab P) {t : TypeId} {x : Operand} {a : Addr} {m : Nat} {cs : List Value} {o : Nat} {v : Value} (hx : evo fr x = some (.pointer (some (a.add o)))) (ht : find2 T.lds t = some (false, m)) (hH : Has w0 X Γ a cs) (hv : cs[o]? = some v) :
    Yl P w0 X n fr Γ ⟨d, .load t x, ty, ps, af, g⟩ v := ⟨fun _ => by simp, fun ac hfit w hs => by
  have := run_load1 (AllP.mem T.lds_ok _ (find2_mem ht)) (hH w hs o v hv)
  dsimp only at this
  simp [execOp, evo_sound hfit hx, Instr.loadAt, Instr.sureAddr, this]⟩
theorem Yl_loadA (T : Tab P) {t : TypeId} {x : Operand} {a : Addr} {m : Nat} {cs : List Value} {o : Nat} (vs : List Value) (hx : evo fr x = some (.pointer (some (a.add o)))) (ht : find2 T.lds t = some (true, m)) (hH : Has w0 X Γ a cs) (hv : (cs.drop o).take m = vs) (hm : vs.length = m) :
    Yl P w0 X n fr Γ ⟨d, .load t x, ty, ps, af, g⟩ (.agg vs.toArray) := ⟨fun _ => by simp, fun ac hfit w hs => by
  have := run_loadA (AllP.mem T.lds_ok _ (find2_mem ht)) (cs := vs) hm (by rw [← hv]; exact ((hH w hs).drop o).take m)
  dsimp only at this
  simp [execOp, evo_sound hfit hx, Instr.loadAt, Instr.sureAddr, this]⟩
/-- out of a block of the call's own. -/
theorem Yl_ldB1 (T : Tab P) {t t' : TypeId} {x : Operand} {b o m : Nat} {cs : List Value} {v : Value} (hx : evo fr x = some (.pointer (some ⟨b, o, none⟩))) (ht : find2 T.lds t = some (false, m)) (hm : It.blk b cs t' ∈ Γ) (hv : cs[o]? = some v) :
    Yl P w0 X n fr Γ ⟨d, .load t x, ty, ps, af, g⟩ v := Yl_load1 T (a := ⟨b, 0, none⟩) (o := o) (by rw [add_at0, Nat.zero_add]; exact hx) ht (Has.blk hm) hv
theorem Yl_ldBA (T : Tab P) {t t' : TypeId} {x : Operand} {b o m : Nat} {cs : List Value} (hx : evo fr x = some (.pointer (some ⟨b, o, none⟩))) (ht : find2 T.lds t = some (true, m)) (hm : It.blk b cs t' ∈ Γ) (hl : ((cs.drop o).take m).length = m) :
    Yl P w0 X n fr Γ ⟨d, .load t x, ty, ps, af, g⟩ (.agg ((cs.drop o).take m).toArray) := Yl_loadA T (a := ⟨b, 0, none⟩) (o := o) _ (by rw [add_at0, Nat.zero_add]; exact hx) ht (Has.blk hm) rfl hl
/-- the whole block. -/
theorem Yl_ldBW (T : Tab P) {t t' : TypeId} {x : Operand} {b m : Nat} {cs : List Value} (hx : evo fr x = some (.pointer (some ⟨b, 0, none⟩))) (ht : find2 T.lds t = some (true, m)) (hm : It.blk b cs t' ∈ Γ) (hl : cs.length = m) :
    Yl P w0 X n fr Γ ⟨d, .load t x, ty, ps, af, g⟩ (.agg cs.toArray) := by
  have := Yl_ldBA (w0 := w0) (X := X) (n := n) (fr := fr) (Γ := Γ) (d := d) (ty := ty) (ps := ps) (af := af) (g := g) T hx ht hm (by simp [hl])
  rwa [List.drop_zero, ← hl, List.take_length] at this

/-! ### small operations -/
theorem Yl_len (T : Tab P) {t e : TypeId} {x : Operand} {a : Option Addr} {len cap sz by_ : Nat} (hx : evo fr x = some (.slice a len cap)) (ht : find2 T.els t = some (e, sz, by_)) :
    Yl P w0 X n fr Γ ⟨d, .call { callee := .builtin .len, args := #[x], argTypes := #[t] }, ty, ps, af, g⟩ (.int .i64 len) := ⟨fun _ => by simp, fun ac hfit w hs => by
  obtain ⟨hu, _⟩ := sliceInfo_elem (AllP.mem T.els_ok _ (find2_mem ht))
  dsimp only at hu
  simp [execOp, resolve, invoke, builtin, evo_sound hfit hx, Builtin.len_, run_underlying hu, goInt]⟩
theorem Yl_min {t t' : TypeId} {x y : Operand} {k : IntKind} {i j : Int} (hx : evo fr x = some (.int k i)) (hy : evo fr y = some (.int k j)) :
    Yl P w0 X n fr Γ ⟨d, .call { callee := .builtin .min, args := #[x, y], argTypes := #[t, t'] }, ty, ps, af, g⟩ (.int k (min i j)) := ⟨fun _ => by simp, fun ac hfit w hs => by
  have e : (if j < i then j else i) = min i j := by split <;> omega
  simp [execOp, resolve, invoke, builtin, evo_sound hfit hx, evo_sound hfit hy, run_min_int2, run_max_int2, e]⟩
theorem Yl_max {t t' : TypeId} {x y : Operand} {k : IntKind} {i j : Int} (hx : evo fr x = some (.int k i)) (hy : evo fr y = some (.int k j)) :
    Yl P w0 X n fr Γ ⟨d, .call { callee := .builtin .max, args := #[x, y], argTypes := #[t, t'] }, ty, ps, af, g⟩ (.int k (max i j)) := ⟨fun _ => by simp, fun ac hfit w hs => by
  have e : (if i < j then j else i) = max i j := by split <;> omega
  simp [execOp, resolve, invoke, builtin, evo_sound hfit hx, evo_sound hfit hy, run_min_int2, run_max_int2, e]⟩
theorem Yl_extract {x : Operand} {vs : List Value} {i : Nat} {v : Value} (hx : evo fr x = some (.tuple vs.toArray)) (hv : vs[i]? = some v) : Yl P w0 X n fr Γ ⟨d, .extract x i, ty, ps, af, g⟩ v := ⟨fun _ => by simp, fun ac hfit w hs => by
  simp [execOp, evo_sound hfit hx, Instr.extract, hv]⟩
def evs (fr : Fr) : List Operand → Option (List Value)
  | [] => some []
  | x :: xs => (evo fr x).bind fun v => (evs fr xs).map (v :: ·)
theorem evs_sound {a : Act} (hf : Fits n fr a.tmps) : ∀ {xs : List Operand} {vs : List Value}, evs fr xs = some vs → xs.map a.eval = vs
  | [], vs, h => by simp [evs] at h; simp [h]
  | x :: xs, vs, h => by
    simp only [evs] at h
    cases hx : evo fr x with
    | none => simp [hx] at h
    | some v =>
      cases hr : evs fr xs with
      | none => simp [hx, hr] at h
      | some us =>
        simp [hx, hr] at h
        subst h
        simp [evo_sound hf hx, evs_sound hf hr]
theorem Yl_makeFunc {f : Fn} {xs ys : List Operand} {vs us : List Value} (hx : evs fr xs = some vs) (hy : evs fr ys = some us) : Yl P w0 X n fr Γ ⟨d, .makeFunc f xs.toArray ys.toArray, ty, ps, af, g⟩ (.func f vs.toArray us.toArray) := ⟨fun _ => by simp, fun ac hfit w hs => by
  simp [execOp, Instr.makeFunc, evs_sound hfit hx, evs_sound hfit hy]⟩
theorem Yl_conv (T : Tab P) {s t : TypeId} {x : Operand} {k k' k2 : IntKind} {i : Int} (hx : evo fr x = some (.int k i)) (hs : find2 T.kds s = some k2) (ht : find2 T.kds t = some k') : Yl P w0 X n fr Γ ⟨d, .convert s t x, ty, ps, af, g⟩ (.int k' (k'.wrap i)) :=
  ⟨fun _ => by simp, fun ac hfit w hst => by
    have h1 := AllP.mem T.kds_ok _ (find2_mem hs)
    have h2 := AllP.mem T.kds_ok _ (find2_mem ht)
    have e : ∀ t k, kindOf P t = some k → P.underlying t = some (.int k) := fun t k h => by
      unfold kindOf at h
      split at h
      · rename_i q hq; cases h; exact hq
      · cases h
    simp [execOp, evo_sound hfit hx, convert, run_underlying (e _ _ h1), run_underlying (e _ _ h2), Conv.intToInt]⟩

/-! ### building values -/
def putL : List Value → Nat → List Value → List Value
  | cs, _, [] => cs
  | [], _, _ => []
  | c :: cs, 0, v :: vs => v :: putL cs 0 vs
  | c :: cs, o + 1, vs => c :: putL cs o vs
def fillL (pl : List (Nat × Nat)) : List Value → List (Nat × Value) → Option (List Value)
  | cs, [] => some cs
  | cs, (i, v) :: r => match pl[i]? with
    | some (off, sz) => bif Nat.beq v.cells.toList.length sz && Nat.ble (off + sz) cs.length then fillL pl (putL cs off v.cells.toList) r else none
    | none => none
theorem putL_length : ∀ (vs cs : List Value) (o : Nat), (putL cs o vs).length = cs.length
  | [], cs, o => by cases cs <;> simp [putL]
  | v :: vs, [], o => by simp [putL]
  | v :: vs, c :: cs, 0 => by simp [putL, putL_length vs cs 0]
  | v :: vs, c :: cs, o + 1 => by simp [putL, putL_length (v :: vs) cs o]
theorem putL_get : ∀ (vs cs : List Value) (o j : Nat), o + vs.length ≤ cs.length → (putL cs o vs)[j]? = if o ≤ j ∧ j < o + vs.length then vs[j - o]? else cs[j]?
  | [], cs, o, j, h => by
    have : ¬ (o ≤ j ∧ j < o + 0) := by omega
    cases cs <;> simp [putL] <;> omega
  | v :: vs, [], o, j, h => by simp at h
  | v :: vs, c :: cs, 0, j, h => by
    cases j with
    | zero => simp [putL]
    | succ j =>
      have := putL_get vs cs 0 j (by simp at h ⊢; omega)
      simp [putL, this]
  | v :: vs, c :: cs, o + 1, j, h => by
    cases j with
    | zero => simp [putL]
    | succ j =>
      have := putL_get (v :: vs) cs o j (by simp at h ⊢; omega)
      simp only [putL, List.getElem?_cons_succ, this]
      have e : j + 1 - (o + 1) = j - o := by omega
      rw [e]
      by_cases hc : o ≤ j ∧ j < o + (v :: vs).length
      · rw [if_pos hc, if_pos (by omega)]
      · rw [if_neg hc, if_neg (by omega)]
theorem foldl_set (off : Nat) : ∀ (vs : List Value) (k : Nat) (A : Array Value), (∀ j, ((vs.zipIdx k).foldl (fun cs (x : Value × Nat) => cs.setIfInBounds (off + x.2) x.1) A)[j]? =
    if off + k ≤ j ∧ j < off + k + vs.length ∧ j < A.size then vs[j - (off + k)]? else A[j]?) ∧ ((vs.zipIdx k).foldl (fun cs (x : Value × Nat) => cs.setIfInBounds (off + x.2) x.1) A).size = A.size := by
  intro vs
  induction vs with
  | nil => intro k A; exact ⟨fun j => by simp; omega, rfl⟩
  | cons v vs ih =>
    intro k A
    obtain ⟨h1, h2⟩ := ih (k + 1) (A.setIfInBounds (off + k) v)
    simp only [List.zipIdx_cons, List.foldl_cons]
    refine ⟨fun j => ?_, by rw [h2]; simp⟩
    rw [h1 j]
    simp only [Array.size_setIfInBounds, List.length_cons]
    by_cases hj : j = off + k
    · subst hj
      rw [if_neg (by omega)]
      by_cases hlt : off + k < A.size
      · rw [if_pos (by omega)]; simp [hlt]
      · rw [if_neg (by omega)]; simp [Array.setIfInBounds, hlt]
    · have hne : off + k ≠ j := fun e => hj e.symm
      rw [Array.getElem?_setIfInBounds_ne hne]
      by_cases hc : off + (k + 1) ≤ j ∧ j < off + (k + 1) + vs.length ∧ j < A.size
      · rw [if_pos hc, if_pos (by omega), show j - (off + k) = (j - (off + (k + 1))) + 1 from by omega]; simp
      · rw [if_neg hc, if_neg (by omega)]
theorem fillL_fill {pl : List (Nat × Nat)} {place : Nat → Option (Nat × Nat)} (hpl : ∀ i p, pl[i]? = some p → place i = some p) : ∀ {ps : List (Nat × Value)} {cs cs' : List Value}, fillL pl cs ps = some cs' → Instr.fill place cs.toArray ps = some cs'.toArray
  | [], cs, cs', h => by simp [fillL] at h; subst h; rfl
  | (i, v) :: r, cs, cs', h => by
    simp only [fillL] at h
    cases hp : pl[i]? with
    | none => simp [hp] at h
    | some p =>
      obtain ⟨off, sz⟩ := p
      rw [hp] at h
      simp only at h
      cases hb : (Nat.beq v.cells.toList.length sz && Nat.ble (off + sz) cs.length) with
      | false => rw [hb] at h; cases h
      | true =>
        rw [hb] at h
        simp only [cond_true] at h
        simp only [Bool.and_eq_true] at hb
        have h1 : v.cells.toList.length = sz := Nat.eq_of_beq_eq_true hb.1
        have h2 : off + sz ≤ cs.length := Nat.le_of_ble_eq_true hb.2
        simp only [Array.length_toList] at h1
        unfold Instr.fill
        simp only [hpl i _ hp]
        rw [if_neg (by simp; omega)]
        rw [← fillL_fill hpl h]
        congr 1
        apply Array.ext_getElem?
        intro j
        have := (foldl_set off v.cells.toList 0 cs.toArray).1 j
        have e : (Array.foldl (fun (cs : Array Value) (x : Value × Nat) => cs.setIfInBounds (off + x.snd) x.fst) cs.toArray v.cells.zipIdx) = (v.cells.toList.zipIdx 0).foldl (fun cs (x : Value × Nat) => cs.setIfInBounds (off + x.2) x.1) cs.toArray := by
          rw [← Array.foldl_toList]; simp
        rw [e, this]
        have h3 := putL_get v.cells.toList cs off j (by simp; omega)
        simp only [List.getElem?_toArray, h3]
        simp only [Nat.add_zero, List.size_toArray, Array.length_toList]
        by_cases hc : off ≤ j ∧ j < off + v.cells.size
        · rw [if_pos hc, if_pos (by omega)]
        · rw [if_neg hc, if_neg (by omega)]
def evp (fr : Fr) : List (Nat × Operand) → Option (List (Nat × Value))
  | [] => some []
  | (i, x) :: xs => (evo fr x).bind fun v => (evp fr xs).map ((i, v) :: ·)
theorem evp_sound {a : Act} (hf : Fits n fr a.tmps) : ∀ {xs : List (Nat × Operand)} {vs : List (Nat × Value)}, evp fr xs = some vs → xs.map (fun (i, x) => (i, a.eval x)) = vs
  | [], vs, h => by simp [evp] at h; simp [h]
  | (i, x) :: xs, vs, h => by
    simp only [evp] at h
    cases hx : evo fr x with
    | none => simp [hx] at h
    | some v =>
      cases hr : evp fr xs with
      | none => simp [hx, hr] at h
      | some us =>
        simp [hx, hr] at h
        subst h
        have := evp_sound hf hr
        simp [evo_sound hf hx, this]
theorem zero_run {t : TypeId} {z : List Value} (h : zeroCells P t = some z) : ∃ i v, P.info? t = some i ∧ i.zero = some v ∧ v.cells = z.toArray := by
  unfold zeroCells at h
  cases hi : P.info? t with
  | none => simp [hi] at h
  | some i =>
    cases hz : i.zero with
    | none => simp [hi, hz] at h
    | some v =>
      simp [hi, hz] at h
      exact ⟨i, v, rfl, hz, by rw [← h]⟩
theorem Yl_build (T : Tab P) {t : TypeId} {ps' : List (Nat × Operand)} {pv : List (Nat × Value)} {z cs : List Value} {pl : List (Nat × Nat)} (hz : find2 T.zrs t = some z) (hl : find2 T.lay t = some pl) (hp : evp fr ps' = some pv) (hc : fillL pl z pv = some cs) :
    Yl P w0 X n fr Γ ⟨d, .build t ps'.toArray, ty, ps, af, g⟩ (.agg cs.toArray) := ⟨fun _ => by simp, fun ac hfit w hs => by
  obtain ⟨i, v, h1, h2, h3⟩ := zero_run (AllP.mem T.zrs_ok _ (find2_mem hz))
  have hlay := AllP.mem T.lay_ok _ (find2_mem hl)
  dsimp only at h1 hlay
  have hb : P.built t pv = some cs.toArray := by
    unfold layOf at hlay
    cases hu : P.underlying t with
    | none => simp [hu] at hlay
    | some dd =>
      cases dd <;> try (simp [hu] at hlay; done)
      case struct fs =>
        simp only [hu] at hlay
        unfold Program.built
        simp only [h1, hu, h2, hlay, h3]
        have := fillL_fill (place := fun i => pl[i]?) (fun _ _ h => h) hc
        simpa using this
  have hr := run_build (P := P) w t pv.toArray cs.toArray (by simpa using hb)
  have he := evp_sound hfit hp
  have he' : (ps'.toArray.map fun (x : Nat × Operand) => (x.1, ac.eval x.2)) = pv.toArray := by rw [← he]; simp
  simp only [execOp, Sem.run_bind]
  rw [he', hr]; simp⟩
end
end Go.Sx
