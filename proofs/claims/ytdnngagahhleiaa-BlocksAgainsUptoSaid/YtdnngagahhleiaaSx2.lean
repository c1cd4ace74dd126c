/- A small calculus of triples. Part 2: operations. -/
import Derived.Test.YtdnngagahhleiaaSx1
import Derived.Laws.AppendOwn
import Derived.WalkLawsBesides
import Derived.Shelf.Abstract
import Derived.KernelRfl
namespace Go.Sx
open Go.RowKit
set_option linter.unusedVariables false
set_option linter.unusedSimpArgs false

/-! ### a program's tables -/
def AllP {α : Type} (p : α → Prop) : List α → Prop | [] => True | x :: xs => p x ∧ AllP p xs
theorem AllP.mem {α : Type} {p : α → Prop} : ∀ {l : List α}, AllP p l → ∀ x ∈ l, p x
  | y :: l, h, x, hx => by cases hx with | head => exact h.1 | tail _ hx => exact AllP.mem h.2 x hx
theorem allP_map {α β : Type} {f g : α → β} : ∀ {l : List α}, l.map f = l.map g → AllP (fun x => f x = g x) l
  | [], _ => trivial
  | x :: xs, h => ⟨(List.cons.inj h).1, allP_map (List.cons.inj h).2⟩
def fieldOff (P : Program) (s : TypeId) (f : Nat) : Option Nat := match P.underlying s with
  | some (.struct fs) => match fs[f]? with
    | some fd => match P.info? fd.type with
      | some i => if i.size = 0 then none else some fd.offset
      | none => none
    | none => none
  | _ => none
def sliceInfo (P : Program) (t : TypeId) : Option (TypeId × Nat × Nat) := match P.underlying t with | some (.slice e) => (P.info? e).map fun i => (e, i.size, i.bytes) | _ => none
def ldInfo (P : Program) (t : TypeId) : Option (Bool × Nat) := match P.underlying t with
  | some (.struct _) | some (.array _ _) => (P.info? t).map fun i => (true, i.size)
  | some _ => (P.info? t).map fun i => (false, i.size)
  | none => none
def zeroCells (P : Program) (t : TypeId) : Option (List Value) := ((P.info? t).bind (·.zero)).map fun v => v.cells.toList
def kindOf (P : Program) (t : TypeId) : Option IntKind := match P.underlying t with | some (.int k) => some k | _ => none
def layOf (P : Program) (t : TypeId) : Option (List (Nat × Nat)) := match P.underlying t with
  | some (.struct fs) => fs.toList.mapM (fun f => (P.info? f.type).map fun i => (f.offset, i.size))
  | _ => none
def find2 {α : Type} : List (Nat × α) → Nat → Option α
  | [], _ => none
  | (k, v) :: r, i => bif Nat.beq k i then some v else find2 r i
theorem find2_mem {α : Type} : ∀ {l : List (Nat × α)} {i : Nat} {v : α}, find2 l i = some v → (i, v) ∈ l
  | (k, u) :: r, i, v, h => by
    simp only [find2] at h
    by_cases hk : k = i
    · subst hk; simp at h; subst h; simp
    · have hb := nbeq_ne hk
      rw [hb] at h
      exact List.mem_cons_of_mem _ (find2_mem h)
def find3 : List (Nat × Nat × Nat) → Nat → Nat → Option Nat
  | [], _, _ => none
  | (k, l, v) :: r, i, j => bif Nat.beq k i && Nat.beq l j then some v else find3 r i j
theorem find3_mem : ∀ {l : List (Nat × Nat × Nat)} {i j : Nat} {v : Nat}, find3 l i j = some v → (i, j, v) ∈ l
  | (k, m, u) :: r, i, j, v, h => by
    simp only [find3] at h
    by_cases hk : (Nat.beq k i && Nat.beq m j) = true
    · rw [hk] at h
      simp at hk
      obtain ⟨rfl, rfl⟩ := hk
      simp at h; subst h; simp
    · rw [Bool.not_eq_true] at hk
      rw [hk] at h
      exact List.mem_cons_of_mem _ (find3_mem h)
structure Tab (P : Program) where
  mixed : P.follows .mixedOrders = true
  fos : List (Nat × Nat × Nat)
  fos_ok : AllP (fun x => fieldOff P x.1 x.2.1 = some x.2.2) fos
  els : List (Nat × Nat × Nat × Nat)
  els_ok : AllP (fun x => sliceInfo P x.1 = some x.2) els
  lds : List (Nat × Bool × Nat)
  lds_ok : AllP (fun x => ldInfo P x.1 = some x.2) lds
  zrs : List (Nat × List Value)
  zrs_ok : AllP (fun x => zeroCells P x.1 = some x.2) zrs
  kds : List (Nat × IntKind)
  kds_ok : AllP (fun x => kindOf P x.1 = some x.2) kds
  lay : List (Nat × List (Nat × Nat))
  lay_ok : AllP (fun x => layOf P x.1 = some x.2) lay
  fns : List (Nat × Nat)
  fns_ok : AllP (fun x => ∀ args w, (callFunc x.1 args).run P w = .ok (.enter x.1 args) w) fns

/-! ### regions in the order of the text -/
def gdo (l : List Oper) (fr : Fr) : Option (Nat × Bool) → Option Bool
  | none => some true
  | some (j, want) => match (l[j]?).bind (·.dst) with
    | some d => match look fr d with
      | some (.bool b) => some (b == want)
      | some _ => some false
      | none => none
    | none => some false
theorem gdo_spec {n : Nat} {l : List Oper} {fr : Fr} {o : Oper} {b : Bool} {a : Act} (hf : Fits n fr a.tmps) (h : gdo l fr o.guard = some b) : Region.wanted o (yielded l.toArray a.tmps) = b := by
  unfold Region.wanted
  cases hg : o.guard with
  | none => rw [hg] at h; simpa [gdo] using h
  | some p =>
    obtain ⟨j, want⟩ := p
    rw [hg] at h
    simp only [gdo] at h
    simp only [yielded, List.getElem?_toArray]
    cases hd : (l[j]?).bind (·.dst) with
    | none => rw [hd] at h; simp at h; subst h; simp
    | some d =>
      rw [hd] at h
      simp only at h
      simp only [Option.bind_some]
      cases hl : look fr d with
      | none => rw [hl] at h; cases h
      | some v =>
        rw [hl] at h
        rw [hf.get d v hl]
        cases v <;> simp at h ⊢ <;> first | exact h | (subst h; rfl)
section
variable (P : Program) (r : Option Nat) (w0 : World) (X : List Nat) (n : Nat) (df : List Deferred)
abbrev PN (K : Kont) := PQ w0 X n df K (fun _ _ _ => False)
def WL (l rest : List Oper) (K : Kont) (fr : Fr) (Γ : List It) : Prop := ∀ a w, St w0 X Γ w → Fits n fr a.tmps → a.defers = df → wpListIn (FW r) 0 P l.toArray (PN w0 X n df K) rest a w
/-- o yields v in every state that fr and K tell of, and does nothing else. -/
def Yl (fr : Fr) (K : List It) (o : Oper) (v : Value) : Prop := (∀ c, o.op ≠ .defer c) ∧ ∀ a : Act, Fits n fr a.tmps → ∀ w, St w0 X K w → (execOp a.eval o).run P w = .ok (.value v) w
/-- o leads to what N tells. -/
def Hv (o : Oper) (N : Kont) (fr : Fr) (Γ : List It) : Prop := ∀ a w, St w0 X Γ w → Fits n fr a.tmps → a.defers = df → ∀ (next : Act → World → Prop) (Q : Exit → Act → World → Prop),
  (∀ a' w' fr' Γ', St w0 X Γ' w' → Fits n fr' a'.tmps → a'.defers = df → N fr' Γ' → next a' w') → o.wpIn (FW r) 0 P a w next Q
end
section
variable {P : Program} {r : Option Nat} {w0 : World} {X : List Nat} {n : Nat} {df : List Deferred} {K : Kont} {Q : Post} {fr : Fr} {Γ : List It} {l rest : List Oper} {o : Oper}
theorem W_region {id : Nat} (h : WL P r w0 X n df l l K fr Γ) : W P r w0 X n df (.region id l.toArray false) K Q fr Γ := fun a w hs hf hd => by
  refine wpIn_mono (wpIn_region_lit (h a w hs hf hd)) ?_
  rintro e a' w' ⟨fr', Γ', h1, h2, h3, h4⟩
  cases e <;> first | exact ⟨fr', Γ', h1, h2, h3, h4⟩ | exact h4.elim
theorem WL_nil (h : K fr Γ) : WL P r w0 X n df l [] K fr Γ := fun a w hs hf hd => wpListIn_nil ⟨fr, Γ, hs, hf, hd, h⟩
theorem WL_cons (hg : gdo l fr o.guard = some true) (h : Hv P r w0 X n df o (fun fr Γ => WL P r w0 X n df l rest K fr Γ) fr Γ) : WL P r w0 X n df l (o :: rest) K fr Γ := fun a w hs hf hd => by
  unfold wpListIn
  rw [if_pos (gdo_spec hf hg)]
  exact h a w hs hf hd _ _ fun a' w' fr' Γ' h1 h2 h3 h4 => h4 a' w' h1 h2 h3
theorem WL_skip (hg : gdo l fr o.guard = some false) (hd : dstOk n o.dst = true) (h : WL P r w0 X n df l rest K (putF o.dst undef fr) Γ) : WL P r w0 X n df l (o :: rest) K fr Γ := fun a w hs hf hdf => by
  unfold wpListIn
  rw [if_neg (by rw [gdo_spec hf hg]; simp)]
  exact ⟨fun _ _ => trivial, h _ _ hs (hf.put _ hd _) (by cases o.dst <;> exact hdf)⟩
/-- an operation that hands back a value and turns the world. -/
theorem Hv_val {N : Kont} (hnd : ∀ c, o.op ≠ .defer c) (hd : dstOk n o.dst = true)
    (h : ∀ (a : Act) w, St w0 X Γ w → Fits n fr a.tmps → ∃ v w' Γ', (execOp a.eval o).run P w = .ok (.value v) w' ∧ St w0 X Γ' w' ∧ N (putF o.dst v fr) Γ') : Hv P r w0 X n df o N fr Γ := fun a w hs hf hdf next Q hk => by
  obtain ⟨v, w', Γ', h1, h2, h3⟩ := h a w hs hf
  refine ⟨fun _ _ => trivial, ?_⟩
  rw [Oper.semAt_eq _ _ _ hnd, h1]
  exact hk _ _ _ _ h2 (hf.put _ hd _) (by cases o.dst <;> exact hdf) h3
theorem Hv_skip {N : Kont} (hnd : ∀ c, o.op ≠ .defer c) (hd : dstOk n o.dst = true)
    (h : ∀ (a : Act) w, St w0 X Γ w → Fits n fr a.tmps → ∃ w' Γ', (execOp a.eval o).run P w = .ok .skip w' ∧ St w0 X Γ' w' ∧ N (putF o.dst undef fr) Γ') : Hv P r w0 X n df o N fr Γ := fun a w hs hf hdf next Q hk => by
  obtain ⟨w', Γ', h1, h2, h3⟩ := h a w hs hf
  refine ⟨fun _ _ => trivial, ?_⟩
  rw [Oper.semAt_eq _ _ _ hnd, h1]
  exact hk _ _ _ _ h2 (hf.put _ hd _) (by cases o.dst <;> exact hdf) h3
theorem Hv_y {N : Kont} {v : Value} (hy : Yl P w0 X n fr Γ o v) (hd : dstOk n o.dst = true) (h : N (putF o.dst v fr) Γ) : Hv P r w0 X n df o N fr Γ :=
  Hv_val hy.1 hd fun a w hs hf => ⟨v, w, Γ, hy.2 a hf w hs, hs, h⟩
theorem WL_y {v : Value} (hy : Yl P w0 X n fr Γ o v) (hg : gdo l fr o.guard = some true) (hd : dstOk n o.dst = true) (h : WL P r w0 X n df l rest K (putF o.dst v fr) Γ) : WL P r w0 X n df l (o :: rest) K fr Γ :=
  WL_cons hg (Hv_y hy hd h)
/-- a test: both ways at once. -/
theorem WL_b {p : Prop} [Decidable p] (hy : Yl P w0 X n fr Γ o (.bool (decide p))) (hg : gdo l fr o.guard = some true) (hd : dstOk n o.dst = true) (ht : p → WL P r w0 X n df l rest K (putF o.dst (.bool true) fr) Γ)
    (hf : ¬ p → WL P r w0 X n df l rest K (putF o.dst (.bool false) fr) Γ) : WL P r w0 X n df l (o :: rest) K fr Γ := by
  by_cases h : p
  · exact WL_y (v := .bool true) (by simpa [h] using hy) hg hd (ht h)
  · exact WL_y (v := .bool false) (by simpa [h] using hy) hg hd (hf h)
end

/-! ### what an operation yields -/
section
variable {P : Program} {w0 : World} {X : List Nat} {n : Nat} {fr : Fr} {Γ : List It} {d : Option Tmp} {ty : TypeId} {ps : String} {af : Array Edge} {g : Option (Nat × Bool)}
theorem Yl_move {x : Operand} {v : Value} (h : evo fr x = some v) : Yl P w0 X n fr Γ ⟨d, .move x, ty, ps, af, g⟩ v := ⟨fun _ => by simp, fun a hf w hs => by simp [execOp, evo_sound hf h]⟩
theorem Yl_assign {x : Operand} {v : Value} (h : evo fr x = some v) : Yl P w0 X n fr Γ ⟨d, .assign x, ty, ps, af, g⟩ v := ⟨fun _ => by simp, fun a hf w hs => by simp [execOp, evo_sound hf h]⟩
theorem Yl_pick {c x y : Operand} {b : Bool} {v : Value} (hc : evo fr c = some (.bool b)) (h : evo fr (bif b then x else y) = some v) : Yl P w0 X n fr Γ ⟨d, .pick c x y, ty, ps, af, g⟩ v :=
  ⟨fun _ => by simp, fun a hf w hs => by
    have h1 := evo_sound hf hc
    have h2 := evo_sound hf h
    cases b <;> simp at h2 <;> simp [execOp, h1, h2, asBool]⟩
theorem Yl_not {t : TypeId} {x : Operand} {b : Bool} (h : evo fr x = some (.bool b)) : Yl P w0 X n fr Γ ⟨d, .unOp .not t x, ty, ps, af, g⟩ (.bool !b) := ⟨fun _ => by simp, fun a hf w hs => by simp [execOp, evo_sound hf h, Op.unary]⟩
section
variable {t t' : TypeId} {x y : Operand} {k : IntKind} {i j : Int}
theorem Yl_bin {op : BinOp} {u v z : Value} (hx : evo fr x = some u) (hy : evo fr y = some v) (h : ∀ w, (do eqGuard op t x y u v; binOp op t u v : Sem Value).run P w = .ok z w) :
    Yl P w0 X n fr Γ ⟨d, .binOp op t x y t', ty, ps, af, g⟩ z := ⟨fun _ => by simp, fun a hf w hs => by
  have := h w
  simp only [execOp, evo_sound hf hx, evo_sound hf hy, Sem.run_bind] at this ⊢
  rw [this]; simp⟩
theorem Yl_lss (hx : evo fr x = some (.int k i)) (hy : evo fr y = some (.int k j)) : Yl P w0 X n fr Γ ⟨d, .binOp .lss t x y t', ty, ps, af, g⟩ (.bool (decide (i < j))) := Yl_bin hx hy fun w => by simp [go_sem]
theorem Yl_leq (hx : evo fr x = some (.int k i)) (hy : evo fr y = some (.int k j)) : Yl P w0 X n fr Γ ⟨d, .binOp .leq t x y t', ty, ps, af, g⟩ (.bool (decide (i ≤ j))) := Yl_bin hx hy fun w => by simp [go_sem]
theorem Yl_gtr (hx : evo fr x = some (.int k i)) (hy : evo fr y = some (.int k j)) : Yl P w0 X n fr Γ ⟨d, .binOp .gtr t x y t', ty, ps, af, g⟩ (.bool (decide (j < i))) := Yl_bin hx hy fun w => by simp [go_sem]
theorem Yl_geq (hx : evo fr x = some (.int k i)) (hy : evo fr y = some (.int k j)) : Yl P w0 X n fr Γ ⟨d, .binOp .geq t x y t', ty, ps, af, g⟩ (.bool (decide (j ≤ i))) := Yl_bin hx hy fun w => by simp [go_sem]
theorem Yl_eql (hx : evo fr x = some (.int k i)) (hy : evo fr y = some (.int k j)) : Yl P w0 X n fr Γ ⟨d, .binOp .eql t x y t', ty, ps, af, g⟩ (.bool (decide (i = j))) := Yl_bin hx hy fun w => by
  simp [go_sem]; exact Bool.eq_iff_iff.2 (by simp)
theorem Yl_neq (hx : evo fr x = some (.int k i)) (hy : evo fr y = some (.int k j)) : Yl P w0 X n fr Γ ⟨d, .binOp .neq t x y t', ty, ps, af, g⟩ (.bool (decide (i ≠ j))) := Yl_bin hx hy fun w => by
  simp [go_sem]; exact Bool.eq_iff_iff.2 (by simp)
theorem Yl_addw (hx : evo fr x = some (.int k i)) (hy : evo fr y = some (.int k j)) : Yl P w0 X n fr Γ ⟨d, .binOp .add t x y t', ty, ps, af, g⟩ (.int k (k.wrap (i + j))) := Yl_bin hx hy fun w => by simp [go_sem, Op.intArith]
theorem Yl_subw (hx : evo fr x = some (.int k i)) (hy : evo fr y = some (.int k j)) : Yl P w0 X n fr Γ ⟨d, .binOp .sub t x y t', ty, ps, af, g⟩ (.int k (k.wrap (i - j))) := Yl_bin hx hy fun w => by simp [go_sem, Op.intArith]
theorem Yl_mulw (hx : evo fr x = some (.int k i)) (hy : evo fr y = some (.int k j)) : Yl P w0 X n fr Γ ⟨d, .binOp .mul t x y t', ty, ps, af, g⟩ (.int k (k.wrap (i * j))) := Yl_bin hx hy fun w => by simp [go_sem, Op.intArith]
theorem wrap_i64 {z : Int} (h0 : -9223372036854775808 ≤ z) (h1 : z ≤ 9223372036854775807) : IntKind.i64.wrap z = z := IntWalk.i64_in z (by omega)
theorem Yl_add (hx : evo fr x = some (.int .i64 i)) (hy : evo fr y = some (.int .i64 j)) (h0 : -9223372036854775808 ≤ i + j) (h1 : i + j ≤ 9223372036854775807) : Yl P w0 X n fr Γ ⟨d, .binOp .add t x y t', ty, ps, af, g⟩ (.int .i64 (i + j)) := by
  have := Yl_addw (P := P) (w0 := w0) (X := X) (n := n) (Γ := Γ) (d := d) (ty := ty) (ps := ps) (af := af) (g := g) (t := t) (t' := t') hx hy
  rwa [wrap_i64 h0 h1] at this
theorem Yl_sub (hx : evo fr x = some (.int .i64 i)) (hy : evo fr y = some (.int .i64 j)) (h0 : -9223372036854775808 ≤ i - j) (h1 : i - j ≤ 9223372036854775807) : Yl P w0 X n fr Γ ⟨d, .binOp .sub t x y t', ty, ps, af, g⟩ (.int .i64 (i - j)) := by
  have := Yl_subw (P := P) (w0 := w0) (X := X) (n := n) (Γ := Γ) (d := d) (ty := ty) (ps := ps) (af := af) (g := g) (t := t) (t' := t') hx hy
  rwa [wrap_i64 h0 h1] at this
end
end
end Go.Sx
