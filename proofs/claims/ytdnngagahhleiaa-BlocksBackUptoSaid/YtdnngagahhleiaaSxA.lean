/- A small calculus of triples: parts 1 to 9. -/
import Derived.WalkKit
import Derived.OrdersIn
import Derived.OwnWalkIn
import Derived.Deep.Draws
import Derived.RangeFuncRecord
import Derived.Laws.Rows
import Derived.Laws.AppendOwn
import Derived.WalkLawsBesides
import Derived.Shelf.Abstract
import Derived.KernelRfl
import Derived.Laws.MakeOwn
import Derived.Laws.OwnMore
import Derived.Laws.CopyRow
import Derived.Maps.AppendAt
import Derived.RangeFuncLeaves
import Derived.Laws.StructEq
/- A small calculus of triples: frames as association lists, memory as a list of items. Part 1: frames, items, states, the rules for code. -/
namespace Go.Sx
open Go.RowKit
set_option linter.unusedVariables false

theorem nbeq_ne {i j : Nat} (h : i ≠ j) : Nat.beq i j = false := by
  cases hb : Nat.beq i j
  · rfl
  · exact absurd (Nat.eq_of_beq_eq_true hb) h
/-! ### frames -/
abbrev Fr := List (Nat × Value)
def look : Fr → Nat → Option Value
  | [], _ => none
  | (k, v) :: r, i => bif Nat.beq k i then some v else look r i
structure Fits (n : Nat) (fr : Fr) (t : Array Value) : Prop where
  size : t.size = n
  get : ∀ i v, look fr i = some v → t[i]? = some v
def evo (fr : Fr) : Operand → Option Value
  | .tmp t => look fr t
  | .const v => some v
  | .global g => some (.pointer (some ⟨g, 0, none⟩))
  | .func f => some (.func (.func f) #[] #[])
theorem evo_sound {n : Nat} {fr : Fr} {a : Act} {x : Operand} {v : Value} (h : Fits n fr a.tmps) (he : evo fr x = some v) : a.eval x = v := by
  cases x with
  | tmp t => have := h.get t v he; simp [Act.eval, this]
  | const u => simpa [evo, Act.eval] using he
  | global g => simpa [evo, Act.eval] using he
  | func f => simpa [evo, Act.eval] using he
def putF (d : Option Tmp) (v : Value) (fr : Fr) : Fr := match d with | some d => (d, v) :: fr | none => fr
def dstOk (n : Nat) : Option Tmp → Bool | some d => Nat.blt d n | none => true
theorem Fits.put {n : Nat} {fr : Fr} {a : Act} (h : Fits n fr a.tmps) (d : Option Tmp) (hd : dstOk n d = true) (v : Value) : Fits n (putF d v fr) (a.put d v).tmps := by
  cases d with
  | none => exact h
  | some d =>
    have hd' : d < n := by simpa [dstOk, Nat.blt_eq] using hd
    refine ⟨by simp [Act.put, h.size], fun i u hi => ?_⟩
    simp only [putF, look] at hi
    by_cases hdi : d = i
    · subst hdi
      simp at hi
      subst hi
      simp [Act.put, h.size, hd']
    · have hb := nbeq_ne hdi
      rw [hb] at hi
      simp only [cond_false] at hi
      simp only [Act.put]
      rw [Array.getElem?_setIfInBounds_ne hdi]
      exact h.get i u hi
/-- fr' says no more than fr. -/
def Sub (fr' fr : Fr) : Prop := ∀ p ∈ fr', look fr p.1 = some p.2
theorem look_mem : ∀ {fr : Fr} {i : Nat} {v : Value}, look fr i = some v → (i, v) ∈ fr
  | (k, u) :: r, i, v, h => by
    simp only [look] at h
    by_cases hk : k = i
    · subst hk; simp at h; subst h; simp
    · have hb := nbeq_ne hk
      rw [hb] at h
      exact List.mem_cons_of_mem _ (look_mem h)
theorem Fits.sub {n : Nat} {fr fr' : Fr} {t : Array Value} (h : Fits n fr t) (hs : Sub fr' fr) : Fits n fr' t :=
  ⟨h.size, fun i v hi => h.get i v (hs _ (look_mem hi))⟩
theorem Sub.nil {fr : Fr} : Sub [] fr := fun _ h => by cases h
theorem Sub.cons {fr fr' : Fr} {i : Nat} {v : Value} (h : look fr i = some v) (hs : Sub fr' fr) : Sub ((i, v) :: fr') fr := fun p hp => by
  cases hp with
  | head => exact h
  | tail _ hp => exact hs p hp

/-! ### items of memory -/
/-- a slice of the call's own: nil, or the first of a block's cells; the block may be longer than the slice's capacity (a slice that was clipped). -/
def hasRow (w : World) (e : TypeId) (sz : Nat) (v : Value) (n : Nat) (xs : List Value) : Prop :=
  xs.length = n * sz ∧ ((v = .slice none 0 0 ∧ n = 0) ∨ ∃ g cap cur, v = .slice (some ⟨g, 0, none⟩) n cap ∧ 0 ≤ g ∧ w.heap[g]? = some (.cells cur e (0, 0)) ∧ n ≤ cap ∧ cap ≤ maxLen ∧ cap * sz ≤ cur.size ∧ cur.toList.take (n * sz) = xs)
theorem hasRow_of {w : World} {e : TypeId} {sz : Nat} {v : Value} {n : Nat} {xs : List Value} (h : w.ownsRow 0 e sz v n xs) : hasRow w e sz v n xs := by
  refine ⟨h.1, ?_⟩
  rcases h.2 with hn | ⟨g, cap, cur, h1, h2, h3, h4, h5, h6, h7⟩
  · exact .inl hn
  · exact .inr ⟨g, cap, cur, h1, h2, h3, h4, h5, Nat.le_of_eq h6.symm, h7⟩
theorem hasRow.lt {w : World} {e : TypeId} {sz : Nat} {v : Value} {n : Nat} {xs : List Value} (h : hasRow w e sz v n xs) : ∀ k, v.ownBlock = some k → k < w.heap.size := by
  intro k hk
  rcases h.2 with ⟨rfl, _⟩ | ⟨g, cap, cur, rfl, hb, hg, _⟩
  · simp [Value.ownBlock] at hk
  · simp [Value.ownBlock] at hk
    subst hk
    exact (Array.getElem?_eq_some_iff.1 hg).1
theorem hasRow.cells {w : World} {e : TypeId} {sz : Nat} {v : Value} {n : Nat} {xs : List Value} (h : hasRow w e sz v n xs) {g : Nat} (hg : v.ownBlock = some g) : ∀ j u, xs[j]? = some u → w.cell? ((⟨g, 0, none⟩ : Addr).add j) = some u := by
  intro j u hu
  rcases h.2 with ⟨rfl, _⟩ | ⟨g', cap, cur, rfl, _, hgg, _, _, _, htake⟩
  · simp [Value.ownBlock] at hg
  · simp [Value.ownBlock] at hg
    subst hg
    have hadd : (⟨g', 0, none⟩ : Addr).add j = ⟨g', j, none⟩ := by unfold Addr.add; split <;> simp_all
    rw [hadd, cell_of_row w g' j cur e (0, 0) hgg]
    rw [← htake, List.getElem?_take] at hu
    split at hu
    · simpa using hu
    · cases hu
/-- clipped: the capacity is less. -/
theorem hasRow.clip {w : World} {e : TypeId} {sz : Nat} {A : Option Addr} {n cap : Nat} {xs : List Value} (h : hasRow w e sz (.slice A n cap) n xs) {c : Nat} (h1 : n ≤ c) (h2 : c ≤ cap) : hasRow w e sz (.slice A n c) n xs := by
  refine ⟨h.1, ?_⟩
  rcases h.2 with ⟨hv, hn⟩ | ⟨g, cap', cur, hv, hb, hg, h3, h4, h5, h6⟩
  · cases hv; exact .inl ⟨by rw [show c = 0 by omega], rfl⟩
  · cases hv; exact .inr ⟨g, c, cur, rfl, hb, hg, h1, by omega, Nat.le_trans (Nat.mul_le_mul_right _ h2) h5, h6⟩
/-- blk: a block of cells, known whole. row: a slice of the call's own (nil where it has none): its block, whose first cells are these. gen: whatever else hangs on its blocks alone. -/
inductive It where
  | blk (b : Nat) (cs : List Value) (t : TypeId)
  | row (v : Value) (t : TypeId) (sz n : Nat) (cs : List Value)
  | gen (fp : List Nat) (ok : World → Prop) (loc : ∀ w w' : World, (∀ b ∈ fp, w'.heap[b]? = w.heap[b]?) → ok w → ok w') (lt : ∀ w : World, ok w → ∀ b ∈ fp, b < w.heap.size)
def It.fp : It → List Nat | .blk b _ _ => [b] | .row v _ _ _ _ => v.ownBlock.toList | .gen fp _ _ _ => fp
def It.ok : It → World → Prop
  | .blk b cs t, w => w.heap[b]? = some (.cells cs.toArray t (0, 0))
  | .row v t sz n cs, w => hasRow w t sz v n cs
  | .gen _ ok _ _, w => ok w
theorem It.loc {i : It} {w w' : World} (h : ∀ b ∈ i.fp, w'.heap[b]? = w.heap[b]?) (hk : i.ok w) : i.ok w' := by
  cases i with
  | blk b cs t => exact (h b (by simp [It.fp])).trans hk
  | row v t sz n cs =>
    refine ⟨hk.1, ?_⟩
    rcases hk.2 with hn | ⟨g, cap, cur, rfl, hb, hg, r⟩
    · exact .inl hn
    · exact .inr ⟨g, cap, cur, rfl, hb, by rw [h g (by simp [It.fp, Value.ownBlock])]; exact hg, r⟩
  | gen fp ok loc lt => exact loc w w' h hk
theorem It.lt {i : It} {w : World} (hk : i.ok w) : ∀ b ∈ i.fp, b < w.heap.size := by
  cases i with
  | blk b cs t => intro c hc; obtain rfl : c = b := (by simpa [It.fp] using hc); exact (Array.getElem?_eq_some_iff.1 hk).1
  | row v t sz n cs => intro c hc; exact hasRow.lt hk c (by simp only [It.fp] at hc; cases hv : v.ownBlock <;> simp_all)
  | gen fp ok loc lt => exact lt w hk
abbrev fps (Γ : List It) : List Nat := Γ.flatMap It.fp
structure St (w0 : World) (X : List Nat) (Γ : List It) (w : World) : Prop where
  os : w.os = w0.os
  tape : w.tape = w0.tape
  output : w.output = w0.output
  size : w0.heap.size ≤ w.heap.size
  old : ∀ b, b < w0.heap.size → b ∉ X → w.heap[b]? = w0.heap[b]?
  ok : ∀ i ∈ Γ, i.ok w
  nd : (fps Γ).Nodup
  mine : ∀ b ∈ fps Γ, b ∈ X ∨ w0.heap.size ≤ b
/-- the state in which a call begins. -/
structure Sep (Γ : List It) (w : World) : Prop where
  ok : ∀ i ∈ Γ, i.ok w
  nd : (fps Γ).Nodup
theorem Sep.st {Γ : List It} {w : World} (h : Sep Γ w) : St w (fps Γ) Γ w := ⟨rfl, rfl, rfl, Nat.le_refl _, fun _ _ _ => rfl, h.ok, h.nd, fun b hb => .inl hb⟩
theorem Sep.nil (w : World) : Sep [] w := ⟨fun _ h => (by cases h), by simp⟩
theorem Sep.perm {Γ Γ' : List It} {w : World} (h : Sep Γ w) (hp : Γ.Perm Γ') : Sep Γ' w :=
  ⟨fun i hi => h.ok i (hp.mem_iff.2 hi), ((hp.flatMap_right It.fp).nodup_iff).1 h.nd⟩
section
variable {w0 w w' : World} {X : List Nat} {Γ Γ' A B : List It}
theorem St.sep (h : St w0 X Γ w) : Sep Γ w := ⟨h.ok, h.nd⟩
theorem St.perm (h : St w0 X Γ w) (hp : Γ.Perm Γ') : St w0 X Γ' w :=
  ⟨h.os, h.tape, h.output, h.size, h.old, fun i hi => h.ok i (hp.mem_iff.2 hi), ((hp.flatMap_right It.fp).nodup_iff).1 h.nd,
   fun b hb => h.mine b (((hp.flatMap_right It.fp).mem_iff).2 hb)⟩
theorem St.left (h : St w0 X (A ++ B) w) : St w0 X A w :=
  ⟨h.os, h.tape, h.output, h.size, h.old, fun i hi => h.ok i (List.mem_append_left _ hi),
   (by have := h.nd; simp only [fps, List.flatMap_append] at this; exact (List.nodup_append.1 this).1),
   fun b hb => h.mine b (by simp only [fps, List.flatMap_append, List.mem_append]; exact .inl hb)⟩
theorem St.right (h : St w0 X (A ++ B) w) : St w0 X B w := (h.perm List.perm_append_comm).left
theorem St.tl {i : It} (h : St w0 X (i :: Γ) w) : St w0 X Γ w := St.right (A := [i]) h
theorem St.lt (h : St w0 X Γ w) : ∀ b ∈ fps Γ, b < w.heap.size := fun b hb => by
  obtain ⟨i, hi, hb⟩ := List.mem_flatMap.1 hb
  exact It.lt (h.ok i hi) b hb
/-- what was not counted may have turned. -/
theorem St.drawn (h : St w0 X Γ w) (hh : w'.heap = w.heap) (ho : w'.os = w.os) (ht : w'.tape = w.tape) (hu : w'.output = w.output) : St w0 X Γ w' :=
  ⟨ho.trans h.os, ht.trans h.tape, hu.trans h.output, by rw [hh]; exact h.size, fun b h1 h2 => by rw [hh]; exact h.old b h1 h2,
   fun i hi => It.loc (fun b _ => by rw [hh]) (h.ok i hi), h.nd, h.mine⟩
theorem St.drewN (h : St w0 X Γ w) (k : Nat) : St w0 X Γ (w.drewN k) := h.drawn rfl rfl rfl rfl
/-- THE FRAME LAW: the items A are turned into A'; all else stays. -/
theorem St.upd {A' : List It} (h : St w0 X (A ++ B) w) (ho : w'.os = w.os) (ht : w'.tape = w.tape) (hu : w'.output = w.output) (hs : w.heap.size ≤ w'.heap.size)
    (hk : ∀ b, b < w.heap.size → b ∉ fps A → w'.heap[b]? = w.heap[b]?) (hok : ∀ i ∈ A', i.ok w') (hnd : (fps A').Nodup)
    (hnew : ∀ b ∈ fps A', b ∈ fps A ∨ w.heap.size ≤ b) : St w0 X (A' ++ B) w' := by
  have hlt := h.lt
  have hmine := h.mine
  have hnd0 := h.nd
  simp only [fps, List.flatMap_append] at hlt hmine hnd0
  obtain ⟨n1, n2, n3⟩ := List.nodup_append.1 hnd0
  refine ⟨ho.trans h.os, ht.trans h.tape, hu.trans h.output, Nat.le_trans h.size hs, fun b h1 h2 => ?_, fun i hi => ?_, ?_, fun b hb => ?_⟩
  · refine (hk b (Nat.lt_of_lt_of_le h1 h.size) (fun hm => ?_)).trans (h.old b h1 h2)
    rcases hmine b (List.mem_append_left _ hm) with h3 | h3
    · exact h2 h3
    · omega
  · rcases List.mem_append.1 hi with hi | hi
    · exact hok i hi
    · refine It.loc (fun b hb => hk b (It.lt (h.ok i (List.mem_append_right _ hi)) b hb) (fun hm => ?_)) (h.ok i (List.mem_append_right _ hi))
      exact n3 b hm b (List.mem_flatMap.2 ⟨i, hi, hb⟩) rfl
  · simp only [fps, List.flatMap_append]
    refine List.nodup_append.2 ⟨hnd, n2, fun a ha b hb hab => ?_⟩
    subst hab
    rcases hnew a ha with h3 | h3
    · exact n3 a h3 a hb rfl
    · have := hlt a (List.mem_append_right _ hb); omega
  · simp only [fps, List.flatMap_append, List.mem_append] at hb
    rcases hb with hb | hb
    · rcases hnew b hb with h3 | h3
      · exact hmine b (List.mem_append_left _ h3)
      · exact .inr (Nat.le_trans h.size h3)
    · exact hmine b (List.mem_append_right _ hb)
theorem St.alloc (h : St w0 X Γ w) (cs : List Value) (t : TypeId) : St w0 X (It.blk w.heap.size cs t :: Γ) (w.alloc (.cells cs.toArray t)) :=
  St.upd (A := []) (A' := [It.blk w.heap.size cs t]) h rfl rfl rfl (by simp) (fun b hb _ => Below.heap_alloc _ _ _ hb)
    (fun i hi => by obtain rfl : i = _ := (by simpa using hi); show _ = _; exact World.alloc_heap_new w _) (by simp [fps, It.fp]) (fun b hb => .inr (by simp [fps, It.fp] at hb; omega))
theorem St.old_cell (h : St w0 X Γ w) {a : Addr} (ha : a.block < w0.heap.size) (hX : a.block ∉ X) : w.cell? a = w0.cell? a := World.cell?_of_block (h.old _ ha hX)
theorem St.blk_cell {b : Nat} {cs : List Value} {t : TypeId} (h : St w0 X Γ w) (hm : It.blk b cs t ∈ Γ) (o : Nat) : w.cell? ⟨b, o, none⟩ = cs[o]? := by
  have := h.ok _ hm
  rw [cell_of_row w b o cs.toArray t (0, 0) this]
  simp
theorem St.blk_heap {b : Nat} {cs : List Value} {t : TypeId} (h : St w0 X Γ w) (hm : It.blk b cs t ∈ Γ) : w.heap[b]? = some (.cells cs.toArray t (0, 0)) := h.ok _ hm
theorem St.row_own {v : Value} {t : TypeId} {sz n : Nat} {cs : List Value} (h : St w0 X Γ w) (hm : It.row v t sz n cs ∈ Γ) : hasRow w t sz v n cs := h.ok _ hm
end

/-! ### code -/
def FW (r : Option Nat) : Fence := { fn := fun _ => True, depth := none, alive := false, round := r }
theorem fw_none : FW none = Fence.wide := rfl
theorem fw_room (r : Option Nat) (n : Nat) : (FW r).room n := fun _ h => by simp [FW] at h
/-- a call's contract: the items Γ are handed in; v and Γ' come out. -/
def Tr (P : Program) (f : FuncId) (args : Array Value) (w : World) (Γ : List It) (R : Value → List It → Prop) : Prop :=
  Sep Γ w → Calls P f args w fun e w' => ∃ v Γ', e = .returned v ∧ R v Γ' ∧ St w (fps Γ) Γ' w'
theorem Tr.mono {P : Program} {f : FuncId} {args : Array Value} {w : World} {Γ : List It} {R R' : Value → List It → Prop} (h : Tr P f args w Γ R) (hr : ∀ v Γ', R v Γ' → R' v Γ') : Tr P f args w Γ R' :=
  fun hs => (h hs).mono fun e w' ⟨v, Γ', he, hR, hst⟩ => ⟨v, Γ', he, hr _ _ hR, hst⟩
abbrev Kont := Fr → List It → Prop
abbrev Post := Exit → Fr → List It → Prop
section
variable (P : Program) (r : Option Nat) (w0 : World) (X : List Nat) (n : Nat) (df : List Deferred)
def PQ (K : Kont) (Q : Post) : Exit → Act → World → Prop := fun e a w => ∃ fr Γ, St w0 X Γ w ∧ Fits n fr a.tmps ∧ a.defers = df ∧ (match e with | .normal => K fr Γ | .panic _ => False | .outgrown => False | e => Q e fr Γ)
def W (c : Code) (K : Kont) (Q : Post) (fr : Fr) (Γ : List It) : Prop :=
  ∀ a w, St w0 X Γ w → Fits n fr a.tmps → a.defers = df → c.wpIn (FW r) 0 P (PQ w0 X n df K Q) a w
end
section
variable {P : Program} {r : Option Nat} {w0 : World} {X : List Nat} {n : Nat} {df : List Deferred} {K : Kont} {Q : Post} {fr : Fr} {Γ : List It}
theorem W.mono {c : Code} {K' : Kont} (h : W P r w0 X n df c K Q fr Γ) (hK : ∀ fr Γ, K fr Γ → K' fr Γ) : W P r w0 X n df c K' Q fr Γ := fun a w hs hf hd =>
  wpIn_mono (h a w hs hf hd) fun e a w ⟨fr', Γ', h1, h2, h3, h4⟩ => ⟨fr', Γ', h1, h2, h3, by cases e <;> first | exact hK _ _ h4 | exact h4⟩
/-- weaken the state. -/
theorem W.pre {c : Code} {fr' : Fr} {Γ' : List It} (h : W P r w0 X n df c K Q fr' Γ') (hf : Sub fr' fr) (hg : ∃ R, Γ.Perm (Γ' ++ R)) : W P r w0 X n df c K Q fr Γ := fun a w hs hF hd => by
  obtain ⟨R, hp⟩ := hg
  exact h a w (hs.perm hp).left (hF.sub hf) hd
theorem W_skip (h : K fr Γ) : W P r w0 X n df .skip K Q fr Γ := fun a w hs hf hd => wpIn_skip ⟨fr, Γ, hs, hf, hd, h⟩
theorem W_exit {id : Nat} (h : Q (.exit id) fr Γ) : W P r w0 X n df (.exit id) K Q fr Γ := fun a w hs hf hd => wpIn_exit ⟨fr, Γ, hs, hf, hd, h⟩
theorem W_ret (h : Q .ret fr Γ) : W P r w0 X n df .ret K Q fr Γ := fun a w hs hf hd => wpIn_ret ⟨fr, Γ, hs, hf, hd, h⟩
theorem W_seq {x y : Code} (h : W P r w0 X n df x (fun fr Γ => W P r w0 X n df y K Q fr Γ) Q fr Γ) : W P r w0 X n df (.seq x y) K Q fr Γ := fun a w hs hf hd => by
  refine wpIn_seq (wpIn_mono (h a w hs hf hd) ?_)
  rintro e a' w' ⟨fr', Γ', h1, h2, h3, h4⟩
  cases e <;> first | exact h4 a' w' h1 h2 h3 | exact h4.elim | exact ⟨fr', Γ', h1, h2, h3, h4⟩
theorem W_cond_t {c : Operand} {x y : Code} (hc : evo fr c = some (.bool true)) (h : W P r w0 X n df x K Q fr Γ) : W P r w0 X n df (.cond c x y) K Q fr Γ := fun a w hs hf hd =>
  wpIn_cond_true (evo_sound hf hc) (h a w hs hf hd)
theorem W_cond_f {c : Operand} {x y : Code} (hc : evo fr c = some (.bool false)) (h : W P r w0 X n df y K Q fr Γ) : W P r w0 X n df (.cond c x y) K Q fr Γ := fun a w hs hf hd =>
  wpIn_cond_false (evo_sound hf hc) (h a w hs hf hd)
theorem W_cond {c : Operand} {x y : Code} {b : Bool} (hc : evo fr c = some (.bool b)) (ht : b = true → W P r w0 X n df x K Q fr Γ) (hf' : b = false → W P r w0 X n df y K Q fr Γ) :
    W P r w0 X n df (.cond c x y) K Q fr Γ := by
  cases b
  · exact W_cond_f hc (hf' rfl)
  · exact W_cond_t hc (ht rfl)
def Pblk (id : Nat) (K : Kont) (Q : Post) : Post := fun e fr Γ => match e with | .exit j => bif Nat.beq j id then K fr Γ else Q (.exit j) fr Γ | e => Q e fr Γ
theorem W_block {id : Nat} {c : Code} (h : W P r w0 X n df c K (Pblk id K Q) fr Γ) : W P r w0 X n df (.block id c) K Q fr Γ := fun a w hs hf hd => by
  refine wpIn_block (wpIn_mono (h a w hs hf hd) ?_)
  rintro e a' w' ⟨fr', Γ', h1, h2, h3, h4⟩
  cases e with
  | normal => exact ⟨fr', Γ', h1, h2, h3, h4⟩
  | exit j =>
    by_cases hj : j = id
    · subst hj
      simp only [Exit.inBlock, if_true]
      exact ⟨fr', Γ', h1, h2, h3, by simpa [Pblk] using h4⟩
    · have hb := nbeq_ne hj
      simp only [Exit.inBlock, hj, if_false]
      exact ⟨fr', Γ', h1, h2, h3, by simpa [Pblk, hb] using h4⟩
  | goto l => exact ⟨fr', Γ', h1, h2, h3, h4⟩
  | ret => exact ⟨fr', Γ', h1, h2, h3, h4⟩
  | panic ch => exact h4.elim
  | outgrown => exact h4.elim
theorem least (p : Nat → Prop) (h : ∃ k, p k) : ∃ k, p k ∧ ∀ j, p j → k ≤ j := by
  obtain ⟨k, hk⟩ := h
  induction k using Nat.strongRecOn with
  | _ k ih =>
    by_cases hj : ∃ j, j < k ∧ p j
    · obtain ⟨j, hj, hp⟩ := hj
      exact ih j hj hp
    · exact ⟨k, hk, fun j hp => Nat.le_of_not_lt fun hlt => hj ⟨j, hlt, hp⟩⟩
open Classical in
noncomputable def lowest (p : Nat → Prop) : Nat := if h : ∃ k, p k then Classical.choose (least p h) else 0
theorem lowest_spec {p : Nat → Prop} {k : Nat} (h : p k) : p (lowest p) ∧ lowest p ≤ k := by
  have hex : ∃ k, p k := ⟨k, h⟩
  unfold lowest
  rw [dif_pos hex]
  have := Classical.choose_spec (least p hex)
  exact ⟨this.1, this.2 k h⟩
/-- A LOOP: σ: what is known at a round's head; F, G: the frame and the items there; m goes down. -/
theorem W_loop {σ : Type} (F : σ → Fr) (G : σ → List It) (I : σ → Prop) (m : σ → Nat) {c : Code} (s0 : σ) (h0 : I s0) (hf0 : Sub (F s0) fr) (hg0 : ∃ R, Γ.Perm (G s0 ++ R))
    (round : ∀ s, I s → W P r w0 X n df c (fun fr Γ => ∃ s', I s' ∧ m s' < m s ∧ Sub (F s') fr ∧ ∃ R, Γ.Perm (G s' ++ R)) Q (F s) (G s)) :
    W P r w0 X n df (.loop c) K Q fr Γ := fun a w hs hf hd => by
  have hv : ∃ V : σ → Act → World → Prop, V = fun s a w => I s ∧ St w0 X (G s) w ∧ Fits n (F s) a.tmps ∧ a.defers = df := ⟨_, rfl⟩
  obtain ⟨V, hV⟩ := hv
  obtain ⟨R, hp⟩ := hg0
  refine wpIn_loop (fun a w => ∃ s, V s a w) (fun a w => lowest fun k => ∃ s, V s a w ∧ m s = k) ⟨s0, by rw [hV]; exact ⟨h0, (hs.perm hp).left, hf.sub hf0, hd⟩⟩ ?_
  rintro a w ⟨s1, hs1⟩
  obtain ⟨⟨s, hs2, hm⟩, hle⟩ := lowest_spec (p := fun k => ∃ s, V s a w ∧ m s = k) ⟨s1, hs1, rfl⟩
  have hs3 := hs2
  rw [hV] at hs3
  obtain ⟨hI, hst, hfit, hdf⟩ := hs3
  refine wpIn_mono (round s hI a w hst hfit hdf) ?_
  rintro e a' w' ⟨fr', Γ', h1, h2, h3, h4⟩
  cases e with
  | normal =>
    obtain ⟨s', hI', hlt, hsub, R', hp'⟩ := h4
    have hV' : V s' a' w' := by rw [hV]; exact ⟨hI', (h1.perm hp').left, h2.sub hsub, h3⟩
    refine ⟨⟨s', hV'⟩, ?_⟩
    have := (lowest_spec (p := fun k => ∃ s, V s a' w' ∧ m s = k) ⟨s', hV', rfl⟩).2
    rw [← hm]
    exact Nat.lt_of_le_of_lt this hlt
  | panic ch => exact h4.elim
  | outgrown => exact h4.elim
  | ret => exact ⟨fr', Γ', h1, h2, h3, h4⟩
  | exit id => exact ⟨fr', Γ', h1, h2, h3, h4⟩
  | goto l => exact ⟨fr', Γ', h1, h2, h3, h4⟩
/-- WAYS MEET: what holds where they do. -/
theorem W_cut {σ : Type} (F : σ → Fr) (G : σ → List It) (I : σ → Prop) {x y : Code}
    (hx : W P r w0 X n df x (fun fr Γ => ∃ s, I s ∧ Sub (F s) fr ∧ ∃ R, Γ.Perm (G s ++ R)) Q fr Γ) (hy : ∀ s, I s → W P r w0 X n df y K Q (F s) (G s)) : W P r w0 X n df (.seq x y) K Q fr Γ :=
  W_seq (W.mono hx fun fr' Γ' ⟨s, hI, hf, hg⟩ => W.pre (hy s hI) hf hg)
end
/-! ### functions -/
def aggB (P : Program) (t : TypeId) : Bool := match P.underlying t with | some (.struct _) | some (.array _ _) => true | _ => false
def scalB (P : Program) (t : TypeId) : Bool := match P.underlying t with | some (.struct _) | some (.array _ _) | none => false | some _ => true
/-- the results, as the frame and the items tell them. -/
inductive Res (P : Program) (fr : Fr) (Γ : List It) : List ResultVar → List Value → Prop
  | nil : Res P fr Γ [] []
  | tmp {t : Tmp} {v : Value} {rs : List ResultVar} {vs : List Value} (h : look fr t = some v) (k : Res P fr Γ rs vs) : Res P fr Γ (.tmp t :: rs) (v :: vs)
  | cell {a : Tmp} {t t' : TypeId} {b : Nat} {cs : List Value} {rs : List ResultVar} {vs : List Value} (h : look fr a = some (.pointer (some ⟨b, 0, none⟩))) (hm : It.blk b cs t' ∈ Γ) (ha : aggB P t = true)
      (hi : (P.info? t).map (·.size) = some cs.length) (k : Res P fr Γ rs vs) : Res P fr Γ (.cell a t :: rs) (.agg cs.toArray :: vs)
  | cell1 {a : Tmp} {t t' : TypeId} {b : Nat} {v : Value} {rs : List ResultVar} {vs : List Value} (h : look fr a = some (.pointer (some ⟨b, 0, none⟩))) (hm : It.blk b [v] t' ∈ Γ) (ha : scalB P t = true) (k : Res P fr Γ rs vs) : Res P fr Γ (.cell a t :: rs) (v :: vs)
def tup : List Value → Value | [v] => v | vs => .tuple vs.toArray
def Fin (P : Program) (rs : List ResultVar) (R : Value → List It → Prop) : Kont := fun fr Γ => ∃ vs Γ', Res P fr Γ rs vs ∧ R (tup vs) Γ' ∧ ∃ D, Γ.Perm (Γ' ++ D)
def Pret (K : Kont) : Post := fun e fr Γ => match e with | .ret => K fr Γ | _ => False
def start (n : Nat) (args : List Value) : Fr := (args ++ List.replicate (n - args.length) undef).zipIdx.map fun p => (p.2, p.1)
theorem look_start (vs : List Value) : ∀ (k i : Nat) (v : Value), look ((vs.zipIdx k).map fun p => (p.2, p.1)) i = some v → k ≤ i ∧ vs[i - k]? = some v := by
  induction vs with
  | nil => intro k i v h; simp [look] at h
  | cons u vs ih =>
    intro k i v h
    simp only [List.zipIdx_cons, List.map_cons, look] at h
    by_cases hk : k = i
    · subst hk; simp at h; subst h; simp
    · have hb := nbeq_ne hk
      rw [hb] at h
      obtain ⟨h1, h2⟩ := ih (k + 1) i v h
      refine ⟨by omega, ?_⟩
      rw [show i - k = (i - (k + 1)) + 1 from by omega]
      exact h2
theorem run_isAgg {P : Program} {t : TypeId} (h : aggB P t = true) (w : World) : ∃ d, P.underlying t = some d ∧ (match d with | .struct _ | .array _ _ => true | _ => false) = true := by
  unfold aggB at h
  split at h <;> first | exact ⟨_, by assumption, rfl⟩ | cases h
theorem res_mapM {P : Program} {w0 w : World} {X : List Nat} {fr : Fr} {Γ : List It} {n : Nat} {t : Array Value} (hf : Fits n fr t) (hs : St w0 X Γ w) {f : ResultVar → Sem Value}
    (e1 : ∀ u, f (.tmp u) = pure (t.getD u undef)) (e2 : ∀ a ty, f (.cell a ty) = (do loadVar ty (← asAddr (t.getD a undef)))) : ∀ {rs : List ResultVar} {vs : List Value}, Res P fr Γ rs vs →
    (rs.mapM f).run P w = .ok vs w := by
  intro rs vs h
  induction h with
  | nil => simp
  | @tmp u v rs vs h k ih =>
    have := hf.get _ _ h
    rw [List.mapM_cons, Sem.run_bind, e1, Sem.run_pure, Result.andThen_ok, Sem.run_bind, ih]
    simp [this]
  | @cell a ty t' b cs rs vs h hm ha hi k ih =>
    have h1 := hf.get _ _ h
    obtain ⟨d, hd1, hd2⟩ := run_isAgg ha w
    have h2 : (loadVar ty ⟨b, 0, none⟩).run P w = .ok (.agg cs.toArray) w := by
      cases d <;> first | exact run_loadVar_row (P := P) w b t' ty cs.toArray (0, 0) _ (hs.blk_heap hm) hd1 rfl (by simpa using hi) | cases hd2
    have hh : (do loadVar ty (← asAddr (t.getD a undef)) : Sem Value).run P w = .ok (.agg cs.toArray) w := by simp [h1, asAddr, h2]
    rw [List.mapM_cons, Sem.run_bind, e2, hh, Result.andThen_ok, Sem.run_bind, ih]
    simp
  | @cell1 a ty t' b v rs vs h hm ha k ih =>
    have h1 := hf.get _ _ h
    have hc : w.cell? ⟨b, 0, none⟩ = some v := by rw [hs.blk_cell hm]; rfl
    have h2 : (loadVar ty ⟨b, 0, none⟩).run P w = .ok v w := by
      unfold scalB at ha
      cases hu : P.underlying ty with
      | none => simp [hu] at ha
      | some d => cases d <;> simp [hu] at ha <;> simp [loadVar, isAgg, run_underlying hu, hc]
    have hh : (do loadVar ty (← asAddr (t.getD a undef)) : Sem Value).run P w = .ok v w := by simp [h1, asAddr, h2]
    rw [List.mapM_cons, Sem.run_bind, e2, hh, Result.andThen_ok, Sem.run_bind, ih]
    simp
theorem results_run {P : Program} {fn : Func} {w0 w : World} {X : List Nat} {fr : Fr} {Γ : List It} {n : Nat} {t : Array Value} {rs : List ResultVar} (hr : fn.results = rs.toArray) (hf : Fits n fr t) (hs : St w0 X Γ w)
    {vs : List Value} (h : Res P fr Γ rs vs) : (results fn t).run P w = .ok (tup vs) w := by
  unfold results
  rw [hr]
  have e : ∀ l : List Value, (if h : l.toArray.size = 1 then l.toArray[0] else .tuple l.toArray) = tup l := by
    intro l
    match l with
    | [] => rfl
    | [v] => rfl
    | u :: v :: l => simp [tup]
  rw [Array.mapM_eq_mapM_toList, Sem.run_bind, map_eq_pure_bind, Sem.run_bind]
  dsimp only [List.toList_toArray]
  rw [res_mapM hf hs (fun _ => rfl) (fun _ _ => rfl) h]
  simp only [Result.andThen_ok, Sem.run_pure]
  exact congrArg (Result.ok · w) (e vs)
theorem Tr_intro {P : Program} {f : FuncId} {fn : Func} {c : Code} {args : List Value} {w : World} {Γ : List It} {R : Value → List It → Prop} {rs : List ResultVar} (hf : P.funcs[f]? = some fn) (hb : fn.body = some c)
    (hr : fn.results = rs.toArray) (n : Nat) (hn : fn.ntmps = n) (hle : Nat.ble args.length n = true)
    (h : W P none w (fps Γ) n [] c (Fin P rs R) (Pret (Fin P rs R)) (start n args) Γ) : Tr P f args.toArray w Γ R := fun hs => by
  refine (callsIn_wide (n := 0)).1 (callsIn_of_wp hf hb trivial (wpIn_mono (h _ w hs.st ?_ rfl) ?_) rfl)
  · have hle := Nat.le_of_ble_eq_true hle
    refine ⟨by simp [hn]; omega, fun i v hi => ?_⟩
    obtain ⟨_, h2⟩ := look_start _ 0 i v hi
    rw [hn]
    have e : args.toArray ++ Array.replicate (n - args.toArray.size) undef = (args ++ List.replicate (n - args.length) undef).toArray := by simp [← List.toArray_replicate]
    rw [e]
    simpa using h2
  · have fin : ∀ (a : Act) (w' : World) (fr : Fr) (Γ' : List It), St w (fps Γ) Γ' w' → Fits n fr a.tmps → a.defers = [] → Fin P rs R fr Γ' →
        a.defers = [] ∧ ∃ v, (results fn a.tmps).run P w' = .ok v w' ∧ ∃ v2 Γ2, Ending.returned v = .returned v2 ∧ R v2 Γ2 ∧ St w (fps Γ) Γ2 w' := by
      rintro a w' fr Γ' h1 h2 h3 ⟨vs, Γ2, hR, hR2, D, hp⟩
      exact ⟨h3, _, results_run hr h2 h1 hR, _, _, rfl, hR2, (h1.perm hp).left⟩
    rintro e a w' ⟨fr', Γ', h1, h2, h3, h4⟩
    cases e with
    | normal => exact fin a w' fr' Γ' h1 h2 h3 h4
    | ret => exact fin a w' fr' Γ' h1 h2 h3 h4
    | exit id => exact h4.elim
    | goto l => exact h4.elim
    | panic ch => exact h4.elim
    | outgrown => exact h4.elim
end Go.Sx
/- A small calculus of triples. Part 2: operations. -/
namespace Go.Sx
open Go.RowKit
set_option linter.unusedVariables false
set_option linter.unusedSimpArgs false

/-! ### a program's tables -/
def AllP {α : Type} (p : α → Prop) : List α → Prop | [] => True | x :: xs => p x ∧ AllP p xs
theorem AllP.mem {α : Type} {p : α → Prop} : ∀ {l : List α}, AllP p l → ∀ x ∈ l, p x
  | y :: l, h, x, hx => by cases hx with | head => exact h.1 | tail _ hx => exact AllP.mem h.2 x hx
theorem allP_map {α β : Type} {f g : α → β} : ∀ {l : List α}, l.map f = l.map g → AllP (fun x => f x = g x) l
  | [], _ => trivial
  | x :: xs, h => ⟨(List.cons.inj h).1, allP_map (List.cons.inj h).2⟩
def fieldOff (P : Program) (s : TypeId) (f : Nat) : Option Nat := match P.underlying s with
  | some (.struct fs) => match fs[f]? with
    | some fd => match P.info? fd.type with
      | some i => if i.size = 0 then none else some fd.offset
      | none => none
    | none => none
  | _ => none
def sliceInfo (P : Program) (t : TypeId) : Option (TypeId × Nat × Nat) := match P.underlying t with | some (.slice e) => (P.info? e).map fun i => (e, i.size, i.bytes) | _ => none
def ldInfo (P : Program) (t : TypeId) : Option (Bool × Nat) := match P.underlying t with
  | some (.struct _) | some (.array _ _) => (P.info? t).map fun i => (true, i.size)
  | some _ => (P.info? t).map fun i => (false, i.size)
  | none => none
def zeroCells (P : Program) (t : TypeId) : Option (List Value) := ((P.info? t).bind (·.zero)).map fun v => v.cells.toList
def kindOf (P : Program) (t : TypeId) : Option IntKind := match P.underlying t with | some (.int k) => some k | _ => none
def layOf (P : Program) (t : TypeId) : Option (List (Nat × Nat)) := match P.underlying t with
  | some (.struct fs) => fs.toList.mapM (fun f => (P.info? f.type).map fun i => (f.offset, i.size))
  | _ => none
def find2 {α : Type} : List (Nat × α) → Nat → Option α
  | [], _ => none
  | (k, v) :: r, i => bif Nat.beq k i then some v else find2 r i
theorem find2_mem {α : Type} : ∀ {l : List (Nat × α)} {i : Nat} {v : α}, find2 l i = some v → (i, v) ∈ l
  | (k, u) :: r, i, v, h => by
    simp only [find2] at h
    by_cases hk : k = i
    · subst hk; simp at h; subst h; simp
    · have hb := nbeq_ne hk
      rw [hb] at h
      exact List.mem_cons_of_mem _ (find2_mem h)
def find3 : List (Nat × Nat × Nat) → Nat → Nat → Option Nat
  | [], _, _ => none
  | (k, l, v) :: r, i, j => bif Nat.beq k i && Nat.beq l j then some v else find3 r i j
theorem find3_mem : ∀ {l : List (Nat × Nat × Nat)} {i j : Nat} {v : Nat}, find3 l i j = some v → (i, j, v) ∈ l
  | (k, m, u) :: r, i, j, v, h => by
    simp only [find3] at h
    by_cases hk : (Nat.beq k i && Nat.beq m j) = true
    · rw [hk] at h
      simp at hk
      obtain ⟨rfl, rfl⟩ := hk
      simp at h; subst h; simp
    · rw [Bool.not_eq_true] at hk
      rw [hk] at h
      exact List.mem_cons_of_mem _ (find3_mem h)
structure Tab (P : Program) where
  mixed : P.follows .mixedOrders = true
  fos : List (Nat × Nat × Nat)
  fos_ok : AllP (fun x => fieldOff P x.1 x.2.1 = some x.2.2) fos
  els : List (Nat × Nat × Nat × Nat)
  els_ok : AllP (fun x => sliceInfo P x.1 = some x.2) els
  lds : List (Nat × Bool × Nat)
  lds_ok : AllP (fun x => ldInfo P x.1 = some x.2) lds
  zrs : List (Nat × List Value)
  zrs_ok : AllP (fun x => zeroCells P x.1 = some x.2) zrs
  kds : List (Nat × IntKind)
  kds_ok : AllP (fun x => kindOf P x.1 = some x.2) kds
  lay : List (Nat × List (Nat × Nat))
  lay_ok : AllP (fun x => layOf P x.1 = some x.2) lay
  fns : List (Nat × Nat)
  fns_ok : AllP (fun x => ∀ args w, (callFunc x.1 args).run P w = .ok (.enter x.1 args) w) fns

/-! ### regions in the order of the text -/
def gdo (l : List Oper) (fr : Fr) : Option (Nat × Bool) → Option Bool
  | none => some true
  | some (j, want) => match (l[j]?).bind (·.dst) with
    | some d => match look fr d with
      | some (.bool b) => some (b == want)
      | some _ => some false
      | none => none
    | none => some false
theorem gdo_spec {n : Nat} {l : List Oper} {fr : Fr} {o : Oper} {b : Bool} {a : Act} (hf : Fits n fr a.tmps) (h : gdo l fr o.guard = some b) : Region.wanted o (yielded l.toArray a.tmps) = b := by
  unfold Region.wanted
  cases hg : o.guard with
  | none => rw [hg] at h; simpa [gdo] using h
  | some p =>
    obtain ⟨j, want⟩ := p
    rw [hg] at h
    simp only [gdo] at h
    simp only [yielded, List.getElem?_toArray]
    cases hd : (l[j]?).bind (·.dst) with
    | none => rw [hd] at h; simp at h; subst h; simp
    | some d =>
      rw [hd] at h
      simp only at h
      simp only [Option.bind_some]
      cases hl : look fr d with
      | none => rw [hl] at h; cases h
      | some v =>
        rw [hl] at h
        rw [hf.get d v hl]
        cases v <;> simp at h ⊢ <;> first | exact h | (subst h; rfl)
section
variable (P : Program) (r : Option Nat) (w0 : World) (X : List Nat) (n : Nat) (df : List Deferred)
abbrev PN (K : Kont) := PQ w0 X n df K (fun _ _ _ => False)
def WL (l rest : List Oper) (K : Kont) (fr : Fr) (Γ : List It) : Prop := ∀ a w, St w0 X Γ w → Fits n fr a.tmps → a.defers = df → wpListIn (FW r) 0 P l.toArray (PN w0 X n df K) rest a w
/-- o yields v in every state that fr and K tell of, and does nothing else. -/
def Yl (fr : Fr) (K : List It) (o : Oper) (v : Value) : Prop := (∀ c, o.op ≠ .defer c) ∧ ∀ a : Act, Fits n fr a.tmps → ∀ w, St w0 X K w → (execOp a.eval o).run P w = .ok (.value v) w
/-- o leads to what N tells. -/
def Hv (o : Oper) (N : Kont) (fr : Fr) (Γ : List It) : Prop := ∀ a w, St w0 X Γ w → Fits n fr a.tmps → a.defers = df → ∀ (next : Act → World → Prop) (Q : Exit → Act → World → Prop),
  (∀ a' w' fr' Γ', St w0 X Γ' w' → Fits n fr' a'.tmps → a'.defers = df → N fr' Γ' → next a' w') → o.wpIn (FW r) 0 P a w next Q
end
section
variable {P : Program} {r : Option Nat} {w0 : World} {X : List Nat} {n : Nat} {df : List Deferred} {K : Kont} {Q : Post} {fr : Fr} {Γ : List It} {l rest : List Oper} {o : Oper}
theorem W_region {id : Nat} (h : WL P r w0 X n df l l K fr Γ) : W P r w0 X n df (.region id l.toArray false) K Q fr Γ := fun a w hs hf hd => by
  refine wpIn_mono (wpIn_region_lit (h a w hs hf hd)) ?_
  rintro e a' w' ⟨fr', Γ', h1, h2, h3, h4⟩
  cases e <;> first | exact ⟨fr', Γ', h1, h2, h3, h4⟩ | exact h4.elim
theorem WL_nil (h : K fr Γ) : WL P r w0 X n df l [] K fr Γ := fun a w hs hf hd => wpListIn_nil ⟨fr, Γ, hs, hf, hd, h⟩
theorem WL_cons (hg : gdo l fr o.guard = some true) (h : Hv P r w0 X n df o (fun fr Γ => WL P r w0 X n df l rest K fr Γ) fr Γ) : WL P r w0 X n df l (o :: rest) K fr Γ := fun a w hs hf hd => by
  unfold wpListIn
  rw [if_pos (gdo_spec hf hg)]
  exact h a w hs hf hd _ _ fun a' w' fr' Γ' h1 h2 h3 h4 => h4 a' w' h1 h2 h3
theorem WL_skip (hg : gdo l fr o.guard = some false) (hd : dstOk n o.dst = true) (h : WL P r w0 X n df l rest K (putF o.dst undef fr) Γ) : WL P r w0 X n df l (o :: rest) K fr Γ := fun a w hs hf hdf => by
  unfold wpListIn
  rw [if_neg (by rw [gdo_spec hf hg]; simp)]
  exact ⟨fun _ _ => trivial, h _ _ hs (hf.put _ hd _) (by cases o.dst <;> exact hdf)⟩
/-- an operation that hands back a value and turns the world. -/
theorem Hv_val {N : Kont} (hnd : ∀ c, o.op ≠ .defer c) (hd : dstOk n o.dst = true)
    (h : ∀ (a : Act) w, St w0 X Γ w → Fits n fr a.tmps → ∃ v w' Γ', (execOp a.eval o).run P w = .ok (.value v) w' ∧ St w0 X Γ' w' ∧ N (putF o.dst v fr) Γ') : Hv P r w0 X n df o N fr Γ := fun a w hs hf hdf next Q hk => by
  obtain ⟨v, w', Γ', h1, h2, h3⟩ := h a w hs hf
  refine ⟨fun _ _ => trivial, ?_⟩
  rw [Oper.semAt_eq _ _ _ hnd, h1]
  exact hk _ _ _ _ h2 (hf.put _ hd _) (by cases o.dst <;> exact hdf) h3
theorem Hv_skip {N : Kont} (hnd : ∀ c, o.op ≠ .defer c) (hd : dstOk n o.dst = true)
    (h : ∀ (a : Act) w, St w0 X Γ w → Fits n fr a.tmps → ∃ w' Γ', (execOp a.eval o).run P w = .ok .skip w' ∧ St w0 X Γ' w' ∧ N (putF o.dst undef fr) Γ') : Hv P r w0 X n df o N fr Γ := fun a w hs hf hdf next Q hk => by
  obtain ⟨w', Γ', h1, h2, h3⟩ := h a w hs hf
  refine ⟨fun _ _ => trivial, ?_⟩
  rw [Oper.semAt_eq _ _ _ hnd, h1]
  exact hk _ _ _ _ h2 (hf.put _ hd _) (by cases o.dst <;> exact hdf) h3
theorem Hv_y {N : Kont} {v : Value} (hy : Yl P w0 X n fr Γ o v) (hd : dstOk n o.dst = true) (h : N (putF o.dst v fr) Γ) : Hv P r w0 X n df o N fr Γ :=
  Hv_val hy.1 hd fun a w hs hf => ⟨v, w, Γ, hy.2 a hf w hs, hs, h⟩
theorem WL_y {v : Value} (hy : Yl P w0 X n fr Γ o v) (hg : gdo l fr o.guard = some true) (hd : dstOk n o.dst = true) (h : WL P r w0 X n df l rest K (putF o.dst v fr) Γ) : WL P r w0 X n df l (o :: rest) K fr Γ :=
  WL_cons hg (Hv_y hy hd h)
/-- a test: both ways at once. -/
theorem WL_b {p : Prop} [Decidable p] (hy : Yl P w0 X n fr Γ o (.bool (decide p))) (hg : gdo l fr o.guard = some true) (hd : dstOk n o.dst = true) (ht : p → WL P r w0 X n df l rest K (putF o.dst (.bool true) fr) Γ)
    (hf : ¬ p → WL P r w0 X n df l rest K (putF o.dst (.bool false) fr) Γ) : WL P r w0 X n df l (o :: rest) K fr Γ := by
  by_cases h : p
  · exact WL_y (v := .bool true) (by simpa [h] using hy) hg hd (ht h)
  · exact WL_y (v := .bool false) (by simpa [h] using hy) hg hd (hf h)
end

/-! ### what an operation yields -/
section
variable {P : Program} {w0 : World} {X : List Nat} {n : Nat} {fr : Fr} {Γ : List It} {d : Option Tmp} {ty : TypeId} {ps : String} {af : Array Edge} {g : Option (Nat × Bool)}
theorem Yl_move {x : Operand} {v : Value} (h : evo fr x = some v) : Yl P w0 X n fr Γ ⟨d, .move x, ty, ps, af, g⟩ v := ⟨fun _ => by simp, fun a hf w hs => by simp [execOp, evo_sound hf h]⟩
theorem Yl_assign {x : Operand} {v : Value} (h : evo fr x = some v) : Yl P w0 X n fr Γ ⟨d, .assign x, ty, ps, af, g⟩ v := ⟨fun _ => by simp, fun a hf w hs => by simp [execOp, evo_sound hf h]⟩
theorem Yl_pick {c x y : Operand} {b : Bool} {v : Value} (hc : evo fr c = some (.bool b)) (h : evo fr (bif b then x else y) = some v) : Yl P w0 X n fr Γ ⟨d, .pick c x y, ty, ps, af, g⟩ v :=
  ⟨fun _ => by simp, fun a hf w hs => by
    have h1 := evo_sound hf hc
    have h2 := evo_sound hf h
    cases b <;> simp at h2 <;> simp [execOp, h1, h2, asBool]⟩
theorem Yl_not {t : TypeId} {x : Operand} {b : Bool} (h : evo fr x = some (.bool b)) : Yl P w0 X n fr Γ ⟨d, .unOp .not t x, ty, ps, af, g⟩ (.bool !b) := ⟨fun _ => by simp, fun a hf w hs => by simp [execOp, evo_sound hf h, Op.unary]⟩
section
variable {t t' : TypeId} {x y : Operand} {k : IntKind} {i j : Int}
theorem Yl_bin {op : BinOp} {u v z : Value} (hx : evo fr x = some u) (hy : evo fr y = some v) (h : ∀ w, (do eqGuard op t x y u v; binOp op t u v : Sem Value).run P w = .ok z w) :
    Yl P w0 X n fr Γ ⟨d, .binOp op t x y t', ty, ps, af, g⟩ z := ⟨fun _ => by simp, fun a hf w hs => by
  have := h w
  simp only [execOp, evo_sound hf hx, evo_sound hf hy, Sem.run_bind] at this ⊢
  rw [this]; simp⟩
theorem Yl_lss (hx : evo fr x = some (.int k i)) (hy : evo fr y = some (.int k j)) : Yl P w0 X n fr Γ ⟨d, .binOp .lss t x y t', ty, ps, af, g⟩ (.bool (decide (i < j))) := Yl_bin hx hy fun w => by simp [go_sem]
theorem Yl_leq (hx : evo fr x = some (.int k i)) (hy : evo fr y = some (.int k j)) : Yl P w0 X n fr Γ ⟨d, .binOp .leq t x y t', ty, ps, af, g⟩ (.bool (decide (i ≤ j))) := Yl_bin hx hy fun w => by simp [go_sem]
theorem Yl_gtr (hx : evo fr x = some (.int k i)) (hy : evo fr y = some (.int k j)) : Yl P w0 X n fr Γ ⟨d, .binOp .gtr t x y t', ty, ps, af, g⟩ (.bool (decide (j < i))) := Yl_bin hx hy fun w => by simp [go_sem]
theorem Yl_geq (hx : evo fr x = some (.int k i)) (hy : evo fr y = some (.int k j)) : Yl P w0 X n fr Γ ⟨d, .binOp .geq t x y t', ty, ps, af, g⟩ (.bool (decide (j ≤ i))) := Yl_bin hx hy fun w => by simp [go_sem]
theorem Yl_eql (hx : evo fr x = some (.int k i)) (hy : evo fr y = some (.int k j)) : Yl P w0 X n fr Γ ⟨d, .binOp .eql t x y t', ty, ps, af, g⟩ (.bool (decide (i = j))) := Yl_bin hx hy fun w => by
  simp [go_sem]; exact Bool.eq_iff_iff.2 (by simp)
theorem Yl_neq (hx : evo fr x = some (.int k i)) (hy : evo fr y = some (.int k j)) : Yl P w0 X n fr Γ ⟨d, .binOp .neq t x y t', ty, ps, af, g⟩ (.bool (decide (i ≠ j))) := Yl_bin hx hy fun w => by
  simp [go_sem]; exact Bool.eq_iff_iff.2 (by simp)
theorem Yl_addw (hx : evo fr x = some (.int k i)) (hy : evo fr y = some (.int k j)) : Yl P w0 X n fr Γ ⟨d, .binOp .add t x y t', ty, ps, af, g⟩ (.int k (k.wrap (i + j))) := Yl_bin hx hy fun w => by simp [go_sem, Op.intArith]
theorem Yl_subw (hx : evo fr x = some (.int k i)) (hy : evo fr y = some (.int k j)) : Yl P w0 X n fr Γ ⟨d, .binOp .sub t x y t', ty, ps, af, g⟩ (.int k (k.wrap (i - j))) := Yl_bin hx hy fun w => by simp [go_sem, Op.intArith]
theorem Yl_mulw (hx : evo fr x = some (.int k i)) (hy : evo fr y = some (.int k j)) : Yl P w0 X n fr Γ ⟨d, .binOp .mul t x y t', ty, ps, af, g⟩ (.int k (k.wrap (i * j))) := Yl_bin hx hy fun w => by simp [go_sem, Op.intArith]
theorem wrap_i64 {z : Int} (h0 : -9223372036854775808 ≤ z) (h1 : z ≤ 9223372036854775807) : IntKind.i64.wrap z = z := IntWalk.i64_in z (by omega)
theorem Yl_add (hx : evo fr x = some (.int .i64 i)) (hy : evo fr y = some (.int .i64 j)) (h0 : -9223372036854775808 ≤ i + j) (h1 : i + j ≤ 9223372036854775807) : Yl P w0 X n fr Γ ⟨d, .binOp .add t x y t', ty, ps, af, g⟩ (.int .i64 (i + j)) := by
  have := Yl_addw (P := P) (w0 := w0) (X := X) (n := n) (Γ := Γ) (d := d) (ty := ty) (ps := ps) (af := af) (g := g) (t := t) (t' := t') hx hy
  rwa [wrap_i64 h0 h1] at this
theorem Yl_sub (hx : evo fr x = some (.int .i64 i)) (hy : evo fr y = some (.int .i64 j)) (h0 : -9223372036854775808 ≤ i - j) (h1 : i - j ≤ 9223372036854775807) : Yl P w0 X n fr Γ ⟨d, .binOp .sub t x y t', ty, ps, af, g⟩ (.int .i64 (i - j)) := by
  have := Yl_subw (P := P) (w0 := w0) (X := X) (n := n) (Γ := Γ) (d := d) (ty := ty) (ps := ps) (af := af) (g := g) (t := t) (t' := t') hx hy
  rwa [wrap_i64 h0 h1] at this
end
end
end Go.Sx
/- A small calculus of triples. Part 3: addresses, loads, stores, blocks, rows. -/
namespace Go.Sx
open Go.RowKit
set_option linter.unusedVariables false
set_option linter.unusedSimpArgs false

/-- the cells from a on. -/
def Cells (w : World) (a : Addr) (cs : List Value) : Prop := ∀ j u, cs[j]? = some u → w.cell? (a.add j) = some u
theorem add_add (a : Addr) (i j : Nat) : (a.add i).add j = a.add (i + j) := by
  unfold Addr.add
  by_cases hi : i = 0 <;> by_cases hj : j = 0 <;> simp [hi, hj, Nat.add_assoc]
theorem add_block (a : Addr) (i : Nat) : (a.add i).block = a.block := by unfold Addr.add; split <;> rfl
theorem add_at0 (b o i : Nat) : (⟨b, o, none⟩ : Addr).add i = ⟨b, o + i, none⟩ := by unfold Addr.add; split <;> simp_all
theorem Cells.drop {w : World} {a : Addr} {cs : List Value} (h : Cells w a cs) (i : Nat) : Cells w (a.add i) (cs.drop i) := fun j u hu => by
  rw [add_add]; exact h (i + j) u (by simpa using hu)
theorem Cells.take {w : World} {a : Addr} {cs : List Value} (h : Cells w a cs) (i : Nat) : Cells w a (cs.take i) := fun j u hu => h j u (by
  rw [List.getElem?_take] at hu; split at hu
  · exact hu
  · cases hu)
theorem St.blk_cells {w0 w : World} {X : List Nat} {Γ : List It} {b : Nat} {cs : List Value} {t : TypeId} (h : St w0 X Γ w) (hm : It.blk b cs t ∈ Γ) : Cells w ⟨b, 0, none⟩ cs := fun j u hu => by
  rw [add_at0, Nat.zero_add, h.blk_cell hm]; exact hu
theorem St.row_cells {w0 w : World} {X : List Nat} {Γ : List It} {a : Addr} {t : TypeId} {sz n c : Nat} {cs : List Value} (h : St w0 X Γ w) (hm : It.row (.slice (some a) n c) t sz n cs ∈ Γ) : Cells w a cs := fun j u hu => by
  have := h.row_own hm
  rcases this.2 with ⟨h1, _⟩ | ⟨g, cap, cur, h1, _⟩
  · cases h1
  · cases h1
    exact this.cells (g := g) rfl j u hu
/-- cells of the world in which the call began, which nobody may write. -/
structure Old (w0 : World) (X : List Nat) (a : Addr) (cs : List Value) : Prop where
  cells : Cells w0 a cs
  lt : cs ≠ [] → a.block < w0.heap.size
  nx : a.block ∉ X
theorem St.old_cells {w0 w : World} {X : List Nat} {Γ : List It} {a : Addr} {cs : List Value} (h : St w0 X Γ w) (ho : Old w0 X a cs) : Cells w a cs := fun j u hu => by
  rw [h.old_cell (by rw [add_block]; exact ho.lt (fun e => by simp [e] at hu)) (by rw [add_block]; exact ho.nx)]
  exact ho.cells j u hu
/-- the items K (or what was there) say that these cells stand from a on. -/
def Has (w0 : World) (X : List Nat) (K : List It) (a : Addr) (cs : List Value) : Prop := ∀ w, St w0 X K w → Cells w a cs
theorem Has.blk {w0 : World} {X : List Nat} {K : List It} {b : Nat} {cs : List Value} {t : TypeId} (hm : It.blk b cs t ∈ K) : Has w0 X K ⟨b, 0, none⟩ cs := fun w hs => hs.blk_cells hm
theorem Has.row {w0 : World} {X : List Nat} {K : List It} {a : Addr} {t : TypeId} {sz n c : Nat} {cs : List Value} (hm : It.row (.slice (some a) n c) t sz n cs ∈ K) : Has w0 X K a cs := fun w hs => hs.row_cells hm
theorem Has.old {w0 : World} {X : List Nat} {K : List It} {a : Addr} {cs : List Value} (h : Old w0 X a cs) : Has w0 X K a cs := fun w hs => hs.old_cells h

/-! ### loads -/
theorem run_scalar {P : Program} {t : TypeId} {m : Nat} (h : ldInfo P t = some (false, m)) (w : World) : (isAgg t).run P w = .ok false w := by
  unfold ldInfo at h
  cases hu : P.underlying t with
  | none => simp [hu] at h
  | some d => cases d <;> simp [hu] at h <;> simp [isAgg, run_underlying hu]
theorem run_agg {P : Program} {t : TypeId} {m : Nat} (h : ldInfo P t = some (true, m)) (w : World) : (isAgg t).run P w = .ok true w := by
  unfold ldInfo at h
  cases hu : P.underlying t with
  | none => simp [hu] at h
  | some d => cases d <;> simp [hu] at h <;> simp [isAgg, run_underlying hu]
theorem run_size {P : Program} {t : TypeId} {m : Nat} {b : Bool} (h : ldInfo P t = some (b, m)) (w : World) : (sizeOf t).run P w = .ok m w := by
  unfold ldInfo at h
  cases hi : P.info? t with
  | none => cases hu : P.underlying t with
    | none => simp [hu] at h
    | some d => cases d <;> simp [hu, hi] at h
  | some i => cases hu : P.underlying t with
    | none => simp [hu] at h
    | some d => cases d <;> simp [hu, hi] at h <;> simp [sizeOf, typeInfo, hi, h.2]
theorem run_load1 {P : Program} {t : TypeId} {m : Nat} (h : ldInfo P t = some (false, m)) {w : World} {a : Addr} {v : Value} (hc : w.cell? a = some v) : (loadVar t a).run P w = .ok v w := by
  simp [loadVar, Sem.run_bind, run_scalar h, load, Sem.run, hc]
theorem run_loadA {P : Program} {t : TypeId} {m : Nat} (h : ldInfo P t = some (true, m)) {w : World} {a : Addr} {cs : List Value} (hl : cs.length = m) (hc : Cells w a cs) : (loadVar t a).run P w = .ok (.agg cs.toArray) w := by
  have := run_loadCells_list (P := P) w a cs hc
  rw [hl] at this
  simp [loadVar, Sem.run_bind, run_agg h, run_size h, this]
section
variable {P : Program} {w0 : World} {X : List Nat} {n : Nat} {fr : Fr} {Γ : List It} {d : Option Tmp} {ty : TypeId} {ps : String} {af : Array Edge} {g : Option (Nat × Bool)}
theorem run_fieldAt {s : TypeId} {f off : Nat} (h : fieldOff P s f = some off) (a : Addr) (w : World) : (Instr.fieldAt s (.pointer (some a)) f).run P w = .ok (.pointer (some (a.add off))) w := by
  unfold fieldOff at h
  cases hu : P.underlying s with
  | none => simp [hu] at h
  | some dd =>
    cases dd <;> try (simp [hu] at h; done)
    case struct fs =>
      simp only [hu] at h
      cases hf : fs[f]? with
      | none => simp [hf] at h
      | some fd =>
        simp only [hf] at h
        cases hi : P.info? fd.type with
        | none => simp [hi] at h
        | some i =>
          simp only [hi] at h
          split at h
          · cases h
          · rename_i h0
            cases h
            simp [Instr.fieldAt, run_underlying hu, hf, Instr.sureAddr, fieldPlace, sizeOf, typeInfo, hi, h0]
theorem Yl_fieldAddr (T : Tab P) {s : TypeId} {x : Operand} {f off : Nat} {a : Addr} (hx : evo fr x = some (.pointer (some a))) (hf : find3 T.fos s f = some off) :
    Yl P w0 X n fr Γ ⟨d, .fieldAddr s x f, ty, ps, af, g⟩ (.pointer (some (a.add off))) := ⟨fun _ => by simp, fun ac hfit w hs => by
  have := run_fieldAt (AllP.mem T.fos_ok _ (find3_mem hf)) a w
  simp only [execOp, evo_sound hfit hx, Sem.run_bind]
  dsimp only at this
  rw [this]; simp⟩
/-- of a block of the call's own: the place as a number. -/
theorem Yl_fieldBlk (T : Tab P) {s : TypeId} {x : Operand} {f off b o : Nat} (hx : evo fr x = some (.pointer (some ⟨b, o, none⟩))) (hf : find3 T.fos s f = some off) :
    Yl P w0 X n fr Γ ⟨d, .fieldAddr s x f, ty, ps, af, g⟩ (.pointer (some ⟨b, o + off, none⟩)) := by
  have := Yl_fieldAddr (w0 := w0) (X := X) (n := n) (Γ := Γ) (d := d) (ty := ty) (ps := ps) (af := af) (g := g) T hx hf
  rwa [add_at0] at this
theorem sliceInfo_elem {t e : TypeId} {sz by_ : Nat} (h : sliceInfo P t = some (e, sz, by_)) : P.underlying t = some (.slice e) ∧ ∃ i, P.info? e = some i ∧ i.size = sz ∧ i.bytes = by_ := by
  unfold sliceInfo at h
  cases hu : P.underlying t with
  | none => simp [hu] at h
  | some dd =>
    cases dd <;> try (simp [hu] at h; done)
    case slice e' =>
      simp only [hu] at h
      cases hi : P.info? e' with
      | none => simp [hi] at h
      | some i =>
        simp [hi] at h
        obtain ⟨rfl, h2, h3⟩ := h
        exact ⟨rfl, i, hi, h2, h3⟩
theorem Yl_indexAddr (T : Tab P) {t e : TypeId} {x ix : Operand} {a : Addr} {len cap sz by_ : Nat} {k : IntKind} {i : Int} (j : Nat) (hx : evo fr x = some (.slice (some a) len cap)) (hi : evo fr ix = some (.int k i))
    (ht : find2 T.els t = some (e, sz, by_)) (hj : i = j) (hl : j < len) : Yl P w0 X n fr Γ ⟨d, .indexAddr t x ix, ty, ps, af, g⟩ (.pointer (some (a.add (j * sz)))) := ⟨fun _ => by simp, fun ac hfit w hs => by
  obtain ⟨hu, inf, hinf, hsz, _⟩ := sliceInfo_elem (AllP.mem T.els_ok _ (find2_mem ht))
  dsimp only at hu
  subst hj
  have hl' : (0 : Int) ≤ (j : Int) ∧ (j : Int) < (len : Int) := ⟨by omega, by omega⟩
  simp [execOp, evo_sound hfit hx, evo_sound hfit hi, Instr.indexAt, run_underlying hu, asIntOf, hl', sizeOf, typeInfo, hinf, hsz]
  intro h; omega⟩
theorem Yl_load1 (T : Tab P) {t : TypeId} {x : Operand} {a : Addr} {m : Nat} {cs : List Value} {o : Nat} {v : Value} (hx : evo fr x = some (.pointer (some (a.add o)))) (ht : find2 T.lds t = some (false, m)) (hH : Has w0 X Γ a cs) (hv : cs[o]? = some v) :
    Yl P w0 X n fr Γ ⟨d, .load t x, ty, ps, af, g⟩ v := ⟨fun _ => by simp, fun ac hfit w hs => by
  have := run_load1 (AllP.mem T.lds_ok _ (find2_mem ht)) (hH w hs o v hv)
  dsimp only at this
  simp [execOp, evo_sound hfit hx, Instr.loadAt, Instr.sureAddr, this]⟩
theorem Yl_loadA (T : Tab P) {t : TypeId} {x : Operand} {a : Addr} {m : Nat} {cs : List Value} {o : Nat} (vs : List Value) (hx : evo fr x = some (.pointer (some (a.add o)))) (ht : find2 T.lds t = some (true, m)) (hH : Has w0 X Γ a cs) (hv : (cs.drop o).take m = vs) (hm : vs.length = m) :
    Yl P w0 X n fr Γ ⟨d, .load t x, ty, ps, af, g⟩ (.agg vs.toArray) := ⟨fun _ => by simp, fun ac hfit w hs => by
  have := run_loadA (AllP.mem T.lds_ok _ (find2_mem ht)) (cs := vs) hm (by rw [← hv]; exact ((hH w hs).drop o).take m)
  dsimp only at this
  simp [execOp, evo_sound hfit hx, Instr.loadAt, Instr.sureAddr, this]⟩
/-- out of a block of the call's own. -/
theorem Yl_ldB1 (T : Tab P) {t t' : TypeId} {x : Operand} {b o m : Nat} {cs : List Value} {v : Value} (hx : evo fr x = some (.pointer (some ⟨b, o, none⟩))) (ht : find2 T.lds t = some (false, m)) (hm : It.blk b cs t' ∈ Γ) (hv : cs[o]? = some v) :
    Yl P w0 X n fr Γ ⟨d, .load t x, ty, ps, af, g⟩ v := Yl_load1 T (a := ⟨b, 0, none⟩) (o := o) (by rw [add_at0, Nat.zero_add]; exact hx) ht (Has.blk hm) hv
theorem Yl_ldBA (T : Tab P) {t t' : TypeId} {x : Operand} {b o m : Nat} {cs : List Value} (hx : evo fr x = some (.pointer (some ⟨b, o, none⟩))) (ht : find2 T.lds t = some (true, m)) (hm : It.blk b cs t' ∈ Γ) (hl : ((cs.drop o).take m).length = m) :
    Yl P w0 X n fr Γ ⟨d, .load t x, ty, ps, af, g⟩ (.agg ((cs.drop o).take m).toArray) := Yl_loadA T (a := ⟨b, 0, none⟩) (o := o) _ (by rw [add_at0, Nat.zero_add]; exact hx) ht (Has.blk hm) rfl hl
/-- the whole block. -/
theorem Yl_ldBW (T : Tab P) {t t' : TypeId} {x : Operand} {b m : Nat} {cs : List Value} (hx : evo fr x = some (.pointer (some ⟨b, 0, none⟩))) (ht : find2 T.lds t = some (true, m)) (hm : It.blk b cs t' ∈ Γ) (hl : cs.length = m) :
    Yl P w0 X n fr Γ ⟨d, .load t x, ty, ps, af, g⟩ (.agg cs.toArray) := by
  have := Yl_ldBA (w0 := w0) (X := X) (n := n) (fr := fr) (Γ := Γ) (d := d) (ty := ty) (ps := ps) (af := af) (g := g) T hx ht hm (by simp [hl])
  rwa [List.drop_zero, ← hl, List.take_length] at this

/-! ### small operations -/
theorem Yl_len (T : Tab P) {t e : TypeId} {x : Operand} {a : Option Addr} {len cap sz by_ : Nat} (hx : evo fr x = some (.slice a len cap)) (ht : find2 T.els t = some (e, sz, by_)) :
    Yl P w0 X n fr Γ ⟨d, .call { callee := .builtin .len, args := #[x], argTypes := #[t] }, ty, ps, af, g⟩ (.int .i64 len) := ⟨fun _ => by simp, fun ac hfit w hs => by
  obtain ⟨hu, _⟩ := sliceInfo_elem (AllP.mem T.els_ok _ (find2_mem ht))
  dsimp only at hu
  simp [execOp, resolve, invoke, builtin, evo_sound hfit hx, Builtin.len_, run_underlying hu, goInt]⟩
theorem Yl_min {t t' : TypeId} {x y : Operand} {k : IntKind} {i j : Int} (hx : evo fr x = some (.int k i)) (hy : evo fr y = some (.int k j)) :
    Yl P w0 X n fr Γ ⟨d, .call { callee := .builtin .min, args := #[x, y], argTypes := #[t, t'] }, ty, ps, af, g⟩ (.int k (min i j)) := ⟨fun _ => by simp, fun ac hfit w hs => by
  have e : (if j < i then j else i) = min i j := by split <;> omega
  simp [execOp, resolve, invoke, builtin, evo_sound hfit hx, evo_sound hfit hy, run_min_int2, run_max_int2, e]⟩
theorem Yl_max {t t' : TypeId} {x y : Operand} {k : IntKind} {i j : Int} (hx : evo fr x = some (.int k i)) (hy : evo fr y = some (.int k j)) :
    Yl P w0 X n fr Γ ⟨d, .call { callee := .builtin .max, args := #[x, y], argTypes := #[t, t'] }, ty, ps, af, g⟩ (.int k (max i j)) := ⟨fun _ => by simp, fun ac hfit w hs => by
  have e : (if i < j then j else i) = max i j := by split <;> omega
  simp [execOp, resolve, invoke, builtin, evo_sound hfit hx, evo_sound hfit hy, run_min_int2, run_max_int2, e]⟩
theorem Yl_extract {x : Operand} {vs : List Value} {i : Nat} {v : Value} (hx : evo fr x = some (.tuple vs.toArray)) (hv : vs[i]? = some v) : Yl P w0 X n fr Γ ⟨d, .extract x i, ty, ps, af, g⟩ v := ⟨fun _ => by simp, fun ac hfit w hs => by
  simp [execOp, evo_sound hfit hx, Instr.extract, hv]⟩
def evs (fr : Fr) : List Operand → Option (List Value)
  | [] => some []
  | x :: xs => (evo fr x).bind fun v => (evs fr xs).map (v :: ·)
theorem evs_sound {a : Act} (hf : Fits n fr a.tmps) : ∀ {xs : List Operand} {vs : List Value}, evs fr xs = some vs → xs.map a.eval = vs
  | [], vs, h => by simp [evs] at h; simp [h]
  | x :: xs, vs, h => by
    simp only [evs] at h
    cases hx : evo fr x with
    | none => simp [hx] at h
    | some v =>
      cases hr : evs fr xs with
      | none => simp [hx, hr] at h
      | some us =>
        simp [hx, hr] at h
        subst h
        simp [evo_sound hf hx, evs_sound hf hr]
theorem Yl_makeFunc {f : Fn} {xs ys : List Operand} {vs us : List Value} (hx : evs fr xs = some vs) (hy : evs fr ys = some us) : Yl P w0 X n fr Γ ⟨d, .makeFunc f xs.toArray ys.toArray, ty, ps, af, g⟩ (.func f vs.toArray us.toArray) := ⟨fun _ => by simp, fun ac hfit w hs => by
  simp [execOp, Instr.makeFunc, evs_sound hfit hx, evs_sound hfit hy]⟩
theorem Yl_conv (T : Tab P) {s t : TypeId} {x : Operand} {k k' k2 : IntKind} {i : Int} (hx : evo fr x = some (.int k i)) (hs : find2 T.kds s = some k2) (ht : find2 T.kds t = some k') : Yl P w0 X n fr Γ ⟨d, .convert s t x, ty, ps, af, g⟩ (.int k' (k'.wrap i)) :=
  ⟨fun _ => by simp, fun ac hfit w hst => by
    have h1 := AllP.mem T.kds_ok _ (find2_mem hs)
    have h2 := AllP.mem T.kds_ok _ (find2_mem ht)
    have e : ∀ t k, kindOf P t = some k → P.underlying t = some (.int k) := fun t k h => by
      unfold kindOf at h
      split at h
      · rename_i q hq; cases h; exact hq
      · cases h
    simp [execOp, evo_sound hfit hx, convert, run_underlying (e _ _ h1), run_underlying (e _ _ h2), Conv.intToInt]⟩

/-! ### building values -/
def putL : List Value → Nat → List Value → List Value
  | cs, _, [] => cs
  | [], _, _ => []
  | c :: cs, 0, v :: vs => v :: putL cs 0 vs
  | c :: cs, o + 1, vs => c :: putL cs o vs
def fillL (pl : List (Nat × Nat)) : List Value → List (Nat × Value) → Option (List Value)
  | cs, [] => some cs
  | cs, (i, v) :: r => match pl[i]? with
    | some (off, sz) => bif Nat.beq v.cells.toList.length sz && Nat.ble (off + sz) cs.length then fillL pl (putL cs off v.cells.toList) r else none
    | none => none
theorem putL_length : ∀ (vs cs : List Value) (o : Nat), (putL cs o vs).length = cs.length
  | [], cs, o => by cases cs <;> simp [putL]
  | v :: vs, [], o => by simp [putL]
  | v :: vs, c :: cs, 0 => by simp [putL, putL_length vs cs 0]
  | v :: vs, c :: cs, o + 1 => by simp [putL, putL_length (v :: vs) cs o]
theorem putL_get : ∀ (vs cs : List Value) (o j : Nat), o + vs.length ≤ cs.length → (putL cs o vs)[j]? = if o ≤ j ∧ j < o + vs.length then vs[j - o]? else cs[j]?
  | [], cs, o, j, h => by
    have : ¬ (o ≤ j ∧ j < o + 0) := by omega
    cases cs <;> simp [putL] <;> omega
  | v :: vs, [], o, j, h => by simp at h
  | v :: vs, c :: cs, 0, j, h => by
    cases j with
    | zero => simp [putL]
    | succ j =>
      have := putL_get vs cs 0 j (by simp at h ⊢; omega)
      simp [putL, this]
  | v :: vs, c :: cs, o + 1, j, h => by
    cases j with
    | zero => simp [putL]
    | succ j =>
      have := putL_get (v :: vs) cs o j (by simp at h ⊢; omega)
      simp only [putL, List.getElem?_cons_succ, this]
      have e : j + 1 - (o + 1) = j - o := by omega
      rw [e]
      by_cases hc : o ≤ j ∧ j < o + (v :: vs).length
      · rw [if_pos hc, if_pos (by omega)]
      · rw [if_neg hc, if_neg (by omega)]
theorem foldl_set (off : Nat) : ∀ (vs : List Value) (k : Nat) (A : Array Value), (∀ j, ((vs.zipIdx k).foldl (fun cs (x : Value × Nat) => cs.setIfInBounds (off + x.2) x.1) A)[j]? =
    if off + k ≤ j ∧ j < off + k + vs.length ∧ j < A.size then vs[j - (off + k)]? else A[j]?) ∧ ((vs.zipIdx k).foldl (fun cs (x : Value × Nat) => cs.setIfInBounds (off + x.2) x.1) A).size = A.size := by
  intro vs
  induction vs with
  | nil => intro k A; exact ⟨fun j => by simp; omega, rfl⟩
  | cons v vs ih =>
    intro k A
    obtain ⟨h1, h2⟩ := ih (k + 1) (A.setIfInBounds (off + k) v)
    simp only [List.zipIdx_cons, List.foldl_cons]
    refine ⟨fun j => ?_, by rw [h2]; simp⟩
    rw [h1 j]
    simp only [Array.size_setIfInBounds, List.length_cons]
    by_cases hj : j = off + k
    · subst hj
      rw [if_neg (by omega)]
      by_cases hlt : off + k < A.size
      · rw [if_pos (by omega)]; simp [hlt]
      · rw [if_neg (by omega)]; simp [Array.setIfInBounds, hlt]
    · have hne : off + k ≠ j := fun e => hj e.symm
      rw [Array.getElem?_setIfInBounds_ne hne]
      by_cases hc : off + (k + 1) ≤ j ∧ j < off + (k + 1) + vs.length ∧ j < A.size
      · rw [if_pos hc, if_pos (by omega), show j - (off + k) = (j - (off + (k + 1))) + 1 from by omega]; simp
      · rw [if_neg hc, if_neg (by omega)]
theorem fillL_fill {pl : List (Nat × Nat)} {place : Nat → Option (Nat × Nat)} (hpl : ∀ i p, pl[i]? = some p → place i = some p) : ∀ {ps : List (Nat × Value)} {cs cs' : List Value}, fillL pl cs ps = some cs' → Instr.fill place cs.toArray ps = some cs'.toArray
  | [], cs, cs', h => by simp [fillL] at h; subst h; rfl
  | (i, v) :: r, cs, cs', h => by
    simp only [fillL] at h
    cases hp : pl[i]? with
    | none => simp [hp] at h
    | some p =>
      obtain ⟨off, sz⟩ := p
      rw [hp] at h
      simp only at h
      cases hb : (Nat.beq v.cells.toList.length sz && Nat.ble (off + sz) cs.length) with
      | false => rw [hb] at h; cases h
      | true =>
        rw [hb] at h
        simp only [cond_true] at h
        simp only [Bool.and_eq_true] at hb
        have h1 : v.cells.toList.length = sz := Nat.eq_of_beq_eq_true hb.1
        have h2 : off + sz ≤ cs.length := Nat.le_of_ble_eq_true hb.2
        simp only [Array.length_toList] at h1
        unfold Instr.fill
        simp only [hpl i _ hp]
        rw [if_neg (by simp; omega)]
        rw [← fillL_fill hpl h]
        congr 1
        apply Array.ext_getElem?
        intro j
        have := (foldl_set off v.cells.toList 0 cs.toArray).1 j
        have e : (Array.foldl (fun (cs : Array Value) (x : Value × Nat) => cs.setIfInBounds (off + x.snd) x.fst) cs.toArray v.cells.zipIdx) = (v.cells.toList.zipIdx 0).foldl (fun cs (x : Value × Nat) => cs.setIfInBounds (off + x.2) x.1) cs.toArray := by
          rw [← Array.foldl_toList]; simp
        rw [e, this]
        have h3 := putL_get v.cells.toList cs off j (by simp; omega)
        simp only [List.getElem?_toArray, h3]
        simp only [Nat.add_zero, List.size_toArray, Array.length_toList]
        by_cases hc : off ≤ j ∧ j < off + v.cells.size
        · rw [if_pos hc, if_pos (by omega)]
        · rw [if_neg hc, if_neg (by omega)]
def evp (fr : Fr) : List (Nat × Operand) → Option (List (Nat × Value))
  | [] => some []
  | (i, x) :: xs => (evo fr x).bind fun v => (evp fr xs).map ((i, v) :: ·)
theorem evp_sound {a : Act} (hf : Fits n fr a.tmps) : ∀ {xs : List (Nat × Operand)} {vs : List (Nat × Value)}, evp fr xs = some vs → xs.map (fun (i, x) => (i, a.eval x)) = vs
  | [], vs, h => by simp [evp] at h; simp [h]
  | (i, x) :: xs, vs, h => by
    simp only [evp] at h
    cases hx : evo fr x with
    | none => simp [hx] at h
    | some v =>
      cases hr : evp fr xs with
      | none => simp [hx, hr] at h
      | some us =>
        simp [hx, hr] at h
        subst h
        have := evp_sound hf hr
        simp [evo_sound hf hx, this]
theorem zero_run {t : TypeId} {z : List Value} (h : zeroCells P t = some z) : ∃ i v, P.info? t = some i ∧ i.zero = some v ∧ v.cells = z.toArray := by
  unfold zeroCells at h
  cases hi : P.info? t with
  | none => simp [hi] at h
  | some i =>
    cases hz : i.zero with
    | none => simp [hi, hz] at h
    | some v =>
      simp [hi, hz] at h
      exact ⟨i, v, rfl, hz, by rw [← h]⟩
theorem Yl_build (T : Tab P) {t : TypeId} {ps' : List (Nat × Operand)} {pv : List (Nat × Value)} {z cs : List Value} {pl : List (Nat × Nat)} (hz : find2 T.zrs t = some z) (hl : find2 T.lay t = some pl) (hp : evp fr ps' = some pv) (hc : fillL pl z pv = some cs) :
    Yl P w0 X n fr Γ ⟨d, .build t ps'.toArray, ty, ps, af, g⟩ (.agg cs.toArray) := ⟨fun _ => by simp, fun ac hfit w hs => by
  obtain ⟨i, v, h1, h2, h3⟩ := zero_run (AllP.mem T.zrs_ok _ (find2_mem hz))
  have hlay := AllP.mem T.lay_ok _ (find2_mem hl)
  dsimp only at h1 hlay
  have hb : P.built t pv = some cs.toArray := by
    unfold layOf at hlay
    cases hu : P.underlying t with
    | none => simp [hu] at hlay
    | some dd =>
      cases dd <;> try (simp [hu] at hlay; done)
      case struct fs =>
        simp only [hu] at hlay
        unfold Program.built
        simp only [h1, hu, h2, hlay, h3]
        have := fillL_fill (place := fun i => pl[i]?) (fun _ _ h => h) hc
        simpa using this
  have hr := run_build (P := P) w t pv.toArray cs.toArray (by simpa using hb)
  have he := evp_sound hfit hp
  have he' : (ps'.toArray.map fun (x : Nat × Operand) => (x.1, ac.eval x.2)) = pv.toArray := by rw [← he]; simp
  simp only [execOp, Sem.run_bind]
  rw [he', hr]; simp⟩
end
end Go.Sx
/- A small calculus of triples. Part 4: operations that turn memory; calls. -/
namespace Go.Sx
open Go.RowKit
set_option linter.unusedVariables false
set_option linter.unusedSimpArgs false

theorem St.setAt {w0 w w' : World} {X : List Nat} {Γ : List It} {k : Nat} {i i' : It} (h : St w0 X Γ w) (hk : Γ[k]? = some i) (ho : w'.os = w.os) (ht : w'.tape = w.tape) (hu : w'.output = w.output) (hs : w.heap.size ≤ w'.heap.size)
    (hkeep : ∀ b, b < w.heap.size → b ∉ i.fp → w'.heap[b]? = w.heap[b]?) (hok : i'.ok w') (hnd : i'.fp.Nodup) (hnew : ∀ b ∈ i'.fp, b ∈ i.fp ∨ w.heap.size ≤ b) : St w0 X (Γ.set k i') w' := by
  obtain ⟨hlt, he⟩ := List.getElem?_eq_some_iff.1 hk
  have hp : Γ.Perm ([i] ++ (Γ.take k ++ Γ.drop (k + 1))) := by
    have e : Γ = Γ.take k ++ i :: Γ.drop (k + 1) := by
      conv => lhs; rw [← List.take_append_drop k Γ, List.drop_eq_getElem_cons hlt, he]
    exact (List.Perm.of_eq e).trans List.perm_middle
  have hq : ([i'] ++ (Γ.take k ++ Γ.drop (k + 1))).Perm (Γ.set k i') := by
    rw [List.set_eq_take_append_cons_drop, if_pos hlt]
    show (i' :: (Γ.take k ++ Γ.drop (k + 1))).Perm _
    exact List.perm_middle.symm
  refine St.perm (St.upd (A := [i]) (A' := [i']) (h.perm hp) ho ht hu hs (fun b h1 h2 => hkeep b h1 (by simpa [fps] using h2)) (fun x hx => ?_) (by simpa [fps] using hnd) (fun b hb => ?_)) hq
  · obtain rfl : x = i' := by simpa using hx
    exact hok
  · simp only [fps, List.flatMap_cons, List.flatMap_nil, List.append_nil] at hb ⊢
    exact hnew b hb
theorem fillL_len {pl : List (Nat × Nat)} : ∀ {ps : List (Nat × Value)} {cs cs' : List Value}, fillL pl cs ps = some cs' → cs'.length = cs.length
  | [], cs, cs', h => by simp [fillL] at h; rw [h]
  | (i, v) :: r, cs, cs', h => by
    simp only [fillL] at h
    cases hp : pl[i]? with
    | none => simp [hp] at h
    | some p =>
      rw [hp] at h
      simp only at h
      cases hb : (Nat.beq v.cells.toList.length p.2 && Nat.ble (p.1 + p.2) cs.length) with
      | false => rw [hb] at h; cases h
      | true =>
        rw [hb] at h
        rw [fillL_len h, putL_length]
theorem zeros_eq (z : List Value) (len : Nat) (hz : 0 < z.length) : ((Array.range (len * z.length)).map fun x => z.toArray[x % z.toArray.size]!) = ((List.replicate len z).flatten).toArray := by
  apply Array.ext
  · simp [List.length_flatten]
  · intro i h1 h2
    have hi : i < len * z.length := by simpa using h1
    have hm : i % z.length < z.length := Nat.mod_lt _ hz
    simp only [Array.getElem_map, Array.getElem_range, List.size_toArray, List.getElem_toArray]
    rw [getElem!_pos z.toArray (i % z.length) (by simpa using hm)]
    simp only [List.getElem_toArray]
    have key : ∀ (len i : Nat) (h : i < ((List.replicate len z).flatten).length), ((List.replicate len z).flatten)[i] = z[i % z.length]'(Nat.mod_lt _ hz) := by
      intro len
      induction len with
      | zero => intro i h; simp at h
      | succ m ih =>
        intro i h
        simp only [List.replicate_succ, List.flatten_cons]
        by_cases hi : i < z.length
        · rw [List.getElem_append_left hi]; congr 1; exact (Nat.mod_eq_of_lt hi).symm
        · rw [List.getElem_append_right (by omega), ih]
          congr 1
          conv => rhs; rw [← Nat.sub_add_cancel (Nat.le_of_not_lt hi), Nat.add_mod_right]
    exact (key len i (by simpa using h2)).symm
section
variable {P : Program} {r : Option Nat} {w0 : World} {X : List Nat} {n : Nat} {df : List Deferred} {N : Kont} {fr : Fr} {Γ : List It} {d : Option Tmp} {ty : TypeId} {ps : String} {af : Array Edge} {g : Option (Nat × Bool)}
theorem Hv_alloc (T : Tab P) {t : TypeId} {z : List Value} (hz : find2 T.zrs t = some z) (hd : dstOk n d = true) (h : ∀ b, N (putF d (.pointer (some ⟨b, 0, none⟩)) fr) (It.blk b z t :: Γ)) :
    Hv P r w0 X n df ⟨d, .alloc t, ty, ps, af, g⟩ N fr Γ := Hv_val (fun _ => by simp) hd fun a w hs hf => by
  obtain ⟨i, v, h1, h2, h3⟩ := zero_run (AllP.mem T.zrs_ok _ (find2_mem hz))
  dsimp only at h1
  refine ⟨_, _, _, ?_, hs.alloc z t, h w.heap.size⟩
  simp [execOp, Instr.alloc, zeroValue, typeInfo, h1, h2, newVar, newRow, h3]
theorem Hv_box {t : TypeId} {x : Operand} {v : Value} {cs : List Value} (hx : evo fr x = some v) (hv : v.cells.toList = cs) (hd : dstOk n d = true) (h : ∀ b, N (putF d (.pointer (some ⟨b, 0, none⟩)) fr) (It.blk b cs t :: Γ)) :
    Hv P r w0 X n df ⟨d, .box t x, ty, ps, af, g⟩ N fr Γ := Hv_val (fun _ => by simp) hd fun a w hs hf => by
  refine ⟨_, _, _, ?_, hs.alloc cs t, h w.heap.size⟩
  subst hv
  simp [execOp, evo_sound hf hx, Instr.box, newVar, newRow]
theorem run_storeVar {t t' : TypeId} {b o m : Nat} {bb : Bool} {cs : List Value} {w : World} {v : Value} (hl : ldInfo P t = some (bb, m)) (hg : w.heap[b]? = some (.cells cs.toArray t' (0, 0))) (hm : v.cells.toList.length = m)
    (hfit : o + m ≤ cs.length) (h1 : ∀ u ∈ v.cells.toList, u.oneCell' = true) : (storeVar t ⟨b, o, none⟩ v).run P w = .ok () (w.setRow b (putL cs o v.cells.toList).toArray) := by
  have hs := run_size hl w
  have hst := run_storeCells_at (P := P) b o t' v.cells.toList 0 cs.toArray w hg (by simp at hm ⊢; omega) h1
  have e : (cs.take o ++ v.cells.toList ++ cs.drop (o + v.cells.toList.length)) = putL cs o v.cells.toList := by
    apply List.ext_getElem?
    intro j
    rw [putL_get _ _ _ _ (by omega)]
    by_cases h1 : j < o
    · rw [if_neg (by omega), List.append_assoc, List.getElem?_append_left (by simp; omega), List.getElem?_take, if_pos h1]
    · by_cases h2 : j < o + v.cells.toList.length
      · rw [if_pos (by omega), List.getElem?_append_left (by simp at h2 ⊢; omega), List.getElem?_append_right (by simp; omega)]
        congr 1
        simp; omega
      · rw [if_neg (by omega), List.getElem?_append_right (by simp at h2 ⊢; omega), List.getElem?_drop]
        congr 1
        simp at hfit hm h2 ⊢; omega
  simp only [Nat.add_zero, List.toList_toArray] at hst
  rw [e] at hst
  have hm' : v.cells.size = m := by simpa using hm
  simp only [storeVar, Sem.run_bind, hs, Result.andThen_ok]
  rw [if_neg (by omega)]
  simp [hst]
theorem setRow_st {w : World} {b k : Nat} {cs cs' : List Value} {t : TypeId} (hs : St w0 X Γ w) (hk : Γ[k]? = some (It.blk b cs t)) : St w0 X (Γ.set k (It.blk b cs' t)) (w.setRow b cs'.toArray) := by
  have hg := hs.blk_heap (List.mem_of_getElem? hk)
  refine hs.setAt hk rfl rfl rfl (by simp) (fun b' h1 h2 => setRow_other w b b' _ (fun e => h2 (by simp [It.fp, e]))) (setRow_heap w b _ _ t (0, 0) hg) (by simp [It.fp]) (fun b' hb => .inl hb)
theorem Hv_store (T : Tab P) {t t' : TypeId} {x y : Operand} {b o m k : Nat} {bb : Bool} {cs cs' : List Value} {v : Value} (hx : evo fr x = some (.pointer (some ⟨b, o, none⟩))) (hy : evo fr y = some v) (ht : find2 T.lds t = some (bb, m))
    (hk : Γ[k]? = some (It.blk b cs t')) (hm : v.cells.toList.length = m) (hfit : o + m ≤ cs.length) (h1 : (v.cells.toList.all Value.oneCell') = true) (hc : putL cs o v.cells.toList = cs') (hd : dstOk n d = true)
    (h : N (putF d undef fr) (Γ.set k (It.blk b cs' t'))) : Hv P r w0 X n df ⟨d, .store t x y, ty, ps, af, g⟩ N fr Γ := Hv_skip (fun _ => by simp) hd fun a w hs hf => by
  have hg := hs.blk_heap (List.mem_of_getElem? hk)
  have hr := run_storeVar (AllP.mem T.lds_ok _ (find2_mem ht)) hg hm hfit (fun u hu => by simpa using List.all_eq_true.1 h1 u hu)
  dsimp only at hr
  refine ⟨_, _, ?_, setRow_st (cs' := cs') hs hk, h⟩
  subst hc
  simp [execOp, evo_sound hf hx, evo_sound hf hy, Instr.storeAt, Instr.sureAddr, hr]
/-- into a row of the call's own. -/
theorem Hv_storeRow (T : Tab P) {t e : TypeId} {x y : Operand} {a : Addr} {o m k len cap sz : Nat} {bb : Bool} {cs cs' : List Value} {v : Value} (hx : evo fr x = some (.pointer (some (a.add o)))) (hy : evo fr y = some v) (ht : find2 T.lds t = some (bb, m))
    (hk : Γ[k]? = some (It.row (.slice (some a) len cap) e sz len cs)) (hm : v.cells.toList.length = m) (hfit : o + m ≤ len * sz) (h1 : (v.cells.toList.all Value.oneCell') = true) (hc : putL cs o v.cells.toList = cs') (hd : dstOk n d = true)
    (h : N (putF d undef fr) (Γ.set k (It.row (.slice (some a) len cap) e sz len cs'))) : Hv P r w0 X n df ⟨d, .store t x y, ty, ps, af, g⟩ N fr Γ := Hv_skip (fun _ => by simp) hd fun ac w hs hf => by
  have hrow := hs.row_own (List.mem_of_getElem? hk)
  obtain ⟨hlen, hrow2⟩ := hrow
  rcases hrow2 with ⟨h2, _⟩ | ⟨b, cap', cur, hv, _, hg, hcap, hmax, hcur, htake⟩
  · cases h2
  · cases hv
    have hg' : w.heap[b]? = some (.cells cur.toList.toArray e (0, 0)) := by simpa using hg
    have hsz : len * sz ≤ cap * sz := Nat.mul_le_mul_right _ hcap
    have hm' : v.cells.size = m := by simpa using hm
    have hr := run_storeVar (AllP.mem T.lds_ok _ (find2_mem ht)) hg' (v := v) (o := o) hm (by simp; omega) (fun u hu => by simpa using List.all_eq_true.1 h1 u hu)
    dsimp only at hr
    refine ⟨w.setRow b (putL cur.toList o v.cells.toList).toArray, _, ?_, ?_, h⟩
    · simp [execOp, evo_sound hf hx, evo_sound hf hy, Instr.storeAt, Instr.sureAddr, add_at0, hr]
    · refine hs.setAt hk rfl rfl rfl (by simp) (fun b' h3 h4 => setRow_other w b b' _ (fun e => h4 (by simp [It.fp, Value.ownBlock, e]))) ?_ (by simp [It.fp, Value.ownBlock]) (fun b' hb => .inl hb)
      refine ⟨by rw [← hc, putL_length]; exact hlen, .inr ⟨b, cap, _, rfl, Nat.zero_le _, setRow_heap w b _ _ e (0, 0) hg, hcap, hmax, by simp [putL_length, hcur], ?_⟩⟩
      subst hc
      apply List.ext_getElem?
      intro j
      simp only [List.toList_toArray]
      rw [List.getElem?_take]
      by_cases hj : j < len * sz
      · rw [if_pos hj, putL_get _ _ _ _ (by simp; omega), putL_get _ _ _ _ (by rw [hlen]; omega)]
        by_cases hq : o ≤ j ∧ j < o + v.cells.toList.length
        · rw [if_pos hq, if_pos hq]
        · rw [if_neg hq, if_neg hq, ← htake, List.getElem?_take, if_pos hj]
      · rw [if_neg hj]
        symm
        rw [List.getElem?_eq_none_iff, putL_length, hlen]; omega
/-- append, onto a slice of the call's own: what comes of it, and where it lies. -/
theorem run_append_has (w : World) (t ty e : TypeId) (i : TypeInfo) (z : Value) (size bytes : Nat) (ht : P.underlying t = some (.slice e)) (hi : P.info? e = some i) (hz : i.zero = some z) (hsize : i.size = size) (hby : i.bytes = bytes) (hzs : z.cells.size = size) (hsz : 0 < size)
    (v : Value) (n : Nat) (xs : List Value) (hown : hasRow w e size v n xs) (a : Addr) (m c : Nat) (news : List Value) (hl : news.length = m * size) (hnews : ∀ j u, news[j]? = some u → w.cell? (a.add j) = some u) (h1 : ∀ u ∈ news, u.oneCell' = true) (h63 : n + m ≤ maxLen) (hbytes : (n + m) * bytes ≤ 140737488355328) :
    ∃ v' w', (Builtin.append_ #[t, t] ty #[v, .slice (some a) m c]).run P w = .ok v' w' ∧ hasRow w' e size v' (n + m) (xs ++ news) ∧ w.grownBy w' v.ownBlock ∧ (v' = .slice none 0 0 ↔ v = .slice none 0 0 ∧ m = 0) ∧ (v'.ownBlock = v.ownBlock ∨ v'.ownBlock = some w.heap.size) := by
  subst hsize
  subst hby
  have hlen : (xs ++ news).length = (n + m) * i.size := by rw [List.length_append, hown.1, hl, Nat.add_mul]
  rcases hown.2 with ⟨rfl, rfl⟩ | ⟨g, cap, cur, rfl, _, hg, hnc, hcm, hcs, htake⟩
  · have h : w.ownsRow 0 e i.size (.slice none 0 0) 0 xs := ⟨hown.1, .inl ⟨rfl, rfl⟩⟩
    obtain ⟨v', w', a1, a2, a3, a4, a5⟩ := run_append_own_at (P := P) w 0 t ty e i z i.size i.bytes ht hi hz rfl rfl hzs hsz _ _ xs h a m c news hl hnews h1 h63 hbytes (Nat.zero_le _)
    exact ⟨v', w', a1, hasRow_of a2, a3, a4, a5⟩
  · by_cases hroom : n + m ≤ cap
    · have hfit : n * i.size + news.length ≤ cur.size := by rw [hl, ← Nat.add_mul]; exact Nat.le_trans (Nat.mul_le_mul_right _ hroom) hcs
      have hr := run_append_room (P := P) w t ty e i ht hi g n cap cur hg a m c news hl hnews h1 hroom hfit
      refine ⟨_, _, hr, ⟨hlen, .inr ⟨g, cap, _, rfl, Nat.zero_le _, setRow_heap w g cur _ e _ hg, hroom, hcm, ?_, ?_⟩⟩, ⟨rfl, rfl, rfl, by simp, fun k _ hk => setRow_other w g k _ (fun e => hk (by simp [Value.ownBlock, e]))⟩, by simp, Or.inl rfl⟩
      · simp only [List.size_toArray, List.length_append, List.length_take, List.length_drop, Array.length_toList]
        omega
      · rw [htake, ← hlen]
        exact List.take_left
    · have holds : ∀ j u, xs[j]? = some u → w.cell? ((⟨g, 0, none⟩ : Addr).add j) = some u := hown.cells (g := g) rfl
      have hr := run_append_grow (P := P) w t ty e i z ht hi hz ⟨g, 0, none⟩ n cap xs hown.1 holds a m c news hl hnews (by omega) (by unfold maxLen at h63; omega) (growslice_fits (by omega) hbytes)
      refine ⟨_, _, hr, ⟨hlen, .inr ⟨w.heap.size, _, _, rfl, Nat.zero_le _, heap_alloc_new w.drew _, grownCap_ge w (n + m) cap e, grownCap_le_maxLen w (n + m) cap e h63, ?_, ?_⟩⟩, ⟨rfl, rfl, rfl, by simp, fun k hk _ => heap_alloc_old w.drew _ hk⟩, by simp, Or.inr rfl⟩
      · have hge := grownCap_ge w (n + m) cap e
        refine Nat.le_of_eq ?_
        simp only [Array.size_append, List.size_toArray, size_zeroCells, hzs, hown.1, hl, ← Nat.add_mul]
        congr 1
        omega
      · simp only [Array.toList_append, List.append_assoc]
        rw [← List.append_assoc, ← hlen]
        exact List.take_left
/-- 'append(s, x..)': s a row of the call's own. -/
theorem Hv_append (T : Tab P) {t e : TypeId} {x y : Operand} {s : Value} {a : Addr} {m c k sz by_ len : Nat} {cs news z : List Value} (hx : evo fr x = some s) (hy : evo fr y = some (.slice (some a) m c)) (ht : find2 T.els t = some (e, sz, by_))
    (hz : find2 T.zrs e = some z) (hzs : z.length = sz) (hsz : 0 < sz) (hk : Γ[k]? = some (It.row s e sz len cs)) (hH : Has w0 X Γ a news) (hl : news.length = m * sz) (h1 : (news.all Value.oneCell') = true)
    (h63 : len + m ≤ 9223372036854775807) (hby : (len + m) * by_ ≤ 140737488355328) (hd : dstOk n d = true)
    (h : ∀ A cap, (A = none ↔ s = .slice none 0 0 ∧ m = 0) → N (putF d (.slice A (len + m) cap) fr) (Γ.set k (It.row (.slice A (len + m) cap) e sz (len + m) (cs ++ news)))) :
    Hv P r w0 X n df ⟨d, .call { callee := .builtin .append, args := #[x, y], argTypes := #[t, t] }, ty, ps, af, g⟩ N fr Γ := Hv_val (fun _ => by simp) hd fun ac w hs hf => by
  obtain ⟨hu, inf, hinf, hi2, hi3⟩ := sliceInfo_elem (AllP.mem T.els_ok _ (find2_mem ht))
  obtain ⟨inf', zv, h1', h2', h3'⟩ := zero_run (AllP.mem T.zrs_ok _ (find2_mem hz))
  dsimp only at hu hinf h1' hi2 hi3
  rw [hinf] at h1'
  cases h1'
  have hrow := hs.row_own (List.mem_of_getElem? hk)
  obtain ⟨v', w', hr, hown, hgr, hnil, hat⟩ := run_append_has (P := P) w t ty e inf zv sz by_ hu hinf h2' hi2 hi3 (by rw [h3']; simpa using hzs) hsz s len cs hrow a m c news hl (hH w hs) (fun u hu => by simpa using List.all_eq_true.1 h1 u hu) (by unfold maxLen; omega) hby
  have hshape : ∃ A cap, v' = .slice A (len + m) cap ∧ (A = none ↔ v' = .slice none 0 0) := by
    rcases hown.2 with ⟨rfl, h0⟩ | ⟨gg, cap, cur, rfl, _⟩
    · exact ⟨none, 0, by rw [h0], by simp⟩
    · exact ⟨_, cap, rfl, by simp⟩
  obtain ⟨A, cap, hv, hA⟩ := hshape
  refine ⟨v', w', _, ?_, ?_, by rw [hv]; exact h A cap (by rw [hA, hnil])⟩
  · simp [execOp, resolve, invoke, builtin, evo_sound hf hx, evo_sound hf hy, hr]
  · rw [← hv]
    refine hs.setAt hk hgr.os hgr.tape hgr.output hgr.size (fun b h4 h5 => hgr.block b h4 (fun e => h5 ?_)) hown ?_ (fun b hb => ?_)
    · simp [It.fp, ← e]
    · simp only [It.fp]; cases v'.ownBlock <;> simp
    · simp only [It.fp, Option.mem_toList] at hb ⊢
      rcases hat with h5 | h5
      · exact .inl (by rw [← h5]; exact hb)
      · rw [h5] at hb; cases hb; exact .inr (Nat.le_refl _)
/-- 'append(s, nil..)'. -/
theorem Hv_appendNil (T : Tab P) {t e : TypeId} {x y : Operand} {s : Value} {k sz by_ len : Nat} {cs : List Value} (hx : evo fr x = some s) (hy : evo fr y = some (.slice none 0 0)) (ht : find2 T.els t = some (e, sz, by_))
    (hk : Γ[k]? = some (It.row s e sz len cs)) (hd : dstOk n d = true) (h : N (putF d s fr) Γ) :
    Hv P r w0 X n df ⟨d, .call { callee := .builtin .append, args := #[x, y], argTypes := #[t, t] }, ty, ps, af, g⟩ N fr Γ := Hv_val (fun _ => by simp) hd fun ac w hs hf => by
  obtain ⟨hu, inf, hinf, hi2, hi3⟩ := sliceInfo_elem (AllP.mem T.els_ok _ (find2_mem ht))
  dsimp only at hu hinf hi2 hi3
  have hr : (Builtin.append_ #[t, t] ty #[s, .slice none 0 0]).run P w = .ok s w := by
    rcases (hs.row_own (List.mem_of_getElem? hk)).2 with ⟨rfl, rfl⟩ | ⟨g, cap, cur, rfl, _, _, hnc, _⟩
    · simp [Builtin.append_, run_underlying hu, sizeOf, typeInfo, hinf, Builtin.lenOf, Builtin.firstCells]
    · simp [Builtin.append_, run_underlying hu, sizeOf, typeInfo, hinf, Builtin.lenOf, Builtin.firstCells, hnc, storeCells]
  exact ⟨_, _, _, by simp [execOp, resolve, invoke, builtin, evo_sound hf hx, evo_sound hf hy, hr], hs, h⟩
/-- a list that is written out. -/
theorem Hv_buildSlice (T : Tab P) {t e : TypeId} {len sz by_ : Nat} {ps' : List (Nat × Operand)} {pv : List (Nat × Value)} {z cs : List Value} (ht : find2 T.els t = some (e, sz, by_)) (hz : find2 T.zrs e = some z) (hzs : z.length = sz) (h0 : 0 < sz)
    (hsmall : Nat.ble (len * sz) 16777216 = true) (hp : evp fr ps' = some pv) (hc : fillL ((List.range len).map fun i => (i * sz, sz)) (List.replicate len z).flatten pv = some cs) (hd : dstOk n d = true)
    (h : ∀ b, N (putF d (.slice (some ⟨b, 0, none⟩) len len) fr) (It.row (.slice (some ⟨b, 0, none⟩) len len) e sz len cs :: Γ)) :
    Hv P r w0 X n df ⟨d, .buildSlice t len ps'.toArray, ty, ps, af, g⟩ N fr Γ := Hv_val (fun _ => by simp) hd fun ac w hs hf => by
  obtain ⟨hu, inf, hinf, hi2, hi3⟩ := sliceInfo_elem (AllP.mem T.els_ok _ (find2_mem ht))
  obtain ⟨inf', zv, h1', h2', h3'⟩ := zero_run (AllP.mem T.zrs_ok _ (find2_mem hz))
  dsimp only at hu hinf h1' hi2 hi3
  rw [hinf] at h1'
  cases h1'
  have hzc : zv.cells.size = sz := by rw [h3']; simpa using hzs
  have hsm : len * sz ≤ 16777216 := Nat.le_of_ble_eq_true hsmall
  have hz0 := zeros_eq z len (by omega)
  rw [hzs] at hz0
  have hfill : Instr.fill (fun i => some (i * sz, sz)) ((Array.range (len * sz)).map (zv.cells[· % zv.cells.size]!)) pv = some cs.toArray := by
    rw [h3']
    have e : ((Array.range (len * sz)).map fun x => z.toArray[x % z.toArray.size]!) = ((List.replicate len z).flatten).toArray := by simpa [hzs] using hz0
    rw [e]
    refine fillL_fill (fun i p h => ?_) hc
    rw [List.getElem?_map] at h
    cases hr : (List.range len)[i]? with
    | none => rw [hr] at h; cases h
    | some q =>
      rw [hr] at h
      rw [List.getElem?_range] at hr
      · cases hr; simpa using h
      · have := (List.getElem?_eq_some_iff.1 hr).1; simpa using this
  have he := evp_sound hf hp
  have he' : (ps'.toArray.map fun (x : Nat × Operand) => (x.1, ac.eval x.2)) = pv.toArray := by rw [← he]; simp
  have hlen : cs.length = len * sz := by
    have h5 := fillL_len hc
    rw [h5]; simp [List.length_flatten, hzs]
  refine ⟨.slice (some ⟨w.heap.size, 0, none⟩) len len, w.alloc (.cells cs.toArray e), _, ?_, ?_, h w.heap.size⟩
  · simp only [execOp, Sem.run_bind]
    rw [he']
    by_cases hl0 : len * sz = 0
    · have hl1 : len = 0 := by rcases Nat.mul_eq_zero.1 hl0 with h | h <;> omega
      subst hl1
      have hcs : cs = [] := List.eq_nil_of_length_eq_zero (by simpa using hlen)
      simp only [Nat.zero_mul] at hfill
      simp [Instr.buildSlice, run_underlying hu, sizeOf, typeInfo, hinf, hi2, newRow]
      have : Instr.fill (fun i => some (i * sz, sz)) #[] pv = some cs.toArray := by
        have e0 : Array.range 0 = #[] := rfl
        rw [e0] at hfill
        simpa using hfill
      have e1 : (Array.map (fun x => (default : Value)) (Array.range 0)) = #[] := by rw [show Array.range 0 = #[] from rfl]; simp
      rw [e1, this]
      simp
    · have : ¬ (16777216 < len * sz) := by omega
      simp [Instr.buildSlice, run_underlying hu, sizeOf, typeInfo, hinf, hi2, newRow, zeroValue, h2', hl0, this]
      have : Instr.fill (fun i => some (i * sz, sz)) ((Array.range (len * sz)).map fun x => zv.cells[x % zv.cells.size]!) pv = some cs.toArray := hfill
      simp [this]
  · refine St.upd (A := []) (A' := [It.row (.slice (some ⟨w.heap.size, 0, none⟩) len len) e sz len cs]) hs rfl rfl rfl (by simp) (fun b hb _ => Below.heap_alloc _ _ _ hb) (fun i hi => ?_) (by simp [fps, It.fp, Value.ownBlock]) (fun b hb => .inr (by simp [fps, It.fp, Value.ownBlock] at hb; omega))
    obtain rfl : i = _ := (by simpa using hi)
    have := World.ownsRow_lit (base := 0) (e := e) (size := sz) w cs.toArray len (Nat.zero_le _) (by unfold maxLen; have : len ≤ len * sz := Nat.le_mul_of_pos_right _ h0; omega) (by simpa using hlen)
    refine hasRow_of ?_
    simpa using this
/-- a call of a function. -/
theorem Hv_call (T : Tab P) {x : Operand} {f u : Nat} {fi ca vs : List Value} {xs : List Operand} {ts : Array TypeId} {Γ1 Γ2 : List It} {R : Value → List It → Prop} (hx : evo fr x = some (.func (.func f) fi.toArray ca.toArray)) (hvs : evs fr xs = some vs) (hf' : find2 T.fns f = some u)
    (hp : Γ.Perm (Γ1 ++ Γ2)) (hT : ∀ w, St w0 X Γ w → Tr P f (fi ++ vs ++ ca).toArray w Γ1 R) (hd : dstOk n d = true) (h : ∀ v Γ', R v Γ' → N (putF d v fr) (Γ' ++ Γ2)) :
    Hv P r w0 X n df ⟨d, .call { callee := .value x, args := xs.toArray, argTypes := ts }, ty, ps, af, g⟩ N fr Γ := fun a w hs hf hdf next Q hk => by
  have hen := AllP.mem T.fns_ok _ (find2_mem hf')
  dsimp only at hen
  have hrun : (execOp a.eval ⟨d, .call { callee := .value x, args := xs.toArray, argTypes := ts }, ty, ps, af, g⟩).run P w = .ok (.enter f (fi ++ vs ++ ca).toArray) w := by
    have e : xs.toArray.map a.eval = vs.toArray := by rw [← evs_sound hf hvs]; simp
    simp [execOp, resolve, evo_sound hf hx, Deferred.ofValue, invoke, e, hen]
  refine ⟨fun _ _ => trivial, ?_⟩
  rw [Oper.semAt_eq _ _ _ (fun _ => by simp), hrun]
  refine ⟨fun hh => by simp [FW] at hh, ?_⟩
  have hs' := hs.perm hp
  have hc := (callsIn_wide (n := 0 - 1)).2 (hT w hs hs'.left.sep)
  refine CallsIn.mono (F := FW r) (R := fun e w' => ∃ v Γ', e = .returned v ∧ R v Γ' ∧ St w (fps Γ1) Γ' w') hc ?_
  rintro e w' ⟨v, Γ', rfl, hR, hst⟩
  refine hk _ _ _ _ (St.upd hs' hst.os hst.tape hst.output hst.size hst.old hst.ok hst.nd hst.mine) (hf.put _ hd _) (by cases d <;> exact hdf) (h v Γ' hR)
end
section
variable {P : Program} {r : Option Nat} {w0 : World} {X : List Nat} {n : Nat} {df : List Deferred} {K : Kont} {fr : Fr} {Γ : List It} {l rest : List Oper} {d : Option Tmp} {ty : TypeId} {ps : String} {af : Array Edge} {g : Option (Nat × Bool)}
/-! ### slicing -/
def sA (A : Option Addr) (cap l sz : Nat) : Option Addr := if cap = l then A else A.map (·.add (l * sz))
theorem Yl_sliceL (T : Tab P) {t e : TypeId} {x y : Operand} {A : Option Addr} {len cap sz by_ : Nat} {k : IntKind} {i : Int} (j : Nat) (hx : evo fr x = some (.slice A len cap)) (hy : evo fr y = some (.int k i)) (ht : find2 T.els t = some (e, sz, by_)) (hj : i = j) (hl : j ≤ len) :
    Yl P w0 X n fr Γ ⟨d, .slice t x (some y) none none, ty, ps, af, g⟩ (.slice (sA A cap j sz) (len - j) (cap - j)) := ⟨fun _ => by simp, fun ac hfit w hs => by
  obtain ⟨hu, inf, hinf, hi2, hi3⟩ := sliceInfo_elem (AllP.mem T.els_ok _ (find2_mem ht))
  dsimp only at hu hinf hi2 hi3
  subst hj
  have hl' : (0 : Int) ≤ (j : Int) ∧ (j : Int) ≤ (len : Int) := ⟨by omega, by omega⟩
  simp [execOp, evo_sound hfit hx, evo_sound hfit hy, Instr.sliceAt, Instr.slice, run_underlying hu, Instr.sliceBounds, Instr.sliceBound, asIntOf, hl', hl, sizeOf, typeInfo, hinf, hi2, sA]⟩
theorem Yl_sliceH (T : Tab P) {t e : TypeId} {x y : Operand} {A : Option Addr} {len cap sz by_ : Nat} {k : IntKind} {i : Int} (j : Nat) (hx : evo fr x = some (.slice A len cap)) (hy : evo fr y = some (.int k i)) (ht : find2 T.els t = some (e, sz, by_)) (hj : i = j) (hl : j ≤ cap) :
    Yl P w0 X n fr Γ ⟨d, .slice t x none (some y) none, ty, ps, af, g⟩ (.slice A j cap) := ⟨fun _ => by simp, fun ac hfit w hs => by
  obtain ⟨hu, inf, hinf, hi2, hi3⟩ := sliceInfo_elem (AllP.mem T.els_ok _ (find2_mem ht))
  dsimp only at hu hinf hi2 hi3
  subst hj
  have hl' : (0 : Int) ≤ (j : Int) ∧ (j : Int) ≤ (cap : Int) := ⟨by omega, by omega⟩
  have e0 : ∀ a : Addr, a.add 0 = a := fun a => by simp [Addr.add]
  simp [execOp, evo_sound hfit hx, evo_sound hfit hy, Instr.sliceAt, Instr.slice, run_underlying hu, Instr.sliceBounds, Instr.sliceBound, asIntOf, hl', hl, sizeOf, typeInfo, hinf, hi2, e0]⟩
theorem Yl_sliceLH (T : Tab P) {t e : TypeId} {x y z : Operand} {A : Option Addr} {len cap sz by_ : Nat} {k k' : IntKind} {i i' : Int} (j j' : Nat) (hx : evo fr x = some (.slice A len cap)) (hy : evo fr y = some (.int k i)) (hz : evo fr z = some (.int k' i')) (ht : find2 T.els t = some (e, sz, by_)) (hj : i = j) (hj' : i' = j')
    (hl : j ≤ j') (hc : j' ≤ cap) : Yl P w0 X n fr Γ ⟨d, .slice t x (some y) (some z) none, ty, ps, af, g⟩ (.slice (sA A cap j sz) (j' - j) (cap - j)) := ⟨fun _ => by simp, fun ac hfit w hs => by
  obtain ⟨hu, inf, hinf, hi2, hi3⟩ := sliceInfo_elem (AllP.mem T.els_ok _ (find2_mem ht))
  dsimp only at hu hinf hi2 hi3
  subst hj
  subst hj'
  have h1 : (0 : Int) ≤ (j' : Int) ∧ (j' : Int) ≤ (cap : Int) := ⟨by omega, by omega⟩
  have h2 : (0 : Int) ≤ (j : Int) ∧ (j : Int) ≤ (j' : Int) := ⟨by omega, by omega⟩
  simp [execOp, evo_sound hfit hx, evo_sound hfit hy, evo_sound hfit hz, Instr.sliceAt, Instr.slice, run_underlying hu, Instr.sliceBounds, Instr.sliceBound, asIntOf, h1, h2, hl, hc, sizeOf, typeInfo, hinf, hi2, sA]⟩
/-- the cells of a slice, wherever it lies; none where it has none. -/
def RdA (w0 : World) (X : List Nat) (K : List It) (A : Option Addr) (cs : List Value) : Prop := cs ≠ [] → ∃ a, A = some a ∧ Has w0 X K a cs
theorem RdA.nil {w0 : World} {X : List Nat} {K : List It} {A : Option Addr} : RdA w0 X K A [] := fun h => absurd rfl h
theorem RdA.sl {w0 : World} {X : List Nat} {K : List It} {A : Option Addr} {cs : List Value} {cap j sz : Nat} (h : RdA w0 X K A cs) (hc : cs.length ≤ cap * sz) : RdA w0 X K (sA A cap j sz) (cs.drop (j * sz)) := fun hne => by
  have hne0 : cs ≠ [] := fun e => hne (by simp [e])
  obtain ⟨a, rfl, hH⟩ := h hne0
  have hlt : cap ≠ j := fun e => hne (by rw [List.drop_eq_nil_iff, ← e]; exact hc)
  refine ⟨a.add (j * sz), by simp [sA, hlt], fun w hs => (hH w hs).drop _⟩
theorem RdA.tk {w0 : World} {X : List Nat} {K : List It} {A : Option Addr} {cs : List Value} (h : RdA w0 X K A cs) (j : Nat) : RdA w0 X K A (cs.take j) := fun hne => by
  have hne0 : cs ≠ [] := fun e => hne (by simp [e])
  obtain ⟨a, rfl, hH⟩ := h hne0
  exact ⟨a, rfl, fun w hs => (hH w hs).take _⟩
theorem RdA.row {w0 : World} {X : List Nat} {K : List It} {A : Option Addr} {e : TypeId} {sz m c : Nat} {cs : List Value} (hm : It.row (.slice A m c) e sz m cs ∈ K) (hA : A = none → cs = []) : RdA w0 X K A cs := fun hne => by
  cases A with
  | some a => exact ⟨a, rfl, Has.row hm⟩
  | none => exact absurd (hA rfl) hne
theorem RdA.old {w0 : World} {X : List Nat} {K : List It} {A : Option Addr} {cs : List Value} (h : cs ≠ [] → ∃ a, A = some a ∧ Old w0 X a cs) : RdA w0 X K A cs := fun hne => by
  obtain ⟨a, h1, h2⟩ := h hne
  exact ⟨a, h1, Has.old h2⟩
/-- what a row's item says without memory. -/
theorem St.row_fact {w : World} {A : Option Addr} {e : TypeId} {sz m c : Nat} {cs : List Value} (hs : St w0 X Γ w) (hm : It.row (.slice A m c) e sz m cs ∈ Γ) : (A = none → cs = [] ∧ m = 0) ∧ cs.length = m * sz ∧ m ≤ c ∧ m ≤ 9223372036854775807 := by
  have := hs.row_own hm
  rcases this.2 with ⟨h1, h2⟩ | ⟨g, cap, cur, h1, _, _, h4, h5, _⟩
  · cases h1
    exact ⟨fun _ => ⟨List.eq_nil_of_length_eq_zero (by simpa using this.1), rfl⟩, this.1, Nat.le_refl _, by omega⟩
  · cases h1
    exact ⟨fun h => (by cases h), this.1, h4, by unfold maxLen at h5; omega⟩
/-- a fact that the state gives, laid open. -/
theorem W_fact {c : Code} {Q : Post} {p : Prop} (hp : ∀ w, St w0 X Γ w → p) (h : p → W P r w0 X n df c K Q fr Γ) : W P r w0 X n df c K Q fr Γ := fun a w hs => h (hp w hs) a w hs
theorem WL_fact {p : Prop} (hp : ∀ w, St w0 X Γ w → p) (h : p → WL P r w0 X n df l rest K fr Γ) : WL P r w0 X n df l rest K fr Γ := fun a w hs => h (hp w hs) a w hs
theorem Hv_fact {o : Oper} {N : Kont} {p : Prop} (hp : ∀ w, St w0 X Γ w → p) (h : p → Hv P r w0 X n df o N fr Γ) : Hv P r w0 X n df o N fr Γ := fun a w hs => h (hp w hs) a w hs
end

/-! ### a whole class of operations by one reckoning -/
def pvCall {P : Program} (T : Tab P) (fr : Fr) (b : Builtin) : List Operand → List TypeId → Option Value
  | [x], [t] => match b with
    | .len => match find2 T.els t with
      | some _ => match evo fr x with | some (.slice _ n _) => some (.int .i64 n) | _ => none
      | none => none
    | _ => none
  | [x, y], [_, _] => match b with
    | .min => match evo fr x, evo fr y with | some (.int k i), some (.int k' j) => if k = k' then some (.int k (min i j)) else none | _, _ => none
    | .max => match evo fr x, evo fr y with | some (.int k i), some (.int k' j) => if k = k' then some (.int k (max i j)) else none | _, _ => none
    | _ => none
  | _, _ => none
def pv {P : Program} (T : Tab P) (fr : Fr) : Op → Option Value
  | .move x => evo fr x
  | .assign x => evo fr x
  | .pick c a b => match evo fr c with | some (.bool t) => evo fr (bif t then a else b) | _ => none
  | .unOp .not _ x => match evo fr x with | some (.bool b) => some (.bool !b) | _ => none
  | .fieldAddr s x f => match find3 T.fos s f with
    | some off => match evo fr x with | some (.pointer (some ⟨b, o, none⟩)) => some (.pointer (some ⟨b, o + off, none⟩)) | _ => none
    | none => none
  | .extract x i => match evo fr x with | some (.tuple vs) => vs.toList[i]? | _ => none
  | .makeFunc f xs ys => match evs fr xs.toList, evs fr ys.toList with | some a, some b => some (.func f a.toArray b.toArray) | _, _ => none
  | .build t ps => match find2 T.zrs t, find2 T.lay t, evp fr ps.toList with | some z, some pl, some pv => (fillL pl z pv).map fun cs => .agg cs.toArray | _, _, _ => none
  | .convert s t x => match find2 T.kds s, find2 T.kds t, evo fr x with | some _, some k', some (.int _ i) => some (.int k' (k'.wrap i)) | _, _, _ => none
  | .call c => match c.callee with | .builtin b => pvCall T fr b c.args.toList c.argTypes.toList | _ => none
  | _ => none
section
variable {P : Program} {r : Option Nat} {w0 : World} {X : List Nat} {n : Nat} {df : List Deferred} {K : Kont} {fr : Fr} {Γ : List It} {l rest : List Oper} {d : Option Tmp} {ty : TypeId} {ps : String} {af : Array Edge} {g : Option (Nat × Bool)}
theorem pv_sound (T : Tab P) {op : Op} {v : Value} (h : pv T fr op = some v) : Yl P w0 X n fr Γ ⟨d, op, ty, ps, af, g⟩ v := by
  cases op <;> simp only [pv] at h <;> try (cases h; done)
  case move x => exact Yl_move h
  case assign x => exact Yl_assign h
  case pick c a b =>
    split at h
    · rename_i t hc; exact Yl_pick hc h
    · cases h
  case unOp u t x =>
    cases u <;> simp only at h <;> try (cases h; done)
    split at h
    · rename_i b hb; cases h; exact Yl_not hb
    · cases h
  case fieldAddr s x f =>
    split at h
    · rename_i off hoff
      split at h
      · rename_i b o hx; cases h; exact Yl_fieldBlk T hx hoff
      · cases h
    · cases h
  case extract x i =>
    split at h
    · rename_i vs hx; exact Yl_extract (vs := vs.toList) (by simpa using hx) h
    · cases h
  case makeFunc f xs ys =>
    split at h
    · rename_i a b ha hb; cases h; exact Yl_makeFunc (xs := xs.toList) (ys := ys.toList) ha hb
    · cases h
  case build t ps =>
    split at h
    · rename_i z pl pv hz hl hp
      cases hc : fillL pl z pv with
      | none => rw [hc] at h; cases h
      | some cs => rw [hc] at h; cases h; exact Yl_build (ps' := ps.toList) T hz hl hp hc
    · cases h
  case convert s t x =>
    split at h
    · rename_i k2 k' k i hs ht hx; cases h; exact Yl_conv T hx hs ht
    · cases h
  case call c =>
    obtain ⟨callee, args, argTypes⟩ := c
    cases callee <;> simp only at h <;> try (cases h; done)
    rename_i b
    obtain ⟨args⟩ := args
    obtain ⟨tys⟩ := argTypes
    match args, tys with
    | [x], [t] =>
      simp only [pvCall] at h
      cases b <;> simp only at h <;> try (cases h; done)
      split at h
      · rename_i p hp
        split at h
        · rename_i a m c hx; cases h; exact Yl_len T hx hp
        · cases h
      · cases h
    | [x, y], [t, t'] =>
      simp only [pvCall] at h
      cases b <;> simp only at h <;> try (cases h; done)
      all_goals
        split at h
        · rename_i k i k' j hx hy
          split at h
          · rename_i e; subst e; cases h; first | exact Yl_min hx hy | exact Yl_max hx hy
          · cases h
        · cases h
    | [], [] => cases h
    | [], _ :: _ => cases h
    | [_], [] => cases h
    | [_], _ :: _ :: _ => cases h
    | [_, _], [] => cases h
    | [_, _], [_] => cases h
    | [_, _], _ :: _ :: _ :: _ => cases h
    | _ :: _ :: _ :: _, _ => simp [pvCall] at h
/-- the next operation's slot and value. -/
def stp (T : Tab P) (l : List Oper) (n : Nat) (fr : Fr) (o : Oper) : Option (Nat × Value) := match o.dst with
  | some d => bif Nat.blt d n then match gdo l fr o.guard with
    | some true => (pv T fr o.op).map fun v => (d, v)
    | some false => some (d, undef)
    | none => none
    else none
  | none => none
theorem WL_v (T : Tab P) {o : Oper} {p : Nat × Value} (h : stp T l n fr o = some p) (k : WL P r w0 X n df l rest K (p :: fr) Γ) : WL P r w0 X n df l (o :: rest) K fr Γ := by
  obtain ⟨dst, op, ty, ps, af, g⟩ := o
  unfold stp at h
  cases dst with
  | none => cases h
  | some d =>
    simp only at h
    cases hd : Nat.blt d n with
    | false => rw [hd] at h; cases h
    | true =>
      rw [hd] at h
      simp only [cond_true] at h
      cases hg : gdo l fr g with
      | none => rw [hg] at h; cases h
      | some b =>
        rw [hg] at h
        cases b with
        | true =>
          simp only at h
          cases hv : pv T fr op with
          | none => rw [hv] at h; cases h
          | some v => rw [hv] at h; cases h; exact WL_y (pv_sound T hv) hg hd k
        | false => cases h; exact WL_skip hg hd k
/-- with the slot written out. -/
theorem WL_u {d : Tmp} {op : Op} {v : Value} (hy : Yl P w0 X n fr Γ ⟨some d, op, ty, ps, af, g⟩ v) (hg : gdo l fr g = some true) (hd : Nat.blt d n = true) (h : WL P r w0 X n df l rest K ((d, v) :: fr) Γ) : WL P r w0 X n df l (⟨some d, op, ty, ps, af, g⟩ :: rest) K fr Γ :=
  WL_y hy hg hd h
/-- tests: which, and of what. -/
def tst (fr : Fr) : Op → Option (Nat × Int × Int)
  | .binOp op _ x y _ => match evo fr x, evo fr y with
    | some (.int k i), some (.int k' j) => if k = k' then (match op with | .lss => some (0, i, j) | .gtr => some (0, j, i) | .leq => some (1, i, j) | .geq => some (1, j, i) | .eql => some (2, i, j) | .neq => some (3, i, j) | _ => none) else none
    | _, _ => none
  | _ => none
def tstB (l : List Oper) (n : Nat) (fr : Fr) (o : Oper) : Option (Nat × Nat × Int × Int) := match o.dst with
  | some d => bif Nat.blt d n then match gdo l fr o.guard with
    | some true => (tst fr o.op).map fun p => (d, p)
    | _ => none
    else none
  | none => none
def cmpB : Nat × Int × Int → Bool | (0, i, j) => decide (i < j) | (1, i, j) => decide (i ≤ j) | (2, i, j) => decide (i = j) | (_, i, j) => decide (i ≠ j)
theorem tst_sound {op : Op} {p : Nat × Int × Int} (h : tst fr op = some p) : Yl P w0 X n fr Γ ⟨d, op, ty, ps, af, g⟩ (.bool (cmpB p)) := by
  cases op <;> simp only [tst] at h <;> try (cases h; done)
  case binOp op t x y t' =>
    split at h
    · rename_i k i k' j hx hy
      split at h
      · rename_i e
        subst e
        cases op <;> simp only at h <;> first | (cases h; done) | (cases h; first | exact Yl_lss hx hy | exact Yl_gtr hx hy | exact Yl_leq hx hy | exact Yl_geq hx hy | exact Yl_eql hx hy | exact Yl_neq hx hy)
      · cases h
    · cases h
theorem tstB_spec {o : Oper} {d' : Nat} {p : Nat × Int × Int} (h : tstB l n fr o = some (d', p)) : o.dst = some d' ∧ dstOk n o.dst = true ∧ gdo l fr o.guard = some true ∧ tst fr o.op = some p := by
  unfold tstB at h
  cases hd : o.dst with
  | none => rw [hd] at h; cases h
  | some dd =>
    rw [hd] at h
    simp only at h
    cases hb : Nat.blt dd n with
    | false => rw [hb] at h; cases h
    | true =>
      rw [hb] at h
      simp only [cond_true] at h
      split at h
      · rename_i hg
        cases ht : tst fr o.op with
        | none => rw [ht] at h; cases h
        | some q => rw [ht] at h; cases h; exact ⟨rfl, by simpa [dstOk] using hb, hg, rfl⟩
      · cases h
theorem WL_c {o : Oper} {d' : Nat} {p : Nat × Int × Int} (h : tstB l n fr o = some (d', p)) (ht : cmpB p = true → WL P r w0 X n df l rest K ((d', .bool true) :: fr) Γ) (hf : cmpB p = false → WL P r w0 X n df l rest K ((d', .bool false) :: fr) Γ) :
    WL P r w0 X n df l (o :: rest) K fr Γ := by
  obtain ⟨h1, h2, h3, h4⟩ := tstB_spec h
  obtain ⟨dst, op, ty, ps, af, g⟩ := o
  simp only at h1
  subst h1
  cases hc : cmpB p with
  | true => exact WL_y (v := .bool true) (by rw [← hc]; exact tst_sound h4) h3 h2 (ht hc)
  | false => exact WL_y (v := .bool false) (by rw [← hc]; exact tst_sound h4) h3 h2 (hf hc)
theorem WL_lt {o : Oper} {d' : Nat} {i j : Int} (h : tstB l n fr o = some (d', 0, i, j)) (ht : i < j → WL P r w0 X n df l rest K ((d', .bool true) :: fr) Γ) (hf : j ≤ i → WL P r w0 X n df l rest K ((d', .bool false) :: fr) Γ) : WL P r w0 X n df l (o :: rest) K fr Γ :=
  WL_c h (fun h => ht (by simpa [cmpB] using h)) (fun h => hf (by simpa [cmpB] using h))
theorem WL_le {o : Oper} {d' : Nat} {i j : Int} (h : tstB l n fr o = some (d', 1, i, j)) (ht : i ≤ j → WL P r w0 X n df l rest K ((d', .bool true) :: fr) Γ) (hf : j < i → WL P r w0 X n df l rest K ((d', .bool false) :: fr) Γ) : WL P r w0 X n df l (o :: rest) K fr Γ :=
  WL_c h (fun h => ht (by simpa [cmpB] using h)) (fun h => hf (by simpa [cmpB] using h))
theorem WL_eq {o : Oper} {d' : Nat} {i j : Int} (h : tstB l n fr o = some (d', 2, i, j)) (ht : i = j → WL P r w0 X n df l rest K ((d', .bool true) :: fr) Γ) (hf : i ≠ j → WL P r w0 X n df l rest K ((d', .bool false) :: fr) Γ) : WL P r w0 X n df l (o :: rest) K fr Γ :=
  WL_c h (fun h => ht (by simpa [cmpB] using h)) (fun h => hf (by simpa [cmpB] using h))
theorem WL_ne {o : Oper} {d' : Nat} {i j : Int} (h : tstB l n fr o = some (d', 3, i, j)) (ht : i ≠ j → WL P r w0 X n df l rest K ((d', .bool true) :: fr) Γ) (hf : i = j → WL P r w0 X n df l rest K ((d', .bool false) :: fr) Γ) : WL P r w0 X n df l (o :: rest) K fr Γ :=
  WL_c h (fun h => ht (by simpa [cmpB] using h)) (fun h => hf (by simpa [cmpB] using h))
end
end Go.Sx
/- A small calculus of triples. Part 5: a region whose order is open: a plan, checked by the kernel. -/
namespace Go.Sx
open Go.RowKit
set_option linter.unusedVariables false
set_option linter.unusedSimpArgs false

section
variable {P : Program} {r : Option Nat} {ops : Array Oper} {Q : Exit → Act → World → Prop}
/-- Q lets no panic by. -/
def Calm (Q : Exit → Act → World → Prop) : Prop := ∀ c a w, ¬ Q (.panic c) a w
theorem upon_map {o : Oper} {a a' : Act} {K K' : Act → World → Prop} (hQ : Calm Q) (hv : ∀ u w', K (a'.put o.dst u) w' → K' (a.put o.dst u) w')
    (hd : ∀ d w', K ({ a' with defers := d :: a'.defers }.put o.dst undef) w' → K' ({ a with defers := d :: a.defers }.put o.dst undef) w') {res : Result Next} (h : o.uponIn (FW r) 0 P a' K Q res) : o.uponIn (FW r) 0 P a K' Q res := by
  match res with
  | .ok (.value v) w' => exact hv _ _ h
  | .ok .skip w' => exact hv _ _ h
  | .ok (.defer d) w' => exact hd _ _ h
  | .ok (.enter f args) w' => exact ⟨h.1, CallsIn.mono h.2 fun e w'' he => by cases e <;> first | exact hv _ _ he | exact absurd he (hQ _ _ _) | exact he⟩
  | .ok (.row row args) w' => exact ⟨h.1, RowsIn.mono h.2 fun u w'' he => hv _ _ he⟩
  | .ok (.round l f t asg b) w' => exact ⟨h.1, RoundIn.mono h.2 fun e w'' he => by cases e <;> first | exact hv _ _ he | exact absurd he (hQ _ _ _) | exact he⟩
  | .halt (.panic v) w' => exact absurd h (hQ _ _ _)
  | .ok (.callThen ..) w' | .ok (.stack ..) w' | .ok .recover w' | .ok (.comm ..) w' | .ok .numGoroutine w' | .ok .collect w' | .ok (.watch ..) w' | .ok (.newcoro ..) w' | .ok (.coroswitch ..) w' | .ok (.sleep ..) w' | .ok (.timer ..) w'
  | .ok (.alone ..) w' | .ok (.spawn ..) w' => exact absurd h (by simp [Oper.uponIn])
  | .halt .goexit w' | .halt .blocked w' | .halt .waiting w' | .halt (.exit _) w' | .halt (.fatal _) w' | .halt (.throw _) w' | .halt (.unsupported _) w' | .halt (.stuck _) w' => exact absurd h (by simp [Oper.uponIn])
/-- in the states of C, o yields v (or is passed over), and does nothing else. -/
def Yd (P : Program) (ops : Array Oper) (C : World → Prop) (o : Oper) (v : Value) (a : Act) : Prop :=
  (Region.wanted o (yielded ops a.tmps) = true ∧ ∀ w, C w → (execOp a.eval o).run P w = .ok (.value v) w) ∨ (Region.wanted o (yielded ops a.tmps) = false ∧ v = undef)
def plainOp (o : Oper) : Bool := match o.op with | .defer _ | .select _ _ => false | _ => true
theorem plain_defer {o : Oper} (h : plainOp o = true) (c : Call) : o.op ≠ .defer c := fun e => by simp [plainOp, e] at h
theorem plain_select {o : Oper} (h : plainOp o = true) (cs : Array SelectCase) (b : Bool) : o.op ≠ .select cs b := fun e => by simp [plainOp, e] at h
theorem Yd.op {C : World → Prop} {o : Oper} {v : Value} {a : Act} {i : Nat} (hi : ops[i]? = some o) (hpl : plainOp o = true) (hy : Yd P ops C o v a) {K : Act → World → Prop} {w : World} (hC : C w) (h : K (a.put o.dst v) w) :
    wpOpIn (FW r) 0 P ops Q i K a w := by
  unfold wpOpIn
  simp only [hi]
  rcases hy with ⟨hw, hv⟩ | ⟨hw, rfl⟩
  · simp only [hw, if_true]
    refine ⟨fun _ _ => trivial, ?_⟩
    rw [Oper.semAt_eq _ _ _ (plain_defer hpl), hv w hC]
    exact h
  · simp only [hw, Bool.false_eq_true, if_false]
    exact ⟨fun _ _ => trivial, h⟩
theorem Yd.put {C : World → Prop} {o : Oper} {v u : Value} {a : Act} {d : Option Tmp} (hpl : plainOp o = true) (hy : Yd P ops C o v a) (h : ∀ t, d = some t → t ∉ o.looksAt ops) : Yd P ops C o v (a.put d u) := by
  unfold Yd at *
  rw [execOp_put o (plain_select hpl) a d u h, wanted_put o a d u h]
  exact hy
/-- j's step does not ask whether the light i has been taken. -/
theorem wpOp_past {C : World → Prop} {oi oj : Oper} {v : Value} {j : Nat} (hQ : Calm Q) (hj : ops[j]? = some oj) (hpi : plainOp oi = true) (hpj : plainOp oj = true) (hap : oi.apart ops oj = true) {K : Act → World → Prop} {a : Act} {w : World}
    (hy : Yd P ops C oi v a) (h : wpOpIn (FW r) 0 P ops Q j K (a.put oi.dst v) w) : wpOpIn (FW r) 0 P ops Q j (fun a' w' => Yd P ops C oi v a' ∧ K (a'.put oi.dst v) w') a w := by
  obtain ⟨h1, h2, h3⟩ := Oper.apart_spec hap
  unfold wpOpIn at *
  simp only [hj] at *
  rw [wanted_put oj a oi.dst v h1] at h
  split
  · rename_i hw
    simp only [hw, if_true] at h
    refine ⟨fun _ _ => trivial, ?_⟩
    have h4 := h.2
    rw [Oper.semAt_eq _ _ _ (plain_defer hpj), execOp_put oj (plain_select hpj) a oi.dst v h1] at h4
    rw [Oper.semAt_eq _ _ _ (plain_defer hpj)]
    refine upon_map hQ (fun u w' hk => ⟨hy.put hpi h3, by rw [← Act.put_comm a v u h2]; exact hk⟩) (fun d w' hk => ⟨?_, ?_⟩) h4
    · exact Yd.put (a := { a with defers := d :: a.defers }) hpi hy h3
    · have e : ({ a.put oi.dst v with defers := d :: (a.put oi.dst v).defers } : Act) = ({ a with defers := d :: a.defers } : Act).put oi.dst v := Act.put_defers a oi.dst v d
      rw [e] at hk
      rw [← Act.put_comm _ v undef h2]
      exact hk
  · rename_i hw
    simp only [hw] at h
    exact ⟨fun _ _ => trivial, hy.put hpi h3, by rw [← Act.put_comm a v undef h2]; exact h.2⟩
/-- every order from here on; S holds behind each operation. -/
def Dn (P : Program) (r : Option Nat) (ops : Array Oper) (Q : Exit → Act → World → Prop) (S : Array Bool → World → Prop) : Nat → Array Bool → Act → World → Prop
  | 0, listed, a, w => Region.ready .any ops listed = [] ∧ Q .normal a w
  | f + 1, listed, a, w => (Region.ready .any ops listed = [] → Q .normal a w) ∧
    ∀ i ∈ Region.ready .any ops listed, wpOpIn (FW r) 0 P ops Q i (fun a' w' => S (listed.setIfInBounds i true) w' ∧ Dn P r ops Q S f (listed.setIfInBounds i true) a' w') a w
theorem Dn.any {S : Array Bool → World → Prop} : ∀ (f : Nat) (listed : Array Bool) (a : Act) (w : World), Dn P r ops Q S f listed a w → wpAnyIn (FW r) 0 P .any ops Q f listed a w
  | 0, _, _, _, h => h
  | f + 1, _, _, _, h => ⟨h.1, fun i hi => wpOpIn_mono (fun a' w' h' => Dn.any f _ a' w' h'.2) (h.2 i hi)⟩
/-- what is listed had all listed for which it waits. -/
def Cl (ops : Array Oper) (listed : Array Bool) : Prop := ∀ j o, ops[j]? = some o → listed.getD j false = true → ∀ e ∈ o.after, Region.binds .any e = true → listed.getD e.on false = true
theorem Cl.set {listed : Array Bool} {i : Nat} (h : Cl ops listed) (hi : i ∈ Region.ready .any ops listed) : Cl ops (listed.setIfInBounds i true) := by
  intro j o ho hj e he hb
  obtain ⟨h0, o', ho', hall⟩ := mem_ready.1 hi
  by_cases hij : i = j
  · subst hij
    rw [ho] at ho'
    cases ho'
    exact getD_set_true (hall e he hb)
  · rw [getD_set_ne false hij] at hj
    exact getD_set_true (h j o ho hj e he hb)
theorem Dn_first {S : Array Bool → World → Prop} {C : World → Prop} {oi : Oper} {v : Value} {i : Nat} (hQ : Calm Q) (hi : ops[i]? = some oi) (hpl : ∀ (j : Nat) o, ops[j]? = some o → plainOp o = true)
    (hS1 : ∀ listed w, Cl ops listed → listed.getD i true = false → S listed w → C w) (hS2 : ∀ listed w, S (listed.setIfInBounds i true) w ↔ S listed w) : ∀ (f : Nat) (listed : Array Bool) (a : Act) (w : World),
    (∀ j oj, ops[j]? = some oj → j ≠ i → listed.getD j true = false → (∀ e ∈ oj.after, Region.binds .any e = true → e.on ≠ i) → oi.apart ops oj = true) →
    i ∈ Region.ready .any ops listed → Cl ops listed → Yd P ops C oi v a → S listed w → Dn P r ops Q S f (listed.setIfInBounds i true) (a.put oi.dst v) w → Dn P r ops Q S (f + 1) listed a w := by
  intro f
  induction f with
  | zero =>
    intro listed a w _ hr hcl hy hS H
    refine ⟨fun h => (by rw [h] at hr; cases hr), fun j hj => ?_⟩
    by_cases hji : j = i
    · subst hji
      exact hy.op hi (hpl _ _ hi) (hS1 _ _ hcl (mem_ready.1 hr).1 hS) ⟨(hS2 _ _).2 hS, H⟩
    · have := ready_mono hj hji
      rw [H.1] at this
      cases this
  | succ f ih =>
    intro listed a w hfree hr hcl hy hS H
    have hun := (mem_ready.1 hr).1
    refine ⟨fun h => (by rw [h] at hr; cases hr), fun j hj => ?_⟩
    by_cases hji : j = i
    · subst hji
      exact hy.op hi (hpl _ _ hi) (hS1 _ _ hcl hun hS) ⟨(hS2 _ _).2 hS, H⟩
    · have hstep := H.2 j (ready_mono hj hji)
      obtain ⟨hjun, oj, hoj, hall⟩ := mem_ready.1 hj
      have hnot : ∀ e ∈ oj.after, Region.binds .any e = true → e.on ≠ i := fun e he hb heq => by
        have h5 := hall e he hb
        rw [heq] at h5
        rcases Nat.lt_or_ge i listed.size with h' | h'
        · simp [h'] at hun h5; rw [hun] at h5; cases h5
        · simp [Array.getElem?_eq_none h'] at h5
      refine wpOpIn_mono (fun a' w' h3 => ?_) (wpOp_past hQ hoj (hpl _ _ hi) (hpl _ _ hoj) (hfree j oj hoj hji hjun hnot) hy hstep)
      obtain ⟨hy', hS', hD'⟩ := h3
      have hcomm : (listed.setIfInBounds i true).setIfInBounds j true = (listed.setIfInBounds j true).setIfInBounds i true := Array.setIfInBounds_comm _ _ (Ne.symm hji)
      rw [hcomm] at hS' hD'
      have hSj := (hS2 _ _).1 hS'
      refine ⟨hSj, ih _ a' w' (fun k ok hk hki hkun hno => hfree k ok hk hki ?_ hno) (ready_mono hr (Ne.symm hji)) (hcl.set hj) hy' hSj hD'⟩
      by_cases hjk : j = k
      · subst hjk; exact hjun
      · rw [getD_set_ne true hjk] at hkun; exact hkun
end

/-! ### plans: (i, 0): i is taken first; (i, 1): a load is taken first; (i, 2): i alone may come up -/
/-- j waits for i, directly or through others. -/
def reachB (ops : Array Oper) (i : Nat) : Nat → Nat → Bool
  | 0, _ => false
  | f + 1, j => match ops[j]? with | some o => o.after.any fun e => Region.binds .any e && (e.on == i || reachB ops i f e.on) | none => false
theorem reach_listed {ops : Array Oper} {i : Nat} {listed : Array Bool} (hc : Cl ops listed) : ∀ (f j : Nat), reachB ops i f j = true → listed.getD j false = true → listed.getD i false = true
  | 0, _, h, _ => by simp [reachB] at h
  | f + 1, j, h, hl => by
    rw [reachB] at h
    cases ho : ops[j]? with
    | none => rw [ho] at h; cases h
    | some o =>
      rw [ho] at h
      simp only [Array.any_eq_true'] at h
      obtain ⟨e, he, hb⟩ := h
      simp only [Bool.and_eq_true, Bool.or_eq_true, beq_iff_eq] at hb
      have h2 := hc j o ho hl e he hb.1
      rcases hb.2 with h3 | h3
      · rw [← h3]; exact h2
      · exact reach_listed hc f e.on h3 h2
def stepOk (ops : Array Oper) (late : List Nat) (listed : Array Bool) : Nat × Nat → Bool
  | (i, 0) => (Region.ready .any ops listed).contains i && Region.free .any ops listed i && !late.contains i
  | (i, 1) => (Region.ready .any ops listed).contains i && Region.free .any ops listed i && !late.contains i && late.all fun j => reachB ops i 3 j
  | (i, _) => Region.ready .any ops listed == [i]
def planOk (ops : Array Oper) (late : List Nat) : Array Bool → List (Nat × Nat) → Bool
  | listed, [] => Region.ready .any ops listed == []
  | listed, p :: ps => stepOk ops late listed p && planOk ops late (listed.setIfInBounds p.1 true) ps
section
variable (P : Program) (r : Option Nat) (w0 : World) (X : List Nat) (n : Nat) (df : List Deferred)
def SS (late : List Nat) (K : List It) (listed : Array Bool) (w : World) : Prop := St w0 X [] w ∧ ((∀ j ∈ late, listed.getD j false = false) → St w0 X K w)
def WP (l : List Oper) (late : List Nat) (K : List It) (listed : Array Bool) (plan : List (Nat × Nat)) (Kn : Kont) (fr : Fr) (Γ : List It) : Prop :=
  (∀ (j : Nat) o, l[j]? = some o → plainOp o = true) → planOk l.toArray late listed plan = true → ∀ a w, St w0 X Γ w → Fits n fr a.tmps → a.defers = df → Cl l.toArray listed → SS w0 X late K listed w →
    Dn P r l.toArray (PN w0 X n df Kn) (SS w0 X late K) plan.length listed a w
end
section
variable {P : Program} {r : Option Nat} {w0 : World} {X : List Nat} {n : Nat} {df : List Deferred} {K : Kont} {Q : Post} {fr : Fr} {Γ Kp : List It} {l : List Oper} {late : List Nat} {listed : Array Bool} {plan : List (Nat × Nat)} {o : Oper} {i : Nat}
theorem PN_calm : Calm (PN w0 X n df K) := fun c a w ⟨fr, Γ, _, _, _, h⟩ => h
theorem Yd_of_Yl {C : List It} {v : Value} {a : Act} (hf : Fits n fr a.tmps) (hg : gdo l fr o.guard = some true) (hy : Yl P w0 X n fr C o v) : Yd P l.toArray (St w0 X C) o v a := .inl ⟨gdo_spec hf hg, fun w hs => hy.2 a hf w hs⟩
theorem WP_nil (h : K fr Γ) : WP P r w0 X n df l late Kp listed [] K fr Γ := fun _ hp a w hs hf hd _ _ => by
  simp only [planOk, beq_iff_eq] at hp
  exact ⟨hp, fr, Γ, hs, hf, hd, h⟩
theorem free_of {ops : Array Oper} (hi : ops[i]? = some o) (h : Region.free .any ops listed i = true) : ∀ j oj, ops[j]? = some oj → j ≠ i → listed.getD j true = false → (∀ e ∈ oj.after, Region.binds .any e = true → e.on ≠ i) → o.apart ops oj = true :=
  Region.free_spec hi h
theorem SS_light {i : Nat} (hi : late.contains i = false) (listed : Array Bool) (w : World) : SS w0 X late Kp (listed.setIfInBounds i true) w ↔ SS w0 X late Kp listed w := by
  have e : (∀ j ∈ late, (listed.setIfInBounds i true).getD j false = false) ↔ (∀ j ∈ late, listed.getD j false = false) := by
    refine ⟨fun h j hj => ?_, fun h j hj => ?_⟩
    · have hne : i ≠ j := fun e => by subst e; simp at hi; exact hi hj
      rw [← getD_set_ne false hne]; exact h j hj
    · have hne : i ≠ j := fun e => by subst e; simp at hi; exact hi hj
      rw [getD_set_ne false hne]; exact h j hj
  unfold SS
  rw [e]
theorem WP_step0 {v : Value} (hi : l[i]? = some o) (hd : dstOk n o.dst = true) (hy : ∀ a : Act, Fits n fr a.tmps → Yd P l.toArray (St w0 X []) o v a) (h : WP P r w0 X n df l late Kp (listed.setIfInBounds i true) plan K (putF o.dst v fr) Γ) :
    WP P r w0 X n df l late Kp listed ((i, 0) :: plan) K fr Γ := fun hpl hp a w hs hf hdf hcl hS => by
  simp only [planOk, stepOk, Bool.and_eq_true] at hp
  obtain ⟨⟨⟨h1, h2⟩, h3⟩, h4⟩ := hp
  have h3' : late.contains i = false := by simpa using h3
  have hr : i ∈ Region.ready .any l.toArray listed := by simpa using h1
  exact Dn_first (C := St w0 X []) PN_calm (by simpa using hi) (fun j o ho => hpl j o (by simpa using ho)) (fun _ _ _ _ hS => hS.1) (SS_light h3') _ listed a w (free_of (by simpa using hi) h2) hr hcl (hy a hf) hS
    (h hpl h4 _ w hs (hf.put _ hd _) (by cases o.dst <;> exact hdf) (hcl.set hr) ((SS_light h3' _ _).2 hS))
theorem WP_step1 {v : Value} (hi : l[i]? = some o) (hd : dstOk n o.dst = true) (hy : ∀ a : Act, Fits n fr a.tmps → Yd P l.toArray (St w0 X Kp) o v a) (h : WP P r w0 X n df l late Kp (listed.setIfInBounds i true) plan K (putF o.dst v fr) Γ) :
    WP P r w0 X n df l late Kp listed ((i, 1) :: plan) K fr Γ := fun hpl hp a w hs hf hdf hcl hS => by
  simp only [planOk, stepOk, Bool.and_eq_true] at hp
  obtain ⟨⟨⟨⟨h1, h2⟩, h3⟩, h5⟩, h4⟩ := hp
  have h3' : late.contains i = false := by simpa using h3
  have hr : i ∈ Region.ready .any l.toArray listed := by simpa using h1
  refine Dn_first (C := St w0 X Kp) PN_calm (by simpa using hi) (fun j o ho => hpl j o (by simpa using ho)) (fun listed' w' hc hun hS' => hS'.2 fun j hj => ?_) (SS_light h3') _ listed a w (free_of (by simpa using hi) h2) hr hcl (hy a hf) hS
    (h hpl h4 _ w hs (hf.put _ hd _) (by cases o.dst <;> exact hdf) (hcl.set hr) ((SS_light h3' _ _).2 hS))
  have h6 := List.all_eq_true.1 h5 j hj
  cases hl : listed'.getD j false with
  | false => rfl
  | true =>
    have := reach_listed hc 3 j h6 hl
    rcases Nat.lt_or_ge i listed'.size with h' | h'
    · simp [h'] at hun this; rw [hun] at this; cases this
    · simp [Array.getElem?_eq_none h'] at this
/-- an operation that needs no memory of the call's own. -/
theorem WP_0 {v : Value} (hi : l[i]? = some o) (hy : Yl P w0 X n fr [] o v) (hg : gdo l fr o.guard = some true) (hd : dstOk n o.dst = true) (h : WP P r w0 X n df l late Kp (listed.setIfInBounds i true) plan K (putF o.dst v fr) Γ) :
    WP P r w0 X n df l late Kp listed ((i, 0) :: plan) K fr Γ := WP_step0 hi hd (fun a hf => Yd_of_Yl hf hg hy) h
theorem WP_0b {p : Prop} [Decidable p] (hi : l[i]? = some o) (hy : Yl P w0 X n fr [] o (.bool (decide p))) (hg : gdo l fr o.guard = some true) (hd : dstOk n o.dst = true)
    (ht : p → WP P r w0 X n df l late Kp (listed.setIfInBounds i true) plan K (putF o.dst (.bool true) fr) Γ) (hf : ¬ p → WP P r w0 X n df l late Kp (listed.setIfInBounds i true) plan K (putF o.dst (.bool false) fr) Γ) :
    WP P r w0 X n df l late Kp listed ((i, 0) :: plan) K fr Γ := by
  by_cases h : p
  · exact WP_0 (v := .bool true) hi (by simpa [h] using hy) hg hd (ht h)
  · exact WP_0 (v := .bool false) hi (by simpa [h] using hy) hg hd (hf h)
/-- a load out of Kp. -/
theorem WP_1 {v : Value} (hi : l[i]? = some o) (hy : Yl P w0 X n fr Kp o v) (hg : gdo l fr o.guard = some true) (hd : dstOk n o.dst = true) (h : WP P r w0 X n df l late Kp (listed.setIfInBounds i true) plan K (putF o.dst v fr) Γ) :
    WP P r w0 X n df l late Kp listed ((i, 1) :: plan) K fr Γ := WP_step1 hi hd (fun a hf => Yd_of_Yl hf hg hy) h
/-- an operation that alone may come up. -/
theorem WP_2 (hi : l[i]? = some o) (hg : gdo l fr o.guard = some true) (h : Hv P r w0 X n df o (fun fr' Γ' => ((late.any fun j => Nat.beq j i || listed.getD j false) = true ∨ ∃ R, Γ'.Perm (Kp ++ R)) ∧ WP P r w0 X n df l late Kp (listed.setIfInBounds i true) plan K fr' Γ') fr Γ) :
    WP P r w0 X n df l late Kp listed ((i, 2) :: plan) K fr Γ := fun hpl hp a w hs hf hdf hcl hS => by
  simp only [planOk, stepOk, Bool.and_eq_true, beq_iff_eq] at hp
  have hr : i ∈ Region.ready .any l.toArray listed := by rw [hp.1]; simp
  refine ⟨fun he => (by rw [he] at hr; cases hr), fun j hj => ?_⟩
  obtain rfl : j = i := by rw [hp.1] at hj; simpa using hj
  unfold wpOpIn
  simp only [List.getElem?_toArray, hi]
  rw [if_pos (gdo_spec hf hg)]
  refine h a w hs hf hdf _ _ fun a' w' fr' Γ' h1 h2 h3 h4 => ?_
  have hSS : SS w0 X late Kp (listed.setIfInBounds j true) w' := by
    refine ⟨St.right (A := Γ') (B := []) (by simpa using h1), fun hno => ?_⟩
    rcases h4.1 with h5 | ⟨R, hp'⟩
    · obtain ⟨q, hq, hb⟩ := List.any_eq_true.1 h5
      exfalso
      have h6 := hno q hq
      rcases Bool.or_eq_true_iff.1 hb with hb | hb
      · have : q = j := Nat.eq_of_beq_eq_true hb
        subst this
        have hlt : q < listed.size := by
          have := (mem_ready.1 hr).1
          rcases Nat.lt_or_ge q listed.size with h' | h'
          · exact h'
          · simp [Array.getElem?_eq_none h'] at this
        simp [hlt] at h6
      · have := getD_set_true (i := j) hb
        rw [h6] at this; cases this
    · exact (h1.perm hp').left
  exact ⟨hSS, h4.2 hpl hp.2 a' w' h1 h2 h3 (hcl.set hr) hSS⟩
/-- an operation that is passed over. -/
theorem WP_skip0 (hi : l[i]? = some o) (hg : gdo l fr o.guard = some false) (hd : dstOk n o.dst = true) (h : WP P r w0 X n df l late Kp (listed.setIfInBounds i true) plan K (putF o.dst undef fr) Γ) :
    WP P r w0 X n df l late Kp listed ((i, 0) :: plan) K fr Γ := WP_step0 hi hd (fun a hf => .inr ⟨gdo_spec hf hg, rfl⟩) h
theorem WP_skip1 (hi : l[i]? = some o) (hg : gdo l fr o.guard = some false) (hd : dstOk n o.dst = true) (h : WP P r w0 X n df l late Kp (listed.setIfInBounds i true) plan K (putF o.dst undef fr) Γ) :
    WP P r w0 X n df l late Kp listed ((i, 1) :: plan) K fr Γ := WP_step1 hi hd (fun a hf => .inr ⟨gdo_spec hf hg, rfl⟩) h
theorem WP_skip2 (hi : l[i]? = some o) (hg : gdo l fr o.guard = some false) (hd : dstOk n o.dst = true) (h : WP P r w0 X n df l late Kp (listed.setIfInBounds i true) plan K (putF o.dst undef fr) Γ) (hk : ∃ R, Γ.Perm (Kp ++ R)) :
    WP P r w0 X n df l late Kp listed ((i, 2) :: plan) K fr Γ := fun hpl hp a w hs hf hdf hcl hS => by
  simp only [planOk, stepOk, Bool.and_eq_true, beq_iff_eq] at hp
  have hr : i ∈ Region.ready .any l.toArray listed := by rw [hp.1]; simp
  refine ⟨fun he => (by rw [he] at hr; cases hr), fun j hj => ?_⟩
  obtain rfl : j = i := by rw [hp.1] at hj; simpa using hj
  unfold wpOpIn
  simp only [List.getElem?_toArray, hi]
  rw [if_neg (by rw [gdo_spec hf hg]; simp)]
  obtain ⟨R, hp'⟩ := hk
  have hSS : SS w0 X late Kp (listed.setIfInBounds j true) w := ⟨hS.1, fun _ => (hs.perm hp').left⟩
  exact ⟨fun _ _ => trivial, hSS, h hpl hp.2 _ w hs (hf.put _ hd _) (by cases o.dst <;> exact hdf) (hcl.set hr) hSS⟩
/-- the next operation's slot and value. -/
theorem WP_v (T : Tab P) {kd : Nat} {p : Nat × Value} (hk : Nat.blt kd 2 = true) (hi : l[i]? = some o) (h : stp T l n fr o = some p) (k : WP P r w0 X n df l late Kp (listed.setIfInBounds i true) plan K (p :: fr) Γ) : WP P r w0 X n df l late Kp listed ((i, kd) :: plan) K fr Γ := by
  obtain ⟨dst, op, ty, ps, af, g⟩ := o
  unfold stp at h
  cases dst with
  | none => cases h
  | some d =>
    simp only at h
    cases hd : Nat.blt d n with
    | false => rw [hd] at h; cases h
    | true =>
      rw [hd] at h
      simp only [cond_true] at h
      have hkd : kd = 0 ∨ kd = 1 := by (rw [Nat.blt_eq] at hk; omega)
      cases hg : gdo l fr g with
      | none => rw [hg] at h; cases h
      | some b =>
        rw [hg] at h
        cases b with
        | true =>
          simp only at h
          cases hv : pv T fr op with
          | none => rw [hv] at h; cases h
          | some v =>
            rw [hv] at h; cases h
            rcases hkd with rfl | rfl
            · exact WP_0 hi (pv_sound T hv) hg hd k
            · exact WP_1 hi (pv_sound T hv) hg hd k
        | false =>
          cases h
          rcases hkd with rfl | rfl
          · exact WP_skip0 hi hg hd k
          · exact WP_skip1 hi hg hd k
/-- what a forced operation that is passed over leaves. -/
theorem WP_u0 {d : Tmp} {op : Op} {v : Value} {ty : TypeId} {ps : String} {af : Array Edge} {g : Option (Nat × Bool)} (hi : l[i]? = some ⟨some d, op, ty, ps, af, g⟩) (hy : Yl P w0 X n fr [] ⟨some d, op, ty, ps, af, g⟩ v) (hg : gdo l fr g = some true) (hd : Nat.blt d n = true)
    (h : WP P r w0 X n df l late Kp (listed.setIfInBounds i true) plan K ((d, v) :: fr) Γ) : WP P r w0 X n df l late Kp listed ((i, 0) :: plan) K fr Γ := WP_0 hi hy hg hd h
theorem WP_u1 {d : Tmp} {op : Op} {v : Value} {ty : TypeId} {ps : String} {af : Array Edge} {g : Option (Nat × Bool)} (hi : l[i]? = some ⟨some d, op, ty, ps, af, g⟩) (hy : Yl P w0 X n fr Kp ⟨some d, op, ty, ps, af, g⟩ v) (hg : gdo l fr g = some true) (hd : Nat.blt d n = true)
    (h : WP P r w0 X n df l late Kp (listed.setIfInBounds i true) plan K ((d, v) :: fr) Γ) : WP P r w0 X n df l late Kp listed ((i, 1) :: plan) K fr Γ := WP_1 hi hy hg hd h
theorem WP_c {d' : Nat} {p : Nat × Int × Int} (hi : l[i]? = some o) (h : tstB l n fr o = some (d', p)) (ht : cmpB p = true → WP P r w0 X n df l late Kp (listed.setIfInBounds i true) plan K ((d', .bool true) :: fr) Γ)
    (hf : cmpB p = false → WP P r w0 X n df l late Kp (listed.setIfInBounds i true) plan K ((d', .bool false) :: fr) Γ) : WP P r w0 X n df l late Kp listed ((i, 0) :: plan) K fr Γ := by
  obtain ⟨h1, h2, h3, h4⟩ := tstB_spec h
  obtain ⟨dst, op, ty, ps, af, g⟩ := o
  simp only at h1
  subst h1
  cases hc : cmpB p with
  | true => exact WP_0 (v := .bool true) hi (by rw [← hc]; exact tst_sound h4) h3 h2 (ht hc)
  | false => exact WP_0 (v := .bool false) hi (by rw [← hc]; exact tst_sound h4) h3 h2 (hf hc)
theorem WP_lt {d' : Nat} {x y : Int} (hi : l[i]? = some o) (h : tstB l n fr o = some (d', 0, x, y)) (ht : x < y → WP P r w0 X n df l late Kp (listed.setIfInBounds i true) plan K ((d', .bool true) :: fr) Γ)
    (hf : y ≤ x → WP P r w0 X n df l late Kp (listed.setIfInBounds i true) plan K ((d', .bool false) :: fr) Γ) : WP P r w0 X n df l late Kp listed ((i, 0) :: plan) K fr Γ := WP_c hi h (fun h => ht (by simpa [cmpB] using h)) (fun h => hf (by simpa [cmpB] using h))
theorem WP_le {d' : Nat} {x y : Int} (hi : l[i]? = some o) (h : tstB l n fr o = some (d', 1, x, y)) (ht : x ≤ y → WP P r w0 X n df l late Kp (listed.setIfInBounds i true) plan K ((d', .bool true) :: fr) Γ)
    (hf : y < x → WP P r w0 X n df l late Kp (listed.setIfInBounds i true) plan K ((d', .bool false) :: fr) Γ) : WP P r w0 X n df l late Kp listed ((i, 0) :: plan) K fr Γ := WP_c hi h (fun h => ht (by simpa [cmpB] using h)) (fun h => hf (by simpa [cmpB] using h))
theorem WP_eq {d' : Nat} {x y : Int} (hi : l[i]? = some o) (h : tstB l n fr o = some (d', 2, x, y)) (ht : x = y → WP P r w0 X n df l late Kp (listed.setIfInBounds i true) plan K ((d', .bool true) :: fr) Γ)
    (hf : x ≠ y → WP P r w0 X n df l late Kp (listed.setIfInBounds i true) plan K ((d', .bool false) :: fr) Γ) : WP P r w0 X n df l late Kp listed ((i, 0) :: plan) K fr Γ := WP_c hi h (fun h => ht (by simpa [cmpB] using h)) (fun h => hf (by simpa [cmpB] using h))
theorem WP_ne {d' : Nat} {x y : Int} (hi : l[i]? = some o) (h : tstB l n fr o = some (d', 3, x, y)) (ht : x ≠ y → WP P r w0 X n df l late Kp (listed.setIfInBounds i true) plan K ((d', .bool true) :: fr) Γ)
    (hf : x = y → WP P r w0 X n df l late Kp (listed.setIfInBounds i true) plan K ((d', .bool false) :: fr) Γ) : WP P r w0 X n df l late Kp listed ((i, 0) :: plan) K fr Γ := WP_c hi h (fun h => ht (by simpa [cmpB] using h)) (fun h => hf (by simpa [cmpB] using h))
def allPlain (l : List Oper) : Bool := l.all plainOp
/-- THE REGION: a plan that the kernel has checked. -/
theorem W_regionD (T : Tab P) {id : Nat} (late : List Nat) (Kp : List It) (plan : List (Nat × Nat)) (hpl : (allPlain l && planOk l.toArray late (Array.replicate l.length false) plan && Nat.beq plan.length l.length) = true) (hk : ∃ R, Γ.Perm (Kp ++ R))
    (h : WP P r w0 X n df l late Kp (Array.replicate l.length false) plan K fr Γ) : W P r w0 X n df (.region id l.toArray true) K Q fr Γ := fun a w hs hf hd => by
  simp only [Bool.and_eq_true] at hpl
  obtain ⟨⟨h1, h2⟩, h3⟩ := hpl
  obtain ⟨R, hp⟩ := hk
  have hs' : St w0 X Γ { w with drawn := w.drawn + 1 } := hs.drawn rfl rfl rfl rfl
  have h4 := h (fun j o ho => List.all_eq_true.1 h1 o (List.mem_of_getElem? ho)) h2 a _ hs' hf hd (fun j o _ hj => by
    exfalso
    rcases Nat.lt_or_ge j l.length with h' | h' <;> simp [h'] at hj) ⟨St.right (A := Γ) (B := []) (by simpa using hs'), fun _ => (hs'.perm hp).left⟩
  have h5 : plan.length = l.length := Nat.eq_of_beq_eq_true h3
  rw [h5] at h4
  refine wpIn_mono (wpIn_region_any (Q := PN w0 X n df K) T.mixed (by simpa using Dn.any _ _ _ _ h4)) ?_
  rintro e a' w' ⟨fr', Γ', h1, h2, h3, h4⟩
  cases e <;> first | exact ⟨fr', Γ', h1, h2, h3, h4⟩ | exact h4.elim
end
end Go.Sx
/- A small calculus of triples. Part 6: lists whose elements are a few cells each. -/
namespace Go.Sx
open Go.RowKit
set_option linter.unusedVariables false
structure Cod (α : Type) where
  sz : Nat
  enc : α → List Value
  len : ∀ x, (enc x).length = sz
section
variable {α : Type} (c : Cod α)
def Cod.cells (xs : List α) : List Value := xs.flatMap c.enc
theorem cells_length (xs : List α) : (c.cells xs).length = xs.length * c.sz := by
  induction xs with
  | nil => simp [Cod.cells]
  | cons x xs ih => simp only [Cod.cells, List.flatMap_cons, List.length_append, c.len, List.length_cons] at ih ⊢; rw [ih, Nat.add_mul]; omega
theorem cells_cons (x : α) (xs : List α) : c.cells (x :: xs) = c.enc x ++ c.cells xs := by simp [Cod.cells]
theorem cells_append (xs ys : List α) : c.cells (xs ++ ys) = c.cells xs ++ c.cells ys := by simp [Cod.cells]
theorem cells_nil : c.cells [] = [] := rfl
theorem cells_one (x : α) : c.cells [x] = c.enc x := by simp [Cod.cells]
theorem cells_drop : ∀ (xs : List α) (k : Nat), (c.cells xs).drop (k * c.sz) = c.cells (xs.drop k)
  | xs, 0 => by simp
  | [], k + 1 => by simp [Cod.cells]
  | x :: xs, k + 1 => by
    rw [cells_cons, List.drop_succ_cons, ← cells_drop xs k, Nat.add_mul, Nat.one_mul, Nat.add_comm, ← List.drop_drop]
    congr 1
    rw [List.drop_append, List.drop_of_length_le (by rw [c.len]; exact Nat.le_refl _), c.len]; simp
theorem cells_take : ∀ (xs : List α) (k : Nat), (c.cells xs).take (k * c.sz) = c.cells (xs.take k)
  | xs, 0 => by simp [Cod.cells]
  | [], k + 1 => by simp [Cod.cells]
  | x :: xs, k + 1 => by
    rw [cells_cons, List.take_succ_cons, cells_cons, ← cells_take xs k, Nat.add_mul, Nat.one_mul, List.take_append, c.len]
    rw [List.take_of_length_le (by rw [c.len]; omega)]
    congr 2
    omega
theorem cells_seg {xs : List α} {i : Nat} (h : i < xs.length) : ((c.cells xs).drop (i * c.sz)).take c.sz = c.enc xs[i] := by
  rw [cells_drop, List.drop_eq_getElem_cons h, cells_cons, List.take_append, c.len, Nat.sub_self, List.take_zero, List.append_nil, List.take_of_length_le (by rw [c.len]; exact Nat.le_refl _)]
theorem cells_get {xs : List α} {i j : Nat} (h : i < xs.length) (hj : j < c.sz) : (c.cells xs)[i * c.sz + j]? = (c.enc xs[i])[j]? := by
  rw [← cells_seg c h, List.getElem?_take, if_pos hj, List.getElem?_drop]
theorem cells_put {xs : List α} {i : Nat} (h : i < xs.length) (y : α) : putL (c.cells xs) (i * c.sz) (c.enc y) = c.cells (xs.set i y) := by
  have hle : i * c.sz + c.sz ≤ xs.length * c.sz := by
    have : (i + 1) * c.sz ≤ xs.length * c.sz := Nat.mul_le_mul_right _ h
    rw [Nat.add_mul, Nat.one_mul] at this; exact this
  apply List.ext_getElem?
  intro j
  rw [putL_get _ _ _ _ (by rw [c.len, cells_length]; exact hle), c.len]
  by_cases hj : j < xs.length * c.sz
  · have hs : 0 < c.sz := by rcases Nat.eq_zero_or_pos c.sz with h0 | h0
                             · rw [h0] at hj; simp at hj
                             · exact h0
    have hq : j / c.sz < xs.length := Nat.div_lt_of_lt_mul (by rw [Nat.mul_comm]; exact hj)
    have hm : j % c.sz < c.sz := Nat.mod_lt _ hs
    have e : j = (j / c.sz) * c.sz + j % c.sz := by rw [Nat.mul_comm]; exact (Nat.div_add_mod j c.sz).symm
    have e1 := cells_get c (xs := xs) hq hm
    have e2 := cells_get c (xs := xs.set i y) (i := j / c.sz) (j := j % c.sz) (by simpa using hq) hm
    rw [← e] at e1 e2
    rw [e1, e2]
    by_cases hi : j / c.sz = i
    · subst hi
      rw [if_pos ⟨by omega, by omega⟩, List.getElem_set_self]
      congr 1; omega
    · rw [if_neg, List.getElem_set_ne (fun e => hi e.symm)]
      rintro ⟨h1, h2⟩
      apply hi
      have h3 : j < (i + 1) * c.sz := by rw [Nat.add_mul, Nat.one_mul]; exact h2
      exact Nat.le_antisymm (Nat.lt_succ_iff.1 (Nat.div_lt_of_lt_mul (by rw [Nat.mul_comm]; exact h3))) ((Nat.le_div_iff_mul_le hs).2 h1)
  · rw [if_neg (by omega), List.getElem?_eq_none (by rw [cells_length]; omega), List.getElem?_eq_none (by rw [cells_length]; simp; omega)]
theorem cells_ne {xs : List α} (h : xs ≠ []) (hs : 0 < c.sz) : c.cells xs ≠ [] := fun e => by
  have := congrArg List.length e
  rw [cells_length, List.length_nil] at this
  rcases Nat.mul_eq_zero.1 this with h1 | h1
  · exact h (List.eq_nil_of_length_eq_zero h1)
  · omega
end
section
variable {w0 w : World} {X : List Nat} {K : List It} {a : Addr} {α : Type} {c : Cod α} {xs : List α}
theorem Has.el (h : Has w0 X K a (c.cells xs)) {i : Nat} (hi : i < xs.length) : Has w0 X K (a.add (i * c.sz)) (c.enc xs[i]) := fun w hs => by
  have := ((h w hs).drop (i * c.sz)).take c.sz
  rwa [cells_seg c hi] at this
theorem Has.weak {K' : List It} {cs : List Value} (h : Has w0 X K a cs) (hk : ∃ R, K'.Perm (K ++ R)) : Has w0 X K' a cs := fun w hs => by
  obtain ⟨R, hp⟩ := hk
  exact h w (hs.perm hp).left
theorem Has.cons {i : It} {cs : List Value} (h : Has w0 X K a cs) : Has w0 X (i :: K) a cs := fun w hs => h w hs.tl
/-- what is read where a call begins. -/
def RdO (w : World) (X : List Nat) (A : Option Addr) (cs : List Value) : Prop := cs ≠ [] → ∃ a, A = some a ∧ Old w X a cs
theorem RdO.rd {A : Option Addr} {cs : List Value} (h : RdO w0 X A cs) (K : List It) : RdA w0 X K A cs := RdA.old h
theorem Cells.lt {cs : List Value} (h : Cells w a cs) (hne : cs ≠ []) : a.block < w.heap.size := by
  cases cs with
  | nil => exact absurd rfl hne
  | cons v vs =>
    have := World.block_lt_of_cell? w _ (h 0 v rfl)
    rwa [add_block] at this
/-- nothing is lent: what is read is read by the callee. -/
theorem RdA.call {A : Option Addr} {cs : List Value} (h : RdA w0 X K A cs) (hs : St w0 X K w) : RdO w [] A cs := fun hne => by
  obtain ⟨a, rfl, hH⟩ := h hne
  exact ⟨a, rfl, hH w hs, fun _ => (hH w hs).lt hne, by simp⟩
end
theorem keepAll (Γ : List It) : ∃ R, Γ.Perm (Γ ++ R) := ⟨[], by simp⟩
theorem keep1 (i : It) (Γ : List It) : ∃ R, (i :: Γ).Perm (Γ ++ R) := ⟨[i], (List.perm_append_comm (l₁ := [i]) (l₂ := Γ))⟩
theorem keep2 (i j : It) (Γ : List It) : ∃ R, (i :: j :: Γ).Perm (Γ ++ R) := ⟨[i, j], (List.perm_append_comm (l₁ := [i, j]) (l₂ := Γ))⟩
theorem keepNil (Γ : List It) : ∃ R, Γ.Perm ([] ++ R) := ⟨Γ, by simp⟩
end Go.Sx
/- A small calculus of triples. Part 7: ranges over functions: the iterator's contract, a call of yield, the loop, the marks. -/
namespace Go.Sx
open Go.RowKit
set_option linter.unusedVariables false
set_option linter.unusedSimpArgs false

/-! ### a block that is no cells -/
def obj (l : Nat) (o : Obj) : It := .gen [l] (fun w => w.heap[l]? = some o) (fun w w' h hk => (h l (by simp)).trans hk) (fun w hk b hb => by
  obtain rfl : b = l := by simpa using hb
  exact (Array.getElem?_eq_some_iff.1 hk).1)
section
variable {w0 w w' : World} {X : List Nat} {Γ A A' B : List It} {l : Nat} {o : Obj}
theorem St.allocObj (h : St w0 X Γ w) (o : Obj) : St w0 X (obj w.heap.size o :: Γ) (w.alloc o) :=
  St.upd (A := []) (A' := [obj w.heap.size o]) h rfl rfl rfl (by simp) (fun b hb _ => Below.heap_alloc _ _ _ hb)
    (fun i hi => by obtain rfl : i = _ := (by simpa using hi); show _ = _; exact World.alloc_heap_new w _) (by simp [fps, It.fp, obj]) (fun b hb => .inr (by simp [fps, It.fp, obj] at hb; omega))
theorem St.obj_heap (h : St w0 X (obj l o :: Γ) w) : w.heap[l]? = some o := h.ok _ (List.mem_cons_self ..)
theorem St.putObj (h : St w0 X (obj l o :: Γ) w) (o' : Obj) : St w0 X (obj l o' :: Γ) (w.putObj l o') :=
  St.upd (A := [obj l o]) (A' := [obj l o']) h rfl rfl rfl (by simp) (fun b hb hne => World.putObj_heap_other (by simpa [fps, It.fp, obj] using hne))
    (fun i hi => by
      obtain rfl : i = _ := (by simpa using hi)
      exact World.putObj_heap_same (Array.getElem?_eq_some_iff.1 h.obj_heap).1) (by simp [fps, It.fp, obj]) (fun b hb => .inl hb)
/-- a call's frame. -/
theorem St.call (h : St w0 X (A ++ B) w) (hc : St w (fps A) A' w') : St w0 X (A' ++ B) w' := St.upd h hc.os hc.tape hc.output hc.size hc.old hc.ok hc.nd hc.mine
theorem St.comm (h : St w0 X (A ++ B) w) : St w0 X (B ++ A) w := h.perm List.perm_append_comm
end
/-! ### a nil slice's row may be put beside whatever there is -/
theorem St.nilrow {w0 w : World} {X : List Nat} {Γ : List It} (h : St w0 X Γ w) (t : TypeId) (sz : Nat) : St w0 X (It.row (.slice none 0 0) t sz 0 [] :: Γ) w :=
  St.upd (A := []) (A' := [It.row (.slice none 0 0) t sz 0 []]) h rfl rfl rfl (Nat.le_refl _) (fun b hb _ => rfl)
    (fun i hi => by obtain rfl : i = _ := (by simpa using hi); exact ⟨by simp, .inl ⟨rfl, rfl⟩⟩) (by simp [fps, It.fp, Value.ownBlock]) (fun b hb => by simp [fps, It.fp, Value.ownBlock] at hb)
section
variable {P : Program} {r : Option Nat} {w0 : World} {X : List Nat} {n : Nat} {df : List Deferred} {K : Kont} {fr : Fr} {Γ Γ' : List It} {l rest : List Oper} {c : Code} {Q : Post}
theorem W_nilrow (t : TypeId) (sz : Nat) (h : W P r w0 X n df c K Q fr (It.row (.slice none 0 0) t sz 0 [] :: Γ)) : W P r w0 X n df c K Q fr Γ := fun a w hs => h a w (hs.nilrow t sz)
theorem WL_nilrow (t : TypeId) (sz : Nat) (h : WL P r w0 X n df l rest K fr (It.row (.slice none 0 0) t sz 0 [] :: Γ)) : WL P r w0 X n df l rest K fr Γ := fun a w hs => h a w (hs.nilrow t sz)
theorem W_perm (hp : Γ.Perm Γ') (h : W P r w0 X n df c K Q fr Γ') : W P r w0 X n df c K Q fr Γ := fun a w hs => h a w (hs.perm hp)
theorem WL_perm (hp : Γ.Perm Γ') (h : WL P r w0 X n df l rest K fr Γ') : WL P r w0 X n df l rest K fr Γ := fun a w hs => h a w (hs.perm hp)
end
section
variable {P : Program} {r : Option Nat} {w0 : World} {X : List Nat} {n : Nat} {df : List Deferred} {K : Kont} {fr : Fr} {Γ : List It} {Q : Post}
/-- ways meet behind one step, behind two. -/
theorem W_cut1 {σ : Type} (F : σ → Fr) (G : σ → List It) (I : σ → Prop) {x z : Code} {Q' : Post}
    (hx : W P r w0 X n df x (fun fr Γ => ∃ s, I s ∧ Sub (F s) fr ∧ ∃ R, Γ.Perm (G s ++ R)) Q' fr Γ) (hy : ∀ s, I s → W P r w0 X n df z K Q (F s) (G s)) :
    W P r w0 X n df x (fun fr Γ => W P r w0 X n df z K Q fr Γ) Q' fr Γ := W.mono hx fun _ _ ⟨s, hI, hf, hg⟩ => W.pre (hy s hI) hf hg
theorem W_cut2 {σ : Type} (F : σ → Fr) (G : σ → List It) (I : σ → Prop) {x y z : Code} {Q' Q'' : Post}
    (hx : W P r w0 X n df x (fun fr Γ => W P r w0 X n df y (fun fr Γ => ∃ s, I s ∧ Sub (F s) fr ∧ ∃ R, Γ.Perm (G s ++ R)) Q' fr Γ) Q'' fr Γ) (hy : ∀ s, I s → W P r w0 X n df z K Q (F s) (G s)) :
    W P r w0 X n df x (fun fr Γ => W P r w0 X n df y (fun fr Γ => W P r w0 X n df z K Q fr Γ) Q' fr Γ) Q'' fr Γ := W.mono hx fun _ _ h => W_cut1 F G I h hy
end
/-! ### the iterator's contract -/
def Ya (P : Program) (l : Nat) (args : Array Value) (w : World) (R : Ending → World → Prop) : Prop :=
  ∃ fn tm asg body, (Instr.yield l args).run P w = .ok (.round l fn tm asg body) w ∧ RoundIn (FW none) 0 P l fn tm asg body w R
def Yc (P : Program) (l : Nat) (C : Nat → List It → Prop) (Cx : List It → Prop) (N : Nat) (enc : Nat → List Value) : Prop :=
  ∀ i, i < N → ∀ c w1, C i c → Sep c w1 → Ya P l (enc i).toArray w1 fun e w' =>
    (e = .returned (.bool true) ∧ ∃ c', C (i + 1) c' ∧ St w1 (fps c) c' w') ∨ (e = .returned (.bool false) ∧ ∃ c', Cx c' ∧ St w1 (fps c) c' w')
def yv (l : Nat) : Value := .func (.yield l) #[] #[]
def ItC (P : Program) (gf : Nat) (lb : List Value) (Kw : List It) (N : Nat) (enc : Nat → List Value) : Prop :=
  ∀ l C Cx, Yc P l C Cx N enc → ∀ w c, C 0 c → Tr P gf (yv l :: lb).toArray w (c ++ Kw) fun _ Γ' => ∃ c', (C N c' ∨ Cx c') ∧ Γ' = c' ++ Kw
section
variable {P : Program} {w0 : World} {X : List Nat} {n : Nat} {df : List Deferred} {fr : Fr} {Γ : List It} {d : Option Tmp} {ty : TypeId} {ps : String} {af : Array Edge} {g : Option (Nat × Bool)} {N : Kont}
/-- a call of yield. -/
theorem Hv_yield {x : Operand} {l M : Nat} {xs : List Operand} {vs : List Value} {ts : Array TypeId} {C : Nat → List It → Prop} {Cx : List It → Prop} {enc : Nat → List Value} {c Γ2 : List It} {i : Nat} (hY : Yc P l C Cx M enc) (hx : evo fr x = some (yv l)) (hvs : evs fr xs = some vs)
    (he : vs = enc i) (hi : i < M) (hc : C i c) (hp : Γ.Perm (c ++ Γ2)) (hd : dstOk n d = true) (ht : ∀ c', C (i + 1) c' → N (putF d (.bool true) fr) (c' ++ Γ2)) (hf' : ∀ c', Cx c' → N (putF d (.bool false) fr) (c' ++ Γ2)) :
    Hv P none w0 X n df ⟨d, .call { callee := .value x, args := xs.toArray, argTypes := ts }, ty, ps, af, g⟩ N fr Γ := fun a w hs hf hdf next Q hk => by
  have hs' := hs.perm hp
  obtain ⟨fn, tm, asg, body, hy, hr⟩ := hY i hi c w hc hs'.left.sep
  have hrun : (execOp a.eval ⟨d, .call { callee := .value x, args := xs.toArray, argTypes := ts }, ty, ps, af, g⟩).run P w = .ok (.round l fn tm asg body) w := by
    have e : xs.toArray.map a.eval = vs.toArray := by rw [← evs_sound hf hvs]; simp
    rw [← he] at hy
    simp [execOp, resolve, evo_sound hf hx, yv, Deferred.ofValue, invoke, e, hy]
  refine ⟨fun _ _ => trivial, ?_⟩
  rw [Oper.semAt_eq _ _ _ (fun _ => by simp), hrun]
  refine ⟨fun hh => by simp [FW] at hh, ?_⟩
  refine RoundIn.mono hr ?_
  rintro e w' (⟨rfl, c', h1, h2⟩ | ⟨rfl, c', h1, h2⟩)
  · exact hk _ _ _ _ (hs'.call h2) (hf.put _ hd _) (by cases d <;> exact hdf) (ht c' h1)
  · exact hk _ _ _ _ (hs'.call h2) (hf.put _ hd _) (by cases d <;> exact hdf) (hf' c' h1)
end
section
variable {P : Program} {w0 : World} {X : List Nat} {n : Nat} {df : List Deferred} {fr : Fr} {Γ : List It} {d : Option Tmp} {ty : TypeId} {ps : String} {af : Array Edge} {g : Option (Nat × Bool)} {N : Kont}
theorem Hv_yieldR {x : Operand} {l M : Nat} {xs : List Operand} {vs : List Value} {ts : Array TypeId} {C : Nat → List It → Prop} {Cx : List It → Prop} {enc : Nat → List Value} {c Γ2 : List It} {i : Nat} (hY : Yc P l C Cx M enc) (hx : evo fr x = some (yv l)) (hvs : evs fr xs = some vs)
    (hp : Γ = Γ2 ++ c) (hd : dstOk n d = true) (hc : C i c) (hi : i < M) (he : vs = enc i) (ht : ∀ c', C (i + 1) c' → N (putF d (.bool true) fr) (Γ2 ++ c')) (hf' : ∀ c', Cx c' → N (putF d (.bool false) fr) (Γ2 ++ c'))
    (hN : ∀ fr Γ Γ', Γ.Perm Γ' → N fr Γ' → N fr Γ) :
    Hv P none w0 X n df ⟨d, .call { callee := .value x, args := xs.toArray, argTypes := ts }, ty, ps, af, g⟩ N fr Γ :=
  Hv_yield hY hx hvs he hi hc (by rw [hp]; exact List.perm_append_comm) hd (fun c' h => hN _ _ _ List.perm_append_comm (ht c' h)) (fun c' h => hN _ _ _ List.perm_append_comm (hf' c' h))
end
/-! ### raw ends -/
abbrev mkD (D : Nat) : Deferred := { target := .collected D, args := #[] }
abbrev mkI (D : Nat) : It := obj D (.deferred (some []))
def At (w0 : World) (X : List Nat) (n : Nat) (df : List Deferred) (fr : Fr) (Γ : List It) (p : Act → World → Prop) : Prop := ∀ a w, St w0 X Γ w → Fits n fr a.tmps → a.defers = df → p a w
def WQ (P : Program) (r : Option Nat) (w0 : World) (X : List Nat) (n : Nat) (df : List Deferred) (c : Code) (Qr : Exit → Act → World → Prop) (fr : Fr) (Γ : List It) : Prop := At w0 X n df fr Γ (c.wpIn (FW r) 0 P Qr)
def QP (w0 : World) (X : List Nat) (n : Nat) (df : List Deferred) (Qr : Exit → Act → World → Prop) : Post := fun e fr Γ => At w0 X n df fr Γ (Qr e)
section
variable {P : Program} {r : Option Nat} {w0 : World} {X : List Nat} {n : Nat} {df : List Deferred} {K : Kont} {fr : Fr} {Γ : List It} {x y : Code} {Qr : Exit → Act → World → Prop}
theorem At.pre {fr' : Fr} {Γ' : List It} {p : Act → World → Prop} (h : At w0 X n df fr' Γ' p) (hf : Sub fr' fr) (hg : ∃ R, Γ.Perm (Γ' ++ R)) : At w0 X n df fr Γ p := fun a w hs hF hd => by
  obtain ⟨R, hp⟩ := hg
  exact h a w (hs.perm hp).left (hF.sub hf) hd
theorem WQ_of (h : W P r w0 X n df x (fun fr Γ => At w0 X n df fr Γ (Qr .normal)) (QP w0 X n df Qr) fr Γ) : WQ P r w0 X n df x Qr fr Γ := fun a w hs hf hd => by
  refine wpIn_mono (h a w hs hf hd) ?_
  rintro e a' w' ⟨fr', Γ', h1, h2, h3, h4⟩
  cases e <;> first | exact h4 a' w' h1 h2 h3 | exact h4.elim
theorem WQ_seq (h : W P r w0 X n df x (fun fr Γ => WQ P r w0 X n df y Qr fr Γ) (QP w0 X n df Qr) fr Γ) : WQ P r w0 X n df (.seq x y) Qr fr Γ := fun a w hs hf hd => by
  refine wpIn_seq (wpIn_mono (h a w hs hf hd) ?_)
  rintro e a' w' ⟨fr', Γ', h1, h2, h3, h4⟩
  cases e <;> first | exact h4 a' w' h1 h2 h3 | exact h4.elim
theorem WQ_seq2 (h : WQ P r w0 X n df x (Exit.then (y.wpIn (FW r) 0 P Qr) Qr) fr Γ) : WQ P r w0 X n df (.seq x y) Qr fr Γ := fun a w hs hf hd => wpIn_seq (h a w hs hf hd)
theorem WQ_block {id : Nat} (h : WQ P r w0 X n df x (Exit.inBlock id Qr) fr Γ) : WQ P r w0 X n df (.block id x) Qr fr Γ := fun a w hs hf hd => wpIn_block (h a w hs hf hd)
theorem WQ_at {id : Nat} (h : WQ P none w0 X n df y Qr fr Γ) : At w0 X n df fr Γ (Exit.inBlock id (Exit.then (y.wpIn (FW none) 0 P Qr) Qr) .normal) := h
theorem WQ_nilrow (t : TypeId) (sz : Nat) (h : WQ P r w0 X n df x Qr fr (It.row (.slice none 0 0) t sz 0 [] :: Γ)) : WQ P r w0 X n df x Qr fr Γ := fun a w hs => h a w (hs.nilrow t sz)
theorem WQ_ret (h : At w0 X n df fr Γ (Qr .ret)) : WQ P r w0 X n df .ret Qr fr Γ := fun a w hs hf hd => wpIn_ret (h a w hs hf hd)
end
/-! ### a function with marks -/
def QF (P : Program) (rs : List ResultVar) (n : Nat) (w0 : World) (X : List Nat) (R : Value → List It → Prop) : Exit → Act → World → Prop := fun e a w =>
  (e = .normal ∨ e = .ret) ∧ ∃ (M : List Nat) (fr : Fr) (Γ' : List It), St w0 X (M.map mkI ++ Γ') w ∧ Fits n fr a.tmps ∧ a.defers = M.map mkD ∧ Fin P rs R fr Γ'
theorem QF_end {P : Program} {rs : List ResultVar} {n : Nat} {w0 : World} {X : List Nat} {R : Value → List It → Prop} {e : Exit} {fr : Fr} {Γ Γ' : List It} (M : List Nat) (he : e = .normal ∨ e = .ret) (hp : Γ.Perm (M.map mkI ++ Γ')) (h : Fin P rs R fr Γ') :
    At w0 X n (M.map mkD) fr Γ (QF P rs n w0 X R e) := fun a w hs hf hd => ⟨he, M, fr, Γ', hs.perm hp, hf, hd, h⟩
theorem QF_mid {P : Program} {rs : List ResultVar} {n : Nat} {w0 : World} {X : List Nat} {R : Value → List It → Prop} {fr : Fr} {D : Nat} {x i : It} {Kw Z : List It} (h : ∀ D', Fin P rs R fr (i :: D')) :
    At w0 X n [mkD D] fr (mkI D :: (x :: (Kw ++ (i :: Z)))) (QF P rs n w0 X R .ret) :=
  QF_end [D] (Γ' := i :: x :: (Kw ++ Z)) (.inr rfl) (List.Perm.cons _ ((List.Perm.cons _ List.perm_middle).trans (List.Perm.swap _ _ _))) (h _)
theorem QF_ret0 {P : Program} {rs : List ResultVar} {n : Nat} {w0 : World} {X : List Nat} {R : Value → List It → Prop} {fr : Fr} {Γ : List It} (h : Fin P rs R fr Γ) : QP w0 X n [] (QF P rs n w0 X R) .ret fr Γ := QF_end [] (.inr rfl) (List.Perm.refl _) h
theorem marks_leave {P : Program} {fn : Func} {n : Nat} {rs : List ResultVar} {w0 : World} {X : List Nat} {R : Value → List It → Prop} {fr : Fr} {Γ' : List It} {t : Array Value} (hr : fn.results = rs.toArray) (hf : Fits n fr t) (hF : Fin P rs R fr Γ') :
    ∀ (M : List Nat) (w : World), St w0 X (M.map mkI ++ Γ') w → LeavesInM (FW none) 0 P fn t (fun e w' => ∃ v Γ', e = .returned v ∧ R v Γ' ∧ St w0 X Γ' w') (M.map mkD) .returning w
  | [], w, hs => by
    obtain ⟨vs, Γ2, hR, hR2, D, hp⟩ := hF
    exact ⟨_, results_run hr hf hs hR, _, _, rfl, hR2, (hs.perm hp).left⟩
  | D :: M, w, hs => by
    refine ⟨by simp, .inl ⟨D, _, rfl, run_takeDeferred hs.obj_heap, ?_⟩⟩
    exact marks_leave hr hf hF M _ (hs.putObj _).tl
theorem TrD_intro {P : Program} {f : FuncId} {fn : Func} {c : Code} {args : List Value} {w : World} {Γ : List It} {R : Value → List It → Prop} {rs : List ResultVar} (hf : P.funcs[f]? = some fn) (hb : fn.body = some c)
    (hr : fn.results = rs.toArray) (n : Nat) (hn : fn.ntmps = n) (hle : Nat.ble args.length n = true)
    (h : WQ P none w (fps Γ) n [] c (QF P rs n w (fps Γ) R) (start n args) Γ) : Tr P f args.toArray w Γ R := fun hs => by
  refine (callsIn_wide (n := 0)).1 (callsIn_of_wp_marks (F := FW none) hf hb trivial (wpIn_mono (h _ w hs.st ?_ rfl) ?_) rfl)
  · have hle := Nat.le_of_ble_eq_true hle
    refine ⟨by simp [hn]; omega, fun i v hi => ?_⟩
    obtain ⟨_, h2⟩ := look_start _ 0 i v hi
    rw [hn]
    have e : args.toArray ++ Array.replicate (n - args.toArray.size) undef = (args ++ List.replicate (n - args.length) undef).toArray := by simp [← List.toArray_replicate]
    rw [e]
    simpa using h2
  · rintro e a w' ⟨he, M, fr, Γ', h1, h2, h3, h4⟩
    rcases he with rfl | rfl
    · show LeavesInM _ _ _ _ _ _ _ _ _
      rw [h3]; exact marks_leave hr h2 h4 M w' h1
    · show LeavesInM _ _ _ _ _ _ _ _ _
      rw [h3]; exact marks_leave hr h2 h4 M w' h1
/-! ### the loop -/
def bindF : List Nat → List Value → Fr → Fr
  | p :: ps, v :: vs, fr => bindF ps vs ((p, v) :: fr)
  | _, _, fr => fr
theorem Fits.set {n : Nat} {fr : Fr} {t : Array Value} (h : Fits n fr t) {d : Nat} (hd : d < n) (v : Value) : Fits n ((d, v) :: fr) (t.setIfInBounds d v) :=
  Fits.put (a := { tmps := t, defers := [] }) h (some d) (by simpa [dstOk, Nat.blt_eq] using hd) v
theorem Fits.bind {n : Nat} : ∀ (ps : List Nat) (vs : List Value) (fr : Fr) (t : Array Value), Fits n fr t → (∀ p ∈ ps, p < n) → Fits n (bindF ps vs fr) ((ps.zip vs).foldl (fun t (p : Nat × Value) => t.setIfInBounds p.1 p.2) t)
  | [], _, _, _, h, _ => by simpa [bindF] using h
  | p :: ps, [], _, _, h, _ => by simpa [bindF] using h
  | p :: ps, v :: vs, fr, t, h, hl => by
    simp only [bindF, List.zip_cons_cons, List.foldl_cons]
    exact Fits.bind ps vs _ _ (h.set (hl p (List.mem_cons_self ..)) v) (fun q hq => hl q (List.mem_cons_of_mem _ hq))
theorem run_endLoop' {P : Program} {w : World} {l : Nat} {r : Loop} (h : w.heap[l]? = some (.loop r)) (hb : r.state ≠ .busy) : (Instr.endLoop l).run P w = .ok r.pending (w.putObj l (.loop { r with state := .exhausted })) := run_endLoop h hb
section
variable {P : Program} {w0 : World} {X : List Nat} {n : Nat} {df : List Deferred} {fr : Fr} {Γ : List It} {Qr : Exit → Act → World → Prop}
theorem WQ_range {f : Operand} {ps : List Tmp} {asg body : Code} {gf u : Nat} {lb : List Value} {N : Nat} {enc : Nat → List Value} {Kw Z : List It} {σ : Type} (T : Tab P) (hf : evo fr f = some (.func (.func gf) #[] lb.toArray)) (hfn : find2 T.fns gf = some u)
    (hit : ItC P gf lb Kw N enc) (hsz : ∀ i, (enc i).length = ps.length) (hps : ps.all (fun p => Nat.blt p n) = true) (G : σ → List It) (I : Nat → σ → Prop) (J : Code → List It → Prop) (s0 : σ) (h0 : I 0 s0) (hp : Γ.Perm (G s0 ++ (Kw ++ Z)))
    (round : ∀ i, i < N → ∀ s, I i s → ∀ l w1, W P (some l) w1 (fps (G s)) n [] asg (fun fr' Γ' => ∀ w2, W P (some l) w2 (fps Γ') n [] body (fun _ Γ'' => ∃ s', I (i + 1) s' ∧ ∃ R, Γ''.Perm (G s' ++ R))
      (fun e _ Γ'' => match e with | .ret => J .ret Γ'' | .exit id => J (.exit id) Γ'' | _ => False) fr' Γ') (fun _ _ _ => False) (bindF ps (enc i) fr) (G s))
    (done : ∀ D s, I N s → At w0 X n (mkD D :: df) fr (mkI D :: (G s ++ (Kw ++ Z))) (Qr .normal))
    (stop : ∀ D c Γ', J c Γ' → At w0 X n (mkD D :: df) fr (mkI D :: (Γ' ++ (Kw ++ Z))) (c.wpIn (FW none) 0 P Qr)) :
    WQ P none w0 X n df (.rangeFunc f ps.toArray asg body) Qr fr Γ := fun a w hs hfit hdf => by
  have hen := AllP.mem T.fns_ok _ (find2_mem hfn)
  dsimp only at hen
  refine wpIn_rangeFunc ?_
  intro fn hFn
  obtain ⟨rec, hrec⟩ : ∃ rec : LoopState → Option Code → Loop, rec = fun st pe => { state := st, pending := pe, fn, tmps := a.tmps, params := ps.toArray, assign := asg, body, defers := w.heap.size } := ⟨_, rfl⟩
  have hs1 := ((hs.allocObj (.deferred (some []))).allocObj (.loop (rec .ready none)))
  obtain ⟨W1, hW1⟩ : ∃ W1, (w.alloc (.deferred (some []))).alloc (.loop (rec .ready none)) = W1 := ⟨_, rfl⟩
  rw [hW1, World.size_alloc] at hs1
  obtain ⟨D, hD⟩ : ∃ D, w.heap.size = D := ⟨_, rfl⟩
  obtain ⟨L, hL⟩ : ∃ L, D + 1 = L := ⟨_, rfl⟩
  rw [hD, hL] at hs1
  have hs2 : St w0 X ((obj L (.loop (rec .ready none)) :: mkI D :: G s0) ++ Kw ++ Z) W1 := hs1.perm (by
    simp only [List.cons_append, List.append_assoc]
    exact ((hp.cons _).cons _))
  refine ⟨L, [mkD D], W1, { target := .fn (.func gf) lb.toArray, args := #[yv L] }, W1, gf, (yv L :: lb).toArray, W1, ?_, ?_, fun _ _ => trivial, ?_, fun hh => by simp [FW] at hh, ?_⟩
  · have := run_enterLoop_outer (P := P) (w := w) fn a.tmps ps.toArray asg body
    rw [hD, hL] at this
    rw [← hW1, hrec, hD]; exact this
  · have hg := evo_sound hfit hf
    simp only [resolve, rangeCall, hg]
    simp [go_sem, yv]
  · simp [invoke, go_sem, hen]
  · have hY : Yc P L (fun i c => ∃ s, I i s ∧ c = obj L (.loop (rec .ready none)) :: mkI D :: G s) (fun c => ∃ cd Γx, J cd Γx ∧ c = obj L (.loop (rec .done (some cd))) :: mkI D :: Γx) N enc := by
      rintro i hi c w1 ⟨s, hI, rfl⟩ hsep
      have hst := hsep.st
      have hy := run_yield (P := P) (args := (enc i).toArray) hst.obj_heap (by rw [hrec]; simpa using hsz i)
      rw [hrec] at hy
      refine ⟨fn, _, asg, body, hy, roundIn_of_wpIn (F := FW none) hFn ?_⟩
      have hfitB : Fits n (bindF ps (enc i) fr) ((ps.toArray.zip (enc i).toArray).foldl (fun t (p : Nat × Value) => t.setIfInBounds p.1 p.2) a.tmps) := by
        have := Fits.bind ps (enc i) fr a.tmps hfit (fun p hp => by have := List.all_eq_true.1 hps p hp; simpa [Nat.blt_eq] using this)
        simpa using this
      have hx := fps (obj L (.loop (rec .ready none)) :: mkI D :: G s)
      have hG : St w1 (fps (obj L (.loop (rec .ready none)) :: mkI D :: G s)) (G s ++ [obj L (.loop (rec .ready none)), mkI D]) w1 := hst.perm (List.perm_append_comm (l₁ := [obj L (.loop (rec .ready none)), mkI D]))
      refine wpIn_mono (round i hi s hI L w1 { tmps := _, defers := [] } w1 hG.left.sep.st hfitB rfl) ?_
      rintro e a2 w2 ⟨fr2, Γ2, k1, k2, k3, k4⟩
      cases e with
      | normal =>
        have hs3 := (hG.call k1).comm
        refine ⟨_, run_beginRound hs3.obj_heap (by rw [hrec]), ?_⟩
        have hs4 := St.putObj hs3 (.loop { rec .ready none with state := .busy })
        have hs5 : St w1 (fps (obj L (.loop (rec .ready none)) :: mkI D :: G s)) (Γ2 ++ [obj L (.loop { rec .ready none with state := .busy }), mkI D]) (w2.putObj L (.loop { rec .ready none with state := .busy })) :=
          St.comm (A := [obj L (.loop { rec .ready none with state := .busy }), mkI D]) hs4
        refine wpIn_mono (k4 _ a2 _ hs5.left.sep.st k2 k3) ?_
        rintro e a3 w3 ⟨fr3, Γ3, m1, m2, m3, m4⟩
        have hs6 := (hs5.call m1).comm
        have fin : ∀ jump : Option Code, (Instr.endRound L jump).run P w3 = .ok (.bool jump.isNone) (w3.putObj L (.loop (rec (if jump.isNone then .ready else .done) jump))) ∧
            St w1 (fps (obj L (.loop (rec .ready none)) :: mkI D :: G s)) (obj L (.loop (rec (if jump.isNone then .ready else .done) jump)) :: mkI D :: Γ3) (w3.putObj L (.loop (rec (if jump.isNone then .ready else .done) jump))) := fun jump => by
          have h1 := run_endRound (P := P) jump hs6.obj_heap
          have h2 := St.putObj hs6 (.loop (rec (if jump.isNone then .ready else .done) jump))
          refine ⟨?_, h2⟩
          rw [hrec] at h1 ⊢; exact h1
        cases e with
        | normal =>
          obtain ⟨f1, f2⟩ := fin none
          obtain ⟨s', hI', R', hp'⟩ := m4
          refine ⟨_, _, f1, .inl ⟨rfl, _, ⟨s', hI', rfl⟩, ?_⟩⟩
          exact St.left (B := R') (f2.perm ((hp'.cons _).cons _))
        | ret => obtain ⟨f1, f2⟩ := fin (some .ret); exact ⟨_, _, f1, .inr ⟨rfl, _, ⟨_, _, m4, rfl⟩, f2⟩⟩
        | exit id => obtain ⟨f1, f2⟩ := fin (some (.exit id)); exact ⟨_, _, f1, .inr ⟨rfl, _, ⟨_, _, m4, rfl⟩, f2⟩⟩
        | goto t => exact m4.elim
        | panic ch => exact m4.elim
        | outgrown => exact m4.elim
      | ret => exact k4.elim
      | exit id => exact k4.elim
      | goto t => exact k4.elim
      | panic ch => exact k4.elim
      | outgrown => exact k4.elim
    have hT := hit L _ _ hY W1 _ ⟨s0, h0, rfl⟩ hs2.left.sep
    refine CallsIn.mono (F := FW none) (R := fun e w' => ∃ v Γ', e = .returned v ∧ (∃ c', ((∃ s, I N s ∧ c' = obj L (.loop (rec .ready none)) :: mkI D :: G s) ∨ (∃ cd Γx, J cd Γx ∧ c' = obj L (.loop (rec .done (some cd))) :: mkI D :: Γx)) ∧ Γ' = c' ++ Kw) ∧
      St W1 (fps ((obj L (.loop (rec .ready none)) :: mkI D :: G s0) ++ Kw)) Γ' w') ((callsIn_wide (n := 0 - 1)).2 hT) ?_
    rintro e w' ⟨v, Γ', rfl, ⟨c', hc, rfl⟩, hst⟩
    have hs7 := hs2.call hst
    rcases hc with ⟨s, hI, rfl⟩ | ⟨cd, Γx, hJ, rfl⟩
    · have h1 := run_endLoop (P := P) (w := w') (l := L) (r := rec .ready none) hs7.obj_heap (by rw [hrec]; simp)
      have h2 := (St.putObj hs7 (.loop { rec .ready none with state := .exhausted })).tl
      have e : (rec .ready none).pending = none := by rw [hrec]
      refine ⟨none, _, h1.trans (congrArg (fun x => Result.ok x _) e), ?_⟩
      exact done D s hI { a with defers := [mkD D] ++ a.defers } _ (by simpa [List.append_assoc] using h2) hfit (by simp [hdf])
    · have h1 := run_endLoop (P := P) (w := w') (l := L) (r := rec .done (some cd)) hs7.obj_heap (by rw [hrec]; simp)
      have h2 := (St.putObj hs7 (.loop { rec .done (some cd) with state := .exhausted })).tl
      have e : (rec .done (some cd)).pending = some cd := by rw [hrec]
      refine ⟨some cd, _, h1.trans (congrArg (fun x => Result.ok x _) e), ?_⟩
      exact stop D cd Γx hJ { a with defers := [mkD D] ++ a.defers } _ (by simpa [List.append_assoc] using h2) hfit (by simp [hdf])
end
end Go.Sx
/- A small calculus of triples. Part 8: slices as arguments. -/
namespace Go.Sx
open Go.RowKit
set_option linter.unusedVariables false
set_option linter.unusedSimpArgs false
/-- a slice that a call may read: where it lies, how long it is, what stands there. -/
structure SlO (w : World) (X : List Nat) (A : Option Addr) (n cap : Nat) (cs : List Value) : Prop where
  rd : RdO w X A cs
  nil : A = none → n = 0 ∧ cap = 0
  le : n ≤ cap
  max : n ≤ 9223372036854775807
section
variable {w0 w : World} {X : List Nat} {K : List It} {A : Option Addr} {n cap : Nat} {cs : List Value}
theorem SlO.call (h : SlO w0 X A n cap cs) (hs : St w0 X K w) : SlO w [] A n cap cs := ⟨(h.rd.rd K).call hs, h.nil, h.le, h.max⟩
theorem row_nil {v : Value} {e : TypeId} {sz : Nat} (hs : St w0 X K w) (hm : It.row (.slice A n cap) e sz n cs ∈ K) : A = none → n = 0 ∧ cap = 0 := by
  rcases (hs.row_own hm).2 with ⟨h1, h2⟩ | ⟨g, cap', cur, h1, _⟩
  · cases h1; exact fun _ => ⟨rfl, rfl⟩
  · cases h1; exact fun h => by cases h
theorem SlO.row {e : TypeId} {sz : Nat} (hs : St w0 X K w) (hm : It.row (.slice A n cap) e sz n cs ∈ K) : SlO w [] A n cap cs := by
  obtain ⟨h1, h2, h3, h4⟩ := hs.row_fact hm
  exact ⟨(RdA.row hm (fun h => (h1 h).1)).call hs, row_nil (v := .slice A n cap) hs hm, h3, h4⟩
/-- part of a slice's row: the first of its elements. -/
theorem SlO.tk (h : SlO w X A n cap cs) {m : Nat} (hm : m ≤ n) (hA : A = none → True) (j : Nat) (hj : (cs.take j).length = (cs.take j).length) : SlO w X A m cap (cs.take j) := ⟨fun hne => by
  have hne0 : cs ≠ [] := fun e => hne (by simp [e])
  obtain ⟨a, h1, h2⟩ := h.rd hne0
  exact ⟨a, h1, h2.cells.take j, fun _ => h2.lt hne0, h2.nx⟩, fun e => ⟨by have := (h.nil e).1; omega, (h.nil e).2⟩, Nat.le_trans hm h.le, Nat.le_trans hm h.max⟩
end
theorem cells_all {α : Type} (c : Cod α) (h : ∀ x, (c.enc x).all Value.oneCell' = true) (l : List α) : (c.cells l).all Value.oneCell' = true := by
  induction l with
  | nil => rfl
  | cons x l ih => rw [cells_cons, List.all_append, h, ih]; rfl
theorem perm_pick : ∀ {Γ : List It} (k : Nat) {i : It}, Γ[k]? = some i → Γ.Perm ([i] ++ Γ.eraseIdx k)
  | x :: Γ, 0, i, h => by simp at h; subst h; exact List.Perm.refl _
  | x :: Γ, k + 1, i, h => by
    have := perm_pick (Γ := Γ) k (i := i) (by simpa using h)
    exact (List.Perm.cons x this).trans (List.Perm.swap _ _ _)
/-! ### a loop about a range over a function -/
section
variable {P : Program} {w0 : World} {X : List Nat} {n : Nat} {fr : Fr} {Γ : List It} {Qr : Exit → Act → World → Prop}
/-- what holds at a round's end: marks and all. -/
def Rnd (w0 : World) (X : List Nat) (n : Nat) {σ : Type} (F : σ → Fr) (G : σ → List It) (I : σ → Prop) (Qr : Exit → Act → World → Prop) : Exit → Act → World → Prop
  | .normal, a, w => ∃ (s' : σ) (M : List Nat), I s' ∧ a.defers = M.map mkD ∧ St w0 X (G s' ++ M.map mkI) w ∧ Fits n (F s') a.tmps
  | e, a, w => Qr e a w
theorem WQ_loop {σ : Type} (F : σ → Fr) (G : σ → List It) (I : σ → Prop) (m : σ → Nat) {c : Code} (s0 : σ) (h0 : I s0) (hf0 : Sub (F s0) fr) (hg0 : ∃ R, Γ.Perm (G s0 ++ R))
    (round : ∀ s, I s → ∀ M : List Nat, WQ P none w0 X n (M.map mkD) c (Rnd w0 X n F G (fun s' => I s' ∧ m s' < m s) Qr) (F s) (G s ++ M.map mkI)) : WQ P none w0 X n [] (.loop c) Qr fr Γ := fun a w hs hf hd => by
  obtain ⟨V, hV⟩ : ∃ V : σ → Act → World → Prop, V = fun s a w => I s ∧ ∃ M : List Nat, a.defers = M.map mkD ∧ St w0 X (G s ++ M.map mkI) w ∧ Fits n (F s) a.tmps := ⟨_, rfl⟩
  obtain ⟨R, hp⟩ := hg0
  refine wpIn_loop (fun a w => ∃ s, V s a w) (fun a w => lowest fun k => ∃ s, V s a w ∧ m s = k) ⟨s0, by rw [hV]; exact ⟨h0, [], hd, by simpa using (hs.perm hp).left, hf.sub hf0⟩⟩ ?_
  rintro a w ⟨s1, hs1⟩
  obtain ⟨⟨s, hs2, hm⟩, hle⟩ := lowest_spec (p := fun k => ∃ s, V s a w ∧ m s = k) ⟨s1, hs1, rfl⟩
  have hs3 := hs2
  rw [hV] at hs3
  obtain ⟨hI, M, hdf, hst, hfit⟩ := hs3
  refine wpIn_mono (round s hI M a w hst hfit hdf) ?_
  rintro e a' w' h
  cases e with
  | normal =>
    obtain ⟨s', M', ⟨hI', hlt⟩, h1, h2, h3⟩ := h
    have hV' : V s' a' w' := by rw [hV]; exact ⟨hI', M', h1, h2, h3⟩
    refine ⟨⟨s', hV'⟩, ?_⟩
    have := (lowest_spec (p := fun k => ∃ s, V s a' w' ∧ m s = k) ⟨s', hV', rfl⟩).2
    rw [← hm]
    exact Nat.lt_of_le_of_lt this hlt
  | _ => exact h
theorem Rnd_end {σ : Type} {F : σ → Fr} {G : σ → List It} {I : σ → Prop} (s' : σ) (M : List Nat) (hI : I s') (hf : Sub (F s') fr) (hp : ∃ R, Γ.Perm ((G s' ++ M.map mkI) ++ R)) : At w0 X n (M.map mkD) fr Γ (Rnd w0 X n F G I Qr .normal) := fun a w hs hF hd => by
  obtain ⟨R, hp⟩ := hp
  exact ⟨s', M, hI, hd, (hs.perm hp).left, hF.sub hf⟩
theorem QP_exit {σ : Type} {F : σ → Fr} {G : σ → List It} {I : σ → Prop} {id : Nat} {df : List Deferred} (h : At w0 X n df fr Γ (Qr .normal)) : QP w0 X n df (Rnd w0 X n F G I (Exit.inBlock id Qr)) (.exit id) fr Γ := fun a w hs hf hd => by
  show (if id = id then _ else _)
  rw [if_pos rfl]; exact h a w hs hf hd
theorem At_exit {id : Nat} {df : List Deferred} (h : At w0 X n df fr Γ (Qr .normal)) : At w0 X n df fr Γ ((Code.exit id).wpIn (FW none) 0 P (Exit.inBlock id Qr)) := fun a w hs hf hd => wpIn_exit (by simpa [Exit.inBlock] using h a w hs hf hd)
theorem At_out {id : Nat} {df : List Deferred} (h : At w0 X n df fr Γ (Qr .normal)) : At w0 X n df fr Γ (Exit.inBlock id Qr (.exit id)) := fun a w hs hf hd => by simpa [Exit.inBlock] using h a w hs hf hd
theorem At_then {df : List Deferred} {y : Code} (h : WQ P none w0 X n df y Qr fr Γ) : At w0 X n df fr Γ (Exit.then (y.wpIn (FW none) 0 P Qr) Qr .normal) := h
theorem At_in {id : Nat} {df : List Deferred} (h : At w0 X n df fr Γ (Qr .normal)) : At w0 X n df fr Γ (Exit.inBlock id Qr .normal) := h
theorem At_perm {df : List Deferred} {Γ' : List It} {p : Act → World → Prop} (hp : Γ.Perm Γ') (h : At w0 X n df fr Γ' p) : At w0 X n df fr Γ p := fun a w hs hf hd => h a w (hs.perm hp) hf hd
theorem WQ_perm {df : List Deferred} {Γ' : List It} {c : Code} (hp : Γ.Perm Γ') (h : WQ P none w0 X n df c Qr fr Γ') : WQ P none w0 X n df c Qr fr Γ := At_perm hp h
end
end Go.Sx
/- A small calculus of triples. Part 9: makeSlice, equality of structs, nilCheck. -/
namespace Go.Sx
open Go.RowKit
set_option linter.unusedVariables false
set_option linter.unusedSimpArgs false

/-! ### equality of structs, field by field -/
def eqL (d : Nat) (xs ys : Array Value) : List (TypeId × Nat) → Sem Bool
  | [] => pure true
  | (t, o) :: r => do
    let a ← part t xs o
    let b ← part t ys o
    let q ← Op.equalIn d t a b
    if (!q) = true then pure false else eqL d xs ys r
def fieldsI (P : Program) (t : TypeId) : Option (List (TypeId × Nat)) := match P.underlying t with
  | some (.struct fs) => if P.stoodInHeld t || P.eqGuardType P.depth t || fs.toList.any (fun f => f.name == "_") then none else some (fs.toList.map fun f => (f.type, f.offset))
  | _ => none
section
variable {P : Program} {w : World} {d : Nat} {t : TypeId} {xs ys : Array Value} {fl r : List (TypeId × Nat)} {o : Nat} {q : Bool}
theorem eqFields_eq : ∀ (fs : List Field), fs.any (fun f => f.name == "_") = false → Op.eqFields d xs ys fs = eqL d xs ys (fs.map fun f => (f.type, f.offset))
  | [], _ => rfl
  | f :: fs, h => by
    simp only [List.any_cons, Bool.or_eq_false_iff, beq_eq_false_iff_ne] at h
    simp only [Op.eqFields, List.map_cons, eqL]
    rw [if_pos h.1, eqFields_eq fs h.2]
theorem equalIn_struct (h : fieldsI P t = some fl) : (Op.equalIn (d + 1) t (.agg xs) (.agg ys)).run P w = (eqL d xs ys fl).run P w := by
  unfold fieldsI at h
  cases hu : P.underlying t with
  | none => simp [hu] at h
  | some k =>
    cases k <;> simp [hu] at h
    rename_i fs
    obtain ⟨⟨⟨h1, h2⟩, h3⟩, h4⟩ := h
    have hf : P.fieldsOf t = fs := by simp [Program.fieldsOf, hu]
    rw [run_equalIn_struct w d t xs ys (by rw [hf]; exact hu) h1, hf, eqFields_eq, ← h4]
    simpa using h3
theorem eqGuard_struct (h : fieldsI P t = some fl) (op : BinOp) (x y : Operand) : (eqGuard op t x y (.agg xs) (.agg ys)).run P w = .ok () w := by
  unfold fieldsI at h
  cases hu : P.underlying t with
  | none => simp [hu] at h
  | some k =>
    cases k <;> simp [hu] at h
    exact run_eqGuard_agg w op t x y xs ys h.1.1.2
theorem eqL_nil : (eqL d xs ys []).run P w = .ok true w := by simp [eqL]
theorem eqL_int {k : IntKind} {a b : Int} (hu : P.underlying t = some (.int k)) (hx : xs[o]? = some (.int k a)) (hy : ys[o]? = some (.int k b)) (hr : (eqL (d + 1) xs ys r).run P w = .ok q w) : (eqL (d + 1) xs ys ((t, o) :: r)).run P w = .ok (decide (a = b) && q) w := by
  have hp : ∀ {zs : Array Value} {c : Int}, zs[o]? = some (.int k c) → (part t zs o).run P w = .ok (.int k c) w := fun h => by simp [part, isAgg, run_underlying hu, h]
  simp only [eqL, Sem.run_bind, hp hx, hp hy, Result.andThen_ok, run_equalIn_int w d t k k a b hu]
  by_cases hab : a = b
  · simp [hab, hr]
  · simp [hab]
theorem eqL_bool {a b : Bool} (hu : P.underlying t = some .bool) (hx : xs[o]? = some (.bool a)) (hy : ys[o]? = some (.bool b)) (hr : (eqL (d + 1) xs ys r).run P w = .ok q w) : (eqL (d + 1) xs ys ((t, o) :: r)).run P w = .ok (decide (a = b) && q) w := by
  have hp : ∀ {zs : Array Value} {c : Bool}, zs[o]? = some (.bool c) → (part t zs o).run P w = .ok (.bool c) w := fun h => by simp [part, isAgg, run_underlying hu, h]
  simp only [eqL, Sem.run_bind, hp hx, hp hy, Result.andThen_ok, run_equalIn_bool' w d t a b hu]
  by_cases hab : a = b
  · simp [hab, hr]
  · simp [hab]
theorem eqL_sub {m : Nat} {b : Bool} {us vs : Array Value} (hl : ldInfo P t = some (true, m)) (hx : xs.extract o (o + m) = us) (hy : ys.extract o (o + m) = vs) (he : (Op.equalIn d t (.agg us) (.agg vs)).run P w = .ok b w) (hr : (eqL d xs ys r).run P w = .ok q w) :
    (eqL d xs ys ((t, o) :: r)).run P w = .ok (b && q) w := by
  have hp : ∀ (zs : Array Value), (part t zs o).run P w = .ok (.agg (zs.extract o (o + m))) w := fun zs => by
    have h1 := run_agg hl w
    have h2 := run_size hl w
    simp [part, h1, h2]
  simp only [eqL, Sem.run_bind, hp, Result.andThen_ok, hx, hy, he]
  cases b <;> simp [hr]
end
section
variable {P : Program} {w0 : World} {X : List Nat} {n : Nat} {fr : Fr} {Γ : List It} {d : Option Tmp} {ty : TypeId} {ps : String} {af : Array Edge} {g : Option (Nat × Bool)}
/-- == of two structs: what equalIn says. -/
def EqS (P : Program) (t : TypeId) (us vs : List Value) (b : Bool) : Prop := ∀ d w, (Op.equalIn (d + 8) t (.agg us.toArray) (.agg vs.toArray)).run P w = .ok b w
theorem Yl_eqS {t t' : TypeId} {x y : Operand} {us vs : List Value} {b : Bool} {fl : List (TypeId × Nat)} (hx : evo fr x = some (.agg us.toArray)) (hy : evo fr y = some (.agg vs.toArray)) (hf : fieldsI P t = some fl) (h : EqS P t us vs b) :
    Yl P w0 X n fr Γ ⟨d, .binOp .eql t x y t', ty, ps, af, g⟩ (.bool b) := Yl_bin hx hy fun w => by
  simp only [Sem.run_bind, eqGuard_struct hf, Result.andThen_ok]
  rw [run_eql_struct, h 9992 w]; rfl
theorem Yl_neS {t t' : TypeId} {x y : Operand} {us vs : List Value} {b : Bool} {fl : List (TypeId × Nat)} (hx : evo fr x = some (.agg us.toArray)) (hy : evo fr y = some (.agg vs.toArray)) (hf : fieldsI P t = some fl) (h : EqS P t us vs b) :
    Yl P w0 X n fr Γ ⟨d, .binOp .neq t x y t', ty, ps, af, g⟩ (.bool !b) := Yl_bin hx hy fun w => by
  simp only [Sem.run_bind, eqGuard_struct hf, Result.andThen_ok]
  rw [run_neq_struct, h 9992 w]; rfl
theorem Yl_eqB {t t' : TypeId} {x y : Operand} {a b : Bool} (hx : evo fr x = some (.bool a)) (hy : evo fr y = some (.bool b)) (hu : P.underlying t = some .bool) : Yl P w0 X n fr Γ ⟨d, .binOp .eql t x y t', ty, ps, af, g⟩ (.bool (a == b)) := Yl_bin hx hy fun w => by
  simp only [Sem.run_bind]
  have : (eqGuard .eql t x y (.bool a) (.bool b)).run P w = .ok () w := by simp [eqGuard]
  rw [this, Result.andThen_ok, run_eql_bool w t a b hu]
theorem Yl_neB {t t' : TypeId} {x y : Operand} {a b : Bool} (hx : evo fr x = some (.bool a)) (hy : evo fr y = some (.bool b)) (hu : P.underlying t = some .bool) : Yl P w0 X n fr Γ ⟨d, .binOp .neq t x y t', ty, ps, af, g⟩ (.bool (a != b)) := Yl_bin hx hy fun w => by
  simp only [Sem.run_bind]
  have : (eqGuard .neq t x y (.bool a) (.bool b)).run P w = .ok () w := by simp [eqGuard]
  rw [this, Result.andThen_ok]
  simp [binOp, Op.equal, Op.maxDepth, run_equalIn_bool' w 9999 t a b hu, bne]
theorem Yl_mul {t t' : TypeId} {x y : Operand} {i j : Int} (hx : evo fr x = some (.int .i64 i)) (hy : evo fr y = some (.int .i64 j)) (h0 : -9223372036854775808 ≤ i * j) (h1 : i * j ≤ 9223372036854775807) : Yl P w0 X n fr Γ ⟨d, .binOp .mul t x y t', ty, ps, af, g⟩ (.int .i64 (i * j)) := by
  have := Yl_mulw (P := P) (w0 := w0) (X := X) (n := n) (Γ := Γ) (d := d) (ty := ty) (ps := ps) (af := af) (g := g) (t := t) (t' := t') hx hy
  rwa [wrap_i64 h0 h1] at this
theorem Yl_nilCheckP {x : Operand} {a : Addr} (hx : evo fr x = some (.pointer (some a))) : Yl P w0 X n fr Γ ⟨d, .nilCheck x, ty, ps, af, g⟩ (.pointer (some a)) := ⟨fun _ => by simp, fun ac hf w hs => by simp [execOp, evo_sound hf hx]⟩
theorem equalIn_fn {P : Program} {t : TypeId} {f : Nat} {fi ca : Array Value} {a b c} (hu : P.underlying t = some (.func a b c)) (d : Nat) (w : World) : (Op.equalIn (d + 1) t (.func (.func f) fi ca) .nilFunc).run P w = .ok false w := by
  simp [Op.equalIn, run_underlying hu]
theorem Yl_eqFn {t t' : TypeId} {x y : Operand} {fi ca : Array Value} {f : Nat} {u : Nat} (hx : evo fr x = some (.func (.func f) fi ca)) (hy : evo fr y = some .nilFunc) {a b c} (hu : P.underlying t = some (.func a b c)) :
    Yl P w0 X n fr Γ ⟨d, .binOp .eql t x y t', ty, ps, af, g⟩ (.bool false) := Yl_bin hx hy fun w => by
  simp only [Sem.run_bind]
  have : (eqGuard .eql t x y (.func (.func f) fi ca) .nilFunc).run P w = .ok () w := by simp [eqGuard]
  rw [this, Result.andThen_ok]
  have e1 : (binOp .eql t (.func (.func f) fi ca) .nilFunc).run P w = ((Op.equalIn 10000 t (.func (.func f) fi ca) .nilFunc).run P w).andThen fun b w' => .ok (.bool b) w' := by
    simp only [binOp]
    simp [Op.equal, Op.maxDepth]
  rw [e1, equalIn_fn hu 9999 w]; rfl
end
section
variable {P : Program} {r : Option Nat} {w0 : World} {X : List Nat} {n : Nat} {df : List Deferred} {N : Kont} {fr : Fr} {Γ : List It} {d : Option Tmp} {ty : TypeId} {ps : String} {af : Array Edge} {g : Option (Nat × Bool)}
theorem madeCells_rep (z : List Value) (m : Nat) (hz : 0 < z.length) : (madeCells z.toArray (m * z.length)).toList = (List.replicate m z).flatten := by
  have := zeros_eq z m hz
  unfold madeCells
  have h2 := congrArg Array.toList this
  simpa using h2
theorem Hv_makeSlice (T : Tab P) {t e : TypeId} {x y : Operand} {len sz by_ : Nat} {z : List Value} {k k' : IntKind} {i j : Int} (ht : find2 T.els t = some (e, sz, by_)) (hz : find2 T.zrs e = some z) (hzs : z.length = sz) (h0 : 0 < sz)
    (hx : evo fr x = some (.int k i)) (hy : evo fr y = some (.int k' j)) (hi : i = (len : Int)) (hj : j = (len : Int)) (hb : by_ * len ≤ 281474976710656) (hm : len ≤ 9223372036854775807) (hd : dstOk n d = true)
    (h : ∀ b, N (putF d (.slice (some ⟨b, 0, none⟩) len len) fr) (It.row (.slice (some ⟨b, 0, none⟩) len len) e sz len (List.replicate len z).flatten :: Γ)) :
    Hv P r w0 X n df ⟨d, .makeSlice t x y, ty, ps, af, g⟩ N fr Γ := Hv_val (fun _ => by simp) hd fun ac w hs hf => by
  obtain ⟨hu, inf, hinf, hi2, hi3⟩ := sliceInfo_elem (AllP.mem T.els_ok _ (find2_mem ht))
  obtain ⟨inf', zv, h1', h2', h3'⟩ := zero_run (AllP.mem T.zrs_ok _ (find2_mem hz))
  dsimp only at hu hinf h1' hi2 hi3
  rw [hinf] at h1'
  cases h1'
  subst hi hj
  obtain ⟨w', hr, hown, hg⟩ := run_make_full (P := P) w 0 t e inf zv sz hu hinf h2' hi2 k k' len (by rw [hi3]; exact hb) (by unfold maxLen; omega) (Nat.zero_le _)
  refine ⟨_, w', _, by simp [execOp, evo_sound hf hx, evo_sound hf hy, hr], ?_, h w.heap.size⟩
  refine St.upd (A := []) (A' := [It.row (.slice (some ⟨w.heap.size, 0, none⟩) len len) e sz len (List.replicate len z).flatten]) hs hg.os hg.tape hg.output hg.size (fun b hb _ => hg.block b hb (by simp)) (fun i hi => ?_) (by simp [fps, It.fp, Value.ownBlock]) (fun b hb => .inr (by simp [fps, It.fp, Value.ownBlock] at hb; omega))
  obtain rfl : i = _ := (by simpa using hi)
  refine hasRow_of ?_
  rw [h3', ← hzs, madeCells_rep z len (by omega), hzs] at hown
  exact hown
end
end Go.Sx
