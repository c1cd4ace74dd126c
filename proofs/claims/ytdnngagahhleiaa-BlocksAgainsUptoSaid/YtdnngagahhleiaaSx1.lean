/- A small calculus of triples: frames as association lists, memory as a list of items. Part 1: frames, items, states, the rules for code. -/
import Derived.WalkKit
import Derived.OrdersIn
import Derived.OwnWalkIn
import Derived.Deep.Draws
import Derived.RangeFuncRecord
import Derived.Laws.Rows
namespace Go.Sx
open Go.RowKit
set_option linter.unusedVariables false

theorem nbeq_ne {i j : Nat} (h : i ≠ j) : Nat.beq i j = false := by
  cases hb : Nat.beq i j
  · rfl
  · exact absurd (Nat.eq_of_beq_eq_true hb) h
/-! ### frames -/
abbrev Fr := List (Nat × Value)
def look : Fr → Nat → Option Value
  | [], _ => none
  | (k, v) :: r, i => bif Nat.beq k i then some v else look r i
structure Fits (n : Nat) (fr : Fr) (t : Array Value) : Prop where
  size : t.size = n
  get : ∀ i v, look fr i = some v → t[i]? = some v
def evo (fr : Fr) : Operand → Option Value
  | .tmp t => look fr t
  | .const v => some v
  | .global g => some (.pointer (some ⟨g, 0, none⟩))
  | .func f => some (.func (.func f) #[] #[])
theorem evo_sound {n : Nat} {fr : Fr} {a : Act} {x : Operand} {v : Value} (h : Fits n fr a.tmps) (he : evo fr x = some v) : a.eval x = v := by
  cases x with
  | tmp t => have := h.get t v he; simp [Act.eval, this]
  | const u => simpa [evo, Act.eval] using he
  | global g => simpa [evo, Act.eval] using he
  | func f => simpa [evo, Act.eval] using he
def putF (d : Option Tmp) (v : Value) (fr : Fr) : Fr := match d with | some d => (d, v) :: fr | none => fr
def dstOk (n : Nat) : Option Tmp → Bool | some d => Nat.blt d n | none => true
theorem Fits.put {n : Nat} {fr : Fr} {a : Act} (h : Fits n fr a.tmps) (d : Option Tmp) (hd : dstOk n d = true) (v : Value) : Fits n (putF d v fr) (a.put d v).tmps := by
  cases d with
  | none => exact h
  | some d =>
    have hd' : d < n := by simpa [dstOk, Nat.blt_eq] using hd
    refine ⟨by simp [Act.put, h.size], fun i u hi => ?_⟩
    simp only [putF, look] at hi
    by_cases hdi : d = i
    · subst hdi
      simp at hi
      subst hi
      simp [Act.put, h.size, hd']
    · have hb := nbeq_ne hdi
      rw [hb] at hi
      simp only [cond_false] at hi
      simp only [Act.put]
      rw [Array.getElem?_setIfInBounds_ne hdi]
      exact h.get i u hi
/-- fr' says no more than fr. -/
def Sub (fr' fr : Fr) : Prop := ∀ p ∈ fr', look fr p.1 = some p.2
theorem look_mem : ∀ {fr : Fr} {i : Nat} {v : Value}, look fr i = some v → (i, v) ∈ fr
  | (k, u) :: r, i, v, h => by
    simp only [look] at h
    by_cases hk : k = i
    · subst hk; simp at h; subst h; simp
    · have hb := nbeq_ne hk
      rw [hb] at h
      exact List.mem_cons_of_mem _ (look_mem h)
theorem Fits.sub {n : Nat} {fr fr' : Fr} {t : Array Value} (h : Fits n fr t) (hs : Sub fr' fr) : Fits n fr' t :=
  ⟨h.size, fun i v hi => h.get i v (hs _ (look_mem hi))⟩
theorem Sub.nil {fr : Fr} : Sub [] fr := fun _ h => by cases h
theorem Sub.cons {fr fr' : Fr} {i : Nat} {v : Value} (h : look fr i = some v) (hs : Sub fr' fr) : Sub ((i, v) :: fr') fr := fun p hp => by
  cases hp with
  | head => exact h
  | tail _ hp => exact hs p hp

/-! ### items of memory -/
/-- a slice of the call's own: nil, or the first of a block's cells; the block may be longer than the slice's capacity (a slice that was clipped). -/
def hasRow (w : World) (e : TypeId) (sz : Nat) (v : Value) (n : Nat) (xs : List Value) : Prop :=
  xs.length = n * sz ∧ ((v = .slice none 0 0 ∧ n = 0) ∨ ∃ g cap cur, v = .slice (some ⟨g, 0, none⟩) n cap ∧ 0 ≤ g ∧ w.heap[g]? = some (.cells cur e (0, 0)) ∧ n ≤ cap ∧ cap ≤ maxLen ∧ cap * sz ≤ cur.size ∧ cur.toList.take (n * sz) = xs)
theorem hasRow_of {w : World} {e : TypeId} {sz : Nat} {v : Value} {n : Nat} {xs : List Value} (h : w.ownsRow 0 e sz v n xs) : hasRow w e sz v n xs := by
  refine ⟨h.1, ?_⟩
  rcases h.2 with hn | ⟨g, cap, cur, h1, h2, h3, h4, h5, h6, h7⟩
  · exact .inl hn
  · exact .inr ⟨g, cap, cur, h1, h2, h3, h4, h5, Nat.le_of_eq h6.symm, h7⟩
theorem hasRow.lt {w : World} {e : TypeId} {sz : Nat} {v : Value} {n : Nat} {xs : List Value} (h : hasRow w e sz v n xs) : ∀ k, v.ownBlock = some k → k < w.heap.size := by
  intro k hk
  rcases h.2 with ⟨rfl, _⟩ | ⟨g, cap, cur, rfl, hb, hg, _⟩
  · simp [Value.ownBlock] at hk
  · simp [Value.ownBlock] at hk
    subst hk
    exact (Array.getElem?_eq_some_iff.1 hg).1
theorem hasRow.cells {w : World} {e : TypeId} {sz : Nat} {v : Value} {n : Nat} {xs : List Value} (h : hasRow w e sz v n xs) {g : Nat} (hg : v.ownBlock = some g) : ∀ j u, xs[j]? = some u → w.cell? ((⟨g, 0, none⟩ : Addr).add j) = some u := by
  intro j u hu
  rcases h.2 with ⟨rfl, _⟩ | ⟨g', cap, cur, rfl, _, hgg, _, _, _, htake⟩
  · simp [Value.ownBlock] at hg
  · simp [Value.ownBlock] at hg
    subst hg
    have hadd : (⟨g', 0, none⟩ : Addr).add j = ⟨g', j, none⟩ := by unfold Addr.add; split <;> simp_all
    rw [hadd, cell_of_row w g' j cur e (0, 0) hgg]
    rw [← htake, List.getElem?_take] at hu
    split at hu
    · simpa using hu
    · cases hu
/-- clipped: the capacity is less. -/
theorem hasRow.clip {w : World} {e : TypeId} {sz : Nat} {A : Option Addr} {n cap : Nat} {xs : List Value} (h : hasRow w e sz (.slice A n cap) n xs) {c : Nat} (h1 : n ≤ c) (h2 : c ≤ cap) : hasRow w e sz (.slice A n c) n xs := by
  refine ⟨h.1, ?_⟩
  rcases h.2 with ⟨hv, hn⟩ | ⟨g, cap', cur, hv, hb, hg, h3, h4, h5, h6⟩
  · cases hv; exact .inl ⟨by rw [show c = 0 by omega], rfl⟩
  · cases hv; exact .inr ⟨g, c, cur, rfl, hb, hg, h1, by omega, Nat.le_trans (Nat.mul_le_mul_right _ h2) h5, h6⟩
/-- blk: a block of cells, known whole. row: a slice of the call's own (nil where it has none): its block, whose first cells are these. gen: whatever else hangs on its blocks alone. -/
inductive It where
  | blk (b : Nat) (cs : List Value) (t : TypeId)
  | row (v : Value) (t : TypeId) (sz n : Nat) (cs : List Value)
  | gen (fp : List Nat) (ok : World → Prop) (loc : ∀ w w' : World, (∀ b ∈ fp, w'.heap[b]? = w.heap[b]?) → ok w → ok w') (lt : ∀ w : World, ok w → ∀ b ∈ fp, b < w.heap.size)
def It.fp : It → List Nat | .blk b _ _ => [b] | .row v _ _ _ _ => v.ownBlock.toList | .gen fp _ _ _ => fp
def It.ok : It → World → Prop
  | .blk b cs t, w => w.heap[b]? = some (.cells cs.toArray t (0, 0))
  | .row v t sz n cs, w => hasRow w t sz v n cs
  | .gen _ ok _ _, w => ok w
theorem It.loc {i : It} {w w' : World} (h : ∀ b ∈ i.fp, w'.heap[b]? = w.heap[b]?) (hk : i.ok w) : i.ok w' := by
  cases i with
  | blk b cs t => exact (h b (by simp [It.fp])).trans hk
  | row v t sz n cs =>
    refine ⟨hk.1, ?_⟩
    rcases hk.2 with hn | ⟨g, cap, cur, rfl, hb, hg, r⟩
    · exact .inl hn
    · exact .inr ⟨g, cap, cur, rfl, hb, by rw [h g (by simp [It.fp, Value.ownBlock])]; exact hg, r⟩
  | gen fp ok loc lt => exact loc w w' h hk
theorem It.lt {i : It} {w : World} (hk : i.ok w) : ∀ b ∈ i.fp, b < w.heap.size := by
  cases i with
  | blk b cs t => intro c hc; obtain rfl : c = b := (by simpa [It.fp] using hc); exact (Array.getElem?_eq_some_iff.1 hk).1
  | row v t sz n cs => intro c hc; exact hasRow.lt hk c (by simp only [It.fp] at hc; cases hv : v.ownBlock <;> simp_all)
  | gen fp ok loc lt => exact lt w hk
abbrev fps (Γ : List It) : List Nat := Γ.flatMap It.fp
structure St (w0 : World) (X : List Nat) (Γ : List It) (w : World) : Prop where
  os : w.os = w0.os
  tape : w.tape = w0.tape
  output : w.output = w0.output
  size : w0.heap.size ≤ w.heap.size
  old : ∀ b, b < w0.heap.size → b ∉ X → w.heap[b]? = w0.heap[b]?
  ok : ∀ i ∈ Γ, i.ok w
  nd : (fps Γ).Nodup
  mine : ∀ b ∈ fps Γ, b ∈ X ∨ w0.heap.size ≤ b
/-- the state in which a call begins. -/
structure Sep (Γ : List It) (w : World) : Prop where
  ok : ∀ i ∈ Γ, i.ok w
  nd : (fps Γ).Nodup
theorem Sep.st {Γ : List It} {w : World} (h : Sep Γ w) : St w (fps Γ) Γ w := ⟨rfl, rfl, rfl, Nat.le_refl _, fun _ _ _ => rfl, h.ok, h.nd, fun b hb => .inl hb⟩
theorem Sep.nil (w : World) : Sep [] w := ⟨fun _ h => (by cases h), by simp⟩
theorem Sep.perm {Γ Γ' : List It} {w : World} (h : Sep Γ w) (hp : Γ.Perm Γ') : Sep Γ' w :=
  ⟨fun i hi => h.ok i (hp.mem_iff.2 hi), ((hp.flatMap_right It.fp).nodup_iff).1 h.nd⟩
section
variable {w0 w w' : World} {X : List Nat} {Γ Γ' A B : List It}
theorem St.sep (h : St w0 X Γ w) : Sep Γ w := ⟨h.ok, h.nd⟩
theorem St.perm (h : St w0 X Γ w) (hp : Γ.Perm Γ') : St w0 X Γ' w :=
  ⟨h.os, h.tape, h.output, h.size, h.old, fun i hi => h.ok i (hp.mem_iff.2 hi), ((hp.flatMap_right It.fp).nodup_iff).1 h.nd,
   fun b hb => h.mine b (((hp.flatMap_right It.fp).mem_iff).2 hb)⟩
theorem St.left (h : St w0 X (A ++ B) w) : St w0 X A w :=
  ⟨h.os, h.tape, h.output, h.size, h.old, fun i hi => h.ok i (List.mem_append_left _ hi),
   (by have := h.nd; simp only [fps, List.flatMap_append] at this; exact (List.nodup_append.1 this).1),
   fun b hb => h.mine b (by simp only [fps, List.flatMap_append, List.mem_append]; exact .inl hb)⟩
theorem St.right (h : St w0 X (A ++ B) w) : St w0 X B w := (h.perm List.perm_append_comm).left
theorem St.tl {i : It} (h : St w0 X (i :: Γ) w) : St w0 X Γ w := St.right (A := [i]) h
theorem St.lt (h : St w0 X Γ w) : ∀ b ∈ fps Γ, b < w.heap.size := fun b hb => by
  obtain ⟨i, hi, hb⟩ := List.mem_flatMap.1 hb
  exact It.lt (h.ok i hi) b hb
/-- what was not counted may have turned. -/
theorem St.drawn (h : St w0 X Γ w) (hh : w'.heap = w.heap) (ho : w'.os = w.os) (ht : w'.tape = w.tape) (hu : w'.output = w.output) : St w0 X Γ w' :=
  ⟨ho.trans h.os, ht.trans h.tape, hu.trans h.output, by rw [hh]; exact h.size, fun b h1 h2 => by rw [hh]; exact h.old b h1 h2,
   fun i hi => It.loc (fun b _ => by rw [hh]) (h.ok i hi), h.nd, h.mine⟩
theorem St.drewN (h : St w0 X Γ w) (k : Nat) : St w0 X Γ (w.drewN k) := h.drawn rfl rfl rfl rfl
/-- THE FRAME LAW: the items A are turned into A'; all else stays. -/
theorem St.upd {A' : List It} (h : St w0 X (A ++ B) w) (ho : w'.os = w.os) (ht : w'.tape = w.tape) (hu : w'.output = w.output) (hs : w.heap.size ≤ w'.heap.size)
    (hk : ∀ b, b < w.heap.size → b ∉ fps A → w'.heap[b]? = w.heap[b]?) (hok : ∀ i ∈ A', i.ok w') (hnd : (fps A').Nodup)
    (hnew : ∀ b ∈ fps A', b ∈ fps A ∨ w.heap.size ≤ b) : St w0 X (A' ++ B) w' := by
  have hlt := h.lt
  have hmine := h.mine
  have hnd0 := h.nd
  simp only [fps, List.flatMap_append] at hlt hmine hnd0
  obtain ⟨n1, n2, n3⟩ := List.nodup_append.1 hnd0
  refine ⟨ho.trans h.os, ht.trans h.tape, hu.trans h.output, Nat.le_trans h.size hs, fun b h1 h2 => ?_, fun i hi => ?_, ?_, fun b hb => ?_⟩
  · refine (hk b (Nat.lt_of_lt_of_le h1 h.size) (fun hm => ?_)).trans (h.old b h1 h2)
    rcases hmine b (List.mem_append_left _ hm) with h3 | h3
    · exact h2 h3
    · omega
  · rcases List.mem_append.1 hi with hi | hi
    · exact hok i hi
    · refine It.loc (fun b hb => hk b (It.lt (h.ok i (List.mem_append_right _ hi)) b hb) (fun hm => ?_)) (h.ok i (List.mem_append_right _ hi))
      exact n3 b hm b (List.mem_flatMap.2 ⟨i, hi, hb⟩) rfl
  · simp only [fps, List.flatMap_append]
    refine List.nodup_append.2 ⟨hnd, n2, fun a ha b hb hab => ?_⟩
    subst hab
    rcases hnew a ha with h3 | h3
    · exact n3 a h3 a hb rfl
    · have := hlt a (List.mem_append_right _ hb); omega
  · simp only [fps, List.flatMap_append, List.mem_append] at hb
    rcases hb with hb | hb
    · rcases hnew b hb with h3 | h3
      · exact hmine b (List.mem_append_left _ h3)
      · exact .inr (Nat.le_trans h.size h3)
    · exact hmine b (List.mem_append_right _ hb)
theorem St.alloc (h : St w0 X Γ w) (cs : List Value) (t : TypeId) : St w0 X (It.blk w.heap.size cs t :: Γ) (w.alloc (.cells cs.toArray t)) :=
  St.upd (A := []) (A' := [It.blk w.heap.size cs t]) h rfl rfl rfl (by simp) (fun b hb _ => Below.heap_alloc _ _ _ hb)
    (fun i hi => by obtain rfl : i = _ := (by simpa using hi); show _ = _; exact World.alloc_heap_new w _) (by simp [fps, It.fp]) (fun b hb => .inr (by simp [fps, It.fp] at hb; omega))
theorem St.old_cell (h : St w0 X Γ w) {a : Addr} (ha : a.block < w0.heap.size) (hX : a.block ∉ X) : w.cell? a = w0.cell? a := World.cell?_of_block (h.old _ ha hX)
theorem St.blk_cell {b : Nat} {cs : List Value} {t : TypeId} (h : St w0 X Γ w) (hm : It.blk b cs t ∈ Γ) (o : Nat) : w.cell? ⟨b, o, none⟩ = cs[o]? := by
  have := h.ok _ hm
  rw [cell_of_row w b o cs.toArray t (0, 0) this]
  simp
theorem St.blk_heap {b : Nat} {cs : List Value} {t : TypeId} (h : St w0 X Γ w) (hm : It.blk b cs t ∈ Γ) : w.heap[b]? = some (.cells cs.toArray t (0, 0)) := h.ok _ hm
theorem St.row_own {v : Value} {t : TypeId} {sz n : Nat} {cs : List Value} (h : St w0 X Γ w) (hm : It.row v t sz n cs ∈ Γ) : hasRow w t sz v n cs := h.ok _ hm
end

/-! ### code -/
def FW (r : Option Nat) : Fence := { fn := fun _ => True, depth := none, alive := false, round := r }
theorem fw_none : FW none = Fence.wide := rfl
theorem fw_room (r : Option Nat) (n : Nat) : (FW r).room n := fun _ h => by simp [FW] at h
/-- a call's contract: the items Γ are handed in; v and Γ' come out. -/
def Tr (P : Program) (f : FuncId) (args : Array Value) (w : World) (Γ : List It) (R : Value → List It → Prop) : Prop :=
  Sep Γ w → Calls P f args w fun e w' => ∃ v Γ', e = .returned v ∧ R v Γ' ∧ St w (fps Γ) Γ' w'
theorem Tr.mono {P : Program} {f : FuncId} {args : Array Value} {w : World} {Γ : List It} {R R' : Value → List It → Prop} (h : Tr P f args w Γ R) (hr : ∀ v Γ', R v Γ' → R' v Γ') : Tr P f args w Γ R' :=
  fun hs => (h hs).mono fun e w' ⟨v, Γ', he, hR, hst⟩ => ⟨v, Γ', he, hr _ _ hR, hst⟩
abbrev Kont := Fr → List It → Prop
abbrev Post := Exit → Fr → List It → Prop
section
variable (P : Program) (r : Option Nat) (w0 : World) (X : List Nat) (n : Nat) (df : List Deferred)
def PQ (K : Kont) (Q : Post) : Exit → Act → World → Prop := fun e a w => ∃ fr Γ, St w0 X Γ w ∧ Fits n fr a.tmps ∧ a.defers = df ∧ (match e with | .normal => K fr Γ | .panic _ => False | .outgrown => False | e => Q e fr Γ)
def W (c : Code) (K : Kont) (Q : Post) (fr : Fr) (Γ : List It) : Prop :=
  ∀ a w, St w0 X Γ w → Fits n fr a.tmps → a.defers = df → c.wpIn (FW r) 0 P (PQ w0 X n df K Q) a w
end
section
variable {P : Program} {r : Option Nat} {w0 : World} {X : List Nat} {n : Nat} {df : List Deferred} {K : Kont} {Q : Post} {fr : Fr} {Γ : List It}
theorem W.mono {c : Code} {K' : Kont} (h : W P r w0 X n df c K Q fr Γ) (hK : ∀ fr Γ, K fr Γ → K' fr Γ) : W P r w0 X n df c K' Q fr Γ := fun a w hs hf hd =>
  wpIn_mono (h a w hs hf hd) fun e a w ⟨fr', Γ', h1, h2, h3, h4⟩ => ⟨fr', Γ', h1, h2, h3, by cases e <;> first | exact hK _ _ h4 | exact h4⟩
/-- weaken the state. -/
theorem W.pre {c : Code} {fr' : Fr} {Γ' : List It} (h : W P r w0 X n df c K Q fr' Γ') (hf : Sub fr' fr) (hg : ∃ R, Γ.Perm (Γ' ++ R)) : W P r w0 X n df c K Q fr Γ := fun a w hs hF hd => by
  obtain ⟨R, hp⟩ := hg
  exact h a w (hs.perm hp).left (hF.sub hf) hd
theorem W_skip (h : K fr Γ) : W P r w0 X n df .skip K Q fr Γ := fun a w hs hf hd => wpIn_skip ⟨fr, Γ, hs, hf, hd, h⟩
theorem W_exit {id : Nat} (h : Q (.exit id) fr Γ) : W P r w0 X n df (.exit id) K Q fr Γ := fun a w hs hf hd => wpIn_exit ⟨fr, Γ, hs, hf, hd, h⟩
theorem W_ret (h : Q .ret fr Γ) : W P r w0 X n df .ret K Q fr Γ := fun a w hs hf hd => wpIn_ret ⟨fr, Γ, hs, hf, hd, h⟩
theorem W_seq {x y : Code} (h : W P r w0 X n df x (fun fr Γ => W P r w0 X n df y K Q fr Γ) Q fr Γ) : W P r w0 X n df (.seq x y) K Q fr Γ := fun a w hs hf hd => by
  refine wpIn_seq (wpIn_mono (h a w hs hf hd) ?_)
  rintro e a' w' ⟨fr', Γ', h1, h2, h3, h4⟩
  cases e <;> first | exact h4 a' w' h1 h2 h3 | exact h4.elim | exact ⟨fr', Γ', h1, h2, h3, h4⟩
theorem W_cond_t {c : Operand} {x y : Code} (hc : evo fr c = some (.bool true)) (h : W P r w0 X n df x K Q fr Γ) : W P r w0 X n df (.cond c x y) K Q fr Γ := fun a w hs hf hd =>
  wpIn_cond_true (evo_sound hf hc) (h a w hs hf hd)
theorem W_cond_f {c : Operand} {x y : Code} (hc : evo fr c = some (.bool false)) (h : W P r w0 X n df y K Q fr Γ) : W P r w0 X n df (.cond c x y) K Q fr Γ := fun a w hs hf hd =>
  wpIn_cond_false (evo_sound hf hc) (h a w hs hf hd)
theorem W_cond {c : Operand} {x y : Code} {b : Bool} (hc : evo fr c = some (.bool b)) (ht : b = true → W P r w0 X n df x K Q fr Γ) (hf' : b = false → W P r w0 X n df y K Q fr Γ) :
    W P r w0 X n df (.cond c x y) K Q fr Γ := by
  cases b
  · exact W_cond_f hc (hf' rfl)
  · exact W_cond_t hc (ht rfl)
def Pblk (id : Nat) (K : Kont) (Q : Post) : Post := fun e fr Γ => match e with | .exit j => bif Nat.beq j id then K fr Γ else Q (.exit j) fr Γ | e => Q e fr Γ
theorem W_block {id : Nat} {c : Code} (h : W P r w0 X n df c K (Pblk id K Q) fr Γ) : W P r w0 X n df (.block id c) K Q fr Γ := fun a w hs hf hd => by
  refine wpIn_block (wpIn_mono (h a w hs hf hd) ?_)
  rintro e a' w' ⟨fr', Γ', h1, h2, h3, h4⟩
  cases e with
  | normal => exact ⟨fr', Γ', h1, h2, h3, h4⟩
  | exit j =>
    by_cases hj : j = id
    · subst hj
      simp only [Exit.inBlock, if_true]
      exact ⟨fr', Γ', h1, h2, h3, by simpa [Pblk] using h4⟩
    · have hb := nbeq_ne hj
      simp only [Exit.inBlock, hj, if_false]
      exact ⟨fr', Γ', h1, h2, h3, by simpa [Pblk, hb] using h4⟩
  | goto l => exact ⟨fr', Γ', h1, h2, h3, h4⟩
  | ret => exact ⟨fr', Γ', h1, h2, h3, h4⟩
  | panic ch => exact h4.elim
  | outgrown => exact h4.elim
theorem least (p : Nat → Prop) (h : ∃ k, p k) : ∃ k, p k ∧ ∀ j, p j → k ≤ j := by
  obtain ⟨k, hk⟩ := h
  induction k using Nat.strongRecOn with
  | _ k ih =>
    by_cases hj : ∃ j, j < k ∧ p j
    · obtain ⟨j, hj, hp⟩ := hj
      exact ih j hj hp
    · exact ⟨k, hk, fun j hp => Nat.le_of_not_lt fun hlt => hj ⟨j, hlt, hp⟩⟩
open Classical in
noncomputable def lowest (p : Nat → Prop) : Nat := if h : ∃ k, p k then Classical.choose (least p h) else 0
theorem lowest_spec {p : Nat → Prop} {k : Nat} (h : p k) : p (lowest p) ∧ lowest p ≤ k := by
  have hex : ∃ k, p k := ⟨k, h⟩
  unfold lowest
  rw [dif_pos hex]
  have := Classical.choose_spec (least p hex)
  exact ⟨this.1, this.2 k h⟩
/-- A LOOP: σ: what is known at a round's head; F, G: the frame and the items there; m goes down. -/
theorem W_loop {σ : Type} (F : σ → Fr) (G : σ → List It) (I : σ → Prop) (m : σ → Nat) {c : Code} (s0 : σ) (h0 : I s0) (hf0 : Sub (F s0) fr) (hg0 : ∃ R, Γ.Perm (G s0 ++ R))
    (round : ∀ s, I s → W P r w0 X n df c (fun fr Γ => ∃ s', I s' ∧ m s' < m s ∧ Sub (F s') fr ∧ ∃ R, Γ.Perm (G s' ++ R)) Q (F s) (G s)) :
    W P r w0 X n df (.loop c) K Q fr Γ := fun a w hs hf hd => by
  have hv : ∃ V : σ → Act → World → Prop, V = fun s a w => I s ∧ St w0 X (G s) w ∧ Fits n (F s) a.tmps ∧ a.defers = df := ⟨_, rfl⟩
  obtain ⟨V, hV⟩ := hv
  obtain ⟨R, hp⟩ := hg0
  refine wpIn_loop (fun a w => ∃ s, V s a w) (fun a w => lowest fun k => ∃ s, V s a w ∧ m s = k) ⟨s0, by rw [hV]; exact ⟨h0, (hs.perm hp).left, hf.sub hf0, hd⟩⟩ ?_
  rintro a w ⟨s1, hs1⟩
  obtain ⟨⟨s, hs2, hm⟩, hle⟩ := lowest_spec (p := fun k => ∃ s, V s a w ∧ m s = k) ⟨s1, hs1, rfl⟩
  have hs3 := hs2
  rw [hV] at hs3
  obtain ⟨hI, hst, hfit, hdf⟩ := hs3
  refine wpIn_mono (round s hI a w hst hfit hdf) ?_
  rintro e a' w' ⟨fr', Γ', h1, h2, h3, h4⟩
  cases e with
  | normal =>
    obtain ⟨s', hI', hlt, hsub, R', hp'⟩ := h4
    have hV' : V s' a' w' := by rw [hV]; exact ⟨hI', (h1.perm hp').left, h2.sub hsub, h3⟩
    refine ⟨⟨s', hV'⟩, ?_⟩
    have := (lowest_spec (p := fun k => ∃ s, V s a' w' ∧ m s = k) ⟨s', hV', rfl⟩).2
    rw [← hm]
    exact Nat.lt_of_le_of_lt this hlt
  | panic ch => exact h4.elim
  | outgrown => exact h4.elim
  | ret => exact ⟨fr', Γ', h1, h2, h3, h4⟩
  | exit id => exact ⟨fr', Γ', h1, h2, h3, h4⟩
  | goto l => exact ⟨fr', Γ', h1, h2, h3, h4⟩
/-- WAYS MEET: what holds where they do. -/
theorem W_cut {σ : Type} (F : σ → Fr) (G : σ → List It) (I : σ → Prop) {x y : Code}
    (hx : W P r w0 X n df x (fun fr Γ => ∃ s, I s ∧ Sub (F s) fr ∧ ∃ R, Γ.Perm (G s ++ R)) Q fr Γ) (hy : ∀ s, I s → W P r w0 X n df y K Q (F s) (G s)) : W P r w0 X n df (.seq x y) K Q fr Γ :=
  W_seq (W.mono hx fun fr' Γ' ⟨s, hI, hf, hg⟩ => W.pre (hy s hI) hf hg)
end
/-! ### functions -/
def aggB (P : Program) (t : TypeId) : Bool := match P.underlying t with | some (.struct _) | some (.array _ _) => true | _ => false
def scalB (P : Program) (t : TypeId) : Bool := match P.underlying t with | some (.struct _) | some (.array _ _) | none => false | some _ => true
/-- the results, as the frame and the items tell them. -/
inductive Res (P : Program) (fr : Fr) (Γ : List It) : List ResultVar → List Value → Prop
  | nil : Res P fr Γ [] []
  | tmp {t : Tmp} {v : Value} {rs : List ResultVar} {vs : List Value} (h : look fr t = some v) (k : Res P fr Γ rs vs) : Res P fr Γ (.tmp t :: rs) (v :: vs)
  | cell {a : Tmp} {t t' : TypeId} {b : Nat} {cs : List Value} {rs : List ResultVar} {vs : List Value} (h : look fr a = some (.pointer (some ⟨b, 0, none⟩))) (hm : It.blk b cs t' ∈ Γ) (ha : aggB P t = true)
      (hi : (P.info? t).map (·.size) = some cs.length) (k : Res P fr Γ rs vs) : Res P fr Γ (.cell a t :: rs) (.agg cs.toArray :: vs)
  | cell1 {a : Tmp} {t t' : TypeId} {b : Nat} {v : Value} {rs : List ResultVar} {vs : List Value} (h : look fr a = some (.pointer (some ⟨b, 0, none⟩))) (hm : It.blk b [v] t' ∈ Γ) (ha : scalB P t = true) (k : Res P fr Γ rs vs) : Res P fr Γ (.cell a t :: rs) (v :: vs)
def tup : List Value → Value | [v] => v | vs => .tuple vs.toArray
def Fin (P : Program) (rs : List ResultVar) (R : Value → List It → Prop) : Kont := fun fr Γ => ∃ vs Γ', Res P fr Γ rs vs ∧ R (tup vs) Γ' ∧ ∃ D, Γ.Perm (Γ' ++ D)
def Pret (K : Kont) : Post := fun e fr Γ => match e with | .ret => K fr Γ | _ => False
def start (n : Nat) (args : List Value) : Fr := (args ++ List.replicate (n - args.length) undef).zipIdx.map fun p => (p.2, p.1)
theorem look_start (vs : List Value) : ∀ (k i : Nat) (v : Value), look ((vs.zipIdx k).map fun p => (p.2, p.1)) i = some v → k ≤ i ∧ vs[i - k]? = some v := by
  induction vs with
  | nil => intro k i v h; simp [look] at h
  | cons u vs ih =>
    intro k i v h
    simp only [List.zipIdx_cons, List.map_cons, look] at h
    by_cases hk : k = i
    · subst hk; simp at h; subst h; simp
    · have hb := nbeq_ne hk
      rw [hb] at h
      obtain ⟨h1, h2⟩ := ih (k + 1) i v h
      refine ⟨by omega, ?_⟩
      rw [show i - k = (i - (k + 1)) + 1 from by omega]
      exact h2
theorem run_isAgg {P : Program} {t : TypeId} (h : aggB P t = true) (w : World) : ∃ d, P.underlying t = some d ∧ (match d with | .struct _ | .array _ _ => true | _ => false) = true := by
  unfold aggB at h
  split at h <;> first | exact ⟨_, by assumption, rfl⟩ | cases h
theorem res_mapM {P : Program} {w0 w : World} {X : List Nat} {fr : Fr} {Γ : List It} {n : Nat} {t : Array Value} (hf : Fits n fr t) (hs : St w0 X Γ w) {f : ResultVar → Sem Value}
    (e1 : ∀ u, f (.tmp u) = pure (t.getD u undef)) (e2 : ∀ a ty, f (.cell a ty) = (do loadVar ty (← asAddr (t.getD a undef)))) : ∀ {rs : List ResultVar} {vs : List Value}, Res P fr Γ rs vs →
    (rs.mapM f).run P w = .ok vs w := by
  intro rs vs h
  induction h with
  | nil => simp
  | @tmp u v rs vs h k ih =>
    have := hf.get _ _ h
    rw [List.mapM_cons, Sem.run_bind, e1, Sem.run_pure, Result.andThen_ok, Sem.run_bind, ih]
    simp [this]
  | @cell a ty t' b cs rs vs h hm ha hi k ih =>
    have h1 := hf.get _ _ h
    obtain ⟨d, hd1, hd2⟩ := run_isAgg ha w
    have h2 : (loadVar ty ⟨b, 0, none⟩).run P w = .ok (.agg cs.toArray) w := by
      cases d <;> first | exact run_loadVar_row (P := P) w b t' ty cs.toArray (0, 0) _ (hs.blk_heap hm) hd1 rfl (by simpa using hi) | cases hd2
    have hh : (do loadVar ty (← asAddr (t.getD a undef)) : Sem Value).run P w = .ok (.agg cs.toArray) w := by simp [h1, asAddr, h2]
    rw [List.mapM_cons, Sem.run_bind, e2, hh, Result.andThen_ok, Sem.run_bind, ih]
    simp
  | @cell1 a ty t' b v rs vs h hm ha k ih =>
    have h1 := hf.get _ _ h
    have hc : w.cell? ⟨b, 0, none⟩ = some v := by rw [hs.blk_cell hm]; rfl
    have h2 : (loadVar ty ⟨b, 0, none⟩).run P w = .ok v w := by
      unfold scalB at ha
      cases hu : P.underlying ty with
      | none => simp [hu] at ha
      | some d => cases d <;> simp [hu] at ha <;> simp [loadVar, isAgg, run_underlying hu, hc]
    have hh : (do loadVar ty (← asAddr (t.getD a undef)) : Sem Value).run P w = .ok v w := by simp [h1, asAddr, h2]
    rw [List.mapM_cons, Sem.run_bind, e2, hh, Result.andThen_ok, Sem.run_bind, ih]
    simp
theorem results_run {P : Program} {fn : Func} {w0 w : World} {X : List Nat} {fr : Fr} {Γ : List It} {n : Nat} {t : Array Value} {rs : List ResultVar} (hr : fn.results = rs.toArray) (hf : Fits n fr t) (hs : St w0 X Γ w)
    {vs : List Value} (h : Res P fr Γ rs vs) : (results fn t).run P w = .ok (tup vs) w := by
  unfold results
  rw [hr]
  have e : ∀ l : List Value, (if h : l.toArray.size = 1 then l.toArray[0] else .tuple l.toArray) = tup l := by
    intro l
    match l with
    | [] => rfl
    | [v] => rfl
    | u :: v :: l => simp [tup]
  rw [Array.mapM_eq_mapM_toList, Sem.run_bind, map_eq_pure_bind, Sem.run_bind]
  dsimp only [List.toList_toArray]
  rw [res_mapM hf hs (fun _ => rfl) (fun _ _ => rfl) h]
  simp only [Result.andThen_ok, Sem.run_pure]
  exact congrArg (Result.ok · w) (e vs)
theorem Tr_intro {P : Program} {f : FuncId} {fn : Func} {c : Code} {args : List Value} {w : World} {Γ : List It} {R : Value → List It → Prop} {rs : List ResultVar} (hf : P.funcs[f]? = some fn) (hb : fn.body = some c)
    (hr : fn.results = rs.toArray) (n : Nat) (hn : fn.ntmps = n) (hle : Nat.ble args.length n = true)
    (h : W P none w (fps Γ) n [] c (Fin P rs R) (Pret (Fin P rs R)) (start n args) Γ) : Tr P f args.toArray w Γ R := fun hs => by
  refine (callsIn_wide (n := 0)).1 (callsIn_of_wp hf hb trivial (wpIn_mono (h _ w hs.st ?_ rfl) ?_) rfl)
  · have hle := Nat.le_of_ble_eq_true hle
    refine ⟨by simp [hn]; omega, fun i v hi => ?_⟩
    obtain ⟨_, h2⟩ := look_start _ 0 i v hi
    rw [hn]
    have e : args.toArray ++ Array.replicate (n - args.toArray.size) undef = (args ++ List.replicate (n - args.length) undef).toArray := by simp [← List.toArray_replicate]
    rw [e]
    simpa using h2
  · have fin : ∀ (a : Act) (w' : World) (fr : Fr) (Γ' : List It), St w (fps Γ) Γ' w' → Fits n fr a.tmps → a.defers = [] → Fin P rs R fr Γ' →
        a.defers = [] ∧ ∃ v, (results fn a.tmps).run P w' = .ok v w' ∧ ∃ v2 Γ2, Ending.returned v = .returned v2 ∧ R v2 Γ2 ∧ St w (fps Γ) Γ2 w' := by
      rintro a w' fr Γ' h1 h2 h3 ⟨vs, Γ2, hR, hR2, D, hp⟩
      exact ⟨h3, _, results_run hr h2 h1 hR, _, _, rfl, hR2, (h1.perm hp).left⟩
    rintro e a w' ⟨fr', Γ', h1, h2, h3, h4⟩
    cases e with
    | normal => exact fin a w' fr' Γ' h1 h2 h3 h4
    | ret => exact fin a w' fr' Γ' h1 h2 h3 h4
    | exit id => exact h4.elim
    | goto l => exact h4.elim
    | panic ch => exact h4.elim
    | outgrown => exact h4.elim
end Go.Sx
