/- A small calculus of triples. Part 8: slices as arguments. -/
import Derived.Test.YtdnngagahhleiaaSx7
namespace Go.Sx
open Go.RowKit
set_option linter.unusedVariables false
set_option linter.unusedSimpArgs false
/-- a slice that a call may read: where it lies, how long it is, what stands there. -/
structure SlO (w : World) (X : List Nat) (A : Option Addr) (n cap : Nat) (cs : List Value) : Prop where
  rd : RdO w X A cs
  nil : A = none → n = 0 ∧ cap = 0
  le : n ≤ cap
  max : n ≤ 9223372036854775807
section
variable {w0 w : World} {X : List Nat} {K : List It} {A : Option Addr} {n cap : Nat} {cs : List Value}
theorem SlO.call (h : SlO w0 X A n cap cs) (hs : St w0 X K w) : SlO w [] A n cap cs := ⟨(h.rd.rd K).call hs, h.nil, h.le, h.max⟩
theorem row_nil {v : Value} {e : TypeId} {sz : Nat} (hs : St w0 X K w) (hm : It.row (.slice A n cap) e sz n cs ∈ K) : A = none → n = 0 ∧ cap = 0 := by
  rcases (hs.row_own hm).2 with ⟨h1, h2⟩ | ⟨g, cap', cur, h1, _⟩
  · cases h1; exact fun _ => ⟨rfl, rfl⟩
  · cases h1; exact fun h => by cases h
theorem SlO.row {e : TypeId} {sz : Nat} (hs : St w0 X K w) (hm : It.row (.slice A n cap) e sz n cs ∈ K) : SlO w [] A n cap cs := by
  obtain ⟨h1, h2, h3, h4⟩ := hs.row_fact hm
  exact ⟨(RdA.row hm (fun h => (h1 h).1)).call hs, row_nil (v := .slice A n cap) hs hm, h3, h4⟩
/-- part of a slice's row: the first of its elements. -/
theorem SlO.tk (h : SlO w X A n cap cs) {m : Nat} (hm : m ≤ n) (hA : A = none → True) (j : Nat) (hj : (cs.take j).length = (cs.take j).length) : SlO w X A m cap (cs.take j) := ⟨fun hne => by
  have hne0 : cs ≠ [] := fun e => hne (by simp [e])
  obtain ⟨a, h1, h2⟩ := h.rd hne0
  exact ⟨a, h1, h2.cells.take j, fun _ => h2.lt hne0, h2.nx⟩, fun e => ⟨by have := (h.nil e).1; omega, (h.nil e).2⟩, Nat.le_trans hm h.le, Nat.le_trans hm h.max⟩
end
theorem cells_all {α : Type} (c : Cod α) (h : ∀ x, (c.enc x).all Value.oneCell' = true) (l : List α) : (c.cells l).all Value.oneCell' = true := by
  induction l with
  | nil => rfl
  | cons x l ih => rw [cells_cons, List.all_append, h, ih]; rfl
theorem perm_pick : ∀ {Γ : List It} (k : Nat) {i : It}, Γ[k]? = some i → Γ.Perm ([i] ++ Γ.eraseIdx k)
  | x :: Γ, 0, i, h => by simp at h; subst h; exact List.Perm.refl _
  | x :: Γ, k + 1, i, h => by
    have := perm_pick (Γ := Γ) k (i := i) (by simpa using h)
    exact (List.Perm.cons x this).trans (List.Perm.swap _ _ _)
/-! ### a loop about a range over a function -/
section
variable {P : Program} {w0 : World} {X : List Nat} {n : Nat} {fr : Fr} {Γ : List It} {Qr : Exit → Act → World → Prop}
/-- what holds at a round's end: marks and all. -/
def Rnd (w0 : World) (X : List Nat) (n : Nat) {σ : Type} (F : σ → Fr) (G : σ → List It) (I : σ → Prop) (Qr : Exit → Act → World → Prop) : Exit → Act → World → Prop
  | .normal, a, w => ∃ (s' : σ) (M : List Nat), I s' ∧ a.defers = M.map mkD ∧ St w0 X (G s' ++ M.map mkI) w ∧ Fits n (F s') a.tmps
  | e, a, w => Qr e a w
theorem WQ_loop {σ : Type} (F : σ → Fr) (G : σ → List It) (I : σ → Prop) (m : σ → Nat) {c : Code} (s0 : σ) (h0 : I s0) (hf0 : Sub (F s0) fr) (hg0 : ∃ R, Γ.Perm (G s0 ++ R))
    (round : ∀ s, I s → ∀ M : List Nat, WQ P none w0 X n (M.map mkD) c (Rnd w0 X n F G (fun s' => I s' ∧ m s' < m s) Qr) (F s) (G s ++ M.map mkI)) : WQ P none w0 X n [] (.loop c) Qr fr Γ := fun a w hs hf hd => by
  obtain ⟨V, hV⟩ : ∃ V : σ → Act → World → Prop, V = fun s a w => I s ∧ ∃ M : List Nat, a.defers = M.map mkD ∧ St w0 X (G s ++ M.map mkI) w ∧ Fits n (F s) a.tmps := ⟨_, rfl⟩
  obtain ⟨R, hp⟩ := hg0
  refine wpIn_loop (fun a w => ∃ s, V s a w) (fun a w => lowest fun k => ∃ s, V s a w ∧ m s = k) ⟨s0, by rw [hV]; exact ⟨h0, [], hd, by simpa using (hs.perm hp).left, hf.sub hf0⟩⟩ ?_
  rintro a w ⟨s1, hs1⟩
  obtain ⟨⟨s, hs2, hm⟩, hle⟩ := lowest_spec (p := fun k => ∃ s, V s a w ∧ m s = k) ⟨s1, hs1, rfl⟩
  have hs3 := hs2
  rw [hV] at hs3
  obtain ⟨hI, M, hdf, hst, hfit⟩ := hs3
  refine wpIn_mono (round s hI M a w hst hfit hdf) ?_
  rintro e a' w' h
  cases e with
  | normal =>
    obtain ⟨s', M', ⟨hI', hlt⟩, h1, h2, h3⟩ := h
    have hV' : V s' a' w' := by rw [hV]; exact ⟨hI', M', h1, h2, h3⟩
    refine ⟨⟨s', hV'⟩, ?_⟩
    have := (lowest_spec (p := fun k => ∃ s, V s a' w' ∧ m s = k) ⟨s', hV', rfl⟩).2
    rw [← hm]
    exact Nat.lt_of_le_of_lt this hlt
  | _ => exact h
theorem Rnd_end {σ : Type} {F : σ → Fr} {G : σ → List It} {I : σ → Prop} (s' : σ) (M : List Nat) (hI : I s') (hf : Sub (F s') fr) (hp : ∃ R, Γ.Perm ((G s' ++ M.map mkI) ++ R)) : At w0 X n (M.map mkD) fr Γ (Rnd w0 X n F G I Qr .normal) := fun a w hs hF hd => by
  obtain ⟨R, hp⟩ := hp
  exact ⟨s', M, hI, hd, (hs.perm hp).left, hF.sub hf⟩
theorem QP_exit {σ : Type} {F : σ → Fr} {G : σ → List It} {I : σ → Prop} {id : Nat} {df : List Deferred} (h : At w0 X n df fr Γ (Qr .normal)) : QP w0 X n df (Rnd w0 X n F G I (Exit.inBlock id Qr)) (.exit id) fr Γ := fun a w hs hf hd => by
  show (if id = id then _ else _)
  rw [if_pos rfl]; exact h a w hs hf hd
theorem At_exit {id : Nat} {df : List Deferred} (h : At w0 X n df fr Γ (Qr .normal)) : At w0 X n df fr Γ ((Code.exit id).wpIn (FW none) 0 P (Exit.inBlock id Qr)) := fun a w hs hf hd => wpIn_exit (by simpa [Exit.inBlock] using h a w hs hf hd)
theorem At_out {id : Nat} {df : List Deferred} (h : At w0 X n df fr Γ (Qr .normal)) : At w0 X n df fr Γ (Exit.inBlock id Qr (.exit id)) := fun a w hs hf hd => by simpa [Exit.inBlock] using h a w hs hf hd
theorem At_then {df : List Deferred} {y : Code} (h : WQ P none w0 X n df y Qr fr Γ) : At w0 X n df fr Γ (Exit.then (y.wpIn (FW none) 0 P Qr) Qr .normal) := h
theorem At_in {id : Nat} {df : List Deferred} (h : At w0 X n df fr Γ (Qr .normal)) : At w0 X n df fr Γ (Exit.inBlock id Qr .normal) := h
theorem At_perm {df : List Deferred} {Γ' : List It} {p : Act → World → Prop} (hp : Γ.Perm Γ') (h : At w0 X n df fr Γ' p) : At w0 X n df fr Γ p := fun a w hs hf hd => h a w (hs.perm hp) hf hd
theorem WQ_perm {df : List Deferred} {Γ' : List It} {c : Code} (hp : Γ.Perm Γ') (h : WQ P none w0 X n df c Qr fr Γ') : WQ P none w0 X n df c Qr fr Γ := At_perm hp h
end
end Go.Sx
