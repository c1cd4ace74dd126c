/- A small calculus of triples. Part 11: ways that meet behind a block. -/
import Derived.Test.YtdnngagahhleiaaSx10
namespace Go.Sx
open Go.RowKit
set_option linter.unusedVariables false
set_option linter.unusedSimpArgs false
section
variable {P : Program} {r : Option Nat} {w0 : World} {X : List Nat} {n : Nat} {df : List Deferred} {K : Kont} {Q : Post} {fr : Fr} {Γ : List It}
theorem W.mono2 {c : Code} {K' : Kont} {Q' : Post} (h : W P r w0 X n df c K Q fr Γ) (hK : ∀ fr Γ, K fr Γ → K' fr Γ) (hQ : ∀ e fr Γ, Q e fr Γ → Q' e fr Γ) : W P r w0 X n df c K' Q' fr Γ := fun a w hs hf hd =>
  wpIn_mono (h a w hs hf hd) fun e a w ⟨fr', Γ', h1, h2, h3, h4⟩ => ⟨fr', Γ', h1, h2, h3, by cases e <;> first | exact hK _ _ h4 | exact hQ _ _ _ h4 | exact h4⟩
def Mt {σ : Type} (F : σ → Fr) (G : σ → List It) (I : σ → Prop) : Kont := fun fr Γ => ∃ s, I s ∧ Sub (F s) fr ∧ ∃ R, Γ.Perm (G s ++ R)
/-- ways meet behind a block. -/
theorem W_cutB {σ : Type} (F : σ → Fr) (G : σ → List It) (I : σ → Prop) {id : Nat} {x z : Code} {Q' : Post}
    (hx : W P r w0 X n df x (Mt F G I) (Pblk id (Mt F G I) Q') fr Γ) (hy : ∀ s, I s → W P r w0 X n df z K Q (F s) (G s)) :
    W P r w0 X n df x (fun fr Γ => W P r w0 X n df z K Q fr Γ) (Pblk id (fun fr Γ => W P r w0 X n df z K Q fr Γ) Q') fr Γ := by
  have key : ∀ fr Γ, Mt F G I fr Γ → W P r w0 X n df z K Q fr Γ := fun fr Γ ⟨s, hI, hf, hg⟩ => W.pre (hy s hI) hf hg
  refine W.mono2 hx key fun e fr Γ h => ?_
  cases e with
  | exit j =>
    show (bif Nat.beq j id then _ else _)
    have h' : (bif Nat.beq j id then Mt F G I fr Γ else Q' (.exit j) fr Γ) := h
    cases hb : Nat.beq j id
    · rw [hb] at h'; exact h'
    · rw [hb] at h'; exact key _ _ h'
  | normal => exact h
  | goto l => exact h
  | ret => exact h
  | panic ch => exact h
  | outgrown => exact h
/-- ways meet behind two steps. -/
theorem W_cutS {σ : Type} (F : σ → Fr) (G : σ → List It) (I : σ → Prop) {x y z : Code}
    (hx : W P r w0 X n df x (fun fr Γ => W P r w0 X n df y (Mt F G I) Q fr Γ) Q fr Γ) (hy : ∀ s, I s → W P r w0 X n df z K Q (F s) (G s)) : W P r w0 X n df (.seq x (.seq y z)) K Q fr Γ :=
  W_seq (W.mono hx fun fr Γ h => W_seq (W.mono h fun fr' Γ' ⟨s, hI, hf, hg⟩ => W.pre (hy s hI) hf hg))
variable {o : Oper} {d : Option Tmp} {ty : TypeId} {ps : String} {af : Array Edge} {g : Option (Nat × Bool)}
/-- 'append(s, x..)', x nil or not. -/
theorem Hv_appendR (T : Tab P) {N : Kont} {t e : TypeId} {x y : Operand} {S A : Option Addr} {m c k sz by_ len c0 : Nat} {cs news z : List Value} (hx : evo fr x = some (.slice S len c0)) (hy : evo fr y = some (.slice A m c)) (ht : find2 T.els t = some (e, sz, by_))
    (hz : find2 T.zrs e = some z) (hzs : z.length = sz) (hsz : 0 < sz) (hk : Γ[k]? = some (It.row (.slice S len c0) e sz len cs)) (hA : A = none → m = 0 ∧ c = 0) (hH : RdA w0 X Γ A news) (hl : news.length = m * sz) (h1 : (news.all Value.oneCell') = true)
    (h63 : len + m ≤ 9223372036854775807) (hby : (len + m) * by_ ≤ 140737488355328) (hd : dstOk n d = true)
    (h : ∀ A' cap, N (putF d (.slice A' (len + m) cap) fr) (Γ.set k (It.row (.slice A' (len + m) cap) e sz (len + m) (cs ++ news)))) :
    Hv P r w0 X n df ⟨d, .call { callee := .builtin .append, args := #[x, y], argTypes := #[t, t] }, ty, ps, af, g⟩ N fr Γ := by
  cases A with
  | none =>
    obtain ⟨rfl, rfl⟩ := hA rfl
    refine Hv_appendNil T hx hy ht hk hd ?_
    obtain rfl : news = [] := List.eq_nil_of_length_eq_zero (by omega)
    have := h S c0
    simp only [Nat.add_zero, List.append_nil] at this
    rwa [show Γ.set k (It.row (.slice S len c0) e sz len cs) = Γ by
      apply List.ext_getElem?
      intro i
      rw [List.getElem?_set]
      split
      · rename_i hki; subst hki
        split
        · exact hk.symm
        · rename_i h2; rw [List.getElem?_eq_none (by omega)]
      · rfl] at this
  | some a =>
    refine Hv_append T hx hy ht hz hzs hsz hk ?_ hl h1 h63 hby hd fun A' cap _ => h A' cap
    intro w' hs'
    by_cases hne : news = []
    · subst hne; intro j u hu; simp at hu
    · obtain ⟨a', ha, hh⟩ := hH hne
      cases ha
      exact hh w' hs'
theorem RdA.of {a : Addr} {cs : List Value} {K : List It} (h : Has w0 X K a cs) : RdA w0 X K (some a) cs := fun _ => ⟨a, rfl, h⟩
theorem RdO.callX {w : World} {A : Option Addr} {cs : List Value} {K Γ1 : List It} (h : RdO w0 X A cs) (hs : St w0 X K w) (hk : ∀ i ∈ Γ1, i ∈ K) : RdO w (fps Γ1) A cs := fun hne => by
  obtain ⟨a, h1, h2⟩ := h hne
  have hc := hs.old_cells h2
  refine ⟨a, h1, hc, fun _ => hc.lt hne, fun hm => ?_⟩
  obtain ⟨i, hi, hb⟩ := List.mem_flatMap.1 hm
  rcases hs.mine _ (List.mem_flatMap.2 ⟨i, hk i hi, hb⟩) with h3 | h3
  · exact h2.nx h3
  · have := h2.lt hne; omega
/-- what may be read is read by a callee that turns Γ1. -/
theorem SlO.callX {w : World} {A : Option Addr} {m cap : Nat} {cs : List Value} {K Γ1 : List It} (h : SlO w0 X A m cap cs) (hs : St w0 X K w) (hk : ∀ i ∈ Γ1, i ∈ K) : SlO w (fps Γ1) A m cap cs := ⟨h.rd.callX hs hk, h.nil, h.le, h.max⟩
theorem SlO.callP {w : World} {A : Option Addr} {m cap : Nat} {cs : List Value} {K Γ1 Γ2 : List It} (h : SlO w0 X A m cap cs) (hs : St w0 X K w) (hp : K.Perm (Γ1 ++ Γ2)) : SlO w (fps Γ1) A m cap cs :=
  h.callX hs fun i hi => hp.mem_iff.2 (List.mem_append_left _ hi)
theorem SlO.rowX {w : World} {A : Option Addr} {e : TypeId} {sz m cap : Nat} {cs : List Value} {K Γ1 Γ2 : List It} (hs : St w0 X K w) (hp : K.Perm (Γ1 ++ Γ2)) (hm : It.row (.slice A m cap) e sz m cs ∈ Γ2) : SlO w (fps Γ1) A m cap cs := by
  have hs2 := hs.perm hp
  have h := SlO.row hs2 (List.mem_append_right _ hm)
  refine ⟨fun hne => ?_, h.nil, h.le, h.max⟩
  obtain ⟨a, h1, h2⟩ := h.rd hne
  refine ⟨a, h1, h2.cells, h2.lt, fun hb => ?_⟩
  have hnd := hs2.nd
  simp only [fps, List.flatMap_append] at hnd
  refine (List.nodup_append.1 hnd).2.2 _ hb a.block (List.mem_flatMap.2 ⟨_, hm, ?_⟩) rfl
  rcases (hs2.row_own (List.mem_append_right _ hm)).2 with ⟨h3, _⟩ | ⟨g', cap', cur, h3, _⟩
  · subst h1; cases h3
  · subst h1; cases h3; simp [It.fp, Value.ownBlock]
theorem SlO.tkX {w : World} {A : Option Addr} {m cap : Nat} {cs : List Value} (h : SlO w X A m cap cs) {k : Nat} (hm : k ≤ m) (j : Nat) : SlO w X A k cap (cs.take j) := h.tk hm (fun _ => trivial) j rfl
theorem Yl_eqBT {t t' : TypeId} {x y : Operand} {a : Bool} (hx : evo fr x = some (.bool a)) (hy : evo fr y = some (.bool a)) (hu : P.underlying t = some .bool) : Yl P w0 X n fr Γ ⟨d, .binOp .eql t x y t', ty, ps, af, g⟩ (.bool true) := by
  have := Yl_eqB (w0 := w0) (X := X) (n := n) (Γ := Γ) (d := d) (ty := ty) (ps := ps) (af := af) (g := g) (t' := t') hx hy hu
  rwa [show (a == a) = true by simp] at this
theorem WL_clip {l rest : List Oper} {A : Option Addr} {e : TypeId} {sz m cap : Nat} {cs : List Value} (k c : Nat) (hk : Γ[k]? = some (It.row (.slice A m cap) e sz m cs)) (h1 : m ≤ c) (h2 : c ≤ cap) (h : WL P r w0 X n df l rest K fr (Γ.set k (It.row (.slice A m c) e sz m cs))) : WL P r w0 X n df l rest K fr Γ := fun a w hs hf hd => by
  have hrow := hs.row_own (List.mem_of_getElem? hk)
  have hfp : (It.row (.slice A m c) e sz m cs).fp = (It.row (.slice A m cap) e sz m cs).fp := by cases A <;> rfl
  refine h a w (hs.setAt hk rfl rfl rfl (Nat.le_refl _) (fun _ _ _ => rfl) (hrow.clip h1 h2) ?_ (fun b hb => .inl (by rwa [hfp] at hb))) hf hd
  rw [hfp]
  cases A <;> simp [It.fp, Value.ownBlock]
/-- 's[:y:z]'. -/
theorem Yl_sliceHM (T : Tab P) {t e : TypeId} {x y z : Operand} {A : Option Addr} {len cap sz by_ : Nat} {k k' : IntKind} {i i' : Int} (j j' : Nat) (hx : evo fr x = some (.slice A len cap)) (hy : evo fr y = some (.int k i)) (hz : evo fr z = some (.int k' i')) (ht : find2 T.els t = some (e, sz, by_)) (hj : i = j) (hj' : i' = j') (hl : j ≤ j') (hc : j' ≤ cap) :
    Yl P w0 X n fr Γ ⟨d, .slice t x none (some y) (some z), ty, ps, af, g⟩ (.slice A j j') := ⟨fun _ => by simp, fun ac hfit w hs => by
  obtain ⟨hu, inf, hinf, hi2, hi3⟩ := sliceInfo_elem (AllP.mem T.els_ok _ (find2_mem ht))
  dsimp only at hu hinf hi2 hi3
  subst hj hj'
  have h1 : (0 : Int) ≤ (j' : Int) ∧ (j' : Int) ≤ (cap : Int) := ⟨by omega, by omega⟩
  have h2 : (0 : Int) ≤ (j : Int) ∧ (j : Int) ≤ (j' : Int) := ⟨by omega, by omega⟩
  have e0 : ∀ a : Addr, a.add 0 = a := fun a => by simp [Addr.add]
  simp [execOp, evo_sound hfit hx, evo_sound hfit hy, evo_sound hfit hz, Instr.sliceAt, Instr.slice, run_underlying hu, Instr.sliceBounds, Instr.sliceBound, asIntOf, h1, h2, hl, hc, sizeOf, typeInfo, hinf, hi2, e0]⟩
theorem sA_none {A : Option Addr} {cap l sz : Nat} (h : sA A cap l sz = none) : A = none := by
  unfold sA at h
  split at h
  · exact h
  · simpa using h
end
end Go.Sx
