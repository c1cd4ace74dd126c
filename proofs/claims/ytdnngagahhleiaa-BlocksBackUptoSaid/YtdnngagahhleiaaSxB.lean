/- A small calculus of triples: parts 10 to 15. -/
import Derived.Test.YtdnngagahhleiaaSxA
/- A small calculus of triples. Part 10: a family of rows. -/
namespace Go.Sx
open Go.RowKit
set_option linter.unusedVariables false
set_option linter.unusedSimpArgs false
/-- m rows, told by number. -/
def fam (m : Nat) (f : Nat → It) : List It := (List.range m).map f
theorem fam_get {m i : Nat} {f : Nat → It} (h : i < m) : (fam m f)[i]? = some (f i) := by simp [fam, h]
def upd {α : Type} (f : Nat → α) (i : Nat) (x : α) : Nat → α := fun j => if j = i then x else f j
theorem upd_same {α : Type} (f : Nat → α) (i : Nat) (x : α) : upd f i x i = x := by simp [upd]
theorem upd_other {α : Type} (f : Nat → α) {i j : Nat} (x : α) (h : j ≠ i) : upd f i x j = f j := by simp [upd, h]
theorem fam_set {m i : Nat} {f : Nat → It} (x : It) : (fam m f).set i x = fam m (upd f i x) := by
  apply List.ext_getElem?
  intro j
  simp only [fam, List.getElem?_set, List.getElem?_map, List.length_map, List.length_range]
  by_cases hij : i = j
  · subst hij
    by_cases hm : i < m
    · simp [hm, upd]
    · simp [hm]
  · simp only [hij, if_false]
    by_cases hm : j < m
    · simp [hm, upd, Ne.symm hij]
    · simp [hm]
theorem fam_ext {m : Nat} {f g : Nat → It} (h : ∀ i, i < m → f i = g i) : fam m f = fam m g := by
  simp only [fam]
  exact List.map_congr_left fun i hi => h i (by simpa using hi)
theorem fam_mem {m i : Nat} {f : Nat → It} (h : i < m) : f i ∈ fam m f := by simp only [fam, List.mem_map, List.mem_range]; exact ⟨i, h, rfl⟩
/-- items picked out by their places, one behind the other. -/
def picks : List Nat → List It → Option (List It × List It)
  | [], Γ => some ([], Γ)
  | k :: ks, Γ => match Γ[k]? with
    | some i => match picks ks (Γ.eraseIdx k) with
      | some (xs, r) => some (i :: xs, r)
      | none => none
    | none => none
theorem perm_picks : ∀ (ks : List Nat) {Γ xs r : List It}, picks ks Γ = some (xs, r) → Γ.Perm (xs ++ r)
  | [], Γ, xs, r, h => by simp [picks] at h; obtain ⟨rfl, rfl⟩ := h; exact List.Perm.refl _
  | k :: ks, Γ, xs, r, h => by
    simp only [picks] at h
    cases hi : Γ[k]? with
    | none => rw [hi] at h; cases h
    | some i =>
      rw [hi] at h
      cases hp : picks ks (Γ.eraseIdx k) with
      | none => rw [hp] at h; cases h
      | some p =>
        rw [hp] at h
        cases h
        exact (perm_pick k hi).trans (List.Perm.append_left [i] (perm_picks ks hp))
end Go.Sx
/- A small calculus of triples. Part 11: ways that meet behind a block. -/
namespace Go.Sx
open Go.RowKit
set_option linter.unusedVariables false
set_option linter.unusedSimpArgs false
section
variable {P : Program} {r : Option Nat} {w0 : World} {X : List Nat} {n : Nat} {df : List Deferred} {K : Kont} {Q : Post} {fr : Fr} {Γ : List It}
theorem W.mono2 {c : Code} {K' : Kont} {Q' : Post} (h : W P r w0 X n df c K Q fr Γ) (hK : ∀ fr Γ, K fr Γ → K' fr Γ) (hQ : ∀ e fr Γ, Q e fr Γ → Q' e fr Γ) : W P r w0 X n df c K' Q' fr Γ := fun a w hs hf hd =>
  wpIn_mono (h a w hs hf hd) fun e a w ⟨fr', Γ', h1, h2, h3, h4⟩ => ⟨fr', Γ', h1, h2, h3, by cases e <;> first | exact hK _ _ h4 | exact hQ _ _ _ h4 | exact h4⟩
def Mt {σ : Type} (F : σ → Fr) (G : σ → List It) (I : σ → Prop) : Kont := fun fr Γ => ∃ s, I s ∧ Sub (F s) fr ∧ ∃ R, Γ.Perm (G s ++ R)
/-- ways meet behind a block. -/
theorem W_cutB {σ : Type} (F : σ → Fr) (G : σ → List It) (I : σ → Prop) {id : Nat} {x z : Code} {Q' : Post}
    (hx : W P r w0 X n df x (Mt F G I) (Pblk id (Mt F G I) Q') fr Γ) (hy : ∀ s, I s → W P r w0 X n df z K Q (F s) (G s)) :
    W P r w0 X n df x (fun fr Γ => W P r w0 X n df z K Q fr Γ) (Pblk id (fun fr Γ => W P r w0 X n df z K Q fr Γ) Q') fr Γ := by
  have key : ∀ fr Γ, Mt F G I fr Γ → W P r w0 X n df z K Q fr Γ := fun fr Γ ⟨s, hI, hf, hg⟩ => W.pre (hy s hI) hf hg
  refine W.mono2 hx key fun e fr Γ h => ?_
  cases e with
  | exit j =>
    show (bif Nat.beq j id then _ else _)
    have h' : (bif Nat.beq j id then Mt F G I fr Γ else Q' (.exit j) fr Γ) := h
    cases hb : Nat.beq j id
    · rw [hb] at h'; exact h'
    · rw [hb] at h'; exact key _ _ h'
  | normal => exact h
  | goto l => exact h
  | ret => exact h
  | panic ch => exact h
  | outgrown => exact h
/-- ways meet behind two steps. -/
theorem W_cutS {σ : Type} (F : σ → Fr) (G : σ → List It) (I : σ → Prop) {x y z : Code}
    (hx : W P r w0 X n df x (fun fr Γ => W P r w0 X n df y (Mt F G I) Q fr Γ) Q fr Γ) (hy : ∀ s, I s → W P r w0 X n df z K Q (F s) (G s)) : W P r w0 X n df (.seq x (.seq y z)) K Q fr Γ :=
  W_seq (W.mono hx fun fr Γ h => W_seq (W.mono h fun fr' Γ' ⟨s, hI, hf, hg⟩ => W.pre (hy s hI) hf hg))
variable {o : Oper} {d : Option Tmp} {ty : TypeId} {ps : String} {af : Array Edge} {g : Option (Nat × Bool)}
/-- 'append(s, x..)', x nil or not. -/
theorem Hv_appendR (T : Tab P) {N : Kont} {t e : TypeId} {x y : Operand} {S A : Option Addr} {m c k sz by_ len c0 : Nat} {cs news z : List Value} (hx : evo fr x = some (.slice S len c0)) (hy : evo fr y = some (.slice A m c)) (ht : find2 T.els t = some (e, sz, by_))
    (hz : find2 T.zrs e = some z) (hzs : z.length = sz) (hsz : 0 < sz) (hk : Γ[k]? = some (It.row (.slice S len c0) e sz len cs)) (hA : A = none → m = 0 ∧ c = 0) (hH : RdA w0 X Γ A news) (hl : news.length = m * sz) (h1 : (news.all Value.oneCell') = true)
    (h63 : len + m ≤ 9223372036854775807) (hby : (len + m) * by_ ≤ 140737488355328) (hd : dstOk n d = true)
    (h : ∀ A' cap, N (putF d (.slice A' (len + m) cap) fr) (Γ.set k (It.row (.slice A' (len + m) cap) e sz (len + m) (cs ++ news)))) :
    Hv P r w0 X n df ⟨d, .call { callee := .builtin .append, args := #[x, y], argTypes := #[t, t] }, ty, ps, af, g⟩ N fr Γ := by
  cases A with
  | none =>
    obtain ⟨rfl, rfl⟩ := hA rfl
    refine Hv_appendNil T hx hy ht hk hd ?_
    obtain rfl : news = [] := List.eq_nil_of_length_eq_zero (by omega)
    have := h S c0
    simp only [Nat.add_zero, List.append_nil] at this
    rwa [show Γ.set k (It.row (.slice S len c0) e sz len cs) = Γ by
      apply List.ext_getElem?
      intro i
      rw [List.getElem?_set]
      split
      · rename_i hki; subst hki
        split
        · exact hk.symm
        · rename_i h2; rw [List.getElem?_eq_none (by omega)]
      · rfl] at this
  | some a =>
    refine Hv_append T hx hy ht hz hzs hsz hk ?_ hl h1 h63 hby hd fun A' cap _ => h A' cap
    intro w' hs'
    by_cases hne : news = []
    · subst hne; intro j u hu; simp at hu
    · obtain ⟨a', ha, hh⟩ := hH hne
      cases ha
      exact hh w' hs'
theorem RdA.of {a : Addr} {cs : List Value} {K : List It} (h : Has w0 X K a cs) : RdA w0 X K (some a) cs := fun _ => ⟨a, rfl, h⟩
theorem RdO.callX {w : World} {A : Option Addr} {cs : List Value} {K Γ1 : List It} (h : RdO w0 X A cs) (hs : St w0 X K w) (hk : ∀ i ∈ Γ1, i ∈ K) : RdO w (fps Γ1) A cs := fun hne => by
  obtain ⟨a, h1, h2⟩ := h hne
  have hc := hs.old_cells h2
  refine ⟨a, h1, hc, fun _ => hc.lt hne, fun hm => ?_⟩
  obtain ⟨i, hi, hb⟩ := List.mem_flatMap.1 hm
  rcases hs.mine _ (List.mem_flatMap.2 ⟨i, hk i hi, hb⟩) with h3 | h3
  · exact h2.nx h3
  · have := h2.lt hne; omega
/-- what may be read is read by a callee that turns Γ1. -/
theorem SlO.callX {w : World} {A : Option Addr} {m cap : Nat} {cs : List Value} {K Γ1 : List It} (h : SlO w0 X A m cap cs) (hs : St w0 X K w) (hk : ∀ i ∈ Γ1, i ∈ K) : SlO w (fps Γ1) A m cap cs := ⟨h.rd.callX hs hk, h.nil, h.le, h.max⟩
theorem SlO.callP {w : World} {A : Option Addr} {m cap : Nat} {cs : List Value} {K Γ1 Γ2 : List It} (h : SlO w0 X A m cap cs) (hs : St w0 X K w) (hp : K.Perm (Γ1 ++ Γ2)) : SlO w (fps Γ1) A m cap cs :=
  h.callX hs fun i hi => hp.mem_iff.2 (List.mem_append_left _ hi)
theorem SlO.rowX {w : World} {A : Option Addr} {e : TypeId} {sz m cap : Nat} {cs : List Value} {K Γ1 Γ2 : List It} (hs : St w0 X K w) (hp : K.Perm (Γ1 ++ Γ2)) (hm : It.row (.slice A m cap) e sz m cs ∈ Γ2) : SlO w (fps Γ1) A m cap cs := by
  have hs2 := hs.perm hp
  have h := SlO.row hs2 (List.mem_append_right _ hm)
  refine ⟨fun hne => ?_, h.nil, h.le, h.max⟩
  obtain ⟨a, h1, h2⟩ := h.rd hne
  refine ⟨a, h1, h2.cells, h2.lt, fun hb => ?_⟩
  have hnd := hs2.nd
  simp only [fps, List.flatMap_append] at hnd
  refine (List.nodup_append.1 hnd).2.2 _ hb a.block (List.mem_flatMap.2 ⟨_, hm, ?_⟩) rfl
  rcases (hs2.row_own (List.mem_append_right _ hm)).2 with ⟨h3, _⟩ | ⟨g', cap', cur, h3, _⟩
  · subst h1; cases h3
  · subst h1; cases h3; simp [It.fp, Value.ownBlock]
theorem SlO.tkX {w : World} {A : Option Addr} {m cap : Nat} {cs : List Value} (h : SlO w X A m cap cs) {k : Nat} (hm : k ≤ m) (j : Nat) : SlO w X A k cap (cs.take j) := h.tk hm (fun _ => trivial) j rfl
theorem Yl_eqBT {t t' : TypeId} {x y : Operand} {a : Bool} (hx : evo fr x = some (.bool a)) (hy : evo fr y = some (.bool a)) (hu : P.underlying t = some .bool) : Yl P w0 X n fr Γ ⟨d, .binOp .eql t x y t', ty, ps, af, g⟩ (.bool true) := by
  have := Yl_eqB (w0 := w0) (X := X) (n := n) (Γ := Γ) (d := d) (ty := ty) (ps := ps) (af := af) (g := g) (t' := t') hx hy hu
  rwa [show (a == a) = true by simp] at this
theorem WL_clip {l rest : List Oper} {A : Option Addr} {e : TypeId} {sz m cap : Nat} {cs : List Value} (k c : Nat) (hk : Γ[k]? = some (It.row (.slice A m cap) e sz m cs)) (h1 : m ≤ c) (h2 : c ≤ cap) (h : WL P r w0 X n df l rest K fr (Γ.set k (It.row (.slice A m c) e sz m cs))) : WL P r w0 X n df l rest K fr Γ := fun a w hs hf hd => by
  have hrow := hs.row_own (List.mem_of_getElem? hk)
  have hfp : (It.row (.slice A m c) e sz m cs).fp = (It.row (.slice A m cap) e sz m cs).fp := by cases A <;> rfl
  refine h a w (hs.setAt hk rfl rfl rfl (Nat.le_refl _) (fun _ _ _ => rfl) (hrow.clip h1 h2) ?_ (fun b hb => .inl (by rwa [hfp] at hb))) hf hd
  rw [hfp]
  cases A <;> simp [It.fp, Value.ownBlock]
/-- 's[:y:z]'. -/
theorem Yl_sliceHM (T : Tab P) {t e : TypeId} {x y z : Operand} {A : Option Addr} {len cap sz by_ : Nat} {k k' : IntKind} {i i' : Int} (j j' : Nat) (hx : evo fr x = some (.slice A len cap)) (hy : evo fr y = some (.int k i)) (hz : evo fr z = some (.int k' i')) (ht : find2 T.els t = some (e, sz, by_)) (hj : i = j) (hj' : i' = j') (hl : j ≤ j') (hc : j' ≤ cap) :
    Yl P w0 X n fr Γ ⟨d, .slice t x none (some y) (some z), ty, ps, af, g⟩ (.slice A j j') := ⟨fun _ => by simp, fun ac hfit w hs => by
  obtain ⟨hu, inf, hinf, hi2, hi3⟩ := sliceInfo_elem (AllP.mem T.els_ok _ (find2_mem ht))
  dsimp only at hu hinf hi2 hi3
  subst hj hj'
  have h1 : (0 : Int) ≤ (j' : Int) ∧ (j' : Int) ≤ (cap : Int) := ⟨by omega, by omega⟩
  have h2 : (0 : Int) ≤ (j : Int) ∧ (j : Int) ≤ (j' : Int) := ⟨by omega, by omega⟩
  have e0 : ∀ a : Addr, a.add 0 = a := fun a => by simp [Addr.add]
  simp [execOp, evo_sound hfit hx, evo_sound hfit hy, evo_sound hfit hz, Instr.sliceAt, Instr.slice, run_underlying hu, Instr.sliceBounds, Instr.sliceBound, asIntOf, h1, h2, hl, hc, sizeOf, typeInfo, hinf, hi2, e0]⟩
theorem sA_none {A : Option Addr} {cap l sz : Nat} (h : sA A cap l sz = none) : A = none := by
  unfold sA at h
  split at h
  · exact h
  · simpa using h
end
end Go.Sx
/- A small calculus of triples. Part 12: division, kinds of numbers; a contract of the library. -/
namespace Go.Sx
open Go.RowKit
set_option linter.unusedVariables false
set_option linter.unusedSimpArgs false
theorem wrap_u64 {z : Int} (h0 : 0 ≤ z) (h1 : z ≤ 18446744073709551615) : IntKind.u64.wrap z = z := by
  simp [IntKind.wrap, IntKind.bits, IntKind.signed]; omega
theorem wrap_u8 {z : Int} (h0 : 0 ≤ z) (h1 : z ≤ 255) : IntKind.u8.wrap z = z := by
  simp [IntKind.wrap, IntKind.bits, IntKind.signed]; omega
theorem splice_putL {cs vs : List Value} {o : Nat} (h : o + vs.length ≤ cs.length) : cs.take (o + 0) ++ vs ++ cs.drop (o + 0 + vs.length) = putL cs o vs := by
  apply List.ext_getElem?
  intro j
  rw [putL_get _ _ _ _ h, Nat.add_zero, List.append_assoc]
  by_cases h1 : j < o
  · rw [if_neg (by omega), List.getElem?_append_left (by simp; omega), List.getElem?_take, if_pos h1]
  · rw [List.getElem?_append_right (by simp; omega), List.length_take, Nat.min_eq_left (by omega)]
    by_cases h2 : j < o + vs.length
    · rw [if_pos ⟨by omega, h2⟩, List.getElem?_append_left (by omega)]
    · rw [if_neg (by omega), List.getElem?_append_right (by omega), List.getElem?_drop]
      congr 1; omega
section
variable {P : Program} {r : Option Nat} {w0 : World} {X : List Nat} {n : Nat} {df : List Deferred} {K : Kont} {Q : Post} {fr : Fr} {Γ : List It} {d : Option Tmp} {ty : TypeId} {ps : String} {af : Array Edge} {g : Option (Nat × Bool)} {t t' : TypeId} {x y : Operand} {k : IntKind} {i j : Int}
theorem Yl_quo (hx : evo fr x = some (.int k i)) (hy : evo fr y = some (.int k j)) (h0 : 0 ≤ i) (hj : 0 < j) (hw : k.wrap (i / j) = i / j) : Yl P w0 X n fr Γ ⟨d, .binOp .quo t x y t', ty, ps, af, g⟩ (.int k (i / j)) := Yl_bin hx hy fun w => by
  have h1 : ¬ j = 0 := by omega
  simp [go_sem, Op.intDiv, h1, Int.tdiv_eq_ediv_of_nonneg h0, hw]
theorem Yl_rem (hx : evo fr x = some (.int k i)) (hy : evo fr y = some (.int k j)) (h0 : 0 ≤ i) (hj : 0 < j) : Yl P w0 X n fr Γ ⟨d, .binOp .rem t x y t', ty, ps, af, g⟩ (.int k (i % j)) := Yl_bin hx hy fun w => by
  have h1 : ¬ j = 0 := by omega
  simp [go_sem, Op.intDiv, h1, Int.tmod_eq_emod_of_nonneg h0]
theorem Yl_convW (T : Tab P) {s t : TypeId} {k k' k2 : IntKind} (hx : evo fr x = some (.int k i)) (hs : find2 T.kds s = some k2) (ht : find2 T.kds t = some k') (hw : k'.wrap i = i) : Yl P w0 X n fr Γ ⟨d, .convert s t x, ty, ps, af, g⟩ (.int k' i) := by
  have := Yl_conv (w0 := w0) (X := X) (n := n) (Γ := Γ) (d := d) (ty := ty) (ps := ps) (af := af) (g := g) T hx hs ht
  rwa [hw] at this
/-- 'copy(x, y)': into part of a row of the call's own. -/
theorem Hv_copy (T : Tab P) {N : Kont} {t t2 e : TypeId} {a : Addr} {D A : Option Addr} {dn dc m c kk sz by_ len cap o : Nat} {cs cs' news : List Value} (hx : evo fr x = some (.slice D dn dc)) (hy : evo fr y = some (.slice A m c)) (ht : find2 T.els t = some (e, sz, by_))
    (hk : Γ[kk]? = some (It.row (.slice (some a) len cap) e sz len cs)) (hD : min m dn ≠ 0 → D = some (a.add o)) (hH : RdA w0 X Γ A news) (hA : A = none → m = 0) (hl : news.length = min m dn * sz) (hsz : 0 < sz) (hfit : o + news.length ≤ len * sz) (h1 : (news.all Value.oneCell') = true) (hc : putL cs o news = cs') (hd : dstOk n d = true)
    (h : N (putF d (.int .i64 (min m dn : Nat)) fr) (Γ.set kk (It.row (.slice (some a) len cap) e sz len cs'))) :
    Hv P r w0 X n df ⟨d, .call { callee := .builtin .copy, args := #[x, y], argTypes := #[t, t2] }, ty, ps, af, g⟩ N fr Γ := Hv_val (fun _ => by simp) hd fun ac w hs hf => by
  obtain ⟨hu, inf, hinf, hi2, hi3⟩ := sliceInfo_elem (AllP.mem T.els_ok _ (find2_mem ht))
  dsimp only at hu hinf hi2 hi3
  have hmn : Nat.min m dn = min m dn := rfl
  obtain ⟨hlen, hrow2⟩ := hs.row_own (List.mem_of_getElem? hk)
  rcases hrow2 with ⟨h2, _⟩ | ⟨b, cap', cur, hv, _, hg, hcap, hmax, hcur, htake⟩
  · cases h2
  cases hv
  by_cases h0 : min m dn = 0
  · have hn : news = [] := List.eq_nil_of_length_eq_zero (by rw [hl, h0]; simp)
    subst hn
    have hcs : cs' = cs := by
      rw [← hc]
      apply List.ext_getElem?
      intro j
      rw [putL_get _ _ _ _ (by simp; omega)]
      simp; omega
    subst hcs
    have hset : Γ.set kk (It.row (.slice (some ⟨b, 0, none⟩) len cap) e sz len cs') = Γ := by
      apply List.ext_getElem?
      intro i
      rw [List.getElem?_set]
      split
      · rename_i hki; subst hki
        split
        · exact hk.symm
        · rename_i h2; rw [List.getElem?_eq_none (by omega)]
      · rfl
    rw [hset] at h
    rw [h0] at h
    refine ⟨_, w, Γ, ?_, hs, h⟩
    have hfc : (Builtin.firstCells inf.size 0 (.slice A m c)).run P w = .ok #[] w := by
      cases A with
      | none => exact run_firstCells_none (P := P) w _ _ _ _
      | some b' => exact run_firstCells_some (P := P) w _ 0 b' m c [] (by simp) (fun j v hj => by simp at hj)
    cases D with
    | none => simp [execOp, resolve, invoke, builtin, evo_sound hf hx, evo_sound hf hy, Builtin.copy_, goInt, run_underlying hu, Builtin.lenOf, sizeOf, typeInfo, hinf, hmn, h0, hfc]
    | some d' => simp [execOp, resolve, invoke, builtin, evo_sound hf hx, evo_sound hf hy, Builtin.copy_, goInt, run_underlying hu, Builtin.lenOf, sizeOf, typeInfo, hinf, hmn, h0, hfc, storeCells]
  · have hne : news ≠ [] := fun hn => by
      rw [hn] at hl
      have : min m dn * sz ≠ 0 := Nat.mul_ne_zero h0 (by omega)
      simp at hl; omega
    obtain ⟨a', hA', hHa⟩ := hH hne
    subst hA'
    have hD' := hD h0
    subst hD'
    rw [add_at0, Nat.zero_add] at hx
    have hg' : w.heap[b]? = some (.cells cur.toList.toArray e (0, 0)) := by simpa using hg
    have hle : len * sz ≤ cap * sz := Nat.mul_le_mul_right _ hcap
    have hfc := run_firstCells_some (P := P) w inf.size (min m dn) a' m c news (by rw [hl, hi2]) (hHa w hs)
    have hst := run_storeCells_at P b o e news 0 cur w hg (by omega) (fun u hu => by simpa using List.all_eq_true.1 h1 u hu)
    refine ⟨_, w.setRow b (cur.toList.take (o + 0) ++ news ++ cur.toList.drop (o + 0 + news.length)).toArray, _, ?_, ?_, h⟩
    · simp [execOp, resolve, invoke, builtin, evo_sound hf hx, evo_sound hf hy, Builtin.copy_, goInt, run_underlying hu, Builtin.lenOf, sizeOf, typeInfo, hinf, hmn, hfc, hst]
    · refine hs.setAt hk rfl rfl rfl (by simp) (fun b' h3 h4 => setRow_other w b b' _ (fun e => h4 (by simp [It.fp, Value.ownBlock, e]))) ?_ (by simp [It.fp, Value.ownBlock]) (fun b' hb => .inl hb)
      refine ⟨by rw [← hc, putL_length]; exact hlen, .inr ⟨b, cap, _, rfl, Nat.zero_le _, setRow_heap w b _ _ e (0, 0) hg, hcap, hmax, ?_, ?_⟩⟩
      · simp only [List.size_toArray, List.length_append, List.length_take, List.length_drop, Array.length_toList]
        omega
      · subst hc
        apply List.ext_getElem?
        intro j
        have e1 : (cur.toList.take (o + 0) ++ news ++ cur.toList.drop (o + 0 + news.length)) = putL cur.toList o news := splice_putL (by simp; omega)
        simp only [List.toList_toArray]
        rw [e1, List.getElem?_take]
        by_cases hj : j < len * sz
        · rw [if_pos hj, putL_get _ _ _ _ (by simp; omega), putL_get _ _ _ _ (by rw [hlen]; omega)]
          by_cases hq : o ≤ j ∧ j < o + news.length
          · rw [if_pos hq, if_pos hq]
          · rw [if_neg hq, if_neg hq, ← htake, List.getElem?_take, if_pos hj]
        · rw [if_neg hj]
          symm
          rw [List.getElem?_eq_none_iff, putL_length, hlen]; omega
end
/-- a contract of the library: the world stays. -/
theorem Tr_of_calls {P : Program} {f : FuncId} {args : Array Value} {w : World} {v : Value} (h : Calls P f args w fun e w' => e = .returned v ∧ w' = w) : Tr P f args w [] (fun u Γ => u = v ∧ Γ = []) := fun hs =>
  h.mono fun e w' ⟨he, hw⟩ => ⟨v, [], he, ⟨rfl, rfl⟩, by subst hw; exact hs.st⟩
end Go.Sx
/- A small calculus of triples. Part 13: pointers and nil. -/
namespace Go.Sx
open Go.RowKit
set_option linter.unusedVariables false
set_option linter.unusedSimpArgs false
section
variable {P : Program} {w0 : World} {X : List Nat} {n : Nat} {fr : Fr} {Γ : List It} {d : Option Tmp} {ty : TypeId} {ps : String} {af : Array Edge} {g : Option (Nat × Bool)}
theorem equalIn_pn {P : Program} {t e : TypeId} {a : Addr} (hu : P.underlying t = some (.pointer e)) (d : Nat) (w : World) : (Op.equalIn (d + 1) t (.pointer (some a)) (.pointer none)).run P w = .ok false w := by
  simp [Op.equalIn, run_underlying hu]
theorem Yl_eqPN {t t' e : TypeId} {x y : Operand} {a : Addr} (hx : evo fr x = some (.pointer (some a))) (hy : evo fr y = some (.pointer none)) (hu : P.underlying t = some (.pointer e)) :
    Yl P w0 X n fr Γ ⟨d, .binOp .eql t x y t', ty, ps, af, g⟩ (.bool false) := Yl_bin hx hy fun w => by
  simp only [Sem.run_bind]
  have : (eqGuard .eql t x y (.pointer (some a)) (.pointer none)).run P w = .ok () w := by simp [eqGuard]
  rw [this, Result.andThen_ok]
  have e1 : (binOp .eql t (.pointer (some a)) (.pointer none)).run P w = ((Op.equalIn 10000 t (.pointer (some a)) (.pointer none)).run P w).andThen fun b w' => .ok (.bool b) w' := by
    simp only [binOp]
    simp [Op.equal, Op.maxDepth]
  rw [e1, equalIn_pn hu 9999 w]; rfl
theorem Yl_nePN {t t' e : TypeId} {x y : Operand} {a : Addr} (hx : evo fr x = some (.pointer (some a))) (hy : evo fr y = some (.pointer none)) (hu : P.underlying t = some (.pointer e)) :
    Yl P w0 X n fr Γ ⟨d, .binOp .neq t x y t', ty, ps, af, g⟩ (.bool true) := Yl_bin hx hy fun w => by
  simp only [Sem.run_bind]
  have : (eqGuard .neq t x y (.pointer (some a)) (.pointer none)).run P w = .ok () w := by simp [eqGuard]
  rw [this, Result.andThen_ok]
  have e1 : (binOp .neq t (.pointer (some a)) (.pointer none)).run P w = ((Op.equalIn 10000 t (.pointer (some a)) (.pointer none)).run P w).andThen fun b w' => .ok (.bool !b) w' := by
    simp only [binOp]
    simp [Op.equal, Op.maxDepth]
  rw [e1, equalIn_pn hu 9999 w]; rfl
end
end Go.Sx
/- A small calculus of triples. Part 14: a slice that was grown out of another one: both are read. -/
namespace Go.Sx
open Go.RowKit
set_option linter.unusedVariables false
set_option linter.unusedSimpArgs false
def twFp (A : Option Nat) (v : Value) : List Nat := if v.ownBlock = A then A.toList else A.toList ++ v.ownBlock.toList
/-- v: a slice of the call's own; A: the block in which an elder slice lies, it may be v's: its first cells are cs0. -/
structure TwOk (A : Option Nat) (cs0 : List Value) (v : Value) (t : TypeId) (sz n : Nat) (cs : List Value) (w : World) : Prop where
  row : hasRow w t sz v n cs
  old : ∀ b, A = some b → Cells w ⟨b, 0, none⟩ cs0 ∧ b < w.heap.size
  pre : ∀ b, A = some b → v.ownBlock = some b → cs0 <+: cs
theorem mem_twFp {A : Option Nat} {v : Value} {b : Nat} : b ∈ twFp A v ↔ A = some b ∨ v.ownBlock = some b := by
  unfold twFp
  split
  · rename_i h; rw [h]; simp
  · simp
theorem twFp_nodup (A : Option Nat) (v : Value) : (twFp A v).Nodup := by
  unfold twFp
  split
  · cases A <;> simp
  · rename_i h
    cases hA : A <;> cases hv : v.ownBlock <;> simp_all
    exact fun e => h e.symm
def twin (A : Option Nat) (cs0 : List Value) (v : Value) (t : TypeId) (sz n : Nat) (cs : List Value) : It := .gen (twFp A v) (TwOk A cs0 v t sz n cs)
  (fun w w' h hk => ⟨It.loc (i := .row v t sz n cs) (fun b hb => h b (mem_twFp.2 (.inr (by simpa [It.fp] using hb)))) hk.row,
    fun b hb => ⟨fun j u hu => by
      exact (World.cell?_of_block (w := w) (w' := w') (a := (⟨b, 0, none⟩ : Addr).add j) (by rw [add_block]; exact h b (mem_twFp.2 (.inl hb)))).trans ((hk.old b hb).1 j u hu), by
      have h1 := h b (mem_twFp.2 (.inl hb))
      have h2 := (hk.old b hb).2
      exact (Array.getElem?_eq_some_iff.1 (h1.trans (Array.getElem?_eq_getElem h2))).1⟩, hk.pre⟩)
  (fun w hk b hb => by
    rcases mem_twFp.1 hb with h | h
    · exact (hk.old b h).2
    · exact hk.row.lt b h)
/-- append: what comes of it, where it lies, and that nothing old is turned where it had to move. -/
theorem run_append_has2 {P : Program} (w : World) (t ty e : TypeId) (i : TypeInfo) (z : Value) (size bytes : Nat) (ht : P.underlying t = some (.slice e)) (hi : P.info? e = some i) (hz : i.zero = some z) (hsize : i.size = size) (hby : i.bytes = bytes) (hzs : z.cells.size = size) (hsz : 0 < size)
    (v : Value) (n : Nat) (xs : List Value) (hown : hasRow w e size v n xs) (a : Addr) (m c : Nat) (news : List Value) (hl : news.length = m * size) (hnews : ∀ j u, news[j]? = some u → w.cell? (a.add j) = some u) (h1 : ∀ u ∈ news, u.oneCell' = true) (h63 : n + m ≤ maxLen) (hbytes : (n + m) * bytes ≤ 140737488355328) :
    ∃ v' w', (Builtin.append_ #[t, t] ty #[v, .slice (some a) m c]).run P w = .ok v' w' ∧ hasRow w' e size v' (n + m) (xs ++ news) ∧ w.grownBy w' v.ownBlock ∧ (v' = .slice none 0 0 ↔ v = .slice none 0 0 ∧ m = 0) ∧ ((v'.ownBlock = v.ownBlock) ∨ (v'.ownBlock = some w.heap.size ∧ ∀ k, k < w.heap.size → w'.heap[k]? = w.heap[k]?)) := by
  obtain ⟨v', w', a1, a2, a3, a4, a5⟩ := run_append_has (P := P) w t ty e i z size bytes ht hi hz hsize hby hzs hsz v n xs hown a m c news hl hnews h1 h63 hbytes
  refine ⟨v', w', a1, a2, a3, a4, ?_⟩
  rcases a5 with a5 | a5
  · exact .inl a5
  refine .inr ⟨a5, fun k hk => ?_⟩
  by_cases hkv : some k = v.ownBlock
  · -- it grew: the run says so
    subst hsize
    subst hby
    rcases hown.2 with ⟨rfl, rfl⟩ | ⟨g, cap, cur, rfl, _, hg, hnc, hcm, hcs, htake⟩
    · simp [Value.ownBlock] at hkv
    · have hroom : ¬ n + m ≤ cap := fun hroom => by
        have hfit : n * i.size + news.length ≤ cur.size := by rw [hl, ← Nat.add_mul]; exact Nat.le_trans (Nat.mul_le_mul_right _ hroom) hcs
        have hr := run_append_room (P := P) w t ty e i ht hi g n cap cur hg a m c news hl hnews h1 hroom hfit
        rw [hr] at a1
        cases a1
        simp [Value.ownBlock] at a5
        have := (Array.getElem?_eq_some_iff.1 hg).1
        omega
      have holds : ∀ j u, xs[j]? = some u → w.cell? ((⟨g, 0, none⟩ : Addr).add j) = some u := hown.cells (g := g) rfl
      have hr := run_append_grow (P := P) w t ty e i z ht hi hz ⟨g, 0, none⟩ n cap xs hown.1 holds a m c news hl hnews (by omega) (by unfold maxLen at h63; omega) (growslice_fits (by omega) hbytes)
      rw [hr] at a1
      cases a1
      exact heap_alloc_old w.drew _ hk
  · exact a3.block k hk hkv
section
variable {P : Program} {r : Option Nat} {w0 : World} {X : List Nat} {n : Nat} {df : List Deferred} {K : Kont} {Q : Post} {fr : Fr} {Γ : List It} {d : Option Tmp} {ty : TypeId} {ps : String} {af : Array Edge} {g : Option (Nat × Bool)}
/-- 'append(s, x..)', an elder slice staying readable. -/
theorem Hv_appendT (T : Tab P) {N : Kont} {t e : TypeId} {x y : Operand} {s : Value} {a : Addr} {A : Option Nat} {m c k sz by_ len : Nat} {cs0 cs news z : List Value} (hx : evo fr x = some s) (hy : evo fr y = some (.slice (some a) m c)) (ht : find2 T.els t = some (e, sz, by_))
    (hz : find2 T.zrs e = some z) (hzs : z.length = sz) (hsz : 0 < sz) (hk : Γ[k]? = some (twin A cs0 s e sz len cs)) (hH : Has w0 X Γ a news) (hl : news.length = m * sz) (h1 : (news.all Value.oneCell') = true)
    (h63 : len + m ≤ 9223372036854775807) (hby : (len + m) * by_ ≤ 140737488355328) (hd : dstOk n d = true)
    (h : ∀ A' cap, (A' = none ↔ s = .slice none 0 0 ∧ m = 0) → N (putF d (.slice A' (len + m) cap) fr) (Γ.set k (twin A cs0 (.slice A' (len + m) cap) e sz (len + m) (cs ++ news)))) :
    Hv P r w0 X n df ⟨d, .call { callee := .builtin .append, args := #[x, y], argTypes := #[t, t] }, ty, ps, af, g⟩ N fr Γ := Hv_val (fun _ => by simp) hd fun ac w hs hf => by
  obtain ⟨hu, inf, hinf, hi2, hi3⟩ := sliceInfo_elem (AllP.mem T.els_ok _ (find2_mem ht))
  obtain ⟨inf', zv, h1', h2', h3'⟩ := zero_run (AllP.mem T.zrs_ok _ (find2_mem hz))
  dsimp only at hu hinf h1' hi2 hi3
  rw [hinf] at h1'
  cases h1'
  have htw : TwOk A cs0 s e sz len cs w := hs.ok _ (List.mem_of_getElem? hk)
  obtain ⟨v', w', hr, hown, hgr, hnil, hat⟩ := run_append_has2 (P := P) w t ty e inf zv sz by_ hu hinf h2' hi2 hi3 (by rw [h3']; simpa using hzs) hsz s len cs htw.row a m c news hl (hH w hs) (fun u hu => by simpa using List.all_eq_true.1 h1 u hu) (by unfold maxLen; omega) hby
  have hshape : ∃ A' cap, v' = .slice A' (len + m) cap ∧ (A' = none ↔ v' = .slice none 0 0) := by
    rcases hown.2 with ⟨rfl, h0⟩ | ⟨gg, cap, cur, rfl, _⟩
    · exact ⟨none, 0, by rw [h0], by simp⟩
    · exact ⟨_, cap, rfl, by simp⟩
  obtain ⟨A', cap, hv, hA⟩ := hshape
  have hnew : TwOk A cs0 v' e sz (len + m) (cs ++ news) w' := by
    refine ⟨hown, fun b hb => ?_, fun b hb hvb => ?_⟩
    · obtain ⟨o1, o2⟩ := htw.old b hb
      refine ⟨?_, Nat.lt_of_lt_of_le o2 hgr.size⟩
      by_cases hsb : s.ownBlock = some b
      · rcases hat with h5 | ⟨h5, h6⟩
        · obtain ⟨tl, htl⟩ := htw.pre b hb hsb
          intro j u hu
          refine hown.cells (g := b) (by rw [h5, hsb]) j u ?_
          rw [← htl, List.append_assoc]
          have hj := (List.getElem?_eq_some_iff.1 hu).1
          rw [List.getElem?_append_left hj]; exact hu
        · intro j u hu
          exact (World.cell?_of_block (w := w) (w' := w') (a := (⟨b, 0, none⟩ : Addr).add j) (by rw [add_block]; exact h6 b o2)).trans (o1 j u hu)
      · intro j u hu
        exact (World.cell?_of_block (w := w) (w' := w') (a := (⟨b, 0, none⟩ : Addr).add j) (by rw [add_block]; exact hgr.block b o2 (fun e => hsb e.symm))).trans (o1 j u hu)
    · rcases hat with h5 | ⟨h5, h6⟩
      · obtain ⟨tl, htl⟩ := htw.pre b hb (by rw [← h5]; exact hvb)
        exact ⟨tl ++ news, by rw [← htl, List.append_assoc]⟩
      · rw [hvb] at h5; cases h5
        have := (htw.old _ hb).2; omega
  refine ⟨v', w', _, ?_, ?_, by rw [hv]; exact h A' cap (by rw [hA, hnil])⟩
  · simp [execOp, resolve, invoke, builtin, evo_sound hf hx, evo_sound hf hy, hr]
  · rw [← hv]
    refine hs.setAt hk hgr.os hgr.tape hgr.output hgr.size (fun b h4 h5 => hgr.block b h4 (fun e => h5 (mem_twFp.2 (.inr e.symm)))) hnew (twFp_nodup _ _) (fun b hb => ?_)
    rcases mem_twFp.1 hb with h6 | h6
    · exact .inl (mem_twFp.2 (.inl h6))
    · rcases hat with h5 | ⟨h5, _⟩
      · exact .inl (mem_twFp.2 (.inr (by rw [← h5]; exact h6)))
      · rw [h5] at h6; cases h6; exact .inr (Nat.le_refl _)
/-- a row becomes a twin. -/
theorem St.twin {w : World} {k : Nat} {A : Option Nat} {t : TypeId} {sz m c : Nat} {cs : List Value} (hs : St w0 X Γ w) (hk : Γ[k]? = some (It.row (.slice (A.map fun b => ⟨b, 0, none⟩) m c) t sz m cs)) :
    St w0 X (Γ.set k (Sx.twin A cs (.slice (A.map fun b => ⟨b, 0, none⟩) m c) t sz m cs)) w := by
  have hrow := hs.row_own (List.mem_of_getElem? hk)
  have hob : (Value.slice (A.map fun b => (⟨b, 0, none⟩ : Addr)) m c).ownBlock = A := by cases A <;> rfl
  refine hs.setAt hk rfl rfl rfl (Nat.le_refl _) (fun _ _ _ => rfl) ⟨hrow, fun b hb => ?_, fun b hb _ => ⟨[], by simp⟩⟩ (twFp_nodup _ _) (fun b hb => .inl ?_)
  · subst hb
    exact ⟨fun j u hu => hrow.cells (g := b) rfl j u hu, hrow.lt b rfl⟩
  · replace hb := mem_twFp.1 (show b ∈ twFp A (Value.slice (A.map fun b => (⟨b, 0, none⟩ : Addr)) m c) from hb)
    rw [hob] at hb
    simp only [It.fp, hob]
    rcases hb with h | h <;> simp [h]
theorem W_twin {cd : Code} (k : Nat) {A : Option Nat} {t : TypeId} {sz m c : Nat} {cs : List Value} (hk : Γ[k]? = some (It.row (.slice (A.map fun b => ⟨b, 0, none⟩) m c) t sz m cs))
    (h : W P r w0 X n df cd K Q fr (Γ.set k (Sx.twin A cs (.slice (A.map fun b => ⟨b, 0, none⟩) m c) t sz m cs))) : W P r w0 X n df cd K Q fr Γ := fun a w hs => h a w (hs.twin hk)
/-- where a row lies. -/
theorem row_shape {w : World} {V : Option Addr} {t : TypeId} {sz m c : Nat} {cs : List Value} (hs : St w0 X Γ w) (hm : It.row (.slice V m c) t sz m cs ∈ Γ) : ∃ A : Option Nat, V = A.map fun b => ⟨b, 0, none⟩ := by
  rcases (hs.row_own hm).2 with ⟨h1, _⟩ | ⟨g, cap, cur, h1, _⟩
  · cases h1; exact ⟨none, rfl⟩
  · cases h1; exact ⟨some g, rfl⟩
theorem Has.twNew {K : List It} {A : Option Nat} {a : Addr} {t : TypeId} {sz m c : Nat} {cs0 cs : List Value} (hm : Sx.twin A cs0 (.slice (some a) m c) t sz m cs ∈ K) : Has w0 X K a cs := fun w hs => by
  have h : TwOk A cs0 (.slice (some a) m c) t sz m cs w := hs.ok _ hm
  intro j u hu
  rcases h.row.2 with ⟨h1, _⟩ | ⟨g, cap, cur, h1, _⟩
  · cases h1
  · cases h1
    exact h.row.cells (g := g) rfl j u hu
theorem Has.twOld {K : List It} {b : Nat} {v : Value} {t : TypeId} {sz m : Nat} {cs0 cs : List Value} (hm : Sx.twin (some b) cs0 v t sz m cs ∈ K) : Has w0 X K ⟨b, 0, none⟩ cs0 := fun w hs => by
  have h : TwOk (some b) cs0 v t sz m cs w := hs.ok _ hm
  exact (h.old b rfl).1
end
end Go.Sx
/- A small calculus of triples. Part 15: the steps under short names; what a step asks is looked for by itself. -/
namespace Go.Sx
open Go.RowKit
set_option linter.unusedVariables false
def cmpP : Nat → Int → Int → Prop | 0, i, j => i < j | 1, i, j => i ≤ j | 2, i, j => i = j | _ + 3, i, j => i ≠ j
def cmpN : Nat → Int → Int → Prop | 0, i, j => j ≤ i | 1, i, j => j < i | 2, i, j => i ≠ j | _ + 3, i, j => i = j
theorem cmpP_of {k : Nat} {i j : Int} (h : cmpB (k, i, j) = true) : cmpP k i j := by
  match k with
  | 0 => simpa [cmpB, cmpP] using h
  | 1 => simpa [cmpB, cmpP] using h
  | 2 => simpa [cmpB, cmpP] using h
  | _ + 3 => simpa [cmpB, cmpP] using h
theorem cmpN_of {k : Nat} {i j : Int} (h : cmpB (k, i, j) = false) : cmpN k i j := by
  match k with
  | 0 => simpa [cmpB, cmpN] using h
  | 1 => simpa [cmpB, cmpN] using h
  | 2 => simpa [cmpB, cmpN] using h
  | _ + 3 => simpa [cmpB, cmpN] using h
theorem at0 {α : Type} {l : List α} (k : Nat) {x : α} (h : l[k]? = some x) : l[k]? = some x := h
section
variable {P : Program} {r : Option Nat} {w0 : World} {X : List Nat} {n : Nat} {df : List Deferred} {K : Kont} {Q : Post} {fr : Fr} {Γ Kp : List It} {l rest : List Oper} {o : Oper} {d : Tmp} {op : Op} {v : Value} {ty : TypeId} {ps : String} {af : Array Edge} {g : Option (Nat × Bool)}
variable {late : List Nat} {listed : Array Bool} {plan : List (Nat × Nat)} {i k : Nat}
/-- the next operation yields a value that a reckoning tells. -/
theorem Zv (T : Tab P) {p : Nat × Value} (k : WL P r w0 X n df l rest K (p :: fr) Γ) (h : stp T l n fr o = some p := by rfl) : WL P r w0 X n df l (o :: rest) K fr Γ := WL_v T h k
/-- it yields a value that is looked for. -/
theorem Zu (T : Tab P) (h : WL P r w0 X n df l rest K ((d, v) :: fr) Γ)
    (hy : Yl P w0 X n fr Γ ⟨some d, op, ty, ps, af, g⟩ v := by
      first
      | (apply Yl_ldBW tb rfl rfl; (repeat (first | exact List.Mem.head _ | apply List.Mem.tail)); rfl)
      | (apply Yl_ldB1 tb rfl rfl; (repeat (first | exact List.Mem.head _ | apply List.Mem.tail)); rfl)
      | exact Yl_fieldAddr tb rfl rfl
      | exact Yl_add rfl rfl (by omega) (by omega)
      | exact Yl_sub rfl rfl (by omega) (by omega)
      | exact Yl_mul rfl rfl (by omega) (by omega)
      | exact Yl_nilCheckP rfl)
    (hg : gdo l fr g = some true := by rfl) (hd : Nat.blt d n = true := by rfl) : WL P r w0 X n df l (⟨some d, op, ty, ps, af, g⟩ :: rest) K fr Γ := WL_u hy hg hd h
/-- a test. -/
theorem Zt {d' k : Nat} {i j : Int} (ht : cmpP k i j → WL P r w0 X n df l rest K ((d', .bool true) :: fr) Γ) (hf : cmpN k i j → WL P r w0 X n df l rest K ((d', .bool false) :: fr) Γ) (h : tstB l n fr o = some (d', k, i, j) := by rfl) : WL P r w0 X n df l (o :: rest) K fr Γ :=
  WL_c h (fun h => ht (cmpP_of h)) (fun h => hf (cmpN_of h))
/-- memory is made. -/
theorem Zm (T : Tab P) {t : TypeId} {z : List Value} {d : Option Tmp} (h : ∀ b, WL P r w0 X n df l rest K (putF d (.pointer (some ⟨b, 0, none⟩)) fr) (It.blk b z t :: Γ)) (hz : find2 T.zrs t = some z := by rfl) (hg : gdo l fr g = some true := by rfl) (hd : dstOk n d = true := by rfl) :
    WL P r w0 X n df l (⟨d, .alloc t, ty, ps, af, g⟩ :: rest) K fr Γ := WL_cons hg (Hv_alloc T hz hd h)
theorem Zb {t : TypeId} {x : Operand} {cs : List Value} {d : Option Tmp} (h : ∀ b, WL P r w0 X n df l rest K (putF d (.pointer (some ⟨b, 0, none⟩)) fr) (It.blk b cs t :: Γ)) (hx : evo fr x = some v := by rfl) (hv : v.cells.toList = cs := by rfl) (hg : gdo l fr g = some true := by rfl) (hd : dstOk n d = true := by rfl) :
    WL P r w0 X n df l (⟨d, .box t x, ty, ps, af, g⟩ :: rest) K fr Γ := WL_cons hg (Hv_box hx hv hd h)
/-- a store into a block. -/
theorem Zs (T : Tab P) {t t' : TypeId} {x y : Operand} {b o m k : Nat} {bb : Bool} {cs cs' : List Value} {d : Option Tmp} (h : WL P r w0 X n df l rest K (putF d undef fr) (Γ.set k (It.blk b cs' t')))
    (hx : evo fr x = some (.pointer (some ⟨b, o, none⟩)) := by rfl) (hy : evo fr y = some v := by rfl) (ht : find2 T.lds t = some (bb, m) := by rfl)
    (hk : Γ[k]? = some (It.blk b cs t') := by first | exact at0 0 rfl | exact at0 1 rfl | exact at0 2 rfl | exact at0 3 rfl | exact at0 4 rfl | exact at0 5 rfl | exact at0 6 rfl | exact at0 7 rfl | exact at0 8 rfl | exact at0 9 rfl | exact at0 10 rfl | exact at0 11 rfl)
    (hm : v.cells.toList.length = m := by rfl) (hfit : o + m ≤ cs.length := by exact Nat.le_of_ble_eq_true rfl) (h1 : (v.cells.toList.all Value.oneCell') = true := by rfl) (hc : putL cs o v.cells.toList = cs' := by rfl) (hg : gdo l fr g = some true := by rfl) (hd : dstOk n d = true := by rfl) :
    WL P r w0 X n df l (⟨d, .store t x y, ty, ps, af, g⟩ :: rest) K fr Γ := WL_cons hg (Hv_store T hx hy ht hk hm hfit h1 hc hd h)
theorem Z0 (h : K fr Γ) : WL P r w0 X n df l [] K fr Γ := WL_nil h
/-! code -/
theorem Zq {x y : Code} (h : W P r w0 X n df x (fun fr Γ => W P r w0 X n df y K Q fr Γ) Q fr Γ) : W P r w0 X n df (.seq x y) K Q fr Γ := W_seq h
theorem Zr {id : Nat} (h : WL P r w0 X n df l l K fr Γ) : W P r w0 X n df (.region id l.toArray false) K Q fr Γ := W_region h
theorem Zk {id : Nat} {c : Code} (h : W P r w0 X n df c K (Pblk id K Q) fr Γ) : W P r w0 X n df (.block id c) K Q fr Γ := W_block h
theorem Zy {c : Operand} {x y : Code} (h : W P r w0 X n df x K Q fr Γ) (hc : evo fr c = some (.bool true) := by rfl) : W P r w0 X n df (.cond c x y) K Q fr Γ := W_cond_t hc h
theorem Zn {c : Operand} {x y : Code} (h : W P r w0 X n df y K Q fr Γ) (hc : evo fr c = some (.bool false) := by rfl) : W P r w0 X n df (.cond c x y) K Q fr Γ := W_cond_f hc h
theorem Zj (h : K fr Γ) : W P r w0 X n df .skip K Q fr Γ := W_skip h
theorem Ze {id : Nat} (h : Q (.exit id) fr Γ) : W P r w0 X n df (.exit id) K Q fr Γ := W_exit h
theorem Zx (h : Q .ret fr Γ) : W P r w0 X n df .ret K Q fr Γ := W_ret h
section
variable {x y z : Code} {Qr : Exit → Act → World → Prop}
theorem Zqr {id : Nat} (h : WL P r w0 X n df l l (fun fr Γ => WQ P r w0 X n df y Qr fr Γ) fr Γ) : WQ P r w0 X n df (.seq (.region id l.toArray false) y) Qr fr Γ := WQ_seq (W_region h)
theorem Zqc {c : Operand} (h : W P r w0 X n df (.cond c x z) (fun fr Γ => WQ P r w0 X n df y Qr fr Γ) (QP w0 X n df Qr) fr Γ) : WQ P r w0 X n df (.seq (.cond c x z) y) Qr fr Γ := WQ_seq h
theorem Zqs {a : Code} {c : Operand} (h : W P r w0 X n df a (fun fr Γ => W P r w0 X n df (.cond c x z) (fun fr Γ => WQ P r w0 X n df y Qr fr Γ) (QP w0 X n df Qr) fr Γ) (QP w0 X n df Qr) fr Γ) : WQ P r w0 X n df (.seq (.seq a (.cond c x z)) y) Qr fr Γ := WQ_seq (W_seq h)
theorem Zqx (h : At w0 X n df fr Γ (Qr .ret)) : WQ P r w0 X n df .ret Qr fr Γ := WQ_ret h
theorem Zqf {rs : List ResultVar} {R : Value → List It → Prop} (h : Fin P rs R fr Γ) : QP w0 X n [] (QF P rs n w0 X R) .ret fr Γ := QF_ret0 h
end
/-! plans -/
theorem Zpv (T : Tab P) {kd : Nat} {p : Nat × Value} (k : WP P r w0 X n df l late Kp (listed.setIfInBounds i true) plan K (p :: fr) Γ) (hk : Nat.blt kd 2 = true := by rfl) (hi : l[i]? = some o := by rfl) (h : stp T l n fr o = some p := by rfl) : WP P r w0 X n df l late Kp listed ((i, kd) :: plan) K fr Γ := WP_v T hk hi h k
theorem Zpt {d' k : Nat} {x y : Int} (ht : cmpP k x y → WP P r w0 X n df l late Kp (listed.setIfInBounds i true) plan K ((d', .bool true) :: fr) Γ) (hf : cmpN k x y → WP P r w0 X n df l late Kp (listed.setIfInBounds i true) plan K ((d', .bool false) :: fr) Γ) (hi : l[i]? = some o := by rfl) (h : tstB l n fr o = some (d', k, x, y) := by rfl) :
    WP P r w0 X n df l late Kp listed ((i, 0) :: plan) K fr Γ := WP_c hi h (fun h => ht (cmpP_of h)) (fun h => hf (cmpN_of h))
theorem Zpu (T : Tab P) (h : WP P r w0 X n df l late Kp (listed.setIfInBounds i true) plan K ((d, v) :: fr) Γ) (hi : l[i]? = some ⟨some d, op, ty, ps, af, g⟩ := by rfl)
    (hy : Yl P w0 X n fr Kp ⟨some d, op, ty, ps, af, g⟩ v := by
      first
      | (apply Yl_ldBW tb rfl rfl; (repeat (first | exact List.Mem.head _ | apply List.Mem.tail)); rfl)
      | (apply Yl_ldB1 tb rfl rfl; (repeat (first | exact List.Mem.head _ | apply List.Mem.tail)); rfl))
    (hg : gdo l fr g = some true := by rfl) (hd : Nat.blt d n = true := by rfl) : WP P r w0 X n df l late Kp listed ((i, 1) :: plan) K fr Γ := WP_u1 hi hy hg hd h
theorem Zpw (h : WP P r w0 X n df l late Kp (listed.setIfInBounds i true) plan K ((d, v) :: fr) Γ) (hi : l[i]? = some ⟨some d, op, ty, ps, af, g⟩ := by rfl)
    (hy : Yl P w0 X n fr [] ⟨some d, op, ty, ps, af, g⟩ v := by
      first
      | exact Yl_fieldAddr tb rfl rfl
      | exact Yl_add rfl rfl (by omega) (by omega)
      | exact Yl_sub rfl rfl (by omega) (by omega)
      | exact Yl_mul rfl rfl (by omega) (by omega)
      | exact Yl_nilCheckP rfl)
    (hg : gdo l fr g = some true := by rfl) (hd : Nat.blt d n = true := by rfl) : WP P r w0 X n df l late Kp listed ((i, 0) :: plan) K fr Γ := WP_u0 hi hy hg hd h
theorem Zps (T : Tab P) {t t' : TypeId} {x y : Operand} {b o m k : Nat} {bb : Bool} {cs cs' : List Value} {d : Option Tmp} (h : WP P r w0 X n df l late Kp (listed.setIfInBounds i true) plan K (putF d undef fr) (Γ.set k (It.blk b cs' t'))) (hi : l[i]? = some ⟨d, .store t x y, ty, ps, af, g⟩ := by rfl)
    (hx : evo fr x = some (.pointer (some ⟨b, o, none⟩)) := by rfl) (hy : evo fr y = some v := by rfl) (ht : find2 T.lds t = some (bb, m) := by rfl)
    (hk : Γ[k]? = some (It.blk b cs t') := by first | exact at0 0 rfl | exact at0 1 rfl | exact at0 2 rfl | exact at0 3 rfl | exact at0 4 rfl | exact at0 5 rfl | exact at0 6 rfl)
    (hm : v.cells.toList.length = m := by rfl) (hfit : o + m ≤ cs.length := by exact Nat.le_of_ble_eq_true rfl) (h1 : (v.cells.toList.all Value.oneCell') = true := by rfl) (hc : putL cs o v.cells.toList = cs' := by rfl) (hg : gdo l fr g = some true := by rfl) (hd : dstOk n d = true := by rfl)
    (hl : (late.any fun j => Nat.beq j i || listed.getD j false) = true := by rfl) : WP P r w0 X n df l late Kp listed ((i, 2) :: plan) K fr Γ := WP_2 hi hg (Hv_store T hx hy ht hk hm hfit h1 hc hd ⟨.inl hl, h⟩)
theorem Zpk (h : WP P r w0 X n df l late Kp (listed.setIfInBounds i true) plan K (putF o.dst undef fr) Γ) (hi : l[i]? = some o := by rfl) (hg : gdo l fr o.guard = some false := by rfl) (hd : dstOk n o.dst = true := by rfl) (hk : ∃ R, Γ.Perm (Kp ++ R) := by exact keepAll _) : WP P r w0 X n df l late Kp listed ((i, 2) :: plan) K fr Γ := WP_skip2 hi hg hd h hk
theorem Zp0 (h : K fr Γ) : WP P r w0 X n df l late Kp listed [] K fr Γ := WP_nil h
end
end Go.Sx
