/- A small calculus of triples. Part 12: division, kinds of numbers; a contract of the library. -/
import Derived.Test.YtdnngagahhleiaaSx11
namespace Go.Sx
open Go.RowKit
set_option linter.unusedVariables false
set_option linter.unusedSimpArgs false
theorem wrap_u64 {z : Int} (h0 : 0 ≤ z) (h1 : z ≤ 18446744073709551615) : IntKind.u64.wrap z = z := by
  simp [IntKind.wrap, IntKind.bits, IntKind.signed]; omega
theorem wrap_u8 {z : Int} (h0 : 0 ≤ z) (h1 : z ≤ 255) : IntKind.u8.wrap z = z := by
  simp [IntKind.wrap, IntKind.bits, IntKind.signed]; omega
theorem splice_putL {cs vs : List Value} {o : Nat} (h : o + vs.length ≤ cs.length) : cs.take (o + 0) ++ vs ++ cs.drop (o + 0 + vs.length) = putL cs o vs := by
  apply List.ext_getElem?
  intro j
  rw [putL_get _ _ _ _ h, Nat.add_zero, List.append_assoc]
  by_cases h1 : j < o
  · rw [if_neg (by omega), List.getElem?_append_left (by simp; omega), List.getElem?_take, if_pos h1]
  · rw [List.getElem?_append_right (by simp; omega), List.length_take, Nat.min_eq_left (by omega)]
    by_cases h2 : j < o + vs.length
    · rw [if_pos ⟨by omega, h2⟩, List.getElem?_append_left (by omega)]
    · rw [if_neg (by omega), List.getElem?_append_right (by omega), List.getElem?_drop]
      congr 1; omega
section
variable {P : Program} {r : Option Nat} {w0 : World} {X : List Nat} {n : Nat} {df : List Deferred} {K : Kont} {Q : Post} {fr : Fr} {Γ : List It} {d : Option Tmp} {ty : TypeId} {ps : String} {af : Array Edge} {g : Option (Nat × Bool)} {t t' : TypeId} {x y : Operand} {k : IntKind} {i j : Int}
theorem Yl_quo (hx : evo fr x = some (.int k i)) (hy : evo fr y = some (.int k j)) (h0 : 0 ≤ i) (hj : 0 < j) (hw : k.wrap (i / j) = i / j) : Yl P w0 X n fr Γ ⟨d, .binOp .quo t x y t', ty, ps, af, g⟩ (.int k (i / j)) := Yl_bin hx hy fun w => by
  have h1 : ¬ j = 0 := by omega
  simp [go_sem, Op.intDiv, h1, Int.tdiv_eq_ediv_of_nonneg h0, hw]
theorem Yl_rem (hx : evo fr x = some (.int k i)) (hy : evo fr y = some (.int k j)) (h0 : 0 ≤ i) (hj : 0 < j) : Yl P w0 X n fr Γ ⟨d, .binOp .rem t x y t', ty, ps, af, g⟩ (.int k (i % j)) := Yl_bin hx hy fun w => by
  have h1 : ¬ j = 0 := by omega
  simp [go_sem, Op.intDiv, h1, Int.tmod_eq_emod_of_nonneg h0]
theorem Yl_convW (T : Tab P) {s t : TypeId} {k k' k2 : IntKind} (hx : evo fr x = some (.int k i)) (hs : find2 T.kds s = some k2) (ht : find2 T.kds t = some k') (hw : k'.wrap i = i) : Yl P w0 X n fr Γ ⟨d, .convert s t x, ty, ps, af, g⟩ (.int k' i) := by
  have := Yl_conv (w0 := w0) (X := X) (n := n) (Γ := Γ) (d := d) (ty := ty) (ps := ps) (af := af) (g := g) T hx hs ht
  rwa [hw] at this
/-- 'copy(x, y)': into part of a row of the call's own. -/
theorem Hv_copy (T : Tab P) {N : Kont} {t t2 e : TypeId} {a : Addr} {D A : Option Addr} {dn dc m c kk sz by_ len cap o : Nat} {cs cs' news : List Value} (hx : evo fr x = some (.slice D dn dc)) (hy : evo fr y = some (.slice A m c)) (ht : find2 T.els t = some (e, sz, by_))
    (hk : Γ[kk]? = some (It.row (.slice (some a) len cap) e sz len cs)) (hD : min m dn ≠ 0 → D = some (a.add o)) (hH : RdA w0 X Γ A news) (hA : A = none → m = 0) (hl : news.length = min m dn * sz) (hsz : 0 < sz) (hfit : o + news.length ≤ len * sz) (h1 : (news.all Value.oneCell') = true) (hc : putL cs o news = cs') (hd : dstOk n d = true)
    (h : N (putF d (.int .i64 (min m dn : Nat)) fr) (Γ.set kk (It.row (.slice (some a) len cap) e sz len cs'))) :
    Hv P r w0 X n df ⟨d, .call { callee := .builtin .copy, args := #[x, y], argTypes := #[t, t2] }, ty, ps, af, g⟩ N fr Γ := Hv_val (fun _ => by simp) hd fun ac w hs hf => by
  obtain ⟨hu, inf, hinf, hi2, hi3⟩ := sliceInfo_elem (AllP.mem T.els_ok _ (find2_mem ht))
  dsimp only at hu hinf hi2 hi3
  have hmn : Nat.min m dn = min m dn := rfl
  obtain ⟨hlen, hrow2⟩ := hs.row_own (List.mem_of_getElem? hk)
  rcases hrow2 with ⟨h2, _⟩ | ⟨b, cap', cur, hv, _, hg, hcap, hmax, hcur, htake⟩
  · cases h2
  cases hv
  by_cases h0 : min m dn = 0
  · have hn : news = [] := List.eq_nil_of_length_eq_zero (by rw [hl, h0]; simp)
    subst hn
    have hcs : cs' = cs := by
      rw [← hc]
      apply List.ext_getElem?
      intro j
      rw [putL_get _ _ _ _ (by simp; omega)]
      simp; omega
    subst hcs
    have hset : Γ.set kk (It.row (.slice (some ⟨b, 0, none⟩) len cap) e sz len cs') = Γ := by
      apply List.ext_getElem?
      intro i
      rw [List.getElem?_set]
      split
      · rename_i hki; subst hki
        split
        · exact hk.symm
        · rename_i h2; rw [List.getElem?_eq_none (by omega)]
      · rfl
    rw [hset] at h
    rw [h0] at h
    refine ⟨_, w, Γ, ?_, hs, h⟩
    have hfc : (Builtin.firstCells inf.size 0 (.slice A m c)).run P w = .ok #[] w := by
      cases A with
      | none => exact run_firstCells_none (P := P) w _ _ _ _
      | some b' => exact run_firstCells_some (P := P) w _ 0 b' m c [] (by simp) (fun j v hj => by simp at hj)
    cases D with
    | none => simp [execOp, resolve, invoke, builtin, evo_sound hf hx, evo_sound hf hy, Builtin.copy_, goInt, run_underlying hu, Builtin.lenOf, sizeOf, typeInfo, hinf, hmn, h0, hfc]
    | some d' => simp [execOp, resolve, invoke, builtin, evo_sound hf hx, evo_sound hf hy, Builtin.copy_, goInt, run_underlying hu, Builtin.lenOf, sizeOf, typeInfo, hinf, hmn, h0, hfc, storeCells]
  · have hne : news ≠ [] := fun hn => by
      rw [hn] at hl
      have : min m dn * sz ≠ 0 := Nat.mul_ne_zero h0 (by omega)
      simp at hl; omega
    obtain ⟨a', hA', hHa⟩ := hH hne
    subst hA'
    have hD' := hD h0
    subst hD'
    rw [add_at0, Nat.zero_add] at hx
    have hg' : w.heap[b]? = some (.cells cur.toList.toArray e (0, 0)) := by simpa using hg
    have hle : len * sz ≤ cap * sz := Nat.mul_le_mul_right _ hcap
    have hfc := run_firstCells_some (P := P) w inf.size (min m dn) a' m c news (by rw [hl, hi2]) (hHa w hs)
    have hst := run_storeCells_at P b o e news 0 cur w hg (by omega) (fun u hu => by simpa using List.all_eq_true.1 h1 u hu)
    refine ⟨_, w.setRow b (cur.toList.take (o + 0) ++ news ++ cur.toList.drop (o + 0 + news.length)).toArray, _, ?_, ?_, h⟩
    · simp [execOp, resolve, invoke, builtin, evo_sound hf hx, evo_sound hf hy, Builtin.copy_, goInt, run_underlying hu, Builtin.lenOf, sizeOf, typeInfo, hinf, hmn, hfc, hst]
    · refine hs.setAt hk rfl rfl rfl (by simp) (fun b' h3 h4 => setRow_other w b b' _ (fun e => h4 (by simp [It.fp, Value.ownBlock, e]))) ?_ (by simp [It.fp, Value.ownBlock]) (fun b' hb => .inl hb)
      refine ⟨by rw [← hc, putL_length]; exact hlen, .inr ⟨b, cap, _, rfl, Nat.zero_le _, setRow_heap w b _ _ e (0, 0) hg, hcap, hmax, ?_, ?_⟩⟩
      · simp only [List.size_toArray, List.length_append, List.length_take, List.length_drop, Array.length_toList]
        omega
      · subst hc
        apply List.ext_getElem?
        intro j
        have e1 : (cur.toList.take (o + 0) ++ news ++ cur.toList.drop (o + 0 + news.length)) = putL cur.toList o news := splice_putL (by simp; omega)
        simp only [List.toList_toArray]
        rw [e1, List.getElem?_take]
        by_cases hj : j < len * sz
        · rw [if_pos hj, putL_get _ _ _ _ (by simp; omega), putL_get _ _ _ _ (by rw [hlen]; omega)]
          by_cases hq : o ≤ j ∧ j < o + news.length
          · rw [if_pos hq, if_pos hq]
          · rw [if_neg hq, if_neg hq, ← htake, List.getElem?_take, if_pos hj]
        · rw [if_neg hj]
          symm
          rw [List.getElem?_eq_none_iff, putL_length, hlen]; omega
end
/-- a contract of the library: the world stays. -/
theorem Tr_of_calls {P : Program} {f : FuncId} {args : Array Value} {w : World} {v : Value} (h : Calls P f args w fun e w' => e = .returned v ∧ w' = w) : Tr P f args w [] (fun u Γ => u = v ∧ Γ = []) := fun hs =>
  h.mono fun e w' ⟨he, hw⟩ => ⟨v, [], he, ⟨rfl, rfl⟩, by subst hw; exact hs.st⟩
end Go.Sx
