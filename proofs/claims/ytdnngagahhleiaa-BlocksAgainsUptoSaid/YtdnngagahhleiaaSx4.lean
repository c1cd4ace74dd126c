/- A small calculus of triples. Part 4: operations that turn memory; calls. -/
import Derived.Test.YtdnngagahhleiaaSx3
import Derived.Laws.MakeOwn
import Derived.Laws.OwnMore
import Derived.Laws.CopyRow
import Derived.Maps.AppendAt
namespace Go.Sx
open Go.RowKit
set_option linter.unusedVariables false
set_option linter.unusedSimpArgs false

theorem St.setAt {w0 w w' : World} {X : List Nat} {Γ : List It} {k : Nat} {i i' : It} (h : St w0 X Γ w) (hk : Γ[k]? = some i) (ho : w'.os = w.os) (ht : w'.tape = w.tape) (hu : w'.output = w.output) (hs : w.heap.size ≤ w'.heap.size)
    (hkeep : ∀ b, b < w.heap.size → b ∉ i.fp → w'.heap[b]? = w.heap[b]?) (hok : i'.ok w') (hnd : i'.fp.Nodup) (hnew : ∀ b ∈ i'.fp, b ∈ i.fp ∨ w.heap.size ≤ b) : St w0 X (Γ.set k i') w' := by
  obtain ⟨hlt, he⟩ := List.getElem?_eq_some_iff.1 hk
  have hp : Γ.Perm ([i] ++ (Γ.take k ++ Γ.drop (k + 1))) := by
    have e : Γ = Γ.take k ++ i :: Γ.drop (k + 1) := by
      conv => lhs; rw [← List.take_append_drop k Γ, List.drop_eq_getElem_cons hlt, he]
    exact (List.Perm.of_eq e).trans List.perm_middle
  have hq : ([i'] ++ (Γ.take k ++ Γ.drop (k + 1))).Perm (Γ.set k i') := by
    rw [List.set_eq_take_append_cons_drop, if_pos hlt]
    show (i' :: (Γ.take k ++ Γ.drop (k + 1))).Perm _
    exact List.perm_middle.symm
  refine St.perm (St.upd (A := [i]) (A' := [i']) (h.perm hp) ho ht hu hs (fun b h1 h2 => hkeep b h1 (by simpa [fps] using h2)) (fun x hx => ?_) (by simpa [fps] using hnd) (fun b hb => ?_)) hq
  · obtain rfl : x = i' := by simpa using hx
    exact hok
  · simp only [fps, List.flatMap_cons, List.flatMap_nil, List.append_nil] at hb ⊢
    exact hnew b hb
theorem fillL_len {pl : List (Nat × Nat)} : ∀ {ps : List (Nat × Value)} {cs cs' : List Value}, fillL pl cs ps = some cs' → cs'.length = cs.length
  | [], cs, cs', h => by simp [fillL] at h; rw [h]
  | (i, v) :: r, cs, cs', h => by
    simp only [fillL] at h
    cases hp : pl[i]? with
    | none => simp [hp] at h
    | some p =>
      rw [hp] at h
      simp only at h
      cases hb : (Nat.beq v.cells.toList.length p.2 && Nat.ble (p.1 + p.2) cs.length) with
      | false => rw [hb] at h; cases h
      | true =>
        rw [hb] at h
        rw [fillL_len h, putL_length]
theorem zeros_eq (z : List Value) (len : Nat) (hz : 0 < z.length) : ((Array.range (len * z.length)).map fun x => z.toArray[x % z.toArray.size]!) = ((List.replicate len z).flatten).toArray := by
  apply Array.ext
  · simp [List.length_flatten]
  · intro i h1 h2
    have hi : i < len * z.length := by simpa using h1
    have hm : i % z.length < z.length := Nat.mod_lt _ hz
    simp only [Array.getElem_map, Array.getElem_range, List.size_toArray, List.getElem_toArray]
    rw [getElem!_pos z.toArray (i % z.length) (by simpa using hm)]
    simp only [List.getElem_toArray]
    have key : ∀ (len i : Nat) (h : i < ((List.replicate len z).flatten).length), ((List.replicate len z).flatten)[i] = z[i % z.length]'(Nat.mod_lt _ hz) := by
      intro len
      induction len with
      | zero => intro i h; simp at h
      | succ m ih =>
        intro i h
        simp only [List.replicate_succ, List.flatten_cons]
        by_cases hi : i < z.length
        · rw [List.getElem_append_left hi]; congr 1; exact (Nat.mod_eq_of_lt hi).symm
        · rw [List.getElem_append_right (by omega), ih]
          congr 1
          conv => rhs; rw [← Nat.sub_add_cancel (Nat.le_of_not_lt hi), Nat.add_mod_right]
    exact (key len i (by simpa using h2)).symm
section
variable {P : Program} {r : Option Nat} {w0 : World} {X : List Nat} {n : Nat} {df : List Deferred} {N : Kont} {fr : Fr} {Γ : List It} {d : Option Tmp} {ty : TypeId} {ps : String} {af : Array Edge} {g : Option (Nat × Bool)}
theorem Hv_alloc (T : Tab P) {t : TypeId} {z : List Value} (hz : find2 T.zrs t = some z) (hd : dstOk n d = true) (h : ∀ b, N (putF d (.pointer (some ⟨b, 0, none⟩)) fr) (It.blk b z t :: Γ)) :
    Hv P r w0 X n df ⟨d, .alloc t, ty, ps, af, g⟩ N fr Γ := Hv_val (fun _ => by simp) hd fun a w hs hf => by
  obtain ⟨i, v, h1, h2, h3⟩ := zero_run (AllP.mem T.zrs_ok _ (find2_mem hz))
  dsimp only at h1
  refine ⟨_, _, _, ?_, hs.alloc z t, h w.heap.size⟩
  simp [execOp, Instr.alloc, zeroValue, typeInfo, h1, h2, newVar, newRow, h3]
theorem Hv_box {t : TypeId} {x : Operand} {v : Value} {cs : List Value} (hx : evo fr x = some v) (hv : v.cells.toList = cs) (hd : dstOk n d = true) (h : ∀ b, N (putF d (.pointer (some ⟨b, 0, none⟩)) fr) (It.blk b cs t :: Γ)) :
    Hv P r w0 X n df ⟨d, .box t x, ty, ps, af, g⟩ N fr Γ := Hv_val (fun _ => by simp) hd fun a w hs hf => by
  refine ⟨_, _, _, ?_, hs.alloc cs t, h w.heap.size⟩
  subst hv
  simp [execOp, evo_sound hf hx, Instr.box, newVar, newRow]
theorem run_storeVar {t t' : TypeId} {b o m : Nat} {bb : Bool} {cs : List Value} {w : World} {v : Value} (hl : ldInfo P t = some (bb, m)) (hg : w.heap[b]? = some (.cells cs.toArray t' (0, 0))) (hm : v.cells.toList.length = m)
    (hfit : o + m ≤ cs.length) (h1 : ∀ u ∈ v.cells.toList, u.oneCell' = true) : (storeVar t ⟨b, o, none⟩ v).run P w = .ok () (w.setRow b (putL cs o v.cells.toList).toArray) := by
  have hs := run_size hl w
  have hst := run_storeCells_at (P := P) b o t' v.cells.toList 0 cs.toArray w hg (by simp at hm ⊢; omega) h1
  have e : (cs.take o ++ v.cells.toList ++ cs.drop (o + v.cells.toList.length)) = putL cs o v.cells.toList := by
    apply List.ext_getElem?
    intro j
    rw [putL_get _ _ _ _ (by omega)]
    by_cases h1 : j < o
    · rw [if_neg (by omega), List.append_assoc, List.getElem?_append_left (by simp; omega), List.getElem?_take, if_pos h1]
    · by_cases h2 : j < o + v.cells.toList.length
      · rw [if_pos (by omega), List.getElem?_append_left (by simp at h2 ⊢; omega), List.getElem?_append_right (by simp; omega)]
        congr 1
        simp; omega
      · rw [if_neg (by omega), List.getElem?_append_right (by simp at h2 ⊢; omega), List.getElem?_drop]
        congr 1
        simp at hfit hm h2 ⊢; omega
  simp only [Nat.add_zero, List.toList_toArray] at hst
  rw [e] at hst
  have hm' : v.cells.size = m := by simpa using hm
  simp only [storeVar, Sem.run_bind, hs, Result.andThen_ok]
  rw [if_neg (by omega)]
  simp [hst]
theorem setRow_st {w : World} {b k : Nat} {cs cs' : List Value} {t : TypeId} (hs : St w0 X Γ w) (hk : Γ[k]? = some (It.blk b cs t)) : St w0 X (Γ.set k (It.blk b cs' t)) (w.setRow b cs'.toArray) := by
  have hg := hs.blk_heap (List.mem_of_getElem? hk)
  refine hs.setAt hk rfl rfl rfl (by simp) (fun b' h1 h2 => setRow_other w b b' _ (fun e => h2 (by simp [It.fp, e]))) (setRow_heap w b _ _ t (0, 0) hg) (by simp [It.fp]) (fun b' hb => .inl hb)
theorem Hv_store (T : Tab P) {t t' : TypeId} {x y : Operand} {b o m k : Nat} {bb : Bool} {cs cs' : List Value} {v : Value} (hx : evo fr x = some (.pointer (some ⟨b, o, none⟩))) (hy : evo fr y = some v) (ht : find2 T.lds t = some (bb, m))
    (hk : Γ[k]? = some (It.blk b cs t')) (hm : v.cells.toList.length = m) (hfit : o + m ≤ cs.length) (h1 : (v.cells.toList.all Value.oneCell') = true) (hc : putL cs o v.cells.toList = cs') (hd : dstOk n d = true)
    (h : N (putF d undef fr) (Γ.set k (It.blk b cs' t'))) : Hv P r w0 X n df ⟨d, .store t x y, ty, ps, af, g⟩ N fr Γ := Hv_skip (fun _ => by simp) hd fun a w hs hf => by
  have hg := hs.blk_heap (List.mem_of_getElem? hk)
  have hr := run_storeVar (AllP.mem T.lds_ok _ (find2_mem ht)) hg hm hfit (fun u hu => by simpa using List.all_eq_true.1 h1 u hu)
  dsimp only at hr
  refine ⟨_, _, ?_, setRow_st (cs' := cs') hs hk, h⟩
  subst hc
  simp [execOp, evo_sound hf hx, evo_sound hf hy, Instr.storeAt, Instr.sureAddr, hr]
/-- into a row of the call's own. -/
theorem Hv_storeRow (T : Tab P) {t e : TypeId} {x y : Operand} {a : Addr} {o m k len cap sz : Nat} {bb : Bool} {cs cs' : List Value} {v : Value} (hx : evo fr x = some (.pointer (some (a.add o)))) (hy : evo fr y = some v) (ht : find2 T.lds t = some (bb, m))
    (hk : Γ[k]? = some (It.row (.slice (some a) len cap) e sz len cs)) (hm : v.cells.toList.length = m) (hfit : o + m ≤ len * sz) (h1 : (v.cells.toList.all Value.oneCell') = true) (hc : putL cs o v.cells.toList = cs') (hd : dstOk n d = true)
    (h : N (putF d undef fr) (Γ.set k (It.row (.slice (some a) len cap) e sz len cs'))) : Hv P r w0 X n df ⟨d, .store t x y, ty, ps, af, g⟩ N fr Γ := Hv_skip (fun _ => by simp) hd fun ac w hs hf => by
  have hrow := hs.row_own (List.mem_of_getElem? hk)
  obtain ⟨hlen, hrow2⟩ := hrow
  rcases hrow2 with ⟨h2, _⟩ | ⟨b, cap', cur, hv, _, hg, hcap, hmax, hcur, htake⟩
  · cases h2
  · cases hv
    have hg' : w.heap[b]? = some (.cells cur.toList.toArray e (0, 0)) := by simpa using hg
    have hsz : len * sz ≤ cap * sz := Nat.mul_le_mul_right _ hcap
    have hm' : v.cells.size = m := by simpa using hm
    have hr := run_storeVar (AllP.mem T.lds_ok _ (find2_mem ht)) hg' (v := v) (o := o) hm (by simp; omega) (fun u hu => by simpa using List.all_eq_true.1 h1 u hu)
    dsimp only at hr
    refine ⟨w.setRow b (putL cur.toList o v.cells.toList).toArray, _, ?_, ?_, h⟩
    · simp [execOp, evo_sound hf hx, evo_sound hf hy, Instr.storeAt, Instr.sureAddr, add_at0, hr]
    · refine hs.setAt hk rfl rfl rfl (by simp) (fun b' h3 h4 => setRow_other w b b' _ (fun e => h4 (by simp [It.fp, Value.ownBlock, e]))) ?_ (by simp [It.fp, Value.ownBlock]) (fun b' hb => .inl hb)
      refine ⟨by rw [← hc, putL_length]; exact hlen, .inr ⟨b, cap, _, rfl, Nat.zero_le _, setRow_heap w b _ _ e (0, 0) hg, hcap, hmax, by simp [putL_length, hcur], ?_⟩⟩
      subst hc
      apply List.ext_getElem?
      intro j
      simp only [List.toList_toArray]
      rw [List.getElem?_take]
      by_cases hj : j < len * sz
      · rw [if_pos hj, putL_get _ _ _ _ (by simp; omega), putL_get _ _ _ _ (by rw [hlen]; omega)]
        by_cases hq : o ≤ j ∧ j < o + v.cells.toList.length
        · rw [if_pos hq, if_pos hq]
        · rw [if_neg hq, if_neg hq, ← htake, List.getElem?_take, if_pos hj]
      · rw [if_neg hj]
        symm
        rw [List.getElem?_eq_none_iff, putL_length, hlen]; omega
/-- append, onto a slice of the call's own: what comes of it, and where it lies. -/
theorem run_append_has (w : World) (t ty e : TypeId) (i : TypeInfo) (z : Value) (size bytes : Nat) (ht : P.underlying t = some (.slice e)) (hi : P.info? e = some i) (hz : i.zero = some z) (hsize : i.size = size) (hby : i.bytes = bytes) (hzs : z.cells.size = size) (hsz : 0 < size)
    (v : Value) (n : Nat) (xs : List Value) (hown : hasRow w e size v n xs) (a : Addr) (m c : Nat) (news : List Value) (hl : news.length = m * size) (hnews : ∀ j u, news[j]? = some u → w.cell? (a.add j) = some u) (h1 : ∀ u ∈ news, u.oneCell' = true) (h63 : n + m ≤ maxLen) (hbytes : (n + m) * bytes ≤ 140737488355328) :
    ∃ v' w', (Builtin.append_ #[t, t] ty #[v, .slice (some a) m c]).run P w = .ok v' w' ∧ hasRow w' e size v' (n + m) (xs ++ news) ∧ w.grownBy w' v.ownBlock ∧ (v' = .slice none 0 0 ↔ v = .slice none 0 0 ∧ m = 0) ∧ (v'.ownBlock = v.ownBlock ∨ v'.ownBlock = some w.heap.size) := by
  subst hsize
  subst hby
  have hlen : (xs ++ news).length = (n + m) * i.size := by rw [List.length_append, hown.1, hl, Nat.add_mul]
  rcases hown.2 with ⟨rfl, rfl⟩ | ⟨g, cap, cur, rfl, _, hg, hnc, hcm, hcs, htake⟩
  · have h : w.ownsRow 0 e i.size (.slice none 0 0) 0 xs := ⟨hown.1, .inl ⟨rfl, rfl⟩⟩
    obtain ⟨v', w', a1, a2, a3, a4, a5⟩ := run_append_own_at (P := P) w 0 t ty e i z i.size i.bytes ht hi hz rfl rfl hzs hsz _ _ xs h a m c news hl hnews h1 h63 hbytes (Nat.zero_le _)
    exact ⟨v', w', a1, hasRow_of a2, a3, a4, a5⟩
  · by_cases hroom : n + m ≤ cap
    · have hfit : n * i.size + news.length ≤ cur.size := by rw [hl, ← Nat.add_mul]; exact Nat.le_trans (Nat.mul_le_mul_right _ hroom) hcs
      have hr := run_append_room (P := P) w t ty e i ht hi g n cap cur hg a m c news hl hnews h1 hroom hfit
      refine ⟨_, _, hr, ⟨hlen, .inr ⟨g, cap, _, rfl, Nat.zero_le _, setRow_heap w g cur _ e _ hg, hroom, hcm, ?_, ?_⟩⟩, ⟨rfl, rfl, rfl, by simp, fun k _ hk => setRow_other w g k _ (fun e => hk (by simp [Value.ownBlock, e]))⟩, by simp, Or.inl rfl⟩
      · simp only [List.size_toArray, List.length_append, List.length_take, List.length_drop, Array.length_toList]
        omega
      · rw [htake, ← hlen]
        exact List.take_left
    · have holds : ∀ j u, xs[j]? = some u → w.cell? ((⟨g, 0, none⟩ : Addr).add j) = some u := hown.cells (g := g) rfl
      have hr := run_append_grow (P := P) w t ty e i z ht hi hz ⟨g, 0, none⟩ n cap xs hown.1 holds a m c news hl hnews (by omega) (by unfold maxLen at h63; omega) (growslice_fits (by omega) hbytes)
      refine ⟨_, _, hr, ⟨hlen, .inr ⟨w.heap.size, _, _, rfl, Nat.zero_le _, heap_alloc_new w.drew _, grownCap_ge w (n + m) cap e, grownCap_le_maxLen w (n + m) cap e h63, ?_, ?_⟩⟩, ⟨rfl, rfl, rfl, by simp, fun k hk _ => heap_alloc_old w.drew _ hk⟩, by simp, Or.inr rfl⟩
      · have hge := grownCap_ge w (n + m) cap e
        refine Nat.le_of_eq ?_
        simp only [Array.size_append, List.size_toArray, size_zeroCells, hzs, hown.1, hl, ← Nat.add_mul]
        congr 1
        omega
      · simp only [Array.toList_append, List.append_assoc]
        rw [← List.append_assoc, ← hlen]
        exact List.take_left
/-- 'append(s, x..)': s a row of the call's own. -/
theorem Hv_append (T : Tab P) {t e : TypeId} {x y : Operand} {s : Value} {a : Addr} {m c k sz by_ len : Nat} {cs news z : List Value} (hx : evo fr x = some s) (hy : evo fr y = some (.slice (some a) m c)) (ht : find2 T.els t = some (e, sz, by_))
    (hz : find2 T.zrs e = some z) (hzs : z.length = sz) (hsz : 0 < sz) (hk : Γ[k]? = some (It.row s e sz len cs)) (hH : Has w0 X Γ a news) (hl : news.length = m * sz) (h1 : (news.all Value.oneCell') = true)
    (h63 : len + m ≤ 9223372036854775807) (hby : (len + m) * by_ ≤ 140737488355328) (hd : dstOk n d = true)
    (h : ∀ A cap, (A = none ↔ s = .slice none 0 0 ∧ m = 0) → N (putF d (.slice A (len + m) cap) fr) (Γ.set k (It.row (.slice A (len + m) cap) e sz (len + m) (cs ++ news)))) :
    Hv P r w0 X n df ⟨d, .call { callee := .builtin .append, args := #[x, y], argTypes := #[t, t] }, ty, ps, af, g⟩ N fr Γ := Hv_val (fun _ => by simp) hd fun ac w hs hf => by
  obtain ⟨hu, inf, hinf, hi2, hi3⟩ := sliceInfo_elem (AllP.mem T.els_ok _ (find2_mem ht))
  obtain ⟨inf', zv, h1', h2', h3'⟩ := zero_run (AllP.mem T.zrs_ok _ (find2_mem hz))
  dsimp only at hu hinf h1' hi2 hi3
  rw [hinf] at h1'
  cases h1'
  have hrow := hs.row_own (List.mem_of_getElem? hk)
  obtain ⟨v', w', hr, hown, hgr, hnil, hat⟩ := run_append_has (P := P) w t ty e inf zv sz by_ hu hinf h2' hi2 hi3 (by rw [h3']; simpa using hzs) hsz s len cs hrow a m c news hl (hH w hs) (fun u hu => by simpa using List.all_eq_true.1 h1 u hu) (by unfold maxLen; omega) hby
  have hshape : ∃ A cap, v' = .slice A (len + m) cap ∧ (A = none ↔ v' = .slice none 0 0) := by
    rcases hown.2 with ⟨rfl, h0⟩ | ⟨gg, cap, cur, rfl, _⟩
    · exact ⟨none, 0, by rw [h0], by simp⟩
    · exact ⟨_, cap, rfl, by simp⟩
  obtain ⟨A, cap, hv, hA⟩ := hshape
  refine ⟨v', w', _, ?_, ?_, by rw [hv]; exact h A cap (by rw [hA, hnil])⟩
  · simp [execOp, resolve, invoke, builtin, evo_sound hf hx, evo_sound hf hy, hr]
  · rw [← hv]
    refine hs.setAt hk hgr.os hgr.tape hgr.output hgr.size (fun b h4 h5 => hgr.block b h4 (fun e => h5 ?_)) hown ?_ (fun b hb => ?_)
    · simp [It.fp, ← e]
    · simp only [It.fp]; cases v'.ownBlock <;> simp
    · simp only [It.fp, Option.mem_toList] at hb ⊢
      rcases hat with h5 | h5
      · exact .inl (by rw [← h5]; exact hb)
      · rw [h5] at hb; cases hb; exact .inr (Nat.le_refl _)
/-- 'append(s, nil..)'. -/
theorem Hv_appendNil (T : Tab P) {t e : TypeId} {x y : Operand} {s : Value} {k sz by_ len : Nat} {cs : List Value} (hx : evo fr x = some s) (hy : evo fr y = some (.slice none 0 0)) (ht : find2 T.els t = some (e, sz, by_))
    (hk : Γ[k]? = some (It.row s e sz len cs)) (hd : dstOk n d = true) (h : N (putF d s fr) Γ) :
    Hv P r w0 X n df ⟨d, .call { callee := .builtin .append, args := #[x, y], argTypes := #[t, t] }, ty, ps, af, g⟩ N fr Γ := Hv_val (fun _ => by simp) hd fun ac w hs hf => by
  obtain ⟨hu, inf, hinf, hi2, hi3⟩ := sliceInfo_elem (AllP.mem T.els_ok _ (find2_mem ht))
  dsimp only at hu hinf hi2 hi3
  have hr : (Builtin.append_ #[t, t] ty #[s, .slice none 0 0]).run P w = .ok s w := by
    rcases (hs.row_own (List.mem_of_getElem? hk)).2 with ⟨rfl, rfl⟩ | ⟨g, cap, cur, rfl, _, _, hnc, _⟩
    · simp [Builtin.append_, run_underlying hu, sizeOf, typeInfo, hinf, Builtin.lenOf, Builtin.firstCells]
    · simp [Builtin.append_, run_underlying hu, sizeOf, typeInfo, hinf, Builtin.lenOf, Builtin.firstCells, hnc, storeCells]
  exact ⟨_, _, _, by simp [execOp, resolve, invoke, builtin, evo_sound hf hx, evo_sound hf hy, hr], hs, h⟩
/-- a list that is written out. -/
theorem Hv_buildSlice (T : Tab P) {t e : TypeId} {len sz by_ : Nat} {ps' : List (Nat × Operand)} {pv : List (Nat × Value)} {z cs : List Value} (ht : find2 T.els t = some (e, sz, by_)) (hz : find2 T.zrs e = some z) (hzs : z.length = sz) (h0 : 0 < sz)
    (hsmall : Nat.ble (len * sz) 16777216 = true) (hp : evp fr ps' = some pv) (hc : fillL ((List.range len).map fun i => (i * sz, sz)) (List.replicate len z).flatten pv = some cs) (hd : dstOk n d = true)
    (h : ∀ b, N (putF d (.slice (some ⟨b, 0, none⟩) len len) fr) (It.row (.slice (some ⟨b, 0, none⟩) len len) e sz len cs :: Γ)) :
    Hv P r w0 X n df ⟨d, .buildSlice t len ps'.toArray, ty, ps, af, g⟩ N fr Γ := Hv_val (fun _ => by simp) hd fun ac w hs hf => by
  obtain ⟨hu, inf, hinf, hi2, hi3⟩ := sliceInfo_elem (AllP.mem T.els_ok _ (find2_mem ht))
  obtain ⟨inf', zv, h1', h2', h3'⟩ := zero_run (AllP.mem T.zrs_ok _ (find2_mem hz))
  dsimp only at hu hinf h1' hi2 hi3
  rw [hinf] at h1'
  cases h1'
  have hzc : zv.cells.size = sz := by rw [h3']; simpa using hzs
  have hsm : len * sz ≤ 16777216 := Nat.le_of_ble_eq_true hsmall
  have hz0 := zeros_eq z len (by omega)
  rw [hzs] at hz0
  have hfill : Instr.fill (fun i => some (i * sz, sz)) ((Array.range (len * sz)).map (zv.cells[· % zv.cells.size]!)) pv = some cs.toArray := by
    rw [h3']
    have e : ((Array.range (len * sz)).map fun x => z.toArray[x % z.toArray.size]!) = ((List.replicate len z).flatten).toArray := by simpa [hzs] using hz0
    rw [e]
    refine fillL_fill (fun i p h => ?_) hc
    rw [List.getElem?_map] at h
    cases hr : (List.range len)[i]? with
    | none => rw [hr] at h; cases h
    | some q =>
      rw [hr] at h
      rw [List.getElem?_range] at hr
      · cases hr; simpa using h
      · have := (List.getElem?_eq_some_iff.1 hr).1; simpa using this
  have he := evp_sound hf hp
  have he' : (ps'.toArray.map fun (x : Nat × Operand) => (x.1, ac.eval x.2)) = pv.toArray := by rw [← he]; simp
  have hlen : cs.length = len * sz := by
    have h5 := fillL_len hc
    rw [h5]; simp [List.length_flatten, hzs]
  refine ⟨.slice (some ⟨w.heap.size, 0, none⟩) len len, w.alloc (.cells cs.toArray e), _, ?_, ?_, h w.heap.size⟩
  · simp only [execOp, Sem.run_bind]
    rw [he']
    by_cases hl0 : len * sz = 0
    · have hl1 : len = 0 := by rcases Nat.mul_eq_zero.1 hl0 with h | h <;> omega
      subst hl1
      have hcs : cs = [] := List.eq_nil_of_length_eq_zero (by simpa using hlen)
      simp only [Nat.zero_mul] at hfill
      simp [Instr.buildSlice, run_underlying hu, sizeOf, typeInfo, hinf, hi2, newRow]
      have : Instr.fill (fun i => some (i * sz, sz)) #[] pv = some cs.toArray := by
        have e0 : Array.range 0 = #[] := rfl
        rw [e0] at hfill
        simpa using hfill
      have e1 : (Array.map (fun x => (default : Value)) (Array.range 0)) = #[] := by rw [show Array.range 0 = #[] from rfl]; simp
      rw [e1, this]
      simp
    · have : ¬ (16777216 < len * sz) := by omega
      simp [Instr.buildSlice, run_underlying hu, sizeOf, typeInfo, hinf, hi2, newRow, zeroValue, h2', hl0, this]
      have : Instr.fill (fun i => some (i * sz, sz)) ((Array.range (len * sz)).map fun x => zv.cells[x % zv.cells.size]!) pv = some cs.toArray := hfill
      simp [this]
  · refine St.upd (A := []) (A' := [It.row (.slice (some ⟨w.heap.size, 0, none⟩) len len) e sz len cs]) hs rfl rfl rfl (by simp) (fun b hb _ => Below.heap_alloc _ _ _ hb) (fun i hi => ?_) (by simp [fps, It.fp, Value.ownBlock]) (fun b hb => .inr (by simp [fps, It.fp, Value.ownBlock] at hb; omega))
    obtain rfl : i = _ := (by simpa using hi)
    have := World.ownsRow_lit (base := 0) (e := e) (size := sz) w cs.toArray len (Nat.zero_le _) (by unfold maxLen; have : len ≤ len * sz := Nat.le_mul_of_pos_right _ h0; omega) (by simpa using hlen)
    refine hasRow_of ?_
    simpa using this
/-- a call of a function. -/
theorem Hv_call (T : Tab P) {x : Operand} {f u : Nat} {fi ca vs : List Value} {xs : List Operand} {ts : Array TypeId} {Γ1 Γ2 : List It} {R : Value → List It → Prop} (hx : evo fr x = some (.func (.func f) fi.toArray ca.toArray)) (hvs : evs fr xs = some vs) (hf' : find2 T.fns f = some u)
    (hp : Γ.Perm (Γ1 ++ Γ2)) (hT : ∀ w, St w0 X Γ w → Tr P f (fi ++ vs ++ ca).toArray w Γ1 R) (hd : dstOk n d = true) (h : ∀ v Γ', R v Γ' → N (putF d v fr) (Γ' ++ Γ2)) :
    Hv P r w0 X n df ⟨d, .call { callee := .value x, args := xs.toArray, argTypes := ts }, ty, ps, af, g⟩ N fr Γ := fun a w hs hf hdf next Q hk => by
  have hen := AllP.mem T.fns_ok _ (find2_mem hf')
  dsimp only at hen
  have hrun : (execOp a.eval ⟨d, .call { callee := .value x, args := xs.toArray, argTypes := ts }, ty, ps, af, g⟩).run P w = .ok (.enter f (fi ++ vs ++ ca).toArray) w := by
    have e : xs.toArray.map a.eval = vs.toArray := by rw [← evs_sound hf hvs]; simp
    simp [execOp, resolve, evo_sound hf hx, Deferred.ofValue, invoke, e, hen]
  refine ⟨fun _ _ => trivial, ?_⟩
  rw [Oper.semAt_eq _ _ _ (fun _ => by simp), hrun]
  refine ⟨fun hh => by simp [FW] at hh, ?_⟩
  have hs' := hs.perm hp
  have hc := (callsIn_wide (n := 0 - 1)).2 (hT w hs hs'.left.sep)
  refine CallsIn.mono (F := FW r) (R := fun e w' => ∃ v Γ', e = .returned v ∧ R v Γ' ∧ St w (fps Γ1) Γ' w') hc ?_
  rintro e w' ⟨v, Γ', rfl, hR, hst⟩
  refine hk _ _ _ _ (St.upd hs' hst.os hst.tape hst.output hst.size hst.old hst.ok hst.nd hst.mine) (hf.put _ hd _) (by cases d <;> exact hdf) (h v Γ' hR)
end
section
variable {P : Program} {r : Option Nat} {w0 : World} {X : List Nat} {n : Nat} {df : List Deferred} {K : Kont} {fr : Fr} {Γ : List It} {l rest : List Oper} {d : Option Tmp} {ty : TypeId} {ps : String} {af : Array Edge} {g : Option (Nat × Bool)}
/-! ### slicing -/
def sA (A : Option Addr) (cap l sz : Nat) : Option Addr := if cap = l then A else A.map (·.add (l * sz))
theorem Yl_sliceL (T : Tab P) {t e : TypeId} {x y : Operand} {A : Option Addr} {len cap sz by_ : Nat} {k : IntKind} {i : Int} (j : Nat) (hx : evo fr x = some (.slice A len cap)) (hy : evo fr y = some (.int k i)) (ht : find2 T.els t = some (e, sz, by_)) (hj : i = j) (hl : j ≤ len) :
    Yl P w0 X n fr Γ ⟨d, .slice t x (some y) none none, ty, ps, af, g⟩ (.slice (sA A cap j sz) (len - j) (cap - j)) := ⟨fun _ => by simp, fun ac hfit w hs => by
  obtain ⟨hu, inf, hinf, hi2, hi3⟩ := sliceInfo_elem (AllP.mem T.els_ok _ (find2_mem ht))
  dsimp only at hu hinf hi2 hi3
  subst hj
  have hl' : (0 : Int) ≤ (j : Int) ∧ (j : Int) ≤ (len : Int) := ⟨by omega, by omega⟩
  simp [execOp, evo_sound hfit hx, evo_sound hfit hy, Instr.sliceAt, Instr.slice, run_underlying hu, Instr.sliceBounds, Instr.sliceBound, asIntOf, hl', hl, sizeOf, typeInfo, hinf, hi2, sA]⟩
theorem Yl_sliceH (T : Tab P) {t e : TypeId} {x y : Operand} {A : Option Addr} {len cap sz by_ : Nat} {k : IntKind} {i : Int} (j : Nat) (hx : evo fr x = some (.slice A len cap)) (hy : evo fr y = some (.int k i)) (ht : find2 T.els t = some (e, sz, by_)) (hj : i = j) (hl : j ≤ cap) :
    Yl P w0 X n fr Γ ⟨d, .slice t x none (some y) none, ty, ps, af, g⟩ (.slice A j cap) := ⟨fun _ => by simp, fun ac hfit w hs => by
  obtain ⟨hu, inf, hinf, hi2, hi3⟩ := sliceInfo_elem (AllP.mem T.els_ok _ (find2_mem ht))
  dsimp only at hu hinf hi2 hi3
  subst hj
  have hl' : (0 : Int) ≤ (j : Int) ∧ (j : Int) ≤ (cap : Int) := ⟨by omega, by omega⟩
  have e0 : ∀ a : Addr, a.add 0 = a := fun a => by simp [Addr.add]
  simp [execOp, evo_sound hfit hx, evo_sound hfit hy, Instr.sliceAt, Instr.slice, run_underlying hu, Instr.sliceBounds, Instr.sliceBound, asIntOf, hl', hl, sizeOf, typeInfo, hinf, hi2, e0]⟩
theorem Yl_sliceLH (T : Tab P) {t e : TypeId} {x y z : Operand} {A : Option Addr} {len cap sz by_ : Nat} {k k' : IntKind} {i i' : Int} (j j' : Nat) (hx : evo fr x = some (.slice A len cap)) (hy : evo fr y = some (.int k i)) (hz : evo fr z = some (.int k' i')) (ht : find2 T.els t = some (e, sz, by_)) (hj : i = j) (hj' : i' = j')
    (hl : j ≤ j') (hc : j' ≤ cap) : Yl P w0 X n fr Γ ⟨d, .slice t x (some y) (some z) none, ty, ps, af, g⟩ (.slice (sA A cap j sz) (j' - j) (cap - j)) := ⟨fun _ => by simp, fun ac hfit w hs => by
  obtain ⟨hu, inf, hinf, hi2, hi3⟩ := sliceInfo_elem (AllP.mem T.els_ok _ (find2_mem ht))
  dsimp only at hu hinf hi2 hi3
  subst hj
  subst hj'
  have h1 : (0 : Int) ≤ (j' : Int) ∧ (j' : Int) ≤ (cap : Int) := ⟨by omega, by omega⟩
  have h2 : (0 : Int) ≤ (j : Int) ∧ (j : Int) ≤ (j' : Int) := ⟨by omega, by omega⟩
  simp [execOp, evo_sound hfit hx, evo_sound hfit hy, evo_sound hfit hz, Instr.sliceAt, Instr.slice, run_underlying hu, Instr.sliceBounds, Instr.sliceBound, asIntOf, h1, h2, hl, hc, sizeOf, typeInfo, hinf, hi2, sA]⟩
/-- the cells of a slice, wherever it lies; none where it has none. -/
def RdA (w0 : World) (X : List Nat) (K : List It) (A : Option Addr) (cs : List Value) : Prop := cs ≠ [] → ∃ a, A = some a ∧ Has w0 X K a cs
theorem RdA.nil {w0 : World} {X : List Nat} {K : List It} {A : Option Addr} : RdA w0 X K A [] := fun h => absurd rfl h
theorem RdA.sl {w0 : World} {X : List Nat} {K : List It} {A : Option Addr} {cs : List Value} {cap j sz : Nat} (h : RdA w0 X K A cs) (hc : cs.length ≤ cap * sz) : RdA w0 X K (sA A cap j sz) (cs.drop (j * sz)) := fun hne => by
  have hne0 : cs ≠ [] := fun e => hne (by simp [e])
  obtain ⟨a, rfl, hH⟩ := h hne0
  have hlt : cap ≠ j := fun e => hne (by rw [List.drop_eq_nil_iff, ← e]; exact hc)
  refine ⟨a.add (j * sz), by simp [sA, hlt], fun w hs => (hH w hs).drop _⟩
theorem RdA.tk {w0 : World} {X : List Nat} {K : List It} {A : Option Addr} {cs : List Value} (h : RdA w0 X K A cs) (j : Nat) : RdA w0 X K A (cs.take j) := fun hne => by
  have hne0 : cs ≠ [] := fun e => hne (by simp [e])
  obtain ⟨a, rfl, hH⟩ := h hne0
  exact ⟨a, rfl, fun w hs => (hH w hs).take _⟩
theorem RdA.row {w0 : World} {X : List Nat} {K : List It} {A : Option Addr} {e : TypeId} {sz m c : Nat} {cs : List Value} (hm : It.row (.slice A m c) e sz m cs ∈ K) (hA : A = none → cs = []) : RdA w0 X K A cs := fun hne => by
  cases A with
  | some a => exact ⟨a, rfl, Has.row hm⟩
  | none => exact absurd (hA rfl) hne
theorem RdA.old {w0 : World} {X : List Nat} {K : List It} {A : Option Addr} {cs : List Value} (h : cs ≠ [] → ∃ a, A = some a ∧ Old w0 X a cs) : RdA w0 X K A cs := fun hne => by
  obtain ⟨a, h1, h2⟩ := h hne
  exact ⟨a, h1, Has.old h2⟩
/-- what a row's item says without memory. -/
theorem St.row_fact {w : World} {A : Option Addr} {e : TypeId} {sz m c : Nat} {cs : List Value} (hs : St w0 X Γ w) (hm : It.row (.slice A m c) e sz m cs ∈ Γ) : (A = none → cs = [] ∧ m = 0) ∧ cs.length = m * sz ∧ m ≤ c ∧ m ≤ 9223372036854775807 := by
  have := hs.row_own hm
  rcases this.2 with ⟨h1, h2⟩ | ⟨g, cap, cur, h1, _, _, h4, h5, _⟩
  · cases h1
    exact ⟨fun _ => ⟨List.eq_nil_of_length_eq_zero (by simpa using this.1), rfl⟩, this.1, Nat.le_refl _, by omega⟩
  · cases h1
    exact ⟨fun h => (by cases h), this.1, h4, by unfold maxLen at h5; omega⟩
/-- a fact that the state gives, laid open. -/
theorem W_fact {c : Code} {Q : Post} {p : Prop} (hp : ∀ w, St w0 X Γ w → p) (h : p → W P r w0 X n df c K Q fr Γ) : W P r w0 X n df c K Q fr Γ := fun a w hs => h (hp w hs) a w hs
theorem WL_fact {p : Prop} (hp : ∀ w, St w0 X Γ w → p) (h : p → WL P r w0 X n df l rest K fr Γ) : WL P r w0 X n df l rest K fr Γ := fun a w hs => h (hp w hs) a w hs
theorem Hv_fact {o : Oper} {N : Kont} {p : Prop} (hp : ∀ w, St w0 X Γ w → p) (h : p → Hv P r w0 X n df o N fr Γ) : Hv P r w0 X n df o N fr Γ := fun a w hs => h (hp w hs) a w hs
end

/-! ### a whole class of operations by one reckoning -/
def pvCall {P : Program} (T : Tab P) (fr : Fr) (b : Builtin) : List Operand → List TypeId → Option Value
  | [x], [t] => match b with
    | .len => match find2 T.els t with
      | some _ => match evo fr x with | some (.slice _ n _) => some (.int .i64 n) | _ => none
      | none => none
    | _ => none
  | [x, y], [_, _] => match b with
    | .min => match evo fr x, evo fr y with | some (.int k i), some (.int k' j) => if k = k' then some (.int k (min i j)) else none | _, _ => none
    | .max => match evo fr x, evo fr y with | some (.int k i), some (.int k' j) => if k = k' then some (.int k (max i j)) else none | _, _ => none
    | _ => none
  | _, _ => none
def pv {P : Program} (T : Tab P) (fr : Fr) : Op → Option Value
  | .move x => evo fr x
  | .assign x => evo fr x
  | .pick c a b => match evo fr c with | some (.bool t) => evo fr (bif t then a else b) | _ => none
  | .unOp .not _ x => match evo fr x with | some (.bool b) => some (.bool !b) | _ => none
  | .fieldAddr s x f => match find3 T.fos s f with
    | some off => match evo fr x with | some (.pointer (some ⟨b, o, none⟩)) => some (.pointer (some ⟨b, o + off, none⟩)) | _ => none
    | none => none
  | .extract x i => match evo fr x with | some (.tuple vs) => vs.toList[i]? | _ => none
  | .makeFunc f xs ys => match evs fr xs.toList, evs fr ys.toList with | some a, some b => some (.func f a.toArray b.toArray) | _, _ => none
  | .build t ps => match find2 T.zrs t, find2 T.lay t, evp fr ps.toList with | some z, some pl, some pv => (fillL pl z pv).map fun cs => .agg cs.toArray | _, _, _ => none
  | .convert s t x => match find2 T.kds s, find2 T.kds t, evo fr x with | some _, some k', some (.int _ i) => some (.int k' (k'.wrap i)) | _, _, _ => none
  | .call c => match c.callee with | .builtin b => pvCall T fr b c.args.toList c.argTypes.toList | _ => none
  | _ => none
section
variable {P : Program} {r : Option Nat} {w0 : World} {X : List Nat} {n : Nat} {df : List Deferred} {K : Kont} {fr : Fr} {Γ : List It} {l rest : List Oper} {d : Option Tmp} {ty : TypeId} {ps : String} {af : Array Edge} {g : Option (Nat × Bool)}
theorem pv_sound (T : Tab P) {op : Op} {v : Value} (h : pv T fr op = some v) : Yl P w0 X n fr Γ ⟨d, op, ty, ps, af, g⟩ v := by
  cases op <;> simp only [pv] at h <;> try (cases h; done)
  case move x => exact Yl_move h
  case assign x => exact Yl_assign h
  case pick c a b =>
    split at h
    · rename_i t hc; exact Yl_pick hc h
    · cases h
  case unOp u t x =>
    cases u <;> simp only at h <;> try (cases h; done)
    split at h
    · rename_i b hb; cases h; exact Yl_not hb
    · cases h
  case fieldAddr s x f =>
    split at h
    · rename_i off hoff
      split at h
      · rename_i b o hx; cases h; exact Yl_fieldBlk T hx hoff
      · cases h
    · cases h
  case extract x i =>
    split at h
    · rename_i vs hx; exact Yl_extract (vs := vs.toList) (by simpa using hx) h
    · cases h
  case makeFunc f xs ys =>
    split at h
    · rename_i a b ha hb; cases h; exact Yl_makeFunc (xs := xs.toList) (ys := ys.toList) ha hb
    · cases h
  case build t ps =>
    split at h
    · rename_i z pl pv hz hl hp
      cases hc : fillL pl z pv with
      | none => rw [hc] at h; cases h
      | some cs => rw [hc] at h; cases h; exact Yl_build (ps' := ps.toList) T hz hl hp hc
    · cases h
  case convert s t x =>
    split at h
    · rename_i k2 k' k i hs ht hx; cases h; exact Yl_conv T hx hs ht
    · cases h
  case call c =>
    obtain ⟨callee, args, argTypes⟩ := c
    cases callee <;> simp only at h <;> try (cases h; done)
    rename_i b
    obtain ⟨args⟩ := args
    obtain ⟨tys⟩ := argTypes
    match args, tys with
    | [x], [t] =>
      simp only [pvCall] at h
      cases b <;> simp only at h <;> try (cases h; done)
      split at h
      · rename_i p hp
        split at h
        · rename_i a m c hx; cases h; exact Yl_len T hx hp
        · cases h
      · cases h
    | [x, y], [t, t'] =>
      simp only [pvCall] at h
      cases b <;> simp only at h <;> try (cases h; done)
      all_goals
        split at h
        · rename_i k i k' j hx hy
          split at h
          · rename_i e; subst e; cases h; first | exact Yl_min hx hy | exact Yl_max hx hy
          · cases h
        · cases h
    | [], [] => cases h
    | [], _ :: _ => cases h
    | [_], [] => cases h
    | [_], _ :: _ :: _ => cases h
    | [_, _], [] => cases h
    | [_, _], [_] => cases h
    | [_, _], _ :: _ :: _ :: _ => cases h
    | _ :: _ :: _ :: _, _ => simp [pvCall] at h
/-- the next operation's slot and value. -/
def stp (T : Tab P) (l : List Oper) (n : Nat) (fr : Fr) (o : Oper) : Option (Nat × Value) := match o.dst with
  | some d => bif Nat.blt d n then match gdo l fr o.guard with
    | some true => (pv T fr o.op).map fun v => (d, v)
    | some false => some (d, undef)
    | none => none
    else none
  | none => none
theorem WL_v (T : Tab P) {o : Oper} {p : Nat × Value} (h : stp T l n fr o = some p) (k : WL P r w0 X n df l rest K (p :: fr) Γ) : WL P r w0 X n df l (o :: rest) K fr Γ := by
  obtain ⟨dst, op, ty, ps, af, g⟩ := o
  unfold stp at h
  cases dst with
  | none => cases h
  | some d =>
    simp only at h
    cases hd : Nat.blt d n with
    | false => rw [hd] at h; cases h
    | true =>
      rw [hd] at h
      simp only [cond_true] at h
      cases hg : gdo l fr g with
      | none => rw [hg] at h; cases h
      | some b =>
        rw [hg] at h
        cases b with
        | true =>
          simp only at h
          cases hv : pv T fr op with
          | none => rw [hv] at h; cases h
          | some v => rw [hv] at h; cases h; exact WL_y (pv_sound T hv) hg hd k
        | false => cases h; exact WL_skip hg hd k
/-- with the slot written out. -/
theorem WL_u {d : Tmp} {op : Op} {v : Value} (hy : Yl P w0 X n fr Γ ⟨some d, op, ty, ps, af, g⟩ v) (hg : gdo l fr g = some true) (hd : Nat.blt d n = true) (h : WL P r w0 X n df l rest K ((d, v) :: fr) Γ) : WL P r w0 X n df l (⟨some d, op, ty, ps, af, g⟩ :: rest) K fr Γ :=
  WL_y hy hg hd h
/-- tests: which, and of what. -/
def tst (fr : Fr) : Op → Option (Nat × Int × Int)
  | .binOp op _ x y _ => match evo fr x, evo fr y with
    | some (.int k i), some (.int k' j) => if k = k' then (match op with | .lss => some (0, i, j) | .gtr => some (0, j, i) | .leq => some (1, i, j) | .geq => some (1, j, i) | .eql => some (2, i, j) | .neq => some (3, i, j) | _ => none) else none
    | _, _ => none
  | _ => none
def tstB (l : List Oper) (n : Nat) (fr : Fr) (o : Oper) : Option (Nat × Nat × Int × Int) := match o.dst with
  | some d => bif Nat.blt d n then match gdo l fr o.guard with
    | some true => (tst fr o.op).map fun p => (d, p)
    | _ => none
    else none
  | none => none
def cmpB : Nat × Int × Int → Bool | (0, i, j) => decide (i < j) | (1, i, j) => decide (i ≤ j) | (2, i, j) => decide (i = j) | (_, i, j) => decide (i ≠ j)
theorem tst_sound {op : Op} {p : Nat × Int × Int} (h : tst fr op = some p) : Yl P w0 X n fr Γ ⟨d, op, ty, ps, af, g⟩ (.bool (cmpB p)) := by
  cases op <;> simp only [tst] at h <;> try (cases h; done)
  case binOp op t x y t' =>
    split at h
    · rename_i k i k' j hx hy
      split at h
      · rename_i e
        subst e
        cases op <;> simp only at h <;> first | (cases h; done) | (cases h; first | exact Yl_lss hx hy | exact Yl_gtr hx hy | exact Yl_leq hx hy | exact Yl_geq hx hy | exact Yl_eql hx hy | exact Yl_neq hx hy)
      · cases h
    · cases h
theorem tstB_spec {o : Oper} {d' : Nat} {p : Nat × Int × Int} (h : tstB l n fr o = some (d', p)) : o.dst = some d' ∧ dstOk n o.dst = true ∧ gdo l fr o.guard = some true ∧ tst fr o.op = some p := by
  unfold tstB at h
  cases hd : o.dst with
  | none => rw [hd] at h; cases h
  | some dd =>
    rw [hd] at h
    simp only at h
    cases hb : Nat.blt dd n with
    | false => rw [hb] at h; cases h
    | true =>
      rw [hb] at h
      simp only [cond_true] at h
      split at h
      · rename_i hg
        cases ht : tst fr o.op with
        | none => rw [ht] at h; cases h
        | some q => rw [ht] at h; cases h; exact ⟨rfl, by simpa [dstOk] using hb, hg, rfl⟩
      · cases h
theorem WL_c {o : Oper} {d' : Nat} {p : Nat × Int × Int} (h : tstB l n fr o = some (d', p)) (ht : cmpB p = true → WL P r w0 X n df l rest K ((d', .bool true) :: fr) Γ) (hf : cmpB p = false → WL P r w0 X n df l rest K ((d', .bool false) :: fr) Γ) :
    WL P r w0 X n df l (o :: rest) K fr Γ := by
  obtain ⟨h1, h2, h3, h4⟩ := tstB_spec h
  obtain ⟨dst, op, ty, ps, af, g⟩ := o
  simp only at h1
  subst h1
  cases hc : cmpB p with
  | true => exact WL_y (v := .bool true) (by rw [← hc]; exact tst_sound h4) h3 h2 (ht hc)
  | false => exact WL_y (v := .bool false) (by rw [← hc]; exact tst_sound h4) h3 h2 (hf hc)
theorem WL_lt {o : Oper} {d' : Nat} {i j : Int} (h : tstB l n fr o = some (d', 0, i, j)) (ht : i < j → WL P r w0 X n df l rest K ((d', .bool true) :: fr) Γ) (hf : j ≤ i → WL P r w0 X n df l rest K ((d', .bool false) :: fr) Γ) : WL P r w0 X n df l (o :: rest) K fr Γ :=
  WL_c h (fun h => ht (by simpa [cmpB] using h)) (fun h => hf (by simpa [cmpB] using h))
theorem WL_le {o : Oper} {d' : Nat} {i j : Int} (h : tstB l n fr o = some (d', 1, i, j)) (ht : i ≤ j → WL P r w0 X n df l rest K ((d', .bool true) :: fr) Γ) (hf : j < i → WL P r w0 X n df l rest K ((d', .bool false) :: fr) Γ) : WL P r w0 X n df l (o :: rest) K fr Γ :=
  WL_c h (fun h => ht (by simpa [cmpB] using h)) (fun h => hf (by simpa [cmpB] using h))
theorem WL_eq {o : Oper} {d' : Nat} {i j : Int} (h : tstB l n fr o = some (d', 2, i, j)) (ht : i = j → WL P r w0 X n df l rest K ((d', .bool true) :: fr) Γ) (hf : i ≠ j → WL P r w0 X n df l rest K ((d', .bool false) :: fr) Γ) : WL P r w0 X n df l (o :: rest) K fr Γ :=
  WL_c h (fun h => ht (by simpa [cmpB] using h)) (fun h => hf (by simpa [cmpB] using h))
theorem WL_ne {o : Oper} {d' : Nat} {i j : Int} (h : tstB l n fr o = some (d', 3, i, j)) (ht : i ≠ j → WL P r w0 X n df l rest K ((d', .bool true) :: fr) Γ) (hf : i = j → WL P r w0 X n df l rest K ((d', .bool false) :: fr) Γ) : WL P r w0 X n df l (o :: rest) K fr Γ :=
  WL_c h (fun h => ht (by simpa [cmpB] using h)) (fun h => hf (by simpa [cmpB] using h))
end
end Go.Sx
