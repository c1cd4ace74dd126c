/- A small calculus of triples. Part 14: a slice that was grown out of another one: both are read. -/
import Derived.Test.YtdnngagahhleiaaSx13
namespace Go.Sx
open Go.RowKit
set_option linter.unusedVariables false
set_option linter.unusedSimpArgs false
def twFp (A : Option Nat) (v : Value) : List Nat := if v.ownBlock = A then A.toList else A.toList ++ v.ownBlock.toList
/-- v: a slice of the call's own; A: the block in which an elder slice lies, it may be v's: its first cells are cs0. -/
structure TwOk (A : Option Nat) (cs0 : List Value) (v : Value) (t : TypeId) (sz n : Nat) (cs : List Value) (w : World) : Prop where
  row : hasRow w t sz v n cs
  old : ∀ b, A = some b → Cells w ⟨b, 0, none⟩ cs0 ∧ b < w.heap.size
  pre : ∀ b, A = some b → v.ownBlock = some b → cs0 <+: cs
theorem mem_twFp {A : Option Nat} {v : Value} {b : Nat} : b ∈ twFp A v ↔ A = some b ∨ v.ownBlock = some b := by
  unfold twFp
  split
  · rename_i h; rw [h]; simp
  · simp
theorem twFp_nodup (A : Option Nat) (v : Value) : (twFp A v).Nodup := by
  unfold twFp
  split
  · cases A <;> simp
  · rename_i h
    cases hA : A <;> cases hv : v.ownBlock <;> simp_all
    exact fun e => h e.symm
def twin (A : Option Nat) (cs0 : List Value) (v : Value) (t : TypeId) (sz n : Nat) (cs : List Value) : It := .gen (twFp A v) (TwOk A cs0 v t sz n cs)
  (fun w w' h hk => ⟨It.loc (i := .row v t sz n cs) (fun b hb => h b (mem_twFp.2 (.inr (by simpa [It.fp] using hb)))) hk.row,
    fun b hb => ⟨fun j u hu => by
      exact (World.cell?_of_block (w := w) (w' := w') (a := (⟨b, 0, none⟩ : Addr).add j) (by rw [add_block]; exact h b (mem_twFp.2 (.inl hb)))).trans ((hk.old b hb).1 j u hu), by
      have h1 := h b (mem_twFp.2 (.inl hb))
      have h2 := (hk.old b hb).2
      exact (Array.getElem?_eq_some_iff.1 (h1.trans (Array.getElem?_eq_getElem h2))).1⟩, hk.pre⟩)
  (fun w hk b hb => by
    rcases mem_twFp.1 hb with h | h
    · exact (hk.old b h).2
    · exact hk.row.lt b h)
/-- append: what comes of it, where it lies, and that nothing old is turned where it had to move. -/
theorem run_append_has2 {P : Program} (w : World) (t ty e : TypeId) (i : TypeInfo) (z : Value) (size bytes : Nat) (ht : P.underlying t = some (.slice e)) (hi : P.info? e = some i) (hz : i.zero = some z) (hsize : i.size = size) (hby : i.bytes = bytes) (hzs : z.cells.size = size) (hsz : 0 < size)
    (v : Value) (n : Nat) (xs : List Value) (hown : hasRow w e size v n xs) (a : Addr) (m c : Nat) (news : List Value) (hl : news.length = m * size) (hnews : ∀ j u, news[j]? = some u → w.cell? (a.add j) = some u) (h1 : ∀ u ∈ news, u.oneCell' = true) (h63 : n + m ≤ maxLen) (hbytes : (n + m) * bytes ≤ 140737488355328) :
    ∃ v' w', (Builtin.append_ #[t, t] ty #[v, .slice (some a) m c]).run P w = .ok v' w' ∧ hasRow w' e size v' (n + m) (xs ++ news) ∧ w.grownBy w' v.ownBlock ∧ (v' = .slice none 0 0 ↔ v = .slice none 0 0 ∧ m = 0) ∧ ((v'.ownBlock = v.ownBlock) ∨ (v'.ownBlock = some w.heap.size ∧ ∀ k, k < w.heap.size → w'.heap[k]? = w.heap[k]?)) := by
  obtain ⟨v', w', a1, a2, a3, a4, a5⟩ := run_append_has (P := P) w t ty e i z size bytes ht hi hz hsize hby hzs hsz v n xs hown a m c news hl hnews h1 h63 hbytes
  refine ⟨v', w', a1, a2, a3, a4, ?_⟩
  rcases a5 with a5 | a5
  · exact .inl a5
  refine .inr ⟨a5, fun k hk => ?_⟩
  by_cases hkv : some k = v.ownBlock
  · -- it grew: the run says so
    subst hsize
    subst hby
    rcases hown.2 with ⟨rfl, rfl⟩ | ⟨g, cap, cur, rfl, _, hg, hnc, hcm, hcs, htake⟩
    · simp [Value.ownBlock] at hkv
    · have hroom : ¬ n + m ≤ cap := fun hroom => by
        have hfit : n * i.size + news.length ≤ cur.size := by rw [hl, ← Nat.add_mul]; exact Nat.le_trans (Nat.mul_le_mul_right _ hroom) hcs
        have hr := run_append_room (P := P) w t ty e i ht hi g n cap cur hg a m c news hl hnews h1 hroom hfit
        rw [hr] at a1
        cases a1
        simp [Value.ownBlock] at a5
        have := (Array.getElem?_eq_some_iff.1 hg).1
        omega
      have holds : ∀ j u, xs[j]? = some u → w.cell? ((⟨g, 0, none⟩ : Addr).add j) = some u := hown.cells (g := g) rfl
      have hr := run_append_grow (P := P) w t ty e i z ht hi hz ⟨g, 0, none⟩ n cap xs hown.1 holds a m c news hl hnews (by omega) (by unfold maxLen at h63; omega) (growslice_fits (by omega) hbytes)
      rw [hr] at a1
      cases a1
      exact heap_alloc_old w.drew _ hk
  · exact a3.block k hk hkv
section
variable {P : Program} {r : Option Nat} {w0 : World} {X : List Nat} {n : Nat} {df : List Deferred} {K : Kont} {Q : Post} {fr : Fr} {Γ : List It} {d : Option Tmp} {ty : TypeId} {ps : String} {af : Array Edge} {g : Option (Nat × Bool)}
/-- 'append(s, x..)', an elder slice staying readable. -/
theorem Hv_appendT (T : Tab P) {N : Kont} {t e : TypeId} {x y : Operand} {s : Value} {a : Addr} {A : Option Nat} {m c k sz by_ len : Nat} {cs0 cs news z : List Value} (hx : evo fr x = some s) (hy : evo fr y = some (.slice (some a) m c)) (ht : find2 T.els t = some (e, sz, by_))
    (hz : find2 T.zrs e = some z) (hzs : z.length = sz) (hsz : 0 < sz) (hk : Γ[k]? = some (twin A cs0 s e sz len cs)) (hH : Has w0 X Γ a news) (hl : news.length = m * sz) (h1 : (news.all Value.oneCell') = true)
    (h63 : len + m ≤ 9223372036854775807) (hby : (len + m) * by_ ≤ 140737488355328) (hd : dstOk n d = true)
    (h : ∀ A' cap, (A' = none ↔ s = .slice none 0 0 ∧ m = 0) → N (putF d (.slice A' (len + m) cap) fr) (Γ.set k (twin A cs0 (.slice A' (len + m) cap) e sz (len + m) (cs ++ news)))) :
    Hv P r w0 X n df ⟨d, .call { callee := .builtin .append, args := #[x, y], argTypes := #[t, t] }, ty, ps, af, g⟩ N fr Γ := Hv_val (fun _ => by simp) hd fun ac w hs hf => by
  obtain ⟨hu, inf, hinf, hi2, hi3⟩ := sliceInfo_elem (AllP.mem T.els_ok _ (find2_mem ht))
  obtain ⟨inf', zv, h1', h2', h3'⟩ := zero_run (AllP.mem T.zrs_ok _ (find2_mem hz))
  dsimp only at hu hinf h1' hi2 hi3
  rw [hinf] at h1'
  cases h1'
  have htw : TwOk A cs0 s e sz len cs w := hs.ok _ (List.mem_of_getElem? hk)
  obtain ⟨v', w', hr, hown, hgr, hnil, hat⟩ := run_append_has2 (P := P) w t ty e inf zv sz by_ hu hinf h2' hi2 hi3 (by rw [h3']; simpa using hzs) hsz s len cs htw.row a m c news hl (hH w hs) (fun u hu => by simpa using List.all_eq_true.1 h1 u hu) (by unfold maxLen; omega) hby
  have hshape : ∃ A' cap, v' = .slice A' (len + m) cap ∧ (A' = none ↔ v' = .slice none 0 0) := by
    rcases hown.2 with ⟨rfl, h0⟩ | ⟨gg, cap, cur, rfl, _⟩
    · exact ⟨none, 0, by rw [h0], by simp⟩
    · exact ⟨_, cap, rfl, by simp⟩
  obtain ⟨A', cap, hv, hA⟩ := hshape
  have hnew : TwOk A cs0 v' e sz (len + m) (cs ++ news) w' := by
    refine ⟨hown, fun b hb => ?_, fun b hb hvb => ?_⟩
    · obtain ⟨o1, o2⟩ := htw.old b hb
      refine ⟨?_, Nat.lt_of_lt_of_le o2 hgr.size⟩
      by_cases hsb : s.ownBlock = some b
      · rcases hat with h5 | ⟨h5, h6⟩
        · obtain ⟨tl, htl⟩ := htw.pre b hb hsb
          intro j u hu
          refine hown.cells (g := b) (by rw [h5, hsb]) j u ?_
          rw [← htl, List.append_assoc]
          have hj := (List.getElem?_eq_some_iff.1 hu).1
          rw [List.getElem?_append_left hj]; exact hu
        · intro j u hu
          exact (World.cell?_of_block (w := w) (w' := w') (a := (⟨b, 0, none⟩ : Addr).add j) (by rw [add_block]; exact h6 b o2)).trans (o1 j u hu)
      · intro j u hu
        exact (World.cell?_of_block (w := w) (w' := w') (a := (⟨b, 0, none⟩ : Addr).add j) (by rw [add_block]; exact hgr.block b o2 (fun e => hsb e.symm))).trans (o1 j u hu)
    · rcases hat with h5 | ⟨h5, h6⟩
      · obtain ⟨tl, htl⟩ := htw.pre b hb (by rw [← h5]; exact hvb)
        exact ⟨tl ++ news, by rw [← htl, List.append_assoc]⟩
      · rw [hvb] at h5; cases h5
        have := (htw.old _ hb).2; omega
  refine ⟨v', w', _, ?_, ?_, by rw [hv]; exact h A' cap (by rw [hA, hnil])⟩
  · simp [execOp, resolve, invoke, builtin, evo_sound hf hx, evo_sound hf hy, hr]
  · rw [← hv]
    refine hs.setAt hk hgr.os hgr.tape hgr.output hgr.size (fun b h4 h5 => hgr.block b h4 (fun e => h5 (mem_twFp.2 (.inr e.symm)))) hnew (twFp_nodup _ _) (fun b hb => ?_)
    rcases mem_twFp.1 hb with h6 | h6
    · exact .inl (mem_twFp.2 (.inl h6))
    · rcases hat with h5 | ⟨h5, _⟩
      · exact .inl (mem_twFp.2 (.inr (by rw [← h5]; exact h6)))
      · rw [h5] at h6; cases h6; exact .inr (Nat.le_refl _)
/-- a row becomes a twin. -/
theorem St.twin {w : World} {k : Nat} {A : Option Nat} {t : TypeId} {sz m c : Nat} {cs : List Value} (hs : St w0 X Γ w) (hk : Γ[k]? = some (It.row (.slice (A.map fun b => ⟨b, 0, none⟩) m c) t sz m cs)) :
    St w0 X (Γ.set k (Sx.twin A cs (.slice (A.map fun b => ⟨b, 0, none⟩) m c) t sz m cs)) w := by
  have hrow := hs.row_own (List.mem_of_getElem? hk)
  have hob : (Value.slice (A.map fun b => (⟨b, 0, none⟩ : Addr)) m c).ownBlock = A := by cases A <;> rfl
  refine hs.setAt hk rfl rfl rfl (Nat.le_refl _) (fun _ _ _ => rfl) ⟨hrow, fun b hb => ?_, fun b hb _ => ⟨[], by simp⟩⟩ (twFp_nodup _ _) (fun b hb => .inl ?_)
  · subst hb
    exact ⟨fun j u hu => hrow.cells (g := b) rfl j u hu, hrow.lt b rfl⟩
  · replace hb := mem_twFp.1 (show b ∈ twFp A (Value.slice (A.map fun b => (⟨b, 0, none⟩ : Addr)) m c) from hb)
    rw [hob] at hb
    simp only [It.fp, hob]
    rcases hb with h | h <;> simp [h]
theorem W_twin {cd : Code} (k : Nat) {A : Option Nat} {t : TypeId} {sz m c : Nat} {cs : List Value} (hk : Γ[k]? = some (It.row (.slice (A.map fun b => ⟨b, 0, none⟩) m c) t sz m cs))
    (h : W P r w0 X n df cd K Q fr (Γ.set k (Sx.twin A cs (.slice (A.map fun b => ⟨b, 0, none⟩) m c) t sz m cs))) : W P r w0 X n df cd K Q fr Γ := fun a w hs => h a w (hs.twin hk)
/-- where a row lies. -/
theorem row_shape {w : World} {V : Option Addr} {t : TypeId} {sz m c : Nat} {cs : List Value} (hs : St w0 X Γ w) (hm : It.row (.slice V m c) t sz m cs ∈ Γ) : ∃ A : Option Nat, V = A.map fun b => ⟨b, 0, none⟩ := by
  rcases (hs.row_own hm).2 with ⟨h1, _⟩ | ⟨g, cap, cur, h1, _⟩
  · cases h1; exact ⟨none, rfl⟩
  · cases h1; exact ⟨some g, rfl⟩
theorem Has.twNew {K : List It} {A : Option Nat} {a : Addr} {t : TypeId} {sz m c : Nat} {cs0 cs : List Value} (hm : Sx.twin A cs0 (.slice (some a) m c) t sz m cs ∈ K) : Has w0 X K a cs := fun w hs => by
  have h : TwOk A cs0 (.slice (some a) m c) t sz m cs w := hs.ok _ hm
  intro j u hu
  rcases h.row.2 with ⟨h1, _⟩ | ⟨g, cap, cur, h1, _⟩
  · cases h1
  · cases h1
    exact h.row.cells (g := g) rfl j u hu
theorem Has.twOld {K : List It} {b : Nat} {v : Value} {t : TypeId} {sz m : Nat} {cs0 cs : List Value} (hm : Sx.twin (some b) cs0 v t sz m cs ∈ K) : Has w0 X K ⟨b, 0, none⟩ cs0 := fun w hs => by
  have h : TwOk (some b) cs0 v t sz m cs w := hs.ok _ hm
  exact (h.old b rfl).1
end
end Go.Sx
