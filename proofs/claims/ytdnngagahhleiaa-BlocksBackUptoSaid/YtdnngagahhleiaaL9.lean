/- Plain law: a buffer that holds a block's bytes. -/
import Derived.Test.YtdnngagahhleiaaL8
namespace Go.Proofs.Ytdnngagahhleiaa
set_option linter.unusedVariables false
set_option linter.unusedSimpArgs false
theorem span_max : ∀ {L : List Sp} {p : Int}, Cn p L → ∀ o ∈ L, ¬ mem L o.2 ∧ ¬ mem L (o.1 - 1) ∧ o.1 < o.2 ∧ mem L o.1 ∧ mem L (o.2 - 1)
  | [], _, _, o, ho => by cases ho
  | q :: r, p, ⟨h1, h2, h3⟩, o, ho => by
    rcases List.mem_cons.1 ho with rfl | ho'
    · refine ⟨fun h => ?_, fun h => ?_, h2, (mem_cons ..).2 (.inl ⟨Int.le_refl _, h2⟩), (mem_cons ..).2 (.inl ⟨by omega, by omega⟩)⟩
      · rcases (mem_cons ..).1 h with h | h
        · omega
        · have := h3.mem_gt h; omega
      · rcases (mem_cons ..).1 h with h | h
        · omega
        · have := h3.mem_gt h; omega
    · obtain ⟨a1, a2, a3, a4, a5⟩ := span_max h3 o ho'
      have b1 := h3.mem_gt a4
      refine ⟨fun h => ?_, fun h => ?_, a3, (mem_cons ..).2 (.inr a4), (mem_cons ..).2 (.inr a5)⟩
      · rcases (mem_cons ..).1 h with h | h
        · omega
        · exact a1 h
      · rcases (mem_cons ..).1 h with h | h
        · omega
        · exact a2 h
/-- every place lies in a wide run, or in one that reaches the red part's end. -/
def Wide (red : Int) (L : List Sp) : Prop := ∀ x, mem L x → ∃ a b, a ≤ x ∧ x < b ∧ (∀ z, a ≤ z → z < b → mem L z) ∧ (34 ≤ b - a ∨ red - 1 ≤ b)
theorem Wide.len_aux {red : Int} : ∀ {L : List Sp} {p : Int}, Cn p L → (∀ o ∈ L, (34 ≤ o.2 - o.1 ∨ red - 1 ≤ o.2) ∧ o.1 < o.2 ∧ o.2 ≤ red) → 34 * (L.length : Int) ≤ max 0 (red - p) + 34
  | [], p, _, _ => by simp only [List.length_nil]; omega
  | o :: r, p, ⟨h1, h2, h3⟩, h => by
    have ho := h o (List.mem_cons_self ..)
    have ih := Wide.len_aux h3 fun q hq => h q (List.mem_cons_of_mem _ hq)
    rw [List.length_cons]
    by_cases c : 34 ≤ o.2 - o.1
    · push_cast; omega
    · cases r with
      | nil => simp only [List.length_nil]; omega
      | cons q r =>
        have hq := h q (List.mem_cons_of_mem _ (List.mem_cons_self ..))
        have := h3.1
        omega
theorem Wide.len {red : Int} {L : List Sp} (h : Wide red L) (hc : Cn (-1) L) (hr : red ≤ 65536) (hl : ∀ x, mem L x → x < red) : L.length ≤ 1930 := by
  have := Wide.len_aux (red := red) hc fun o ho => by
    obtain ⟨a1, a2, a3, a4, a5⟩ := span_max hc o ho
    have b5 := hl _ a5
    obtain ⟨a, b, c1, c2, c3, c4⟩ := h _ a4
    have d1 : b ≤ o.2 := Int.not_lt.1 fun hh => a1 (c3 _ (by omega) hh)
    have d2 : o.1 ≤ a := Int.not_lt.1 fun hh => a2 (c3 _ (by omega) (by omega))
    refine ⟨?_, a3, by omega⟩
    omega
  omega
theorem Wide.nil (red : Int) : Wide red [] := fun x h => by simp [mem_nil] at h
theorem Wide.piece {red : Int} {S S' : List Sp} {fr to : Int} (h : Wide red S) (hm : ∀ x, mem S' x ↔ mem S x ∨ (fr ≤ x ∧ x < to)) (hw : 34 ≤ to - fr ∨ red - 1 ≤ to) : Wide red S' := fun x hx => by
  rcases (hm x).1 hx with h1 | h1
  · obtain ⟨a, b, c1, c2, c3, c4⟩ := h x h1
    exact ⟨a, b, c1, c2, fun z z1 z2 => (hm z).2 (.inl (c3 z z1 z2)), c4⟩
  · exact ⟨fr, to, h1.1, h1.2, fun z z1 z2 => (hm z).2 (.inr ⟨z1, z2⟩), hw⟩
theorem Wide.join {red : Int} {S S' : List Sp} {fr to : Int} (h : Wide red S) (hm : ∀ x, mem S' x ↔ mem S x ∨ (fr ≤ x ∧ x < to)) (hw : mem S to ∨ red ≤ to) : Wide red S' := fun x hx => by
  rcases (hm x).1 hx with h1 | h1
  · obtain ⟨a, b, c1, c2, c3, c4⟩ := h x h1
    exact ⟨a, b, c1, c2, fun z z1 z2 => (hm z).2 (.inl (c3 z z1 z2)), c4⟩
  · rcases hw with hw | hw
    · obtain ⟨a, b, c1, c2, c3, c4⟩ := h to hw
      refine ⟨min a fr, b, by omega, by omega, fun z z1 z2 => ?_, by omega⟩
      by_cases c : a ≤ z
      · exact (hm z).2 (.inl (c3 z c z2))
      · exact (hm z).2 (.inr ⟨by omega, by omega⟩)
    · exact ⟨fr, to, h1.1, h1.2, fun z z1 z2 => (hm z).2 (.inr ⟨z1, z2⟩), .inr (by omega)⟩
/-- how many gaps there are. -/
theorem wkEnd_gaps (y p : Int) : (sel (wkEnd y p) false).length ≤ 1 := by
  unfold wkEnd; split <;> simp [sel]
theorem wk_gaps (y : Int) : ∀ (l : List Sp) (p : Int), (sel (wk y l p) false).length ≤ l.length + 1
  | [], p => by rw [wk]; exact wkEnd_gaps y p
  | h :: r, p => by
    rw [wk]
    split
    · have := wk_gaps y r p; rw [List.length_cons]; omega
    split
    · have := wkEnd_gaps y p; rw [List.length_cons]; omega
    · have h1 := wk_gaps y r (min h.2 y)
      have h2 : (sel (if p < h.1 then [((p, h.1), false)] else []) false).length ≤ 1 := by split <;> simp [sel]
      have h3 : (sel (if max p h.1 < min h.2 y then [((max p h.1, min h.2 y), true)] else []) false).length = 0 := by split <;> simp [sel]
      rw [sel_append, sel_append, List.length_append, List.length_append, List.length_cons]
      omega
/-! ### a buffer that holds a block's bytes -/
structure Hld (red : Int) (blk : List Int) (B : Bf) : Prop where
  wb : WB B
  dr : B.dr = false
  lt : ∀ x, mem B.came x → x < red
  val : ∀ j : Nat, mem B.came j → bz B.bytes j = bz blk j
  wide : Wide red B.came
theorem clN_zero {bs data : List Int} {at' fr : Int} : ∀ {n : Nat}, (∀ x : Int, fr ≤ x → x < fr + n → bz bs x.toNat = bz data (x - at').toNat) → clN bs data at' fr n = 0
  | 0, _ => rfl
  | n + 1, h => by rw [clN, clN_zero fun x h1 h2 => h x h1 (by push_cast; omega), if_pos (h _ (by omega) (by push_cast; omega))]; rfl
theorem clL_zero {bs data : List Int} {at' : Int} : ∀ {L : List Sp}, (∀ x : Int, mem L x → bz bs x.toNat = bz data (x - at').toNat) → clL bs data at' L = 0
  | [], _ => rfl
  | o :: L, h => by
    have ih := clL_zero (L := L) fun x hx => h x ((mem_cons ..).2 (.inr hx))
    have h0 : clN bs data at' o.1 (o.2 - o.1).toNat = 0 := clN_zero fun x h1 h2 => h x ((mem_cons ..).2 (.inl ⟨h1, by omega⟩))
    unfold clL at ih ⊢
    rw [List.map_cons, List.sum_cons, ih, h0]; rfl
theorem bz_seg {l : List Int} {a b j : Nat} (hj : j < b) : bz ((l.drop a).take b) j = bz l (a + j) := by
  unfold bz
  simp only [List.getD_eq_getElem?_getD, List.getElem?_take, List.getElem?_drop, hj, if_true]
def bitB (blk : List Int) (y : Pce) : List Int := (blk.drop y.fr.toNat).take (y.to - y.fr).toNat
/-- a piece's bytes come. -/
theorem Hld.put {red : Int} {blk : List Int} {B : Bf} {y : Pce} (h : Hld red blk B) (h0 : 0 ≤ y.fr) (h1 : y.fr < y.to) (h2 : y.to ≤ red) (h3 : red ≤ blk.length) (h4 : red ≤ 65536) (hw : (34 ≤ y.to - y.fr ∨ red - 1 ≤ y.to) ∨ mem B.came y.to) :
    (bitB blk y).length = (y.to - y.fr).toNat ∧ (lookF B y.fr (bitB blk y)).2.2 = (0, 0) ∧ (putF B y.fr (bitB blk y)).2 = (lookF B y.fr (bitB blk y)).2 ∧
    Hld red blk (putF B y.fr (bitB blk y)).1 ∧ (∀ x, mem (putF B y.fr (bitB blk y)).1.came x ↔ mem B.came x ∨ (y.fr ≤ x ∧ x < y.to)) ∧
    readF (putF B y.fr (bitB blk y)).1 (y.fr, y.to) = (bitB blk y, true) := by
  have hD : (bitB blk y).length = (y.to - y.fr).toNat := by unfold bitB; simp; omega
  have hDb : ∀ x : Int, y.fr ≤ x → x < y.to → bz (bitB blk y) (x - y.fr).toNat = bz blk x.toNat := fun x x1 x2 => by
    unfold bitB; rw [bz_seg (by omega)]; congr 1; omega
  generalize bitB blk y = D at *
  have hr := h.wb.right
  have hsp : y.fr + (D.length : Int) = y.to := by omega
  have hmay : mayB (y.fr, y.fr + D.length) = true := by simp [mayB]; omega
  have hask := may_asked hmay
  obtain ⟨M, hM⟩ : ∃ M, M = merged B.came [(y.fr, y.fr + D.length)] := ⟨_, rfl⟩
  have hMc : Cn (-1) M := by rw [hM]; exact merged_cn hr.sl (one_cn hmay).sl0
  have hMm : ∀ x, mem M x ↔ mem B.came x ∨ (y.fr ≤ x ∧ x < y.to) := fun x => by rw [hM, merged_mem hr.sl (one_cn hmay).sl0, one_mem]; dsimp only; rw [hsp]
  have hMl : ∀ x, mem M x → x < red := fun x hx => by
    rcases (hMm x).1 hx with hh | hh
    · exact h.lt x hh
    · omega
  have hMw : Wide red M := by
    rcases hw with hw | hw
    · exact h.wide.piece hMm hw
    · exact h.wide.join hMm (.inl hw)
  have hn := hMw.len hMc h4 hMl
  have ha : add B.came (y.fr, y.fr + D.length) = (M, frs (pieces B.came (y.fr, y.fr + D.length)), 0) := by unfold add; rw [if_pos ⟨hr, hmay⟩, ← hM, if_neg (by omega)]
  have hcl : clL B.bytes D y.fr (sel (pieces B.came (y.fr, y.fr + D.length)) true) = 0 := clL_zero fun x hx => by
    obtain ⟨x1, x2⟩ := (within_mem hr hask x).1 hx
    dsimp only at x1
    have hv := h.val x.toNat (by rwa [show ((x.toNat : Nat) : Int) = x by omega])
    rw [hv, hDb x (by omega) (by omega)]
  have el : lookF B y.fr D = (M, frs (pieces B.came (y.fr, y.fr + D.length)), 0, 0) := by
    unfold lookF
    rw [if_neg (by omega), if_neg (by omega), ha, if_neg (fun h => h rfl), hcl]
    simp [h.dr]
  have ep : putF B y.fr D = (⟨M, newB M B.came B.bytes D y.fr, false⟩, frs (pieces B.came (y.fr, y.fr + D.length)), 0, 0) := by
    unfold putF
    rw [el, if_neg (fun h => h rfl), h.dr]
    rfl
  have hwb := putF_wb (at' := y.fr) (data := D) h.wb
  rw [ep] at hwb
  have hpw := put_wb (at' := y.fr) (data := D) h.wb h.dr (by rw [el])
  rw [el] at hpw
  dsimp only at hpw hwb
  have hval : ∀ j : Nat, mem M j → bz (newB M B.came B.bytes D y.fr) j = bz blk j := fun j hj => by
    have hlt := (hpw.2.2.1 j hj).2
    unfold newB
    rw [bz_map (by omega)]
    have e2 := hDb (j : Int)
    rw [Int.toNat_natCast] at e2
    rcases (hMm j).1 hj with hh | hh
    · have hv := h.val j hh
      rw [if_pos ((memB_iff _ _).2 hh)]
      split <;> exact hv
    · rw [if_pos (by omega)]
      split
      · rename_i c; exact h.val j ((memB_iff _ _).1 c)
      · exact e2 hh.1 hh.2
  rw [el, ep]
  refine ⟨hD, rfl, rfl, ⟨hwb, rfl, hMl, hval, hMw⟩, hMm, ?_⟩
  have hcv : covers M (y.fr, y.to) = true := (covers_mem hwb.right h0 h1).2 fun x x1 x2 => (hMm x).2 (.inr ⟨x1, x2⟩)
  have hlen := hwb.has rfl (y.to - 1) ((hMm _).2 (.inr ⟨by omega, by omega⟩))
  dsimp only at hlen
  unfold readF
  dsimp only
  rw [if_pos ⟨rfl, h0, h1, hcv⟩]
  refine Prod.ext (by_ext (by simp; omega) fun j hj => ?_) rfl
  have hj' : j < (y.to - y.fr).toNat := by simp at hj; omega
  have e1 : ((y.fr.toNat + j : Nat) : Int) = y.fr + j := by omega
  have e3 := hDb (y.fr + j) (by omega) (by omega)
  dsimp only
  rw [bz_seg hj', hval _ ((hMm _).2 (.inr (by omega))), ← Int.toNat_natCast (y.fr.toNat + j), e1, ← e3]
  congr 1; omega
/-- all came. -/
theorem Hld.all {red : Int} {blk : List Int} {B : Bf} (h : Hld red blk B) (h0 : 0 < red) (h3 : red ≤ blk.length) (h4 : red ≤ 65536) (ha : ∀ x, 0 ≤ x → x < red → mem B.came x) :
    readF B (0, red) = (blk.take red.toNat, true) ∧ (if B.dr = true then 0 else size B.came) = red := by
  have hr := h.wb.right
  have hmay : mayB (0, red) = true := by simp [mayB]; omega
  have e : B.came = [(0, red)] := Cn.ext hr.cn (one_cn hmay) fun x => by
    rw [one_mem]
    exact ⟨fun hx => ⟨mem_nat hr hx, h.lt x hx⟩, fun hx => ha x hx.1 hx.2⟩
  have hcv : covers B.came (0, red) = true := (covers_mem hr (Int.le_refl _) h0).2 fun x x1 x2 => ha x x1 x2
  have hlen := h.wb.has h.dr (red - 1) (ha _ (by omega) (by omega))
  refine ⟨?_, ?_⟩
  · unfold readF
    dsimp only
    rw [if_pos ⟨h.dr, Int.le_refl _, h0, hcv⟩]
    refine Prod.ext (by_ext (by simp; omega) fun j hj => ?_) rfl
    have hj' : j < (red - 0).toNat := by simp at hj; omega
    dsimp only
    rw [bz_seg hj', h.val _ (ha _ (by omega) (by omega))]
    have := bz_seg (l := blk) (a := 0) (b := red.toNat) (j := j) (by omega)
    rw [List.drop_zero] at this
    rw [this]
    simp
  · rw [h.dr, if_neg (by decide), e]
    unfold size
    rw [if_pos (by rw [← e]; exact hr)]
    simp [sumL]
/-- what is missing. -/
theorem Hld.gaps {red : Int} {blk : List Int} {B : Bf} (h : Hld red blk B) (h0 : 0 < red) (h4 : red ≤ 65536) :
    ∃ G, gat B.came (0, red) false = (G, 0) ∧ Right G ∧ (∀ x, mem G x ↔ (0 ≤ x ∧ x < red) ∧ ¬ mem B.came x) ∧ (0 < G.length → (gp G (G.length - 1)).2 ≤ red) ∧ (∀ i, i < G.length → mem B.came (gp G i).2 ∨ red ≤ (gp G i).2) := by
  have hr := h.wb.right
  have hask : askedB (0, red) = true := by simp [askedB]; omega
  have hn : (sel (pieces B.came (0, red)) false).length ≤ 2000 := by
    have h1 := wk_gaps red B.came 0
    have h2 := h.wide.len hr.cn h4 h.lt
    rw [pieces_is hr hask]
    dsimp only
    omega
  have hG := gaps_right hr hask hn
  have hm := gaps_mem hr hask
  have hend : ∀ i, i < (sel (pieces B.came (0, red)) false).length → (gp (sel (pieces B.came (0, red)) false) i).2 ≤ red ∧ (mem B.came (gp (sel (pieces B.came (0, red)) false) i).2 ∨ red ≤ (gp (sel (pieces B.came (0, red)) false) i).2) := fun i hi => by
    have ho : gp (sel (pieces B.came (0, red)) false) i ∈ sel (pieces B.came (0, red)) false := by rw [← gp_eq hi]; exact List.getElem_mem _
    obtain ⟨a1, a2, a3, a4, a5⟩ := span_max hG.cn _ ho
    have b1 := ((hm _).1 a4).1
    have b2 := ((hm _).1 a5).1
    dsimp only at b1 b2
    refine ⟨by omega, ?_⟩
    by_cases c : red ≤ (gp (sel (pieces B.came (0, red)) false) i).2
    · exact .inr c
    · refine .inl ?_
      by_cases d : mem B.came (gp (sel (pieces B.came (0, red)) false) i).2
      · exact d
      · exact absurd ((hm _).2 ⟨⟨by dsimp only; omega, by dsimp only; omega⟩, d⟩) a1
  exact ⟨_, gat_false hr hask hn, hG, hm, fun h5 => (hend _ (by omega)).1, fun i hi => (hend i hi).2⟩
end Go.Proofs.Ytdnngagahhleiaa
