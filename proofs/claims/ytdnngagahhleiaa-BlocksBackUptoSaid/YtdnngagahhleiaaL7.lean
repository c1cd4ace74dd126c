/- Plain law: the document's buffer is a buffer. -/
import Derived.Test.YtdnngagahhleiaaB6
import Derived.Test.YtdnngagahhleiaaL3
namespace Go.Proofs.Ytdnngagahhleiaa
set_option linter.unusedVariables false
set_option linter.unusedSimpArgs false
/-! ### sums over places -/
def rsum (f : Int → Int) (a : Int) : Nat → Int
  | 0 => 0
  | n + 1 => rsum f a n + f (a + n)
theorem rsum_add (f : Int → Int) (a : Int) (m : Nat) : ∀ n, rsum f a (m + n) = rsum f a m + rsum f (a + m) n
  | 0 => by simp [rsum]
  | n + 1 => by
    rw [← Nat.add_assoc, rsum, rsum, rsum_add f a m n, show a + ((m + n : Nat) : Int) = a + m + n by push_cast; omega]
    omega
theorem rsum_ext {f g : Int → Int} {a : Int} : ∀ {n : Nat}, (∀ k : Nat, k < n → f (a + k) = g (a + k)) → rsum f a n = rsum g a n
  | 0, _ => rfl
  | n + 1, h => by rw [rsum, rsum, rsum_ext fun k hk => h k (by omega), h n (by omega)]
theorem rsum_zero {a : Int} : ∀ {n : Nat}, rsum (fun _ => 0) a n = 0
  | 0 => rfl
  | n + 1 => by rw [rsum, rsum_zero]; rfl
theorem rsum_one {a : Int} : ∀ {n : Nat}, rsum (fun _ => 1) a n = n
  | 0 => rfl
  | n + 1 => by rw [rsum, rsum_one]; push_cast; rfl
def osum (f : Int → Int) (L : List Sp) : Int := (L.map fun o => rsum f o.1 (o.2 - o.1).toNat).sum
theorem osum_eq (f : Int → Int) : ∀ (L : List Sp) (p a : Int) (n : Nat), Cn p L → (∀ x, mem L x → a ≤ x ∧ x < a + n) → osum f L = rsum (fun x => if memB L x = true then f x else 0) a n
  | [], p, a, n, _, _ => by
    rw [show (fun x => if memB [] x = true then f x else 0) = fun _ => (0 : Int) by funext x; simp [memB], rsum_zero]; rfl
  | o :: L, p, a, n, h, hb => by
    obtain ⟨h1, h2, h3⟩ := h
    have b1 := hb o.1 ((mem_cons o L o.1).2 (.inl ⟨Int.le_refl _, h2⟩))
    have b2 := hb (o.2 - 1) ((mem_cons o L _).2 (.inl ⟨by omega, by omega⟩))
    have hn : n = (o.1 - a).toNat + ((o.2 - o.1).toNat + (a + n - o.2).toNat) := by omega
    have e1 : a + ((o.1 - a).toNat : Int) = o.1 := by omega
    have e2 : o.1 + ((o.2 - o.1).toNat : Int) = o.2 := by omega
    rw [hn, rsum_add, rsum_add, e1, e2]
    have p1 : rsum (fun x => if memB (o :: L) x = true then f x else 0) a (o.1 - a).toNat = 0 := by
      rw [rsum_ext (g := fun _ => 0) fun k hk => ?_, rsum_zero]
      rw [if_neg]
      intro hm
      rcases (mem_cons o L _).1 ((memB_iff _ _).1 hm) with h4 | h4
      · omega
      · have := h3.mem_gt h4; omega
    have p2 : rsum (fun x => if memB (o :: L) x = true then f x else 0) o.1 (o.2 - o.1).toNat = rsum f o.1 (o.2 - o.1).toNat := by
      refine rsum_ext fun k hk => ?_
      rw [if_pos ((memB_iff _ _).2 ((mem_cons o L _).2 (.inl ⟨by omega, by omega⟩)))]
    have p3 : rsum (fun x => if memB (o :: L) x = true then f x else 0) o.2 (a + n - o.2).toNat = rsum (fun x => if memB L x = true then f x else 0) o.2 (a + n - o.2).toNat := by
      refine rsum_ext fun k hk => ?_
      have e : memB (o :: L) (o.2 + k) = memB L (o.2 + k) := by
        rw [Bool.eq_iff_iff, memB_iff, memB_iff, mem_cons]
        exact ⟨fun h => by rcases h with h | h; omega; exact h, .inr⟩
      rw [e]
    have ih := osum_eq f L o.2 o.2 (a + n - o.2).toNat h3 fun x hx => by
      have := h3.mem_gt hx
      have := hb x ((mem_cons o L x).2 (.inr hx))
      omega
    rw [p1, p2, p3, ← ih]
    simp [osum]
theorem sumL_osum : ∀ {L : List Sp} {p : Int}, Cn p L → sumL L = osum (fun _ => 1) L
  | [], _, _ => rfl
  | o :: L, p, h => by
    have := sumL_osum h.2.2
    have h2 := h.2.1
    rw [sumL_cons, this]
    simp only [osum, List.map_cons, List.sum_cons, rsum_one]
    omega
theorem clN_rsum (bs data : List Int) (at' fr : Int) : ∀ n, clN bs data at' fr n = rsum (fun x => if bz bs x.toNat = bz data (x - at').toNat then 0 else 1) fr n
  | 0 => rfl
  | n + 1 => by rw [clN, rsum, clN_rsum]
theorem clL_osum (bs data : List Int) (at' : Int) (L : List Sp) : clL bs data at' L = osum (fun x => if bz bs x.toNat = bz data (x - at').toNat then 0 else 1) L := by
  unfold clL osum
  simp only [clN_rsum]
/-! ### spans of places -/
def pz (l : List Int) (j : Nat) : Int := l.getD j (-1)
theorem pz_eq {l : List Int} {j : Nat} (h : j < l.length) : l[j] = pz l j := by simp [pz, h]
theorem pz_lt {l : List Int} {j : Nat} (h : 0 ≤ pz l j) : j < l.length := by
  rcases Nat.lt_or_ge j l.length with h1 | h1
  · exact h1
  · unfold pz at h; rw [List.getD_eq_getElem?_getD, List.getElem?_eq_none h1] at h; simp at h
theorem pz_ge {l : List Int} {j : Nat} (h : l.length ≤ j) : pz l j = -1 := by unfold pz; rw [List.getD_eq_getElem?_getD, List.getElem?_eq_none h]; rfl
def ext1 (L : List Sp) (v : Int) : List Sp := L.set (L.length - 1) ((gp L (L.length - 1)).1, v)
def spF (pl : List Int) : Nat → List Sp
  | 0 => []
  | i + 1 => if pz pl i < 0 then spF pl i else if 0 < i ∧ 0 ≤ pz pl (i - 1) then ext1 (spF pl i) ((i : Int) + 1) else spF pl i ++ [((i : Int), (i : Int) + 1)]
theorem ext1_snoc (o : List Sp) (q : Sp) (v : Int) : ext1 (o ++ [q]) v = o ++ [(q.1, v)] := by
  unfold ext1
  rw [show (o ++ [q]).length - 1 = o.length by simp, gp_last]
  simp
theorem mem_app (a b : List Sp) (x : Int) : mem (a ++ b) x ↔ mem a x ∨ mem b x := by
  unfold mem
  constructor
  · rintro ⟨s, hs, h⟩
    rcases List.mem_append.1 hs with h1 | h1
    · exact .inl ⟨s, h1, h⟩
    · exact .inr ⟨s, h1, h⟩
  · rintro (⟨s, hs, h⟩ | ⟨s, hs, h⟩)
    · exact ⟨s, List.mem_append.2 (.inl hs), h⟩
    · exact ⟨s, List.mem_append.2 (.inr hs), h⟩
theorem Cn_snoc : ∀ {o : List Sp} {q : Sp} {p : Int}, Cn p (o ++ [q]) ↔ Cn p o ∧ (∀ x ∈ o, x.2 < q.1) ∧ p < q.1 ∧ q.1 < q.2
  | [], q, p => by simp [Cn]
  | a :: o, q, p => by
    have ih := Cn_snoc (o := o) (q := q) (p := a.2)
    simp only [List.cons_append, Cn, ih]
    constructor
    · rintro ⟨h1, h2, h3, h4, h5, h6⟩
      exact ⟨⟨h1, h2, h3⟩, fun x hx => by rcases List.mem_cons.1 hx with rfl | h; exact h5; exact h4 x h, by omega, h6⟩
    · rintro ⟨⟨h1, h2, h3⟩, h4, h5, h6⟩
      exact ⟨h1, h2, h3, fun x hx => h4 x (List.mem_cons_of_mem _ hx), h4 a (List.mem_cons_self ..), h6⟩
theorem spF_spec (pl : List Int) : ∀ i : Nat, Cn (-1) (spF pl i) ∧ (∀ x, mem (spF pl i) x ↔ 0 ≤ x ∧ x < i ∧ 0 ≤ pz pl x.toNat) ∧ (0 < i → 0 ≤ pz pl (i - 1) → ∃ (o : List Sp) (q : Sp), spF pl i = o ++ [q] ∧ q.2 = (i : Int))
  | 0 => ⟨trivial, fun x => by simp only [spF, mem_nil, false_iff]; omega, fun h => by omega⟩
  | i + 1 => by
    obtain ⟨h1, h2, h3⟩ := spF_spec pl i
    rw [spF]
    by_cases a : pz pl i < 0
    · rw [if_pos a]
      refine ⟨h1, fun x => ?_, fun _ h => by rw [Nat.add_sub_cancel] at h; omega⟩
      rw [h2 x]
      constructor
      · rintro ⟨p1, p2, p3⟩; exact ⟨p1, by push_cast; omega, p3⟩
      · rintro ⟨p1, p2, p3⟩
        refine ⟨p1, ?_, p3⟩
        push_cast at p2
        by_cases hx : x = i
        · subst hx; simp at p3; omega
        · omega
    rw [if_neg a]
    by_cases b : 0 < i ∧ 0 ≤ pz pl (i - 1)
    · rw [if_pos b]
      obtain ⟨o, q, e, hq⟩ := h3 b.1 b.2
      rw [e] at h1 h2 ⊢
      rw [ext1_snoc]
      obtain ⟨c1, c2, c3, c4⟩ := Cn_snoc.1 h1
      refine ⟨Cn_snoc.2 ⟨c1, c2, c3, by show q.1 < (i : Int) + 1; omega⟩, fun x => ?_, fun _ _ => ⟨o, _, rfl, by push_cast; rfl⟩⟩
      have h4 := h2 x
      rw [mem_app, one_mem] at h4 ⊢
      dsimp only
      by_cases hx : x = i
      · subst hx
        simp only [Int.toNat_natCast]
        exact ⟨fun _ => ⟨by omega, by push_cast; omega, by omega⟩, fun _ => .inr ⟨by omega, by omega⟩⟩
      · constructor
        · intro h
          have : mem o x ∨ q.1 ≤ x ∧ x < q.2 := by rcases h with h | h; exact .inl h; exact .inr ⟨h.1, by omega⟩
          have := h4.1 this
          exact ⟨this.1, by push_cast; omega, this.2.2⟩
        · rintro ⟨p1, p2, p3⟩
          push_cast at p2
          rcases h4.2 ⟨p1, by omega, p3⟩ with h | h
          · exact .inl h
          · exact .inr ⟨h.1, by omega⟩
    · rw [if_neg b]
      have hb : ∀ x, mem (spF pl i) x → x < i ∧ x ≠ (i : Int) - 1 := fun x hx => by
        have h4 := (h2 x).1 hx
        refine ⟨h4.2.1, fun e => b ⟨by omega, ?_⟩⟩
        rw [e, show ((i : Int) - 1).toNat = i - 1 by omega] at h4
        exact h4.2.2
      have hlt : ∀ x ∈ spF pl i, x.2 < (i : Int) := fun x hx => by
        have h5 : x.1 < x.2 := by
          have key : ∀ (l : List Sp) (p : Int), Cn p l → ∀ x ∈ l, x.1 < x.2 := by
            intro l
            induction l with
            | nil => intro p _ x hx; cases hx
            | cons s r ih =>
              intro p h x hx
              rcases List.mem_cons.1 hx with rfl | h'
              · exact h.2.1
              · exact ih _ h.2.2 x h'
          exact key _ _ h1 x hx
        have := hb (x.2 - 1) ⟨x, hx, by omega, by omega⟩
        omega
      refine ⟨Cn_snoc.2 ⟨h1, fun x hx => hlt x hx, by dsimp only; omega, by dsimp only; omega⟩, fun x => ?_, fun _ _ => ⟨_, _, rfl, by push_cast; rfl⟩⟩
      rw [mem_app, one_mem, h2 x]
      dsimp only
      by_cases hx : x = i
      · subst hx
        simp only [Int.toNat_natCast]
        exact ⟨fun _ => ⟨by omega, by push_cast; omega, by omega⟩, fun _ => .inr ⟨by omega, by omega⟩⟩
      · constructor
        · rintro (h | h)
          · exact ⟨h.1, by push_cast; omega, h.2.2⟩
          · omega
        · rintro ⟨p1, p2, p3⟩
          push_cast at p2
          exact .inl ⟨p1, by omega, p3⟩
/-! ### the document's buffer -/
structure Rf where
  pl : List Int
  dr : Bool
structure Rel (B : Bf) (R : Rf) : Prop where
  wb : WB B
  dr : R.dr = B.dr
  len : R.pl.length = lastT B.came
  has : ∀ j : Nat, 0 ≤ pz R.pl j ↔ mem B.came j
  val : B.dr = false → ∀ j : Nat, mem B.came j → bz B.bytes j = pz R.pl j
  byte : ∀ j : Nat, pz R.pl j ≤ 255
theorem Rel.new : Rel ⟨[], [], false⟩ ⟨[], false⟩ :=
  ⟨⟨⟨by simp, fun j h => by simp at h⟩, fun x h => by simp [mem_nil] at h, fun _ x h => by simp [mem_nil] at h, by simp⟩, rfl, rfl, fun j => by simp [pz, mem_nil], fun _ j h => by simp [mem_nil] at h, fun j => by simp [pz]⟩
theorem mem_nat {l : List Sp} (hl : Right l) {x : Int} (h : mem l x) : 0 ≤ x := by have := hl.cn.mem_gt h; omega
theorem lastT_mem {l : List Sp} (hl : Right l) : (∀ x, mem l x → x < lastT l) ∧ (0 < lastT l → mem l ((lastT l : Nat) - 1 : Int)) ∧ (lastT l = 0 → ∀ x, ¬ mem l x) := by
  have h1 : ∀ x, mem l x → x < lastT l := fun x hx => by have := (mem_last hl hx).2; unfold lastT; omega
  refine ⟨h1, fun h => ?_, fun h x hx => ?_⟩
  · by_cases h0 : 0 < l.length
    · have := last_mem hl h0
      have e : ((lastT l : Nat) : Int) = (gp l (l.length - 1)).2 := by unfold lastT; omega
      rw [e]; exact this.1
    · have : l = [] := List.eq_nil_of_length_eq_zero (by omega)
      subst this
      simp [lastT, gp] at h
  · have := h1 x hx
    have := mem_nat hl hx
    omega
theorem Rel.spans {B : Bf} {R : Rf} (h : Rel B R) : spF R.pl R.pl.length = B.came := by
  obtain ⟨h1, h2, _⟩ := spF_spec R.pl R.pl.length
  refine Cn.ext h1 h.wb.right.cn fun x => ?_
  rw [h2 x]
  constructor
  · rintro ⟨p1, p2, p3⟩
    have := (h.has x.toNat).1 p3
    rwa [show ((x.toNat : Nat) : Int) = x by omega] at this
  · intro hx
    have h0 := mem_nat h.wb.right hx
    have h3 := (h.has x.toNat).2 (by rwa [show ((x.toNat : Nat) : Int) = x by omega])
    exact ⟨h0, by have := pz_lt h3; omega, h3⟩
def wl (R : Rf) (at' : Int) (data : List Int) (i : Nat) : List Int := (List.range (max R.pl.length (at' + data.length).toNat)).map fun j : Nat => if at' ≤ j ∧ (j : Int) < at' + i ∧ pz R.pl j < 0 then bz data ((j : Int) - at').toNat else pz R.pl j
def wfr (R : Rf) (at' : Int) (i : Nat) : Int := rsum (fun x => if pz R.pl x.toNat < 0 then 1 else 0) at' i
def wcl (R : Rf) (at' : Int) (data : List Int) (i : Nat) : Int := rsum (fun x => if 0 ≤ pz R.pl x.toNat ∧ pz R.pl x.toNat ≠ bz data (x - at').toNat ∧ R.dr = false then 1 else 0) at' i
theorem wl_len (R : Rf) (at' : Int) (data : List Int) (i : Nat) : (wl R at' data i).length = max R.pl.length (at' + data.length).toNat := by simp [wl]
def withF (R : Rf) (at' : Int) (data : List Int) : List Int × Int × Int × Int :=
  if 65536 < data.length then ([], 0, 0, 2) else if data.length = 0 ∨ at' < 0 ∨ 65536 - (data.length : Int) < at' then ([], 0, 0, 1) else
  if 2000 < (spF (wl R at' data data.length) (wl R at' data data.length).length).length then ([], 0, 0, 3) else
  (wl R at' data data.length, wfr R at' data.length, wcl R at' data data.length, 0)
theorem pz_wl {R : Rf} {at' : Int} {data : List Int} {i : Nat} (hi : i ≤ data.length) (j : Nat) : pz (wl R at' data i) j = if at' ≤ j ∧ (j : Int) < at' + i ∧ pz R.pl j < 0 then bz data ((j : Int) - at').toNat else pz R.pl j := by
  by_cases h : j < max R.pl.length (at' + data.length).toNat
  · show List.getD _ _ _ = _
    rw [List.getD_eq_getElem?_getD, wl, List.getElem?_map, List.getElem?_range h]
    rfl
  · rw [pz_ge (by rw [wl_len]; omega), if_neg (by omega), pz_ge (by omega)]
theorem with_look {B : Bf} {R : Rf} {at' : Int} {data : List Int} (h : Rel B R) (hd : ∀ k, k < data.length → 0 ≤ bz data k ∧ bz data k ≤ 255) :
    (withF R at' data).2 = (lookF B at' data).2 ∧ ((lookF B at' data).2.2.2 = 0 → Rel (putF B at' data).1 ⟨(withF R at' data).1, R.dr⟩) := by
  by_cases h1 : 65536 < data.length
  · have e1 : withF R at' data = ([], 0, 0, 2) := by unfold withF; rw [if_pos h1]
    have e2 : lookF B at' data = ([], 0, 0, 2) := by unfold lookF; rw [if_pos h1]
    rw [e1, e2]; exact ⟨rfl, fun h => by cases h⟩
  by_cases h2 : data.length = 0 ∨ at' < 0 ∨ 65536 - (data.length : Int) < at'
  · have e1 : withF R at' data = ([], 0, 0, 1) := by unfold withF; rw [if_neg h1, if_pos h2]
    have e2 : lookF B at' data = ([], 0, 0, 1) := by unfold lookF; rw [if_neg h1, if_pos h2]
    rw [e1, e2]; exact ⟨rfl, fun h => by cases h⟩
  have hmay : mayB (at', at' + data.length) = true := by simp [mayB]; omega
  have hask := may_asked hmay
  have hr := h.wb.right
  obtain ⟨M, hM⟩ : ∃ M, M = merged B.came [(at', at' + data.length)] := ⟨_, rfl⟩
  have hMc : Cn (-1) M := by rw [hM]; exact merged_cn hr.sl (one_cn hmay).sl0
  have hMm : ∀ x, mem M x ↔ mem B.came x ∨ (at' ≤ x ∧ x < at' + data.length) := fun x => by rw [hM, merged_mem hr.sl (one_cn hmay).sl0, one_mem]
  have hin : ∀ x : Int, 0 ≤ x → (0 ≤ pz (wl R at' data data.length) x.toNat ↔ mem M x) := fun x h0 => by
    have e : ((x.toNat : Nat) : Int) = x := by omega
    rw [pz_wl (Nat.le_refl _), hMm, e]
    have h3 := h.has x.toNat
    rw [e] at h3
    by_cases c : at' ≤ x ∧ x < at' + data.length ∧ pz R.pl x.toNat < 0
    · rw [if_pos c]
      exact ⟨fun _ => .inr ⟨c.1, c.2.1⟩, fun _ => (hd _ (by omega)).1⟩
    · rw [if_neg c, h3]
      refine ⟨.inl, fun h => ?_⟩
      rcases h with h | h
      · exact h
      · exact h3.1 (by omega)
  have hsp : spF (wl R at' data data.length) (wl R at' data data.length).length = M := by
    obtain ⟨c1, c2, _⟩ := spF_spec (wl R at' data data.length) (wl R at' data data.length).length
    refine Cn.ext c1 hMc fun x => ?_
    rw [c2 x]
    constructor
    · rintro ⟨p1, p2, p3⟩; exact (hin x p1).1 p3
    · intro hx
      have h0 : 0 ≤ x := by have := hMc.mem_gt hx; omega
      have h3 := (hin x h0).2 hx
      exact ⟨h0, by have := pz_lt h3; omega, h3⟩
  by_cases h3 : 2000 < M.length
  · have e1 : withF R at' data = ([], 0, 0, 3) := by unfold withF; rw [if_neg h1, if_neg h2, hsp, if_pos h3]
    have e2 : lookF B at' data = ([], 0, 0, 3) := by
      unfold lookF
      rw [if_neg h1, if_neg h2, if_pos]
      unfold add
      rw [if_pos ⟨hr, hmay⟩, ← hM, if_pos h3]; decide
    rw [e1, e2]; exact ⟨rfl, fun h => by cases h⟩
  have ha : add B.came (at', at' + data.length) = (M, frs (pieces B.came (at', at' + data.length)), 0) := by unfold add; rw [if_pos ⟨hr, hmay⟩, ← hM, if_neg h3]
  have e1 : withF R at' data = (wl R at' data data.length, wfr R at' data.length, wcl R at' data data.length, 0) := by unfold withF; rw [if_neg h1, if_neg h2, hsp, if_neg h3]
  have e2 : lookF B at' data = (M, frs (pieces B.came (at', at' + data.length)), if B.dr = true then 0 else clL B.bytes data at' (sel (pieces B.came (at', at' + data.length)) true), 0) := by
    unfold lookF; rw [if_neg h1, if_neg h2, ha, if_neg (fun h => h rfl)]
  have hpm : ∀ k : Nat, k < data.length → (0 ≤ pz R.pl (at' + k).toNat ↔ mem B.came (at' + k)) := fun k hk => by
    have := h.has (at' + k).toNat
    rwa [show (((at' + k).toNat : Nat) : Int) = at' + k by omega] at this
  have efr : wfr R at' data.length = frs (pieces B.came (at', at' + data.length)) := by
    rw [frs_sel, sumL_osum (gaps_cn hr hask), osum_eq _ _ (-1) at' data.length (gaps_cn hr hask) (fun x hx => ((gaps_mem hr hask x).1 hx).1)]
    refine rsum_ext fun k hk => ?_
    have := hpm k hk
    by_cases c : mem B.came (at' + k)
    · rw [if_neg (by have := this.2 c; omega), if_neg (fun hm => ((gaps_mem hr hask _).1 ((memB_iff _ _).1 hm)).2 c)]
    · rw [if_pos (Int.not_le.1 fun h => c (this.1 h)), if_pos ((memB_iff _ _).2 ((gaps_mem hr hask _).2 ⟨⟨by dsimp only; omega, by dsimp only; omega⟩, c⟩))]
  have ecl : wcl R at' data data.length = if B.dr = true then 0 else clL B.bytes data at' (sel (pieces B.came (at', at' + data.length)) true) := by
    unfold wcl
    rw [h.dr]
    cases hdr : B.dr
    · rw [if_neg (by decide), clL_osum, osum_eq _ _ (-1) at' data.length (within_cn hr hask) (fun x hx => ((within_mem hr hask x).1 hx).1)]
      refine rsum_ext fun k hk => ?_
      have := hpm k hk
      by_cases c : mem B.came (at' + k)
      · have hv := h.val hdr (at' + k).toNat (by rwa [show (((at' + k).toNat : Nat) : Int) = at' + k by omega])
        rw [if_pos ((memB_iff _ _).2 ((within_mem hr hask _).2 ⟨⟨by dsimp only; omega, by dsimp only; omega⟩, c⟩)), hv]
        by_cases e : pz R.pl (at' + k).toNat = bz data (at' + k - at').toNat
        · rw [if_pos e, if_neg (fun hh => hh.2.1 e)]
        · rw [if_neg e, if_pos ⟨this.2 c, e, rfl⟩]
      · rw [if_neg (fun hh => c (this.1 hh.1)), if_neg (fun hm => c ((within_mem hr hask _).1 ((memB_iff _ _).1 hm)).2)]
    · rw [if_pos rfl, rsum_ext (g := fun _ => 0) fun k hk => if_neg (fun hh => by cases hh.2.2), rsum_zero]
  refine ⟨by rw [e1, e2, efr, ecl], fun h0 => ?_⟩
  have hwb := putF_wb (at' := at') (data := data) h.wb
  have ep : (putF B at' data).1 = ⟨M, if B.dr = true then B.bytes else newB M B.came B.bytes data at', B.dr⟩ := by
    unfold putF; rw [e2, if_neg (fun h => h rfl)]
  rw [ep] at hwb ⊢
  rw [e1]
  have hMr : Right M := hwb.right
  refine ⟨hwb, h.dr, ?_, fun j => ?_, fun hdr j hj => ?_, fun j => ?_⟩
  · rw [wl_len, h.len]
    obtain ⟨a1, a2, a3⟩ := lastT_mem hr
    obtain ⟨b1, b2, b3⟩ := lastT_mem hMr
    have c1 := b1 (at' + data.length - 1) ((hMm _).2 (.inr ⟨by omega, by omega⟩))
    have c2 : lastT B.came ≤ lastT M := by
      by_cases hz : 0 < lastT B.came
      · have := b1 _ ((hMm _).2 (.inl (a2 hz))); omega
      · omega
    have c3 : (lastT M : Int) ≤ max (lastT B.came : Int) (at' + data.length) := by
      by_cases hz : 0 < lastT M
      · rcases (hMm _).1 (b2 hz) with h4 | h4
        · have := a1 _ h4; omega
        · omega
      · omega
    dsimp only
    omega
  · dsimp only
    have := hin (j : Int) (by omega)
    rwa [Int.toNat_natCast] at this
  · dsimp only at hdr hj ⊢
    rw [if_neg (by simp [hdr])]
    have hjl := (lastT_mem hMr).1 _ hj
    unfold newB
    rw [bz_map (by omega), pz_wl (Nat.le_refl _)]
    by_cases c : mem B.came j
    · have hv := h.val hdr j c
      have hp := (h.has j).2 c
      rw [if_neg (show ¬ (at' ≤ (j : Int) ∧ (j : Int) < at' + data.length ∧ pz R.pl j < 0) from fun hh => by omega)]
      split
      · rw [if_pos ((memB_iff _ _).2 c)]; exact hv
      · exact hv
    · have hp : pz R.pl j < 0 := Int.not_le.1 fun hh => c ((h.has j).1 hh)
      rcases (hMm _).1 hj with h4 | h4
      · exact absurd h4 c
      · rw [if_pos ⟨h4.1, h4.2⟩, if_neg (fun hm => c ((memB_iff _ _).1 hm)), if_pos ⟨h4.1, h4.2, hp⟩]
  · dsimp only
    rw [pz_wl (Nat.le_refl _)]
    split
    · rename_i c
      exact (hd _ (by omega)).2
    · exact h.byte j
theorem Rel.drop {B : Bf} {R : Rf} (h : Rel B R) : Rel ⟨B.came, [], true⟩ ⟨R.pl, true⟩ :=
  ⟨⟨h.wb.right, h.wb.lt, fun h => (by cases h), by simp⟩, rfl, h.len, h.has, fun h => (by cases h), h.byte⟩
theorem Rel.held {B : Bf} {R : Rf} (h : Rel B R) : rsum (fun x => if 0 ≤ pz R.pl x.toNat then 1 else 0) 0 R.pl.length = sumL B.came := by
  have hr := h.wb.right
  rw [sumL_osum hr.cn, osum_eq _ _ (-1) 0 R.pl.length hr.cn (fun x hx => ⟨mem_nat hr hx, by have := (lastT_mem hr).1 x hx; rw [h.len]; omega⟩)]
  refine rsum_ext fun k hk => ?_
  have := h.has k
  rw [Int.zero_add, Int.toNat_natCast]
  by_cases c : mem B.came k
  · rw [if_pos (this.2 c), if_pos ((memB_iff _ _).2 c)]
  · rw [if_neg (fun hh => c (this.1 hh)), if_neg (fun hm => c ((memB_iff _ _).1 hm))]
/-- what Read tells. -/
def readF (B : Bf) (s : Sp) : List Int × Bool := if B.dr = false ∧ 0 ≤ s.1 ∧ s.1 < s.2 ∧ covers B.came s = true then ((B.bytes.drop s.1.toNat).take (s.2 - s.1).toNat, true) else ([], false)
theorem covers_mem {l : List Sp} (hl : Right l) {s : Sp} (h0 : 0 ≤ s.1) (h1 : s.1 < s.2) : covers l s = true ↔ ∀ x, s.1 ≤ x → x < s.2 → mem l x := by
  constructor
  · intro h x hx1 hx2
    have ha : askedB s = true := by unfold covers at h; simp at h; exact h.1.2
    rw [covers_is hl ha, decide_eq_true_eq] at h
    by_cases c : mem l x
    · exact c
    · have := (gaps_mem hl ha x).2 ⟨⟨hx1, hx2⟩, c⟩
      rw [List.eq_nil_of_length_eq_zero h] at this
      simp [mem_nil] at this
  · intro h
    have h2 := hl.mem_lt (h (s.2 - 1) (by omega) (by omega))
    exact covers_of hl (by simp [mayB]; omega) h
end Go.Proofs.Ytdnngagahhleiaa
