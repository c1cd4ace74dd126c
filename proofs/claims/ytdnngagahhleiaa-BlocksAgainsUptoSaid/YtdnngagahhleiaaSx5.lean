/- A small calculus of triples. Part 5: a region whose order is open: a plan, checked by the kernel. -/
import Derived.Test.YtdnngagahhleiaaSx4
namespace Go.Sx
open Go.RowKit
set_option linter.unusedVariables false
set_option linter.unusedSimpArgs false

section
variable {P : Program} {r : Option Nat} {ops : Array Oper} {Q : Exit → Act → World → Prop}
/-- Q lets no panic by. -/
def Calm (Q : Exit → Act → World → Prop) : Prop := ∀ c a w, ¬ Q (.panic c) a w
theorem upon_map {o : Oper} {a a' : Act} {K K' : Act → World → Prop} (hQ : Calm Q) (hv : ∀ u w', K (a'.put o.dst u) w' → K' (a.put o.dst u) w')
    (hd : ∀ d w', K ({ a' with defers := d :: a'.defers }.put o.dst undef) w' → K' ({ a with defers := d :: a.defers }.put o.dst undef) w') {res : Result Next} (h : o.uponIn (FW r) 0 P a' K Q res) : o.uponIn (FW r) 0 P a K' Q res := by
  match res with
  | .ok (.value v) w' => exact hv _ _ h
  | .ok .skip w' => exact hv _ _ h
  | .ok (.defer d) w' => exact hd _ _ h
  | .ok (.enter f args) w' => exact ⟨h.1, CallsIn.mono h.2 fun e w'' he => by cases e <;> first | exact hv _ _ he | exact absurd he (hQ _ _ _) | exact he⟩
  | .ok (.row row args) w' => exact ⟨h.1, RowsIn.mono h.2 fun u w'' he => hv _ _ he⟩
  | .ok (.round l f t asg b) w' => exact ⟨h.1, RoundIn.mono h.2 fun e w'' he => by cases e <;> first | exact hv _ _ he | exact absurd he (hQ _ _ _) | exact he⟩
  | .halt (.panic v) w' => exact absurd h (hQ _ _ _)
  | .ok (.callThen ..) w' | .ok (.stack ..) w' | .ok .recover w' | .ok (.comm ..) w' | .ok .numGoroutine w' | .ok .collect w' | .ok (.watch ..) w' | .ok (.newcoro ..) w' | .ok (.coroswitch ..) w' | .ok (.sleep ..) w' | .ok (.timer ..) w'
  | .ok (.alone ..) w' | .ok (.spawn ..) w' => exact absurd h (by simp [Oper.uponIn])
  | .halt .goexit w' | .halt .blocked w' | .halt .waiting w' | .halt (.exit _) w' | .halt (.fatal _) w' | .halt (.throw _) w' | .halt (.unsupported _) w' | .halt (.stuck _) w' => exact absurd h (by simp [Oper.uponIn])
/-- in the states of C, o yields v (or is passed over), and does nothing else. -/
def Yd (P : Program) (ops : Array Oper) (C : World → Prop) (o : Oper) (v : Value) (a : Act) : Prop :=
  (Region.wanted o (yielded ops a.tmps) = true ∧ ∀ w, C w → (execOp a.eval o).run P w = .ok (.value v) w) ∨ (Region.wanted o (yielded ops a.tmps) = false ∧ v = undef)
def plainOp (o : Oper) : Bool := match o.op with | .defer _ | .select _ _ => false | _ => true
theorem plain_defer {o : Oper} (h : plainOp o = true) (c : Call) : o.op ≠ .defer c := fun e => by simp [plainOp, e] at h
theorem plain_select {o : Oper} (h : plainOp o = true) (cs : Array SelectCase) (b : Bool) : o.op ≠ .select cs b := fun e => by simp [plainOp, e] at h
theorem Yd.op {C : World → Prop} {o : Oper} {v : Value} {a : Act} {i : Nat} (hi : ops[i]? = some o) (hpl : plainOp o = true) (hy : Yd P ops C o v a) {K : Act → World → Prop} {w : World} (hC : C w) (h : K (a.put o.dst v) w) :
    wpOpIn (FW r) 0 P ops Q i K a w := by
  unfold wpOpIn
  simp only [hi]
  rcases hy with ⟨hw, hv⟩ | ⟨hw, rfl⟩
  · simp only [hw, if_true]
    refine ⟨fun _ _ => trivial, ?_⟩
    rw [Oper.semAt_eq _ _ _ (plain_defer hpl), hv w hC]
    exact h
  · simp only [hw, Bool.false_eq_true, if_false]
    exact ⟨fun _ _ => trivial, h⟩
theorem Yd.put {C : World → Prop} {o : Oper} {v u : Value} {a : Act} {d : Option Tmp} (hpl : plainOp o = true) (hy : Yd P ops C o v a) (h : ∀ t, d = some t → t ∉ o.looksAt ops) : Yd P ops C o v (a.put d u) := by
  unfold Yd at *
  rw [execOp_put o (plain_select hpl) a d u h, wanted_put o a d u h]
  exact hy
/-- j's step does not ask whether the light i has been taken. -/
theorem wpOp_past {C : World → Prop} {oi oj : Oper} {v : Value} {j : Nat} (hQ : Calm Q) (hj : ops[j]? = some oj) (hpi : plainOp oi = true) (hpj : plainOp oj = true) (hap : oi.apart ops oj = true) {K : Act → World → Prop} {a : Act} {w : World}
    (hy : Yd P ops C oi v a) (h : wpOpIn (FW r) 0 P ops Q j K (a.put oi.dst v) w) : wpOpIn (FW r) 0 P ops Q j (fun a' w' => Yd P ops C oi v a' ∧ K (a'.put oi.dst v) w') a w := by
  obtain ⟨h1, h2, h3⟩ := Oper.apart_spec hap
  unfold wpOpIn at *
  simp only [hj] at *
  rw [wanted_put oj a oi.dst v h1] at h
  split
  · rename_i hw
    simp only [hw, if_true] at h
    refine ⟨fun _ _ => trivial, ?_⟩
    have h4 := h.2
    rw [Oper.semAt_eq _ _ _ (plain_defer hpj), execOp_put oj (plain_select hpj) a oi.dst v h1] at h4
    rw [Oper.semAt_eq _ _ _ (plain_defer hpj)]
    refine upon_map hQ (fun u w' hk => ⟨hy.put hpi h3, by rw [← Act.put_comm a v u h2]; exact hk⟩) (fun d w' hk => ⟨?_, ?_⟩) h4
    · exact Yd.put (a := { a with defers := d :: a.defers }) hpi hy h3
    · have e : ({ a.put oi.dst v with defers := d :: (a.put oi.dst v).defers } : Act) = ({ a with defers := d :: a.defers } : Act).put oi.dst v := Act.put_defers a oi.dst v d
      rw [e] at hk
      rw [← Act.put_comm _ v undef h2]
      exact hk
  · rename_i hw
    simp only [hw] at h
    exact ⟨fun _ _ => trivial, hy.put hpi h3, by rw [← Act.put_comm a v undef h2]; exact h.2⟩
/-- every order from here on; S holds behind each operation. -/
def Dn (P : Program) (r : Option Nat) (ops : Array Oper) (Q : Exit → Act → World → Prop) (S : Array Bool → World → Prop) : Nat → Array Bool → Act → World → Prop
  | 0, listed, a, w => Region.ready .any ops listed = [] ∧ Q .normal a w
  | f + 1, listed, a, w => (Region.ready .any ops listed = [] → Q .normal a w) ∧
    ∀ i ∈ Region.ready .any ops listed, wpOpIn (FW r) 0 P ops Q i (fun a' w' => S (listed.setIfInBounds i true) w' ∧ Dn P r ops Q S f (listed.setIfInBounds i true) a' w') a w
theorem Dn.any {S : Array Bool → World → Prop} : ∀ (f : Nat) (listed : Array Bool) (a : Act) (w : World), Dn P r ops Q S f listed a w → wpAnyIn (FW r) 0 P .any ops Q f listed a w
  | 0, _, _, _, h => h
  | f + 1, _, _, _, h => ⟨h.1, fun i hi => wpOpIn_mono (fun a' w' h' => Dn.any f _ a' w' h'.2) (h.2 i hi)⟩
/-- what is listed had all listed for which it waits. -/
def Cl (ops : Array Oper) (listed : Array Bool) : Prop := ∀ j o, ops[j]? = some o → listed.getD j false = true → ∀ e ∈ o.after, Region.binds .any e = true → listed.getD e.on false = true
theorem Cl.set {listed : Array Bool} {i : Nat} (h : Cl ops listed) (hi : i ∈ Region.ready .any ops listed) : Cl ops (listed.setIfInBounds i true) := by
  intro j o ho hj e he hb
  obtain ⟨h0, o', ho', hall⟩ := mem_ready.1 hi
  by_cases hij : i = j
  · subst hij
    rw [ho] at ho'
    cases ho'
    exact getD_set_true (hall e he hb)
  · rw [getD_set_ne false hij] at hj
    exact getD_set_true (h j o ho hj e he hb)
theorem Dn_first {S : Array Bool → World → Prop} {C : World → Prop} {oi : Oper} {v : Value} {i : Nat} (hQ : Calm Q) (hi : ops[i]? = some oi) (hpl : ∀ (j : Nat) o, ops[j]? = some o → plainOp o = true)
    (hS1 : ∀ listed w, Cl ops listed → listed.getD i true = false → S listed w → C w) (hS2 : ∀ listed w, S (listed.setIfInBounds i true) w ↔ S listed w) : ∀ (f : Nat) (listed : Array Bool) (a : Act) (w : World),
    (∀ j oj, ops[j]? = some oj → j ≠ i → listed.getD j true = false → (∀ e ∈ oj.after, Region.binds .any e = true → e.on ≠ i) → oi.apart ops oj = true) →
    i ∈ Region.ready .any ops listed → Cl ops listed → Yd P ops C oi v a → S listed w → Dn P r ops Q S f (listed.setIfInBounds i true) (a.put oi.dst v) w → Dn P r ops Q S (f + 1) listed a w := by
  intro f
  induction f with
  | zero =>
    intro listed a w _ hr hcl hy hS H
    refine ⟨fun h => (by rw [h] at hr; cases hr), fun j hj => ?_⟩
    by_cases hji : j = i
    · subst hji
      exact hy.op hi (hpl _ _ hi) (hS1 _ _ hcl (mem_ready.1 hr).1 hS) ⟨(hS2 _ _).2 hS, H⟩
    · have := ready_mono hj hji
      rw [H.1] at this
      cases this
  | succ f ih =>
    intro listed a w hfree hr hcl hy hS H
    have hun := (mem_ready.1 hr).1
    refine ⟨fun h => (by rw [h] at hr; cases hr), fun j hj => ?_⟩
    by_cases hji : j = i
    · subst hji
      exact hy.op hi (hpl _ _ hi) (hS1 _ _ hcl hun hS) ⟨(hS2 _ _).2 hS, H⟩
    · have hstep := H.2 j (ready_mono hj hji)
      obtain ⟨hjun, oj, hoj, hall⟩ := mem_ready.1 hj
      have hnot : ∀ e ∈ oj.after, Region.binds .any e = true → e.on ≠ i := fun e he hb heq => by
        have h5 := hall e he hb
        rw [heq] at h5
        rcases Nat.lt_or_ge i listed.size with h' | h'
        · simp [h'] at hun h5; rw [hun] at h5; cases h5
        · simp [Array.getElem?_eq_none h'] at h5
      refine wpOpIn_mono (fun a' w' h3 => ?_) (wpOp_past hQ hoj (hpl _ _ hi) (hpl _ _ hoj) (hfree j oj hoj hji hjun hnot) hy hstep)
      obtain ⟨hy', hS', hD'⟩ := h3
      have hcomm : (listed.setIfInBounds i true).setIfInBounds j true = (listed.setIfInBounds j true).setIfInBounds i true := Array.setIfInBounds_comm _ _ (Ne.symm hji)
      rw [hcomm] at hS' hD'
      have hSj := (hS2 _ _).1 hS'
      refine ⟨hSj, ih _ a' w' (fun k ok hk hki hkun hno => hfree k ok hk hki ?_ hno) (ready_mono hr (Ne.symm hji)) (hcl.set hj) hy' hSj hD'⟩
      by_cases hjk : j = k
      · subst hjk; exact hjun
      · rw [getD_set_ne true hjk] at hkun; exact hkun
end

/-! ### plans: (i, 0): i is taken first; (i, 1): a load is taken first; (i, 2): i alone may come up -/
def stepOk (ops : Array Oper) (late : List Nat) (listed : Array Bool) : Nat × Nat → Bool
  | (i, 0) => (Region.ready .any ops listed).contains i && Region.free .any ops listed i && !late.contains i
  | (i, 1) => (Region.ready .any ops listed).contains i && Region.free .any ops listed i && !late.contains i && late.all fun j => match ops[j]? with | some o => o.after.any fun e => Region.binds .any e && e.on == i | none => false
  | (i, _) => Region.ready .any ops listed == [i]
def planOk (ops : Array Oper) (late : List Nat) : Array Bool → List (Nat × Nat) → Bool
  | listed, [] => Region.ready .any ops listed == []
  | listed, p :: ps => stepOk ops late listed p && planOk ops late (listed.setIfInBounds p.1 true) ps
section
variable (P : Program) (r : Option Nat) (w0 : World) (X : List Nat) (n : Nat) (df : List Deferred)
def SS (late : List Nat) (K : List It) (listed : Array Bool) (w : World) : Prop := St w0 X [] w ∧ ((∀ j ∈ late, listed.getD j false = false) → St w0 X K w)
def WP (l : List Oper) (late : List Nat) (K : List It) (listed : Array Bool) (plan : List (Nat × Nat)) (Kn : Kont) (fr : Fr) (Γ : List It) : Prop :=
  (∀ (j : Nat) o, l[j]? = some o → plainOp o = true) → planOk l.toArray late listed plan = true → ∀ a w, St w0 X Γ w → Fits n fr a.tmps → a.defers = df → Cl l.toArray listed → SS w0 X late K listed w →
    Dn P r l.toArray (PN w0 X n df Kn) (SS w0 X late K) plan.length listed a w
end
section
variable {P : Program} {r : Option Nat} {w0 : World} {X : List Nat} {n : Nat} {df : List Deferred} {K : Kont} {Q : Post} {fr : Fr} {Γ Kp : List It} {l : List Oper} {late : List Nat} {listed : Array Bool} {plan : List (Nat × Nat)} {o : Oper} {i : Nat}
theorem PN_calm : Calm (PN w0 X n df K) := fun c a w ⟨fr, Γ, _, _, _, h⟩ => h
theorem Yd_of_Yl {C : List It} {v : Value} {a : Act} (hf : Fits n fr a.tmps) (hg : gdo l fr o.guard = some true) (hy : Yl P w0 X n fr C o v) : Yd P l.toArray (St w0 X C) o v a := .inl ⟨gdo_spec hf hg, fun w hs => hy.2 a hf w hs⟩
theorem WP_nil (h : K fr Γ) : WP P r w0 X n df l late Kp listed [] K fr Γ := fun _ hp a w hs hf hd _ _ => by
  simp only [planOk, beq_iff_eq] at hp
  exact ⟨hp, fr, Γ, hs, hf, hd, h⟩
theorem free_of {ops : Array Oper} (hi : ops[i]? = some o) (h : Region.free .any ops listed i = true) : ∀ j oj, ops[j]? = some oj → j ≠ i → listed.getD j true = false → (∀ e ∈ oj.after, Region.binds .any e = true → e.on ≠ i) → o.apart ops oj = true :=
  Region.free_spec hi h
theorem SS_light {i : Nat} (hi : late.contains i = false) (listed : Array Bool) (w : World) : SS w0 X late Kp (listed.setIfInBounds i true) w ↔ SS w0 X late Kp listed w := by
  have e : (∀ j ∈ late, (listed.setIfInBounds i true).getD j false = false) ↔ (∀ j ∈ late, listed.getD j false = false) := by
    refine ⟨fun h j hj => ?_, fun h j hj => ?_⟩
    · have hne : i ≠ j := fun e => by subst e; simp at hi; exact hi hj
      rw [← getD_set_ne false hne]; exact h j hj
    · have hne : i ≠ j := fun e => by subst e; simp at hi; exact hi hj
      rw [getD_set_ne false hne]; exact h j hj
  unfold SS
  rw [e]
theorem WP_step0 {v : Value} (hi : l[i]? = some o) (hd : dstOk n o.dst = true) (hy : ∀ a : Act, Fits n fr a.tmps → Yd P l.toArray (St w0 X []) o v a) (h : WP P r w0 X n df l late Kp (listed.setIfInBounds i true) plan K (putF o.dst v fr) Γ) :
    WP P r w0 X n df l late Kp listed ((i, 0) :: plan) K fr Γ := fun hpl hp a w hs hf hdf hcl hS => by
  simp only [planOk, stepOk, Bool.and_eq_true] at hp
  obtain ⟨⟨⟨h1, h2⟩, h3⟩, h4⟩ := hp
  have h3' : late.contains i = false := by simpa using h3
  have hr : i ∈ Region.ready .any l.toArray listed := by simpa using h1
  exact Dn_first (C := St w0 X []) PN_calm (by simpa using hi) (fun j o ho => hpl j o (by simpa using ho)) (fun _ _ _ _ hS => hS.1) (SS_light h3') _ listed a w (free_of (by simpa using hi) h2) hr hcl (hy a hf) hS
    (h hpl h4 _ w hs (hf.put _ hd _) (by cases o.dst <;> exact hdf) (hcl.set hr) ((SS_light h3' _ _).2 hS))
theorem WP_step1 {v : Value} (hi : l[i]? = some o) (hd : dstOk n o.dst = true) (hy : ∀ a : Act, Fits n fr a.tmps → Yd P l.toArray (St w0 X Kp) o v a) (h : WP P r w0 X n df l late Kp (listed.setIfInBounds i true) plan K (putF o.dst v fr) Γ) :
    WP P r w0 X n df l late Kp listed ((i, 1) :: plan) K fr Γ := fun hpl hp a w hs hf hdf hcl hS => by
  simp only [planOk, stepOk, Bool.and_eq_true] at hp
  obtain ⟨⟨⟨⟨h1, h2⟩, h3⟩, h5⟩, h4⟩ := hp
  have h3' : late.contains i = false := by simpa using h3
  have hr : i ∈ Region.ready .any l.toArray listed := by simpa using h1
  refine Dn_first (C := St w0 X Kp) PN_calm (by simpa using hi) (fun j o ho => hpl j o (by simpa using ho)) (fun listed' w' hc hun hS' => hS'.2 fun j hj => ?_) (SS_light h3') _ listed a w (free_of (by simpa using hi) h2) hr hcl (hy a hf) hS
    (h hpl h4 _ w hs (hf.put _ hd _) (by cases o.dst <;> exact hdf) (hcl.set hr) ((SS_light h3' _ _).2 hS))
  have h6 := List.all_eq_true.1 h5 j hj
  cases hoj : (l.toArray)[j]? with
  | none => rw [hoj] at h6; cases h6
  | some oj =>
    rw [hoj] at h6
    simp only [Array.any_eq_true'] at h6
    obtain ⟨e, he, hb⟩ := h6
    simp only [Bool.and_eq_true, beq_iff_eq] at hb
    cases hl : listed'.getD j false with
    | false => rfl
    | true =>
      have := hc j oj hoj hl e he hb.1
      rw [hb.2] at this
      rcases Nat.lt_or_ge i listed'.size with h' | h'
      · simp [h'] at hun this; rw [hun] at this; cases this
      · simp [Array.getElem?_eq_none h'] at this
/-- an operation that needs no memory of the call's own. -/
theorem WP_0 {v : Value} (hi : l[i]? = some o) (hy : Yl P w0 X n fr [] o v) (hg : gdo l fr o.guard = some true) (hd : dstOk n o.dst = true) (h : WP P r w0 X n df l late Kp (listed.setIfInBounds i true) plan K (putF o.dst v fr) Γ) :
    WP P r w0 X n df l late Kp listed ((i, 0) :: plan) K fr Γ := WP_step0 hi hd (fun a hf => Yd_of_Yl hf hg hy) h
theorem WP_0b {p : Prop} [Decidable p] (hi : l[i]? = some o) (hy : Yl P w0 X n fr [] o (.bool (decide p))) (hg : gdo l fr o.guard = some true) (hd : dstOk n o.dst = true)
    (ht : p → WP P r w0 X n df l late Kp (listed.setIfInBounds i true) plan K (putF o.dst (.bool true) fr) Γ) (hf : ¬ p → WP P r w0 X n df l late Kp (listed.setIfInBounds i true) plan K (putF o.dst (.bool false) fr) Γ) :
    WP P r w0 X n df l late Kp listed ((i, 0) :: plan) K fr Γ := by
  by_cases h : p
  · exact WP_0 (v := .bool true) hi (by simpa [h] using hy) hg hd (ht h)
  · exact WP_0 (v := .bool false) hi (by simpa [h] using hy) hg hd (hf h)
/-- a load out of Kp. -/
theorem WP_1 {v : Value} (hi : l[i]? = some o) (hy : Yl P w0 X n fr Kp o v) (hg : gdo l fr o.guard = some true) (hd : dstOk n o.dst = true) (h : WP P r w0 X n df l late Kp (listed.setIfInBounds i true) plan K (putF o.dst v fr) Γ) :
    WP P r w0 X n df l late Kp listed ((i, 1) :: plan) K fr Γ := WP_step1 hi hd (fun a hf => Yd_of_Yl hf hg hy) h
/-- an operation that alone may come up. -/
theorem WP_2 (hi : l[i]? = some o) (hg : gdo l fr o.guard = some true) (h : Hv P r w0 X n df o (fun fr' Γ' => ((late.any fun j => Nat.beq j i || listed.getD j false) = true ∨ ∃ R, Γ'.Perm (Kp ++ R)) ∧ WP P r w0 X n df l late Kp (listed.setIfInBounds i true) plan K fr' Γ') fr Γ) :
    WP P r w0 X n df l late Kp listed ((i, 2) :: plan) K fr Γ := fun hpl hp a w hs hf hdf hcl hS => by
  simp only [planOk, stepOk, Bool.and_eq_true, beq_iff_eq] at hp
  have hr : i ∈ Region.ready .any l.toArray listed := by rw [hp.1]; simp
  refine ⟨fun he => (by rw [he] at hr; cases hr), fun j hj => ?_⟩
  obtain rfl : j = i := by rw [hp.1] at hj; simpa using hj
  unfold wpOpIn
  simp only [List.getElem?_toArray, hi]
  rw [if_pos (gdo_spec hf hg)]
  refine h a w hs hf hdf _ _ fun a' w' fr' Γ' h1 h2 h3 h4 => ?_
  have hSS : SS w0 X late Kp (listed.setIfInBounds j true) w' := by
    refine ⟨St.right (A := Γ') (B := []) (by simpa using h1), fun hno => ?_⟩
    rcases h4.1 with h5 | ⟨R, hp'⟩
    · obtain ⟨q, hq, hb⟩ := List.any_eq_true.1 h5
      exfalso
      have h6 := hno q hq
      rcases Bool.or_eq_true_iff.1 hb with hb | hb
      · have : q = j := Nat.eq_of_beq_eq_true hb
        subst this
        have hlt : q < listed.size := by
          have := (mem_ready.1 hr).1
          rcases Nat.lt_or_ge q listed.size with h' | h'
          · exact h'
          · simp [Array.getElem?_eq_none h'] at this
        simp [hlt] at h6
      · have := getD_set_true (i := j) hb
        rw [h6] at this; cases this
    · exact (h1.perm hp').left
  exact ⟨hSS, h4.2 hpl hp.2 a' w' h1 h2 h3 (hcl.set hr) hSS⟩
/-- an operation that is passed over. -/
theorem WP_skip0 (hi : l[i]? = some o) (hg : gdo l fr o.guard = some false) (hd : dstOk n o.dst = true) (h : WP P r w0 X n df l late Kp (listed.setIfInBounds i true) plan K (putF o.dst undef fr) Γ) :
    WP P r w0 X n df l late Kp listed ((i, 0) :: plan) K fr Γ := WP_step0 hi hd (fun a hf => .inr ⟨gdo_spec hf hg, rfl⟩) h
theorem WP_skip1 (hi : l[i]? = some o) (hg : gdo l fr o.guard = some false) (hd : dstOk n o.dst = true) (h : WP P r w0 X n df l late Kp (listed.setIfInBounds i true) plan K (putF o.dst undef fr) Γ) :
    WP P r w0 X n df l late Kp listed ((i, 1) :: plan) K fr Γ := WP_step1 hi hd (fun a hf => .inr ⟨gdo_spec hf hg, rfl⟩) h
theorem WP_skip2 (hi : l[i]? = some o) (hg : gdo l fr o.guard = some false) (hd : dstOk n o.dst = true) (h : WP P r w0 X n df l late Kp (listed.setIfInBounds i true) plan K (putF o.dst undef fr) Γ) (hk : ∃ R, Γ.Perm (Kp ++ R)) :
    WP P r w0 X n df l late Kp listed ((i, 2) :: plan) K fr Γ := fun hpl hp a w hs hf hdf hcl hS => by
  simp only [planOk, stepOk, Bool.and_eq_true, beq_iff_eq] at hp
  have hr : i ∈ Region.ready .any l.toArray listed := by rw [hp.1]; simp
  refine ⟨fun he => (by rw [he] at hr; cases hr), fun j hj => ?_⟩
  obtain rfl : j = i := by rw [hp.1] at hj; simpa using hj
  unfold wpOpIn
  simp only [List.getElem?_toArray, hi]
  rw [if_neg (by rw [gdo_spec hf hg]; simp)]
  obtain ⟨R, hp'⟩ := hk
  have hSS : SS w0 X late Kp (listed.setIfInBounds j true) w := ⟨hS.1, fun _ => (hs.perm hp').left⟩
  exact ⟨fun _ _ => trivial, hSS, h hpl hp.2 _ w hs (hf.put _ hd _) (by cases o.dst <;> exact hdf) (hcl.set hr) hSS⟩
/-- the next operation's slot and value. -/
theorem WP_v (T : Tab P) {kd : Nat} {p : Nat × Value} (hk : Nat.blt kd 2 = true) (hi : l[i]? = some o) (h : stp T l n fr o = some p) (k : WP P r w0 X n df l late Kp (listed.setIfInBounds i true) plan K (p :: fr) Γ) : WP P r w0 X n df l late Kp listed ((i, kd) :: plan) K fr Γ := by
  obtain ⟨dst, op, ty, ps, af, g⟩ := o
  unfold stp at h
  cases dst with
  | none => cases h
  | some d =>
    simp only at h
    cases hd : Nat.blt d n with
    | false => rw [hd] at h; cases h
    | true =>
      rw [hd] at h
      simp only [cond_true] at h
      have hkd : kd = 0 ∨ kd = 1 := by (rw [Nat.blt_eq] at hk; omega)
      cases hg : gdo l fr g with
      | none => rw [hg] at h; cases h
      | some b =>
        rw [hg] at h
        cases b with
        | true =>
          simp only at h
          cases hv : pv T fr op with
          | none => rw [hv] at h; cases h
          | some v =>
            rw [hv] at h; cases h
            rcases hkd with rfl | rfl
            · exact WP_0 hi (pv_sound T hv) hg hd k
            · exact WP_1 hi (pv_sound T hv) hg hd k
        | false =>
          cases h
          rcases hkd with rfl | rfl
          · exact WP_skip0 hi hg hd k
          · exact WP_skip1 hi hg hd k
/-- what a forced operation that is passed over leaves. -/
theorem WP_u0 {d : Tmp} {op : Op} {v : Value} {ty : TypeId} {ps : String} {af : Array Edge} {g : Option (Nat × Bool)} (hi : l[i]? = some ⟨some d, op, ty, ps, af, g⟩) (hy : Yl P w0 X n fr [] ⟨some d, op, ty, ps, af, g⟩ v) (hg : gdo l fr g = some true) (hd : Nat.blt d n = true)
    (h : WP P r w0 X n df l late Kp (listed.setIfInBounds i true) plan K ((d, v) :: fr) Γ) : WP P r w0 X n df l late Kp listed ((i, 0) :: plan) K fr Γ := WP_0 hi hy hg hd h
theorem WP_u1 {d : Tmp} {op : Op} {v : Value} {ty : TypeId} {ps : String} {af : Array Edge} {g : Option (Nat × Bool)} (hi : l[i]? = some ⟨some d, op, ty, ps, af, g⟩) (hy : Yl P w0 X n fr Kp ⟨some d, op, ty, ps, af, g⟩ v) (hg : gdo l fr g = some true) (hd : Nat.blt d n = true)
    (h : WP P r w0 X n df l late Kp (listed.setIfInBounds i true) plan K ((d, v) :: fr) Γ) : WP P r w0 X n df l late Kp listed ((i, 1) :: plan) K fr Γ := WP_1 hi hy hg hd h
theorem WP_c {d' : Nat} {p : Nat × Int × Int} (hi : l[i]? = some o) (h : tstB l n fr o = some (d', p)) (ht : cmpB p = true → WP P r w0 X n df l late Kp (listed.setIfInBounds i true) plan K ((d', .bool true) :: fr) Γ)
    (hf : cmpB p = false → WP P r w0 X n df l late Kp (listed.setIfInBounds i true) plan K ((d', .bool false) :: fr) Γ) : WP P r w0 X n df l late Kp listed ((i, 0) :: plan) K fr Γ := by
  obtain ⟨h1, h2, h3, h4⟩ := tstB_spec h
  obtain ⟨dst, op, ty, ps, af, g⟩ := o
  simp only at h1
  subst h1
  cases hc : cmpB p with
  | true => exact WP_0 (v := .bool true) hi (by rw [← hc]; exact tst_sound h4) h3 h2 (ht hc)
  | false => exact WP_0 (v := .bool false) hi (by rw [← hc]; exact tst_sound h4) h3 h2 (hf hc)
theorem WP_lt {d' : Nat} {x y : Int} (hi : l[i]? = some o) (h : tstB l n fr o = some (d', 0, x, y)) (ht : x < y → WP P r w0 X n df l late Kp (listed.setIfInBounds i true) plan K ((d', .bool true) :: fr) Γ)
    (hf : y ≤ x → WP P r w0 X n df l late Kp (listed.setIfInBounds i true) plan K ((d', .bool false) :: fr) Γ) : WP P r w0 X n df l late Kp listed ((i, 0) :: plan) K fr Γ := WP_c hi h (fun h => ht (by simpa [cmpB] using h)) (fun h => hf (by simpa [cmpB] using h))
theorem WP_le {d' : Nat} {x y : Int} (hi : l[i]? = some o) (h : tstB l n fr o = some (d', 1, x, y)) (ht : x ≤ y → WP P r w0 X n df l late Kp (listed.setIfInBounds i true) plan K ((d', .bool true) :: fr) Γ)
    (hf : y < x → WP P r w0 X n df l late Kp (listed.setIfInBounds i true) plan K ((d', .bool false) :: fr) Γ) : WP P r w0 X n df l late Kp listed ((i, 0) :: plan) K fr Γ := WP_c hi h (fun h => ht (by simpa [cmpB] using h)) (fun h => hf (by simpa [cmpB] using h))
theorem WP_eq {d' : Nat} {x y : Int} (hi : l[i]? = some o) (h : tstB l n fr o = some (d', 2, x, y)) (ht : x = y → WP P r w0 X n df l late Kp (listed.setIfInBounds i true) plan K ((d', .bool true) :: fr) Γ)
    (hf : x ≠ y → WP P r w0 X n df l late Kp (listed.setIfInBounds i true) plan K ((d', .bool false) :: fr) Γ) : WP P r w0 X n df l late Kp listed ((i, 0) :: plan) K fr Γ := WP_c hi h (fun h => ht (by simpa [cmpB] using h)) (fun h => hf (by simpa [cmpB] using h))
theorem WP_ne {d' : Nat} {x y : Int} (hi : l[i]? = some o) (h : tstB l n fr o = some (d', 3, x, y)) (ht : x ≠ y → WP P r w0 X n df l late Kp (listed.setIfInBounds i true) plan K ((d', .bool true) :: fr) Γ)
    (hf : x = y → WP P r w0 X n df l late Kp (listed.setIfInBounds i true) plan K ((d', .bool false) :: fr) Γ) : WP P r w0 X n df l late Kp listed ((i, 0) :: plan) K fr Γ := WP_c hi h (fun h => ht (by simpa [cmpB] using h)) (fun h => hf (by simpa [cmpB] using h))
def allPlain (l : List Oper) : Bool := l.all plainOp
/-- THE REGION: a plan that the kernel has checked. -/
theorem W_regionD (T : Tab P) {id : Nat} (late : List Nat) (Kp : List It) (plan : List (Nat × Nat)) (hpl : (allPlain l && planOk l.toArray late (Array.replicate l.length false) plan && Nat.beq plan.length l.length) = true) (hk : ∃ R, Γ.Perm (Kp ++ R))
    (h : WP P r w0 X n df l late Kp (Array.replicate l.length false) plan K fr Γ) : W P r w0 X n df (.region id l.toArray true) K Q fr Γ := fun a w hs hf hd => by
  simp only [Bool.and_eq_true] at hpl
  obtain ⟨⟨h1, h2⟩, h3⟩ := hpl
  obtain ⟨R, hp⟩ := hk
  have hs' : St w0 X Γ { w with drawn := w.drawn + 1 } := hs.drawn rfl rfl rfl rfl
  have h4 := h (fun j o ho => List.all_eq_true.1 h1 o (List.mem_of_getElem? ho)) h2 a _ hs' hf hd (fun j o _ hj => by
    exfalso
    rcases Nat.lt_or_ge j l.length with h' | h' <;> simp [h'] at hj) ⟨St.right (A := Γ) (B := []) (by simpa using hs'), fun _ => (hs'.perm hp).left⟩
  have h5 : plan.length = l.length := Nat.eq_of_beq_eq_true h3
  rw [h5] at h4
  refine wpIn_mono (wpIn_region_any (Q := PN w0 X n df K) T.mixed (by simpa using Dn.any _ _ _ _ h4)) ?_
  rintro e a' w' ⟨fr', Γ', h1, h2, h3, h4⟩
  cases e <;> first | exact ⟨fr', Γ', h1, h2, h3, h4⟩ | exact h4.elim
end
end Go.Sx
