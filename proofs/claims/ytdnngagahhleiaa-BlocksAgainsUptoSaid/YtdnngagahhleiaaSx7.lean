/- A small calculus of triples. Part 7: ranges over functions: the iterator's contract, a call of yield, the loop, the marks. -/
import Derived.Test.YtdnngagahhleiaaSx6
import Derived.RangeFuncLeaves
namespace Go.Sx
open Go.RowKit
set_option linter.unusedVariables false
set_option linter.unusedSimpArgs false

/-! ### a block that is no cells -/
def obj (l : Nat) (o : Obj) : It := .gen [l] (fun w => w.heap[l]? = some o) (fun w w' h hk => (h l (by simp)).trans hk) (fun w hk b hb => by
  obtain rfl : b = l := by simpa using hb
  exact (Array.getElem?_eq_some_iff.1 hk).1)
section
variable {w0 w w' : World} {X : List Nat} {Γ A A' B : List It} {l : Nat} {o : Obj}
theorem St.allocObj (h : St w0 X Γ w) (o : Obj) : St w0 X (obj w.heap.size o :: Γ) (w.alloc o) :=
  St.upd (A := []) (A' := [obj w.heap.size o]) h rfl rfl rfl (by simp) (fun b hb _ => Below.heap_alloc _ _ _ hb)
    (fun i hi => by obtain rfl : i = _ := (by simpa using hi); show _ = _; exact World.alloc_heap_new w _) (by simp [fps, It.fp, obj]) (fun b hb => .inr (by simp [fps, It.fp, obj] at hb; omega))
theorem St.obj_heap (h : St w0 X (obj l o :: Γ) w) : w.heap[l]? = some o := h.ok _ (List.mem_cons_self ..)
theorem St.putObj (h : St w0 X (obj l o :: Γ) w) (o' : Obj) : St w0 X (obj l o' :: Γ) (w.putObj l o') :=
  St.upd (A := [obj l o]) (A' := [obj l o']) h rfl rfl rfl (by simp) (fun b hb hne => World.putObj_heap_other (by simpa [fps, It.fp, obj] using hne))
    (fun i hi => by
      obtain rfl : i = _ := (by simpa using hi)
      exact World.putObj_heap_same (Array.getElem?_eq_some_iff.1 h.obj_heap).1) (by simp [fps, It.fp, obj]) (fun b hb => .inl hb)
/-- a call's frame. -/
theorem St.call (h : St w0 X (A ++ B) w) (hc : St w (fps A) A' w') : St w0 X (A' ++ B) w' := St.upd h hc.os hc.tape hc.output hc.size hc.old hc.ok hc.nd hc.mine
theorem St.comm (h : St w0 X (A ++ B) w) : St w0 X (B ++ A) w := h.perm List.perm_append_comm
end
/-! ### a nil slice's row may be put beside whatever there is -/
theorem St.nilrow {w0 w : World} {X : List Nat} {Γ : List It} (h : St w0 X Γ w) (t : TypeId) (sz : Nat) : St w0 X (It.row (.slice none 0 0) t sz 0 [] :: Γ) w :=
  St.upd (A := []) (A' := [It.row (.slice none 0 0) t sz 0 []]) h rfl rfl rfl (Nat.le_refl _) (fun b hb _ => rfl)
    (fun i hi => by obtain rfl : i = _ := (by simpa using hi); exact ⟨by simp, .inl ⟨rfl, rfl⟩⟩) (by simp [fps, It.fp, Value.ownBlock]) (fun b hb => by simp [fps, It.fp, Value.ownBlock] at hb)
section
variable {P : Program} {r : Option Nat} {w0 : World} {X : List Nat} {n : Nat} {df : List Deferred} {K : Kont} {fr : Fr} {Γ Γ' : List It} {l rest : List Oper} {c : Code} {Q : Post}
theorem W_nilrow (t : TypeId) (sz : Nat) (h : W P r w0 X n df c K Q fr (It.row (.slice none 0 0) t sz 0 [] :: Γ)) : W P r w0 X n df c K Q fr Γ := fun a w hs => h a w (hs.nilrow t sz)
theorem WL_nilrow (t : TypeId) (sz : Nat) (h : WL P r w0 X n df l rest K fr (It.row (.slice none 0 0) t sz 0 [] :: Γ)) : WL P r w0 X n df l rest K fr Γ := fun a w hs => h a w (hs.nilrow t sz)
theorem W_perm (hp : Γ.Perm Γ') (h : W P r w0 X n df c K Q fr Γ') : W P r w0 X n df c K Q fr Γ := fun a w hs => h a w (hs.perm hp)
theorem WL_perm (hp : Γ.Perm Γ') (h : WL P r w0 X n df l rest K fr Γ') : WL P r w0 X n df l rest K fr Γ := fun a w hs => h a w (hs.perm hp)
end
section
variable {P : Program} {r : Option Nat} {w0 : World} {X : List Nat} {n : Nat} {df : List Deferred} {K : Kont} {fr : Fr} {Γ : List It} {Q : Post}
/-- ways meet behind one step, behind two. -/
theorem W_cut1 {σ : Type} (F : σ → Fr) (G : σ → List It) (I : σ → Prop) {x z : Code} {Q' : Post}
    (hx : W P r w0 X n df x (fun fr Γ => ∃ s, I s ∧ Sub (F s) fr ∧ ∃ R, Γ.Perm (G s ++ R)) Q' fr Γ) (hy : ∀ s, I s → W P r w0 X n df z K Q (F s) (G s)) :
    W P r w0 X n df x (fun fr Γ => W P r w0 X n df z K Q fr Γ) Q' fr Γ := W.mono hx fun _ _ ⟨s, hI, hf, hg⟩ => W.pre (hy s hI) hf hg
theorem W_cut2 {σ : Type} (F : σ → Fr) (G : σ → List It) (I : σ → Prop) {x y z : Code} {Q' Q'' : Post}
    (hx : W P r w0 X n df x (fun fr Γ => W P r w0 X n df y (fun fr Γ => ∃ s, I s ∧ Sub (F s) fr ∧ ∃ R, Γ.Perm (G s ++ R)) Q' fr Γ) Q'' fr Γ) (hy : ∀ s, I s → W P r w0 X n df z K Q (F s) (G s)) :
    W P r w0 X n df x (fun fr Γ => W P r w0 X n df y (fun fr Γ => W P r w0 X n df z K Q fr Γ) Q' fr Γ) Q'' fr Γ := W.mono hx fun _ _ h => W_cut1 F G I h hy
end
/-! ### the iterator's contract -/
def Ya (P : Program) (l : Nat) (args : Array Value) (w : World) (R : Ending → World → Prop) : Prop :=
  ∃ fn tm asg body, (Instr.yield l args).run P w = .ok (.round l fn tm asg body) w ∧ RoundIn (FW none) 0 P l fn tm asg body w R
def Yc (P : Program) (l : Nat) (C : Nat → List It → Prop) (Cx : List It → Prop) (N : Nat) (enc : Nat → List Value) : Prop :=
  ∀ i, i < N → ∀ c w1, C i c → Sep c w1 → Ya P l (enc i).toArray w1 fun e w' =>
    (e = .returned (.bool true) ∧ ∃ c', C (i + 1) c' ∧ St w1 (fps c) c' w') ∨ (e = .returned (.bool false) ∧ ∃ c', Cx c' ∧ St w1 (fps c) c' w')
def yv (l : Nat) : Value := .func (.yield l) #[] #[]
def ItC (P : Program) (gf : Nat) (lb : List Value) (Kw : List It) (N : Nat) (enc : Nat → List Value) : Prop :=
  ∀ l C Cx, Yc P l C Cx N enc → ∀ w c, C 0 c → Tr P gf (yv l :: lb).toArray w (c ++ Kw) fun _ Γ' => ∃ c', (C N c' ∨ Cx c') ∧ Γ' = c' ++ Kw
section
variable {P : Program} {w0 : World} {X : List Nat} {n : Nat} {df : List Deferred} {fr : Fr} {Γ : List It} {d : Option Tmp} {ty : TypeId} {ps : String} {af : Array Edge} {g : Option (Nat × Bool)} {N : Kont}
/-- a call of yield. -/
theorem Hv_yield {x : Operand} {l M : Nat} {xs : List Operand} {vs : List Value} {ts : Array TypeId} {C : Nat → List It → Prop} {Cx : List It → Prop} {enc : Nat → List Value} {c Γ2 : List It} {i : Nat} (hY : Yc P l C Cx M enc) (hx : evo fr x = some (yv l)) (hvs : evs fr xs = some vs)
    (he : vs = enc i) (hi : i < M) (hc : C i c) (hp : Γ.Perm (c ++ Γ2)) (hd : dstOk n d = true) (ht : ∀ c', C (i + 1) c' → N (putF d (.bool true) fr) (c' ++ Γ2)) (hf' : ∀ c', Cx c' → N (putF d (.bool false) fr) (c' ++ Γ2)) :
    Hv P none w0 X n df ⟨d, .call { callee := .value x, args := xs.toArray, argTypes := ts }, ty, ps, af, g⟩ N fr Γ := fun a w hs hf hdf next Q hk => by
  have hs' := hs.perm hp
  obtain ⟨fn, tm, asg, body, hy, hr⟩ := hY i hi c w hc hs'.left.sep
  have hrun : (execOp a.eval ⟨d, .call { callee := .value x, args := xs.toArray, argTypes := ts }, ty, ps, af, g⟩).run P w = .ok (.round l fn tm asg body) w := by
    have e : xs.toArray.map a.eval = vs.toArray := by rw [← evs_sound hf hvs]; simp
    rw [← he] at hy
    simp [execOp, resolve, evo_sound hf hx, yv, Deferred.ofValue, invoke, e, hy]
  refine ⟨fun _ _ => trivial, ?_⟩
  rw [Oper.semAt_eq _ _ _ (fun _ => by simp), hrun]
  refine ⟨fun hh => by simp [FW] at hh, ?_⟩
  refine RoundIn.mono hr ?_
  rintro e w' (⟨rfl, c', h1, h2⟩ | ⟨rfl, c', h1, h2⟩)
  · exact hk _ _ _ _ (hs'.call h2) (hf.put _ hd _) (by cases d <;> exact hdf) (ht c' h1)
  · exact hk _ _ _ _ (hs'.call h2) (hf.put _ hd _) (by cases d <;> exact hdf) (hf' c' h1)
end
section
variable {P : Program} {w0 : World} {X : List Nat} {n : Nat} {df : List Deferred} {fr : Fr} {Γ : List It} {d : Option Tmp} {ty : TypeId} {ps : String} {af : Array Edge} {g : Option (Nat × Bool)} {N : Kont}
theorem Hv_yieldR {x : Operand} {l M : Nat} {xs : List Operand} {vs : List Value} {ts : Array TypeId} {C : Nat → List It → Prop} {Cx : List It → Prop} {enc : Nat → List Value} {c Γ2 : List It} {i : Nat} (hY : Yc P l C Cx M enc) (hx : evo fr x = some (yv l)) (hvs : evs fr xs = some vs)
    (hp : Γ = Γ2 ++ c) (hd : dstOk n d = true) (hc : C i c) (hi : i < M) (he : vs = enc i) (ht : ∀ c', C (i + 1) c' → N (putF d (.bool true) fr) (Γ2 ++ c')) (hf' : ∀ c', Cx c' → N (putF d (.bool false) fr) (Γ2 ++ c'))
    (hN : ∀ fr Γ Γ', Γ.Perm Γ' → N fr Γ' → N fr Γ) :
    Hv P none w0 X n df ⟨d, .call { callee := .value x, args := xs.toArray, argTypes := ts }, ty, ps, af, g⟩ N fr Γ :=
  Hv_yield hY hx hvs he hi hc (by rw [hp]; exact List.perm_append_comm) hd (fun c' h => hN _ _ _ List.perm_append_comm (ht c' h)) (fun c' h => hN _ _ _ List.perm_append_comm (hf' c' h))
end
/-! ### raw ends -/
abbrev mkD (D : Nat) : Deferred := { target := .collected D, args := #[] }
abbrev mkI (D : Nat) : It := obj D (.deferred (some []))
def At (w0 : World) (X : List Nat) (n : Nat) (df : List Deferred) (fr : Fr) (Γ : List It) (p : Act → World → Prop) : Prop := ∀ a w, St w0 X Γ w → Fits n fr a.tmps → a.defers = df → p a w
def WQ (P : Program) (r : Option Nat) (w0 : World) (X : List Nat) (n : Nat) (df : List Deferred) (c : Code) (Qr : Exit → Act → World → Prop) (fr : Fr) (Γ : List It) : Prop := At w0 X n df fr Γ (c.wpIn (FW r) 0 P Qr)
def QP (w0 : World) (X : List Nat) (n : Nat) (df : List Deferred) (Qr : Exit → Act → World → Prop) : Post := fun e fr Γ => At w0 X n df fr Γ (Qr e)
section
variable {P : Program} {r : Option Nat} {w0 : World} {X : List Nat} {n : Nat} {df : List Deferred} {K : Kont} {fr : Fr} {Γ : List It} {x y : Code} {Qr : Exit → Act → World → Prop}
theorem At.pre {fr' : Fr} {Γ' : List It} {p : Act → World → Prop} (h : At w0 X n df fr' Γ' p) (hf : Sub fr' fr) (hg : ∃ R, Γ.Perm (Γ' ++ R)) : At w0 X n df fr Γ p := fun a w hs hF hd => by
  obtain ⟨R, hp⟩ := hg
  exact h a w (hs.perm hp).left (hF.sub hf) hd
theorem WQ_of (h : W P r w0 X n df x (fun fr Γ => At w0 X n df fr Γ (Qr .normal)) (QP w0 X n df Qr) fr Γ) : WQ P r w0 X n df x Qr fr Γ := fun a w hs hf hd => by
  refine wpIn_mono (h a w hs hf hd) ?_
  rintro e a' w' ⟨fr', Γ', h1, h2, h3, h4⟩
  cases e <;> first | exact h4 a' w' h1 h2 h3 | exact h4.elim
theorem WQ_seq (h : W P r w0 X n df x (fun fr Γ => WQ P r w0 X n df y Qr fr Γ) (QP w0 X n df Qr) fr Γ) : WQ P r w0 X n df (.seq x y) Qr fr Γ := fun a w hs hf hd => by
  refine wpIn_seq (wpIn_mono (h a w hs hf hd) ?_)
  rintro e a' w' ⟨fr', Γ', h1, h2, h3, h4⟩
  cases e <;> first | exact h4 a' w' h1 h2 h3 | exact h4.elim
theorem WQ_seq2 (h : WQ P r w0 X n df x (Exit.then (y.wpIn (FW r) 0 P Qr) Qr) fr Γ) : WQ P r w0 X n df (.seq x y) Qr fr Γ := fun a w hs hf hd => wpIn_seq (h a w hs hf hd)
theorem WQ_block {id : Nat} (h : WQ P r w0 X n df x (Exit.inBlock id Qr) fr Γ) : WQ P r w0 X n df (.block id x) Qr fr Γ := fun a w hs hf hd => wpIn_block (h a w hs hf hd)
theorem WQ_at {id : Nat} (h : WQ P none w0 X n df y Qr fr Γ) : At w0 X n df fr Γ (Exit.inBlock id (Exit.then (y.wpIn (FW none) 0 P Qr) Qr) .normal) := h
theorem WQ_nilrow (t : TypeId) (sz : Nat) (h : WQ P r w0 X n df x Qr fr (It.row (.slice none 0 0) t sz 0 [] :: Γ)) : WQ P r w0 X n df x Qr fr Γ := fun a w hs => h a w (hs.nilrow t sz)
theorem WQ_ret (h : At w0 X n df fr Γ (Qr .ret)) : WQ P r w0 X n df .ret Qr fr Γ := fun a w hs hf hd => wpIn_ret (h a w hs hf hd)
end
/-! ### a function with marks -/
def QF (P : Program) (rs : List ResultVar) (n : Nat) (w0 : World) (X : List Nat) (R : Value → List It → Prop) : Exit → Act → World → Prop := fun e a w =>
  (e = .normal ∨ e = .ret) ∧ ∃ (M : List Nat) (fr : Fr) (Γ' : List It), St w0 X (M.map mkI ++ Γ') w ∧ Fits n fr a.tmps ∧ a.defers = M.map mkD ∧ Fin P rs R fr Γ'
theorem QF_end {P : Program} {rs : List ResultVar} {n : Nat} {w0 : World} {X : List Nat} {R : Value → List It → Prop} {e : Exit} {fr : Fr} {Γ Γ' : List It} (M : List Nat) (he : e = .normal ∨ e = .ret) (hp : Γ.Perm (M.map mkI ++ Γ')) (h : Fin P rs R fr Γ') :
    At w0 X n (M.map mkD) fr Γ (QF P rs n w0 X R e) := fun a w hs hf hd => ⟨he, M, fr, Γ', hs.perm hp, hf, hd, h⟩
theorem QF_mid {P : Program} {rs : List ResultVar} {n : Nat} {w0 : World} {X : List Nat} {R : Value → List It → Prop} {fr : Fr} {D : Nat} {x i : It} {Kw Z : List It} (h : ∀ D', Fin P rs R fr (i :: D')) :
    At w0 X n [mkD D] fr (mkI D :: (x :: (Kw ++ (i :: Z)))) (QF P rs n w0 X R .ret) :=
  QF_end [D] (Γ' := i :: x :: (Kw ++ Z)) (.inr rfl) (List.Perm.cons _ ((List.Perm.cons _ List.perm_middle).trans (List.Perm.swap _ _ _))) (h _)
theorem QF_ret0 {P : Program} {rs : List ResultVar} {n : Nat} {w0 : World} {X : List Nat} {R : Value → List It → Prop} {fr : Fr} {Γ : List It} (h : Fin P rs R fr Γ) : QP w0 X n [] (QF P rs n w0 X R) .ret fr Γ := QF_end [] (.inr rfl) (List.Perm.refl _) h
theorem marks_leave {P : Program} {fn : Func} {n : Nat} {rs : List ResultVar} {w0 : World} {X : List Nat} {R : Value → List It → Prop} {fr : Fr} {Γ' : List It} {t : Array Value} (hr : fn.results = rs.toArray) (hf : Fits n fr t) (hF : Fin P rs R fr Γ') :
    ∀ (M : List Nat) (w : World), St w0 X (M.map mkI ++ Γ') w → LeavesInM (FW none) 0 P fn t (fun e w' => ∃ v Γ', e = .returned v ∧ R v Γ' ∧ St w0 X Γ' w') (M.map mkD) .returning w
  | [], w, hs => by
    obtain ⟨vs, Γ2, hR, hR2, D, hp⟩ := hF
    exact ⟨_, results_run hr hf hs hR, _, _, rfl, hR2, (hs.perm hp).left⟩
  | D :: M, w, hs => by
    refine ⟨by simp, .inl ⟨D, _, rfl, run_takeDeferred hs.obj_heap, ?_⟩⟩
    exact marks_leave hr hf hF M _ (hs.putObj _).tl
theorem TrD_intro {P : Program} {f : FuncId} {fn : Func} {c : Code} {args : List Value} {w : World} {Γ : List It} {R : Value → List It → Prop} {rs : List ResultVar} (hf : P.funcs[f]? = some fn) (hb : fn.body = some c)
    (hr : fn.results = rs.toArray) (n : Nat) (hn : fn.ntmps = n) (hle : Nat.ble args.length n = true)
    (h : WQ P none w (fps Γ) n [] c (QF P rs n w (fps Γ) R) (start n args) Γ) : Tr P f args.toArray w Γ R := fun hs => by
  refine (callsIn_wide (n := 0)).1 (callsIn_of_wp_marks (F := FW none) hf hb trivial (wpIn_mono (h _ w hs.st ?_ rfl) ?_) rfl)
  · have hle := Nat.le_of_ble_eq_true hle
    refine ⟨by simp [hn]; omega, fun i v hi => ?_⟩
    obtain ⟨_, h2⟩ := look_start _ 0 i v hi
    rw [hn]
    have e : args.toArray ++ Array.replicate (n - args.toArray.size) undef = (args ++ List.replicate (n - args.length) undef).toArray := by simp [← List.toArray_replicate]
    rw [e]
    simpa using h2
  · rintro e a w' ⟨he, M, fr, Γ', h1, h2, h3, h4⟩
    rcases he with rfl | rfl
    · show LeavesInM _ _ _ _ _ _ _ _ _
      rw [h3]; exact marks_leave hr h2 h4 M w' h1
    · show LeavesInM _ _ _ _ _ _ _ _ _
      rw [h3]; exact marks_leave hr h2 h4 M w' h1
/-! ### the loop -/
def bindF : List Nat → List Value → Fr → Fr
  | p :: ps, v :: vs, fr => bindF ps vs ((p, v) :: fr)
  | _, _, fr => fr
theorem Fits.set {n : Nat} {fr : Fr} {t : Array Value} (h : Fits n fr t) {d : Nat} (hd : d < n) (v : Value) : Fits n ((d, v) :: fr) (t.setIfInBounds d v) :=
  Fits.put (a := { tmps := t, defers := [] }) h (some d) (by simpa [dstOk, Nat.blt_eq] using hd) v
theorem Fits.bind {n : Nat} : ∀ (ps : List Nat) (vs : List Value) (fr : Fr) (t : Array Value), Fits n fr t → (∀ p ∈ ps, p < n) → Fits n (bindF ps vs fr) ((ps.zip vs).foldl (fun t (p : Nat × Value) => t.setIfInBounds p.1 p.2) t)
  | [], _, _, _, h, _ => by simpa [bindF] using h
  | p :: ps, [], _, _, h, _ => by simpa [bindF] using h
  | p :: ps, v :: vs, fr, t, h, hl => by
    simp only [bindF, List.zip_cons_cons, List.foldl_cons]
    exact Fits.bind ps vs _ _ (h.set (hl p (List.mem_cons_self ..)) v) (fun q hq => hl q (List.mem_cons_of_mem _ hq))
theorem run_endLoop' {P : Program} {w : World} {l : Nat} {r : Loop} (h : w.heap[l]? = some (.loop r)) (hb : r.state ≠ .busy) : (Instr.endLoop l).run P w = .ok r.pending (w.putObj l (.loop { r with state := .exhausted })) := run_endLoop h hb
section
variable {P : Program} {w0 : World} {X : List Nat} {n : Nat} {df : List Deferred} {fr : Fr} {Γ : List It} {Qr : Exit → Act → World → Prop}
theorem WQ_range {f : Operand} {ps : List Tmp} {asg body : Code} {gf u : Nat} {lb : List Value} {N : Nat} {enc : Nat → List Value} {Kw Z : List It} {σ : Type} (T : Tab P) (hf : evo fr f = some (.func (.func gf) #[] lb.toArray)) (hfn : find2 T.fns gf = some u)
    (hit : ItC P gf lb Kw N enc) (hsz : ∀ i, (enc i).length = ps.length) (hps : ps.all (fun p => Nat.blt p n) = true) (G : σ → List It) (I : Nat → σ → Prop) (J : Code → List It → Prop) (s0 : σ) (h0 : I 0 s0) (hp : Γ.Perm (G s0 ++ (Kw ++ Z)))
    (round : ∀ i, i < N → ∀ s, I i s → ∀ l w1, W P (some l) w1 (fps (G s)) n [] asg (fun fr' Γ' => ∀ w2, W P (some l) w2 (fps Γ') n [] body (fun _ Γ'' => ∃ s', I (i + 1) s' ∧ ∃ R, Γ''.Perm (G s' ++ R))
      (fun e _ Γ'' => match e with | .ret => J .ret Γ'' | .exit id => J (.exit id) Γ'' | _ => False) fr' Γ') (fun _ _ _ => False) (bindF ps (enc i) fr) (G s))
    (done : ∀ D s, I N s → At w0 X n (mkD D :: df) fr (mkI D :: (G s ++ (Kw ++ Z))) (Qr .normal))
    (stop : ∀ D c Γ', J c Γ' → At w0 X n (mkD D :: df) fr (mkI D :: (Γ' ++ (Kw ++ Z))) (c.wpIn (FW none) 0 P Qr)) :
    WQ P none w0 X n df (.rangeFunc f ps.toArray asg body) Qr fr Γ := fun a w hs hfit hdf => by
  have hen := AllP.mem T.fns_ok _ (find2_mem hfn)
  dsimp only at hen
  refine wpIn_rangeFunc ?_
  intro fn hFn
  obtain ⟨rec, hrec⟩ : ∃ rec : LoopState → Option Code → Loop, rec = fun st pe => { state := st, pending := pe, fn, tmps := a.tmps, params := ps.toArray, assign := asg, body, defers := w.heap.size } := ⟨_, rfl⟩
  have hs1 := ((hs.allocObj (.deferred (some []))).allocObj (.loop (rec .ready none)))
  obtain ⟨W1, hW1⟩ : ∃ W1, (w.alloc (.deferred (some []))).alloc (.loop (rec .ready none)) = W1 := ⟨_, rfl⟩
  rw [hW1, World.size_alloc] at hs1
  obtain ⟨D, hD⟩ : ∃ D, w.heap.size = D := ⟨_, rfl⟩
  obtain ⟨L, hL⟩ : ∃ L, D + 1 = L := ⟨_, rfl⟩
  rw [hD, hL] at hs1
  have hs2 : St w0 X ((obj L (.loop (rec .ready none)) :: mkI D :: G s0) ++ Kw ++ Z) W1 := hs1.perm (by
    simp only [List.cons_append, List.append_assoc]
    exact ((hp.cons _).cons _))
  refine ⟨L, [mkD D], W1, { target := .fn (.func gf) lb.toArray, args := #[yv L] }, W1, gf, (yv L :: lb).toArray, W1, ?_, ?_, fun _ _ => trivial, ?_, fun hh => by simp [FW] at hh, ?_⟩
  · have := run_enterLoop_outer (P := P) (w := w) fn a.tmps ps.toArray asg body
    rw [hD, hL] at this
    rw [← hW1, hrec, hD]; exact this
  · have hg := evo_sound hfit hf
    simp only [resolve, rangeCall, hg]
    simp [go_sem, yv]
  · simp [invoke, go_sem, hen]
  · have hY : Yc P L (fun i c => ∃ s, I i s ∧ c = obj L (.loop (rec .ready none)) :: mkI D :: G s) (fun c => ∃ cd Γx, J cd Γx ∧ c = obj L (.loop (rec .done (some cd))) :: mkI D :: Γx) N enc := by
      rintro i hi c w1 ⟨s, hI, rfl⟩ hsep
      have hst := hsep.st
      have hy := run_yield (P := P) (args := (enc i).toArray) hst.obj_heap (by rw [hrec]; simpa using hsz i)
      rw [hrec] at hy
      refine ⟨fn, _, asg, body, hy, roundIn_of_wpIn (F := FW none) hFn ?_⟩
      have hfitB : Fits n (bindF ps (enc i) fr) ((ps.toArray.zip (enc i).toArray).foldl (fun t (p : Nat × Value) => t.setIfInBounds p.1 p.2) a.tmps) := by
        have := Fits.bind ps (enc i) fr a.tmps hfit (fun p hp => by have := List.all_eq_true.1 hps p hp; simpa [Nat.blt_eq] using this)
        simpa using this
      have hx := fps (obj L (.loop (rec .ready none)) :: mkI D :: G s)
      have hG : St w1 (fps (obj L (.loop (rec .ready none)) :: mkI D :: G s)) (G s ++ [obj L (.loop (rec .ready none)), mkI D]) w1 := hst.perm (List.perm_append_comm (l₁ := [obj L (.loop (rec .ready none)), mkI D]))
      refine wpIn_mono (round i hi s hI L w1 { tmps := _, defers := [] } w1 hG.left.sep.st hfitB rfl) ?_
      rintro e a2 w2 ⟨fr2, Γ2, k1, k2, k3, k4⟩
      cases e with
      | normal =>
        have hs3 := (hG.call k1).comm
        refine ⟨_, run_beginRound hs3.obj_heap (by rw [hrec]), ?_⟩
        have hs4 := St.putObj hs3 (.loop { rec .ready none with state := .busy })
        have hs5 : St w1 (fps (obj L (.loop (rec .ready none)) :: mkI D :: G s)) (Γ2 ++ [obj L (.loop { rec .ready none with state := .busy }), mkI D]) (w2.putObj L (.loop { rec .ready none with state := .busy })) :=
          St.comm (A := [obj L (.loop { rec .ready none with state := .busy }), mkI D]) hs4
        refine wpIn_mono (k4 _ a2 _ hs5.left.sep.st k2 k3) ?_
        rintro e a3 w3 ⟨fr3, Γ3, m1, m2, m3, m4⟩
        have hs6 := (hs5.call m1).comm
        have fin : ∀ jump : Option Code, (Instr.endRound L jump).run P w3 = .ok (.bool jump.isNone) (w3.putObj L (.loop (rec (if jump.isNone then .ready else .done) jump))) ∧
            St w1 (fps (obj L (.loop (rec .ready none)) :: mkI D :: G s)) (obj L (.loop (rec (if jump.isNone then .ready else .done) jump)) :: mkI D :: Γ3) (w3.putObj L (.loop (rec (if jump.isNone then .ready else .done) jump))) := fun jump => by
          have h1 := run_endRound (P := P) jump hs6.obj_heap
          have h2 := St.putObj hs6 (.loop (rec (if jump.isNone then .ready else .done) jump))
          refine ⟨?_, h2⟩
          rw [hrec] at h1 ⊢; exact h1
        cases e with
        | normal =>
          obtain ⟨f1, f2⟩ := fin none
          obtain ⟨s', hI', R', hp'⟩ := m4
          refine ⟨_, _, f1, .inl ⟨rfl, _, ⟨s', hI', rfl⟩, ?_⟩⟩
          exact St.left (B := R') (f2.perm ((hp'.cons _).cons _))
        | ret => obtain ⟨f1, f2⟩ := fin (some .ret); exact ⟨_, _, f1, .inr ⟨rfl, _, ⟨_, _, m4, rfl⟩, f2⟩⟩
        | exit id => obtain ⟨f1, f2⟩ := fin (some (.exit id)); exact ⟨_, _, f1, .inr ⟨rfl, _, ⟨_, _, m4, rfl⟩, f2⟩⟩
        | goto t => exact m4.elim
        | panic ch => exact m4.elim
        | outgrown => exact m4.elim
      | ret => exact k4.elim
      | exit id => exact k4.elim
      | goto t => exact k4.elim
      | panic ch => exact k4.elim
      | outgrown => exact k4.elim
    have hT := hit L _ _ hY W1 _ ⟨s0, h0, rfl⟩ hs2.left.sep
    refine CallsIn.mono (F := FW none) (R := fun e w' => ∃ v Γ', e = .returned v ∧ (∃ c', ((∃ s, I N s ∧ c' = obj L (.loop (rec .ready none)) :: mkI D :: G s) ∨ (∃ cd Γx, J cd Γx ∧ c' = obj L (.loop (rec .done (some cd))) :: mkI D :: Γx)) ∧ Γ' = c' ++ Kw) ∧
      St W1 (fps ((obj L (.loop (rec .ready none)) :: mkI D :: G s0) ++ Kw)) Γ' w') ((callsIn_wide (n := 0 - 1)).2 hT) ?_
    rintro e w' ⟨v, Γ', rfl, ⟨c', hc, rfl⟩, hst⟩
    have hs7 := hs2.call hst
    rcases hc with ⟨s, hI, rfl⟩ | ⟨cd, Γx, hJ, rfl⟩
    · have h1 := run_endLoop (P := P) (w := w') (l := L) (r := rec .ready none) hs7.obj_heap (by rw [hrec]; simp)
      have h2 := (St.putObj hs7 (.loop { rec .ready none with state := .exhausted })).tl
      have e : (rec .ready none).pending = none := by rw [hrec]
      refine ⟨none, _, h1.trans (congrArg (fun x => Result.ok x _) e), ?_⟩
      exact done D s hI { a with defers := [mkD D] ++ a.defers } _ (by simpa [List.append_assoc] using h2) hfit (by simp [hdf])
    · have h1 := run_endLoop (P := P) (w := w') (l := L) (r := rec .done (some cd)) hs7.obj_heap (by rw [hrec]; simp)
      have h2 := (St.putObj hs7 (.loop { rec .done (some cd) with state := .exhausted })).tl
      have e : (rec .done (some cd)).pending = some cd := by rw [hrec]
      refine ⟨some cd, _, h1.trans (congrArg (fun x => Result.ok x _) e), ?_⟩
      exact stop D cd Γx hJ { a with defers := [mkD D] ++ a.defers } _ (by simpa [List.append_assoc] using h2) hfit (by simp [hdf])
end
end Go.Sx
