/- A small calculus of triples. Part 18: arrays behind pointers; tails of lists of items. -/
import Derived.Test.YtdnngagahhleiaaSx17
namespace Go.Sx
open Go.RowKit
set_option linter.unusedVariables false
set_option linter.unusedSimpArgs false
def arrInfo (P : Program) (t : TypeId) : Option (Nat × Nat) := match P.underlying t with | some (.array n e) => (P.info? e).map fun i => (n, i.size) | _ => none
section
variable {P : Program} {w0 : World} {X : List Nat} {n : Nat} {fr : Fr} {Γ : List It} {d : Option Tmp} {ty : TypeId} {ps : String} {af : Array Edge} {g : Option (Nat × Bool)}
theorem Yl_indexArr {t : TypeId} {x ix : Operand} {b o m sz : Nat} {k : IntKind} {i : Int} (j : Nat) (hx : evo fr x = some (.pointer (some ⟨b, o, none⟩))) (hi : evo fr ix = some (.int k i)) (ha : arrInfo P t = some (m, sz)) (hj : i = j) (hl : j < m) :
    Yl P w0 X n fr Γ ⟨d, .indexAddr t x ix, ty, ps, af, g⟩ (.pointer (some ⟨b, o + j * sz, none⟩)) := ⟨fun _ => by simp, fun ac hfit w hs => by
  unfold arrInfo at ha
  cases hu : P.underlying t with
  | none => simp [hu] at ha
  | some dd =>
    cases dd <;> try (simp [hu] at ha; done)
    case array n' e =>
      simp only [hu] at ha
      cases hinf : P.info? e with
      | none => simp [hinf] at ha
      | some inf =>
        simp [hinf] at ha
        obtain ⟨rfl, h3⟩ := ha
        subst hj
        have hl' : (0 : Int) ≤ (j : Int) ∧ (j : Int) < (n' : Int) := ⟨by omega, by omega⟩
        have e0 : (⟨b, o, none⟩ : Addr).add (j * sz) = ⟨b, o + j * sz, none⟩ := add_at0 b o (j * sz)
        simp [execOp, evo_sound hfit hx, evo_sound hfit hi, Instr.indexAt, run_underlying hu, asIntOf, Instr.sureAddr, hl', sizeOf, typeInfo, hinf, h3, e0]
        intro h; omega⟩
end
/-- what is dropped, and a tail. -/
theorem perm_fin {Γ xs T : List It} (dr : List It) (h : Γ.Perm (xs ++ (dr ++ T))) : ∃ D, Γ.Perm ((xs ++ T) ++ D) := ⟨dr, h.trans (by
  rw [List.append_assoc]
  exact List.Perm.append_left _ List.perm_append_comm)⟩
/-- two items put into a tail. -/
theorem perm_in2 {P F T : List It} (x y : It) : (x :: y :: (P ++ (F ++ T))).Perm (P ++ ((F ++ [x, y]) ++ T)) := by
  have h1 : (y :: ((P ++ F) ++ T)).Perm ((P ++ F) ++ y :: T) := List.perm_middle.symm
  have h2 : (x :: ((P ++ F) ++ (y :: T))).Perm ((P ++ F) ++ x :: y :: T) := List.perm_middle.symm
  have e1 : P ++ (F ++ T) = (P ++ F) ++ T := by rw [List.append_assoc]
  have e2 : P ++ ((F ++ [x, y]) ++ T) = (P ++ F) ++ x :: y :: T := by simp
  rw [e1, e2]
  exact (List.Perm.cons x h1).trans h2
theorem perm_in1 {P F : List It} (x : It) : (x :: (P ++ F)).Perm (P ++ (F ++ [x])) := by
  have h1 : (x :: ((P ++ F) ++ [])).Perm ((P ++ F) ++ x :: []) := List.perm_middle.symm
  simpa using h1
theorem perm_fin2 {Γ xs F G : List It} (dr : List It) (x y : It) (h : Γ.Perm ((xs ++ [x, y]) ++ (dr ++ (F ++ G)))) : ∃ D, Γ.Perm ((xs ++ ((F ++ [x, y]) ++ G)) ++ D) := by
  rw [List.append_assoc] at h
  exact perm_fin dr (h.trans (List.Perm.append_left _ (show (x :: y :: (dr ++ (F ++ G))).Perm _ from perm_in2 x y)))
theorem perm_fin3 {Γ xs F G H : List It} (dr : List It) (x y z : It) (h : Γ.Perm ((xs ++ [x, y, z]) ++ (dr ++ (F ++ (G ++ H))))) : ∃ D, Γ.Perm ((xs ++ (F ++ ((G ++ [x, y]) ++ (H ++ [z])))) ++ D) := by
  rw [List.append_assoc] at h
  have h1 : (z :: (dr ++ (F ++ (G ++ H)))).Perm (dr ++ (F ++ (G ++ (H ++ [z])))) := by
    have := perm_in1 (P := dr ++ (F ++ G)) (F := H) z
    simpa using this
  have h2 : (x :: y :: (dr ++ (F ++ (G ++ (H ++ [z]))))).Perm (dr ++ (F ++ ((G ++ [x, y]) ++ (H ++ [z])))) := by
    have := perm_in2 (P := dr ++ F) (F := G) (T := H ++ [z]) x y
    simpa using this
  exact perm_fin dr (h.trans (List.Perm.append_left _ (show (x :: y :: z :: (dr ++ (F ++ (G ++ H)))).Perm _ from ((h1.cons y).cons x).trans h2)))
theorem fam_succ (m : Nat) (f : Nat → It) : fam (m + 1) f = fam m f ++ [f m] := by simp [fam, List.range_succ]
end Go.Sx
