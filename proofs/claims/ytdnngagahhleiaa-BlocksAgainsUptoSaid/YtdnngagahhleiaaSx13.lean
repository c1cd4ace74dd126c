/- A small calculus of triples. Part 13: pointers and nil. -/
import Derived.Test.YtdnngagahhleiaaSx12
namespace Go.Sx
open Go.RowKit
set_option linter.unusedVariables false
set_option linter.unusedSimpArgs false
section
variable {P : Program} {w0 : World} {X : List Nat} {n : Nat} {fr : Fr} {Γ : List It} {d : Option Tmp} {ty : TypeId} {ps : String} {af : Array Edge} {g : Option (Nat × Bool)}
theorem equalIn_pn {P : Program} {t e : TypeId} {a : Addr} (hu : P.underlying t = some (.pointer e)) (d : Nat) (w : World) : (Op.equalIn (d + 1) t (.pointer (some a)) (.pointer none)).run P w = .ok false w := by
  simp [Op.equalIn, run_underlying hu]
theorem Yl_eqPN {t t' e : TypeId} {x y : Operand} {a : Addr} (hx : evo fr x = some (.pointer (some a))) (hy : evo fr y = some (.pointer none)) (hu : P.underlying t = some (.pointer e)) :
    Yl P w0 X n fr Γ ⟨d, .binOp .eql t x y t', ty, ps, af, g⟩ (.bool false) := Yl_bin hx hy fun w => by
  simp only [Sem.run_bind]
  have : (eqGuard .eql t x y (.pointer (some a)) (.pointer none)).run P w = .ok () w := by simp [eqGuard]
  rw [this, Result.andThen_ok]
  have e1 : (binOp .eql t (.pointer (some a)) (.pointer none)).run P w = ((Op.equalIn 10000 t (.pointer (some a)) (.pointer none)).run P w).andThen fun b w' => .ok (.bool b) w' := by
    simp only [binOp]
    simp [Op.equal, Op.maxDepth]
  rw [e1, equalIn_pn hu 9999 w]; rfl
theorem Yl_nePN {t t' e : TypeId} {x y : Operand} {a : Addr} (hx : evo fr x = some (.pointer (some a))) (hy : evo fr y = some (.pointer none)) (hu : P.underlying t = some (.pointer e)) :
    Yl P w0 X n fr Γ ⟨d, .binOp .neq t x y t', ty, ps, af, g⟩ (.bool true) := Yl_bin hx hy fun w => by
  simp only [Sem.run_bind]
  have : (eqGuard .neq t x y (.pointer (some a)) (.pointer none)).run P w = .ok () w := by simp [eqGuard]
  rw [this, Result.andThen_ok]
  have e1 : (binOp .neq t (.pointer (some a)) (.pointer none)).run P w = ((Op.equalIn 10000 t (.pointer (some a)) (.pointer none)).run P w).andThen fun b w' => .ok (.bool !b) w' := by
    simp only [binOp]
    simp [Op.equal, Op.maxDepth]
  rw [e1, equalIn_pn hu 9999 w]; rfl
end
end Go.Sx
