/- A small calculus of triples. Part 17: bytes and strings, bits. -/
import Derived.Test.YtdnngagahhleiaaSx16
import Derived.Laws.BytesArg
namespace Go.Sx
open Go.RowKit
set_option linter.unusedVariables false
set_option linter.unusedSimpArgs false
section
variable {P : Program} {w0 : World} {X : List Nat} {n : Nat} {fr : Fr} {Γ : List It} {d : Option Tmp} {ty : TypeId} {ps : String} {af : Array Edge} {g : Option (Nat × Bool)} {t t' : TypeId} {x y : Operand}
def xorK (k : IntKind) (i j : Int) : Int := k.wrap (BitVec.ofInt k.bits i ^^^ BitVec.ofInt k.bits j).toNat
theorem Yl_xor {k : IntKind} {i j : Int} (hx : evo fr x = some (.int k i)) (hy : evo fr y = some (.int k j)) : Yl P w0 X n fr Γ ⟨d, .binOp .xor t x y t', ty, ps, af, g⟩ (.int k (xorK k i j)) := Yl_bin hx hy fun w => by
  simp [go_sem, Op.intBits, xorK]
theorem Yl_eqStr {a b : ByteArray} (hx : evo fr x = some (.string a)) (hy : evo fr y = some (.string b)) : Yl P w0 X n fr Γ ⟨d, .binOp .eql t x y t', ty, ps, af, g⟩ (.bool (a.toList == b.toList)) := Yl_bin hx hy fun w => by
  simp [go_sem, Op.stringOp]
theorem Yl_eqStrT {a : ByteArray} (hx : evo fr x = some (.string a)) (hy : evo fr y = some (.string a)) : Yl P w0 X n fr Γ ⟨d, .binOp .eql t x y t', ty, ps, af, g⟩ (.bool true) := by
  have := Yl_eqStr (P := P) (w0 := w0) (X := X) (n := n) (Γ := Γ) (d := d) (ty := ty) (ps := ps) (af := af) (g := g) (t := t) (t' := t') hx hy
  rwa [show (a.toList == a.toList) = true by simp] at this
theorem Yl_neStrF {a : ByteArray} (hx : evo fr x = some (.string a)) (hy : evo fr y = some (.string a)) : Yl P w0 X n fr Γ ⟨d, .binOp .neq t x y t', ty, ps, af, g⟩ (.bool false) := Yl_bin hx hy fun w => by
  simp [go_sem, Op.stringOp]
/-- bytes as a string. -/
theorem Yl_bstr {s e : TypeId} {A : Option Addr} {m cap : Nat} {xs : List Int} (hs : P.underlying s = some (.slice e)) (he : P.underlying e = some (.int .u8)) (ht : P.underlying t = some .string) (hx : evo fr x = some (.slice A m cap)) (hA : A = none → m = 0) (hR : RdA w0 X Γ A (xs.map (Value.int .u8))) (hm : xs.length = m) :
    Yl P w0 X n fr Γ ⟨d, .convert s t x, ty, ps, af, g⟩ (.string (strOfNums xs)) := ⟨fun _ => by simp, fun ac hf w hst => by
  have hr : (convert s t (.slice A m cap)).run P w = .ok (.string (strOfNums xs)) w := by
    cases A with
    | none =>
      have h0 := hA rfl
      have : xs = [] := List.eq_nil_of_length_eq_zero (by omega)
      subst this
      have := run_convert_bytes_nil w s e hs he m cap t ht
      rw [this]; rfl
    | some a =>
      by_cases h0 : xs = []
      · subst h0
        simp at hm
        subst hm
        have hl : (loadCells a 0).run P w = .ok (([] : List Int).map (Value.int .u8)).toArray w := run_loadCells_list (P := P) w a [] (fun j v hj => by simp at hj)
        rw [run_convert_bytes_string w s t e _ 0 cap hs he ht, run_bytesToString w _ 0 cap [] hl]
        rfl
      · obtain ⟨a', ha, hH⟩ := hR (by simpa using h0)
        cases ha
        have hl : (loadCells a m).run P w = .ok (xs.map (Value.int .u8)).toArray w := by
          have := run_loadCells_list (P := P) w a (xs.map (Value.int .u8)) (hH w hst)
          simpa [hm] using this
        rw [run_convert_bytes_string w s t e _ m cap hs he ht, run_bytesToString w _ m cap xs hl, foldl_push_bytes]
        simp [strOfNums, ByteArray.empty, ByteArray.emptyWithCapacity]
        rfl
  simp [execOp, evo_sound hf hx, hr]⟩
end
end Go.Sx
