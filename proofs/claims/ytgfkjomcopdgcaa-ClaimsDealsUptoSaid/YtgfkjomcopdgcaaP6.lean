/- ClaimsDeals returns true and leaves its arguments as they were, for every list, number whose bulk is at most 1048576. -/
import Derived.Test.YtgfkjomcopdgcaaC19
import Derived.Test.YtgfkjomcopdgcaaR1
namespace Go.Proofs.Ytgfkjomcopdgcaa.claimsDeals
open Go.ChangeShapes Go.WideShapes Go.ChangeAt Go.RowKit
open Go.Sx (SlO St Tr Sep fps)
set_option linter.unusedVariables false
theorem opened {H : Type} {enc : TypeId × Value → H} {W : World} {a0 : Option Addr} {len cap : Nat} {d : DataW H} {p : List MemPlace} {rest : List (DataW H)} (h : DataW.Trod enc Try.prog W 0 (fun _ => true) true 22 (.slice a0 len cap) d p) (hk : Rows.uptoSmall H rest = true) (hd : d ∈ rest) :
    ∃ l : List Sp, l.length = len ∧ SlO W [] a0 l.length cap (spC.cells l) ∧ l.length ≤ 1048576 := by
  obtain ⟨l, h3 | h3⟩ := open_spans h
  · obtain ⟨hl, hS, es, ss, he, hel⟩ := h3
    subst hl
    refine ⟨l, rfl, hS, ?_⟩
    have h5 := bulk_small hk
    have h6 := bulk_part hd
    subst he
    have h7 := bulk_slice es ss
    omega
  · obtain ⟨hl, rfl, hS⟩ := h3
    exact ⟨[], hl.symm, hS, by simp⟩
theorem contract (H : Type) (enc : TypeId × Value → H) (W : World) (base : Nat) (args : Array Value) (ds gs : List (DataW H)) (before : List MemPlace)
    (hval : ∀ (j : Nat) t v, Try.f5.params[j]? = some t → args[j]? = some v → Value.okWide Try.prog W .any base t v)
    (hW : DataW.Whole enc Try.prog Try.f5.params.toList Rows.claimsDealsSpec.vars false W args.toList ds gs before) (hk : Rows.uptoSmall H (ds ++ gs) = true) :
    Calls Try.prog 5 args W fun e W' => ∃ v, e = .returned v ∧ Rows.claimsDealsSpec.post enc Try.prog Try.f5 false true false false W args v W' := by
  have hW' := hW
  obtain ⟨p, q, hA0, hV, rfl, hfz, hnd⟩ := hW
  have hA : DataW.TrodAll enc Try.prog W 0 (fun _ => true) true Try.f5.params.toList args.toList ds p := hA0
  rw [Try.params5] at hA hval
  obtain ⟨v0, vs0, d0, ds0, p0, q0, hargs, rfl, rfl, h0, r0⟩ := trodAll_cons hA
  obtain ⟨v1, vs1, d1, ds1, p1, q1, rfl, rfl, rfl, h1, r1⟩ := trodAll_cons r0
  obtain ⟨rfl, rfl, rfl⟩ := trodAll_nil r1
  obtain rfl : args = #[v0, v1] := by cases args; simp_all
  obtain ⟨rfl, rfl⟩ := trodVars_none hV
  obtain ⟨a0, len0, cap0, rfl⟩ := okWide_slice Try.underlying22 (hval 0 22 v0 rfl rfl)
  obtain ⟨z1, rfl, rfl, rfl, wz1⟩ := open_int Try.underlying3 (hval 1 3 v1 rfl rfl) h1
  have lt0 : ∀ x ∈ p0, x.block < W.heap.size := by obtain ⟨m, hm⟩ := h0; exact DataW.trod_lt m _ _ _ hm
  obtain ⟨l0, hl0, hS0, hlen0⟩ := opened h0 hk (List.mem_cons_self ..)
  subst hl0
  clear hA0
  refine (deals_t a0 l0 cap0 z1 W hS0 (by omega) (Sep.nil W)).mono fun e W' ⟨v, Γ', he, ⟨hv, hΓ⟩, hst⟩ => ?_
  subst he hv hΓ
  have bel := below_of hst
  exact ⟨_, rfl, _, _, _, [], _, [], hW', trodAll_mk1 (shut_bool Try.underlying4 _), (trodAll_cons_mk (Below.trod laidOut (by kernel_rfl) (of_decide_eq_true (by kernel_rfl)) h0 bel lt0) (trodAll_cons_mk (shut_int Try.underlying3 wz1) trodAll_mk0)), rfl, bel.frame _, fun h => by cases h⟩
set_option maxRecDepth 100000 in
theorem lifted (os : Os) (started : os.Started) (H : Type) (enc : TypeId × Value → H) (F : Stop.Interp) :
    ReturnsInHanded {} Try.checked os 5 .any ((Rows.OpenSpec.upto Rows.claimsDealsSpec).pre6 enc Try.prog Try.f5 Rows.claimsDealsUptoRow.domain false) (((Rows.OpenSpec.upto Rows.claimsDealsSpec).at F).post enc Try.prog Try.f5 false true false false) := by
  refine returnsInHanded_of_cond (C := Try.checked) (s := Rows.OpenSpec.upto Rows.claimsDealsSpec) (k := Rows.uptoSmall) rfl own started (by kernel_rfl) Try.func5
    (OpenSpec.witness (enc := enc) (C := Try.checked) (s := Rows.OpenSpec.upto Rows.claimsDealsSpec) (k := Rows.uptoSmall) rfl false ⟨#[], #[.slice none 0 0, .int .i64 0], []⟩ 8 (by kernel_rfl) (by kernel_rfl) (by kernel_rfl)
      (x := ([.nil, .lit (.int .i64 0)], [], [])) (by kernel_rfl) rfl (by kernel_rfl)) ?_
  intro W base args ds gs before hval hW _ hk _
  exact contract H enc W base args ds gs before hval hW hk
theorem over : Rows.claimsDealsUptoRow.holds Try.pinned (Rows.OpenSpec.upto Rows.claimsDealsSpec) :=
  OpenClaim.holds_of_cond 5 Try.f5 rfl rfl rfl rfl rfl rfl rfl ⟨rfl, rfl, rfl, rfl, rfl⟩ rfl rfl rfl rfl rfl (by kernel_rfl) Try.func5 (by kernel_rfl)
    (of_decide_eq_true (by kernel_rfl)) (by unfold Func.isWrapper; first | (rw [if_pos (by decide +kernel)]; kernel_rfl) | (rw [if_neg (by decide +kernel)]; exact ⟨rfl, rfl⟩))
    (fun os started H enc _ F => lifted os started H enc F)
end Go.Proofs.Ytgfkjomcopdgcaa.claimsDeals
namespace Go.Proofs.Ytgfkjomcopdgcaa
theorem claimsDeals_proved : Rows.ClaimsDealsUptoSaid := claimsDeals.over
#print axioms claimsDeals_proved
end Go.Proofs.Ytgfkjomcopdgcaa
