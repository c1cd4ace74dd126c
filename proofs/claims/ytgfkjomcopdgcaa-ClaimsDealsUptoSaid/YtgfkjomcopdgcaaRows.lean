/-
  No cell of these rows narrows 'for every input' (looked for: loops, veiled, ifaces, maps, wideKeys, modest, calm, conditions, laid).
  DERIVED. THE GIVEN ROWS OF THIS SEAT. 6 by the template 'for every input the law returns true; each argument reads behind the call as it read before'; 0 by the template 'total and deterministic' (their statements: YtgfkjomcopdgcaaTotals.lean).
  GIVEN WITH THE SEED: the statements are not yours to turn. If you find one false, say at which input.
  Laid BY PROGRAM, IN A SANDBOX (cutbox-rows.mjs): the forced cells as the released guide's own fill.sh prints them over the translation ce802abafbb63dea… (all of the seat's roots in one cut). By AI agents, Wed Nov 11 2026. No macro, syntax, notation, axiom, sorry.
-/
import Derived.Test.YtgfkjomcopdgcaaChecked
import GoSem.Claim
import GoSem.ClaimJoined
import GoSem.ClaimMapViews
import Derived.JoinedTies
import Derived.KernelRfl
namespace Go.Proofs.Ytgfkjomcopdgcaa
/- THE CELL 'sum', in the pinned program and in every row, IS THE sha256 OF THE DUMP (.gsa) THAT YtgfkjomcopdgcaaProg.lean LOADS. Nothing in Lean hashes anything: it is a label: what it is worth is what the hold of that sum in a sandbox is worth. -/
noncomputable def Try.pinned : Pinned := { name := "ytgfkjomcopdgcaa", sum := "ce802abafbb63deaf4e7775a353f469810cd53aee41ae4150e9c6983ed006487", checked := Try.checked }
namespace Rows
def none {H : Type} : Left H := { results := [], args := [] }

/-- 'lanternlaw03.ClaimsWalks': WHATEVER THE INPUT: true; the input reads as it did. -/
def claimsWalksSpec : ChangeSpec := { name := "claimsWalks", fn := fun _ => fun
  | [d1, d2, d3] => { results := [.lit (.bool true)], args := [d1, d2, d3] }
  | _ => none }
def claimsWalksRow : OpenClaim := { program := "ytgfkjomcopdgcaa", sum := "ce802abafbb63deaf4e7775a353f469810cd53aee41ae4150e9c6983ed006487", func := "lantern/lanternlaw03.ClaimsWalks", spec := "claimsWalks", unfollowed := true, recurses := true, apart := false }
def ClaimsWalksSaid : Prop := claimsWalksRow.holds Try.pinned (OpenSpec.ofChange claimsWalksSpec)

/-- ITS FALSE NEIGHBOUR: 'it returns false'. Refute it at one input. -/
def claimsWalksWrong : ChangeSpec := { name := "claimsWalks", fn := fun _ => fun
  | [d1, d2, d3] => { results := [.lit (.bool false)], args := [d1, d2, d3] }
  | _ => none }
def ClaimsWalksWrongFalsely : Prop := claimsWalksRow.holds Try.pinned (OpenSpec.ofChange claimsWalksWrong)

/-- 'lanternlaw03.ClaimsUnites': WHATEVER THE INPUT: true; the input reads as it did. -/
def claimsUnitesSpec : ChangeSpec := { name := "claimsUnites", fn := fun _ => fun
  | [d1, d2] => { results := [.lit (.bool true)], args := [d1, d2] }
  | _ => none }
def claimsUnitesRow : OpenClaim := { program := "ytgfkjomcopdgcaa", sum := "ce802abafbb63deaf4e7775a353f469810cd53aee41ae4150e9c6983ed006487", func := "lantern/lanternlaw03.ClaimsUnites", spec := "claimsUnites", unfollowed := true, recurses := true, apart := false }
def ClaimsUnitesSaid : Prop := claimsUnitesRow.holds Try.pinned (OpenSpec.ofChange claimsUnitesSpec)

/-- ITS FALSE NEIGHBOUR: 'it returns false'. Refute it at one input. -/
def claimsUnitesWrong : ChangeSpec := { name := "claimsUnites", fn := fun _ => fun
  | [d1, d2] => { results := [.lit (.bool false)], args := [d1, d2] }
  | _ => none }
def ClaimsUnitesWrongFalsely : Prop := claimsUnitesRow.holds Try.pinned (OpenSpec.ofChange claimsUnitesWrong)

/-- 'lanternlaw03.ClaimsDeals': WHATEVER THE INPUT: true; the input reads as it did. -/
def claimsDealsSpec : ChangeSpec := { name := "claimsDeals", fn := fun _ => fun
  | [d1, d2] => { results := [.lit (.bool true)], args := [d1, d2] }
  | _ => none }
def claimsDealsRow : OpenClaim := { program := "ytgfkjomcopdgcaa", sum := "ce802abafbb63deaf4e7775a353f469810cd53aee41ae4150e9c6983ed006487", func := "lantern/lanternlaw03.ClaimsDeals", spec := "claimsDeals", unfollowed := true, recurses := true, apart := false }
def ClaimsDealsSaid : Prop := claimsDealsRow.holds Try.pinned (OpenSpec.ofChange claimsDealsSpec)

/-- ITS FALSE NEIGHBOUR: 'it returns false'. Refute it at one input. -/
def claimsDealsWrong : ChangeSpec := { name := "claimsDeals", fn := fun _ => fun
  | [d1, d2] => { results := [.lit (.bool false)], args := [d1, d2] }
  | _ => none }
def ClaimsDealsWrongFalsely : Prop := claimsDealsRow.holds Try.pinned (OpenSpec.ofChange claimsDealsWrong)

/-- 'lanternlaw03.ClaimsGroups': WHATEVER THE INPUT: true; the input reads as it did. -/
def claimsGroupsSpec : ChangeSpec := { name := "claimsGroups", fn := fun _ => fun
  | [d1, d2, d3] => { results := [.lit (.bool true)], args := [d1, d2, d3] }
  | _ => none }
def claimsGroupsRow : OpenClaim := { program := "ytgfkjomcopdgcaa", sum := "ce802abafbb63deaf4e7775a353f469810cd53aee41ae4150e9c6983ed006487", func := "lantern/lanternlaw03.ClaimsGroups", spec := "claimsGroups", unfollowed := true, recurses := true, apart := false }
def ClaimsGroupsSaid : Prop := claimsGroupsRow.holds Try.pinned (OpenSpec.ofChange claimsGroupsSpec)

/-- ITS FALSE NEIGHBOUR: 'it returns false'. Refute it at one input. -/
def claimsGroupsWrong : ChangeSpec := { name := "claimsGroups", fn := fun _ => fun
  | [d1, d2, d3] => { results := [.lit (.bool false)], args := [d1, d2, d3] }
  | _ => none }
def ClaimsGroupsWrongFalsely : Prop := claimsGroupsRow.holds Try.pinned (OpenSpec.ofChange claimsGroupsWrong)

/-- 'lanternlaw03.ClaimsAnswers': WHATEVER THE INPUT: true; the input reads as it did. -/
def claimsAnswersSpec : ChangeSpec := { name := "claimsAnswers", fn := fun _ => fun
  | [d1, d2] => { results := [.lit (.bool true)], args := [d1, d2] }
  | _ => none }
def claimsAnswersRow : OpenClaim := { program := "ytgfkjomcopdgcaa", sum := "ce802abafbb63deaf4e7775a353f469810cd53aee41ae4150e9c6983ed006487", func := "lantern/lanternlaw03.ClaimsAnswers", spec := "claimsAnswers", unfollowed := true, recurses := true, apart := false }
def ClaimsAnswersSaid : Prop := claimsAnswersRow.holds Try.pinned (OpenSpec.ofChange claimsAnswersSpec)

/-- ITS FALSE NEIGHBOUR: 'it returns false'. Refute it at one input. -/
def claimsAnswersWrong : ChangeSpec := { name := "claimsAnswers", fn := fun _ => fun
  | [d1, d2] => { results := [.lit (.bool false)], args := [d1, d2] }
  | _ => none }
def ClaimsAnswersWrongFalsely : Prop := claimsAnswersRow.holds Try.pinned (OpenSpec.ofChange claimsAnswersWrong)

/-- 'lanternlaw03.ClaimsSum': WHATEVER THE INPUT: true; the input reads as it did. -/
def claimsSumSpec : ChangeSpec := { name := "claimsSum", fn := fun _ => fun
  | [d1, d2] => { results := [.lit (.bool true)], args := [d1, d2] }
  | _ => none }
def claimsSumRow : OpenClaim := { program := "ytgfkjomcopdgcaa", sum := "ce802abafbb63deaf4e7775a353f469810cd53aee41ae4150e9c6983ed006487", func := "lantern/lanternlaw03.ClaimsSum", spec := "claimsSum", unfollowed := true, recurses := true, apart := false }
def ClaimsSumSaid : Prop := claimsSumRow.holds Try.pinned (OpenSpec.ofChange claimsSumSpec)

/-- ITS FALSE NEIGHBOUR: 'it returns false'. Refute it at one input. -/
def claimsSumWrong : ChangeSpec := { name := "claimsSum", fn := fun _ => fun
  | [d1, d2] => { results := [.lit (.bool false)], args := [d1, d2] }
  | _ => none }
def ClaimsSumWrongFalsely : Prop := claimsSumRow.holds Try.pinned (OpenSpec.ofChange claimsSumWrong)

/- THE SECOND FORM. 'bulk': how many values and letters a reading holds, each counted each time it is reached (what is shared counts as often as it is met; a slice's spare places count too). A statement '..UptoSaid' is the law's where the arguments, and the package variables that the reading takes, are together of bulk at most 1048576: NARROWER than '..Said'. Prove '..Said' where nothing that the law and all that it calls make is longer than what came in: it says more and counts as full. Else prove '..UptoSaid'. A law counts once. -/
mutual
def uptoBulk {H : Type} : DataW H → Nat
  | .lit (.string bytes) => bytes.length + 1
  | .lit _ => 1
  | .nil => 1
  | .ptr d => uptoBulk d + 1
  | .slice elems spare => uptoBulkAll elems + uptoBulkAll spare + 1
  | .agg parts => uptoBulkAll parts + 1
  | .iface _ d => uptoBulk d + 1
  | .map entries => uptoBulkEntries entries + 1
  | .held _ => 1
def uptoBulkAll {H : Type} : List (DataW H) → Nat
  | [] => 0
  | d :: r => uptoBulk d + uptoBulkAll r
def uptoBulkEntries {H : Type} : List (Lit × DataW H) → Nat
  | [] => 0
  | x :: r => uptoBulkEntry x + uptoBulkEntries r
def uptoBulkEntry {H : Type} : Lit × DataW H → Nat
  | (.string bytes, d) => bytes.length + uptoBulk d + 1
  | (_, d) => uptoBulk d + 1
 end
def uptoSmall : (H : Type) → List (DataW H) → Bool := fun _ ds => decide (uptoBulkAll ds ≤ 1048576)
def OpenSpec.upto (s : _root_.Go.ChangeSpec) : _root_.Go.OpenSpec := { _root_.Go.OpenSpec.ofChange s with cond := some uptoSmall }

/-- 'lanternlaw03.ClaimsWalks', WHERE WHAT IT READS IS OF BULK AT MOST 1048576: true; the input reads as it did. -/
def claimsWalksUptoRow : OpenClaim := { program := "ytgfkjomcopdgcaa", sum := "ce802abafbb63deaf4e7775a353f469810cd53aee41ae4150e9c6983ed006487", func := "lantern/lanternlaw03.ClaimsWalks", spec := "claimsWalks", unfollowed := true, recurses := true, apart := false, narrowed := true }
def ClaimsWalksUptoSaid : Prop := claimsWalksUptoRow.holds Try.pinned (OpenSpec.upto claimsWalksSpec)

/-- 'lanternlaw03.ClaimsUnites', WHERE WHAT IT READS IS OF BULK AT MOST 1048576: true; the input reads as it did. -/
def claimsUnitesUptoRow : OpenClaim := { program := "ytgfkjomcopdgcaa", sum := "ce802abafbb63deaf4e7775a353f469810cd53aee41ae4150e9c6983ed006487", func := "lantern/lanternlaw03.ClaimsUnites", spec := "claimsUnites", unfollowed := true, recurses := true, apart := false, narrowed := true }
def ClaimsUnitesUptoSaid : Prop := claimsUnitesUptoRow.holds Try.pinned (OpenSpec.upto claimsUnitesSpec)

/-- 'lanternlaw03.ClaimsDeals', WHERE WHAT IT READS IS OF BULK AT MOST 1048576: true; the input reads as it did. -/
def claimsDealsUptoRow : OpenClaim := { program := "ytgfkjomcopdgcaa", sum := "ce802abafbb63deaf4e7775a353f469810cd53aee41ae4150e9c6983ed006487", func := "lantern/lanternlaw03.ClaimsDeals", spec := "claimsDeals", unfollowed := true, recurses := true, apart := false, narrowed := true }
def ClaimsDealsUptoSaid : Prop := claimsDealsUptoRow.holds Try.pinned (OpenSpec.upto claimsDealsSpec)

/-- 'lanternlaw03.ClaimsGroups', WHERE WHAT IT READS IS OF BULK AT MOST 1048576: true; the input reads as it did. -/
def claimsGroupsUptoRow : OpenClaim := { program := "ytgfkjomcopdgcaa", sum := "ce802abafbb63deaf4e7775a353f469810cd53aee41ae4150e9c6983ed006487", func := "lantern/lanternlaw03.ClaimsGroups", spec := "claimsGroups", unfollowed := true, recurses := true, apart := false, narrowed := true }
def ClaimsGroupsUptoSaid : Prop := claimsGroupsUptoRow.holds Try.pinned (OpenSpec.upto claimsGroupsSpec)

/-- 'lanternlaw03.ClaimsAnswers', WHERE WHAT IT READS IS OF BULK AT MOST 1048576: true; the input reads as it did. -/
def claimsAnswersUptoRow : OpenClaim := { program := "ytgfkjomcopdgcaa", sum := "ce802abafbb63deaf4e7775a353f469810cd53aee41ae4150e9c6983ed006487", func := "lantern/lanternlaw03.ClaimsAnswers", spec := "claimsAnswers", unfollowed := true, recurses := true, apart := false, narrowed := true }
def ClaimsAnswersUptoSaid : Prop := claimsAnswersUptoRow.holds Try.pinned (OpenSpec.upto claimsAnswersSpec)

/-- 'lanternlaw03.ClaimsSum', WHERE WHAT IT READS IS OF BULK AT MOST 1048576: true; the input reads as it did. -/
def claimsSumUptoRow : OpenClaim := { program := "ytgfkjomcopdgcaa", sum := "ce802abafbb63deaf4e7775a353f469810cd53aee41ae4150e9c6983ed006487", func := "lantern/lanternlaw03.ClaimsSum", spec := "claimsSum", unfollowed := true, recurses := true, apart := false, narrowed := true }
def ClaimsSumUptoSaid : Prop := claimsSumUptoRow.holds Try.pinned (OpenSpec.upto claimsSumSpec)

end Rows
end Go.Proofs.Ytgfkjomcopdgcaa
