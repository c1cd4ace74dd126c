/-
  No cell of these rows narrows 'for every input' (looked for: loops, veiled, ifaces, maps, wideKeys, modest, calm, conditions, laid).
  DERIVED. THE GIVEN ROWS OF THIS SEAT. 7 by the template 'for every input the law returns true; each argument reads behind the call as it read before'; 0 by the template 'total and deterministic' (their statements: YtdnngagahhleiaaTotals.lean).
  GIVEN WITH THE SEED: the statements are not yours to turn. If you find one false, say at which input.
  Laid BY PROGRAM, IN A SANDBOX (cutbox-rows.mjs): the forced cells as the released guide's own fill.sh prints them over the translation 275c5100283527b6… (all of the seat's roots in one cut). By AI agents, Wed Nov 11 2026. No macro, syntax, notation, axiom, sorry.
-/
import Derived.Test.YtdnngagahhleiaaChecked
import GoSem.Claim
import GoSem.ClaimJoined
import GoSem.ClaimMapViews
import Derived.JoinedTies
import Derived.KernelRfl
namespace Go.Proofs.Ytdnngagahhleiaa
/- THE CELL 'sum', in the pinned program and in every row, IS THE sha256 OF THE DUMP (.gsa) THAT YtdnngagahhleiaaProg.lean LOADS. Nothing in Lean hashes anything: it is a label: what it is worth is what the hold of that sum in a sandbox is worth. -/
noncomputable def Try.pinned : Pinned := { name := "ytdnngagahhleiaa", sum := "275c5100283527b6966e51dec6277f0c4f094a3f93c783e30f3471342ae8a897", checked := Try.checked }
namespace Rows
def none {H : Type} : Left H := { results := [], args := [] }

/-- 'lanternlaw12.ExportEnds': WHATEVER THE INPUT: true; the input reads as it did. -/
def exportEndsSpec : ChangeSpec := { name := "exportEnds", fn := fun _ => fun
  | [d] => { results := [.lit (.bool true)], args := [d] }
  | _ => none }
def exportEndsRow : OpenClaim := { program := "ytdnngagahhleiaa", sum := "275c5100283527b6966e51dec6277f0c4f094a3f93c783e30f3471342ae8a897", func := "lantern/lanternlaw12.ExportEnds", spec := "exportEnds", unfollowed := true, recurses := true, apart := false }
def ExportEndsSaid : Prop := exportEndsRow.holds Try.pinned (OpenSpec.ofChange exportEndsSpec)

/-- ITS FALSE NEIGHBOUR: 'it returns false'. Refute it at one input. -/
def exportEndsWrong : ChangeSpec := { name := "exportEnds", fn := fun _ => fun
  | [d] => { results := [.lit (.bool false)], args := [d] }
  | _ => none }
def ExportEndsWrongFalsely : Prop := exportEndsRow.holds Try.pinned (OpenSpec.ofChange exportEndsWrong)

/-- 'lanternlaw04.BlocksNames': WHATEVER THE INPUT: true; the input reads as it did. -/
def blocksNamesSpec : ChangeSpec := { name := "blocksNames", fn := fun _ => fun
  | [] => { results := [.lit (.bool true)], args := [] }
  | _ => none }
def blocksNamesRow : OpenClaim := { program := "ytdnngagahhleiaa", sum := "275c5100283527b6966e51dec6277f0c4f094a3f93c783e30f3471342ae8a897", func := "lantern/lanternlaw04.BlocksNames", spec := "blocksNames", unfollowed := true, recurses := true, apart := false }
def BlocksNamesSaid : Prop := blocksNamesRow.holds Try.pinned (OpenSpec.ofChange blocksNamesSpec)

/-- ITS FALSE NEIGHBOUR: 'it returns false'. Refute it at one input. -/
def blocksNamesWrong : ChangeSpec := { name := "blocksNames", fn := fun _ => fun
  | [] => { results := [.lit (.bool false)], args := [] }
  | _ => none }
def BlocksNamesWrongFalsely : Prop := blocksNamesRow.holds Try.pinned (OpenSpec.ofChange blocksNamesWrong)

/-- 'lanternlaw04.BlocksCuts': WHATEVER THE INPUT: true; the input reads as it did. -/
def blocksCutsSpec : ChangeSpec := { name := "blocksCuts", fn := fun _ => fun
  | [d1, d2] => { results := [.lit (.bool true)], args := [d1, d2] }
  | _ => none }
def blocksCutsRow : OpenClaim := { program := "ytdnngagahhleiaa", sum := "275c5100283527b6966e51dec6277f0c4f094a3f93c783e30f3471342ae8a897", func := "lantern/lanternlaw04.BlocksCuts", spec := "blocksCuts", unfollowed := true, recurses := true, apart := false }
def BlocksCutsSaid : Prop := blocksCutsRow.holds Try.pinned (OpenSpec.ofChange blocksCutsSpec)

/-- ITS FALSE NEIGHBOUR: 'it returns false'. Refute it at one input. -/
def blocksCutsWrong : ChangeSpec := { name := "blocksCuts", fn := fun _ => fun
  | [d1, d2] => { results := [.lit (.bool false)], args := [d1, d2] }
  | _ => none }
def BlocksCutsWrongFalsely : Prop := blocksCutsRow.holds Try.pinned (OpenSpec.ofChange blocksCutsWrong)

/-- 'lanternlaw04.BlocksAgains': WHATEVER THE INPUT: true; the input reads as it did. -/
def blocksAgainsSpec : ChangeSpec := { name := "blocksAgains", fn := fun _ => fun
  | [d] => { results := [.lit (.bool true)], args := [d] }
  | _ => none }
def blocksAgainsRow : OpenClaim := { program := "ytdnngagahhleiaa", sum := "275c5100283527b6966e51dec6277f0c4f094a3f93c783e30f3471342ae8a897", func := "lantern/lanternlaw04.BlocksAgains", spec := "blocksAgains", unfollowed := true, recurses := true, apart := false }
def BlocksAgainsSaid : Prop := blocksAgainsRow.holds Try.pinned (OpenSpec.ofChange blocksAgainsSpec)

/-- ITS FALSE NEIGHBOUR: 'it returns false'. Refute it at one input. -/
def blocksAgainsWrong : ChangeSpec := { name := "blocksAgains", fn := fun _ => fun
  | [d] => { results := [.lit (.bool false)], args := [d] }
  | _ => none }
def BlocksAgainsWrongFalsely : Prop := blocksAgainsRow.holds Try.pinned (OpenSpec.ofChange blocksAgainsWrong)

/-- 'lanternlaw04.BlocksMakes': WHATEVER THE INPUT: true; the input reads as it did. -/
def blocksMakesSpec : ChangeSpec := { name := "blocksMakes", fn := fun _ => fun
  | [d] => { results := [.lit (.bool true)], args := [d] }
  | _ => none }
def blocksMakesRow : OpenClaim := { program := "ytdnngagahhleiaa", sum := "275c5100283527b6966e51dec6277f0c4f094a3f93c783e30f3471342ae8a897", func := "lantern/lanternlaw04.BlocksMakes", spec := "blocksMakes", unfollowed := true, recurses := true, apart := false }
def BlocksMakesSaid : Prop := blocksMakesRow.holds Try.pinned (OpenSpec.ofChange blocksMakesSpec)

/-- ITS FALSE NEIGHBOUR: 'it returns false'. Refute it at one input. -/
def blocksMakesWrong : ChangeSpec := { name := "blocksMakes", fn := fun _ => fun
  | [d] => { results := [.lit (.bool false)], args := [d] }
  | _ => none }
def BlocksMakesWrongFalsely : Prop := blocksMakesRow.holds Try.pinned (OpenSpec.ofChange blocksMakesWrong)

/-- 'lanternlaw04.BlocksBuffers': WHATEVER THE INPUT: true; the input reads as it did. -/
def blocksBuffersSpec : ChangeSpec := { name := "blocksBuffers", fn := fun _ => fun
  | [d] => { results := [.lit (.bool true)], args := [d] }
  | _ => none }
def blocksBuffersRow : OpenClaim := { program := "ytdnngagahhleiaa", sum := "275c5100283527b6966e51dec6277f0c4f094a3f93c783e30f3471342ae8a897", func := "lantern/lanternlaw04.BlocksBuffers", spec := "blocksBuffers", unfollowed := true, recurses := true, apart := false }
def BlocksBuffersSaid : Prop := blocksBuffersRow.holds Try.pinned (OpenSpec.ofChange blocksBuffersSpec)

/-- ITS FALSE NEIGHBOUR: 'it returns false'. Refute it at one input. -/
def blocksBuffersWrong : ChangeSpec := { name := "blocksBuffers", fn := fun _ => fun
  | [d] => { results := [.lit (.bool false)], args := [d] }
  | _ => none }
def BlocksBuffersWrongFalsely : Prop := blocksBuffersRow.holds Try.pinned (OpenSpec.ofChange blocksBuffersWrong)

/-- 'lanternlaw04.BlocksBack': WHATEVER THE INPUT: true; the input reads as it did. -/
def blocksBackSpec : ChangeSpec := { name := "blocksBack", fn := fun _ => fun
  | [d] => { results := [.lit (.bool true)], args := [d] }
  | _ => none }
def blocksBackRow : OpenClaim := { program := "ytdnngagahhleiaa", sum := "275c5100283527b6966e51dec6277f0c4f094a3f93c783e30f3471342ae8a897", func := "lantern/lanternlaw04.BlocksBack", spec := "blocksBack", unfollowed := true, recurses := true, apart := false }
def BlocksBackSaid : Prop := blocksBackRow.holds Try.pinned (OpenSpec.ofChange blocksBackSpec)

/-- ITS FALSE NEIGHBOUR: 'it returns false'. Refute it at one input. -/
def blocksBackWrong : ChangeSpec := { name := "blocksBack", fn := fun _ => fun
  | [d] => { results := [.lit (.bool false)], args := [d] }
  | _ => none }
def BlocksBackWrongFalsely : Prop := blocksBackRow.holds Try.pinned (OpenSpec.ofChange blocksBackWrong)

/- THE SECOND FORM. 'bulk': how many values and letters a reading holds, each counted each time it is reached (what is shared counts as often as it is met; a slice's spare places count too). A statement '..UptoSaid' is the law's where the arguments, and the package variables that the reading takes, are together of bulk at most 1048576: NARROWER than '..Said'. Prove '..Said' where nothing that the law and all that it calls make is longer than what came in: it says more and counts as full. Else prove '..UptoSaid'. A law counts once. -/
mutual
def uptoBulk {H : Type} : DataW H → Nat
  | .lit (.string bytes) => bytes.length + 1
  | .lit _ => 1
  | .nil => 1
  | .ptr d => uptoBulk d + 1
  | .slice elems spare => uptoBulkAll elems + uptoBulkAll spare + 1
  | .agg parts => uptoBulkAll parts + 1
  | .iface _ d => uptoBulk d + 1
  | .map entries => uptoBulkEntries entries + 1
  | .held _ => 1
def uptoBulkAll {H : Type} : List (DataW H) → Nat
  | [] => 0
  | d :: r => uptoBulk d + uptoBulkAll r
def uptoBulkEntries {H : Type} : List (Lit × DataW H) → Nat
  | [] => 0
  | x :: r => uptoBulkEntry x + uptoBulkEntries r
def uptoBulkEntry {H : Type} : Lit × DataW H → Nat
  | (.string bytes, d) => bytes.length + uptoBulk d + 1
  | (_, d) => uptoBulk d + 1
 end
def uptoSmall : (H : Type) → List (DataW H) → Bool := fun _ ds => decide (uptoBulkAll ds ≤ 1048576)
def OpenSpec.upto (s : _root_.Go.ChangeSpec) : _root_.Go.OpenSpec := { _root_.Go.OpenSpec.ofChange s with cond := some uptoSmall }

/-- 'lanternlaw12.ExportEnds', WHERE WHAT IT READS IS OF BULK AT MOST 1048576: true; the input reads as it did. -/
def exportEndsUptoRow : OpenClaim := { program := "ytdnngagahhleiaa", sum := "275c5100283527b6966e51dec6277f0c4f094a3f93c783e30f3471342ae8a897", func := "lantern/lanternlaw12.ExportEnds", spec := "exportEnds", unfollowed := true, recurses := true, apart := false, narrowed := true }
def ExportEndsUptoSaid : Prop := exportEndsUptoRow.holds Try.pinned (OpenSpec.upto exportEndsSpec)

/-- 'lanternlaw04.BlocksNames', WHERE WHAT IT READS IS OF BULK AT MOST 1048576: true; the input reads as it did. -/
def blocksNamesUptoRow : OpenClaim := { program := "ytdnngagahhleiaa", sum := "275c5100283527b6966e51dec6277f0c4f094a3f93c783e30f3471342ae8a897", func := "lantern/lanternlaw04.BlocksNames", spec := "blocksNames", unfollowed := true, recurses := true, apart := false, narrowed := true }
def BlocksNamesUptoSaid : Prop := blocksNamesUptoRow.holds Try.pinned (OpenSpec.upto blocksNamesSpec)

/-- 'lanternlaw04.BlocksCuts', WHERE WHAT IT READS IS OF BULK AT MOST 1048576: true; the input reads as it did. -/
def blocksCutsUptoRow : OpenClaim := { program := "ytdnngagahhleiaa", sum := "275c5100283527b6966e51dec6277f0c4f094a3f93c783e30f3471342ae8a897", func := "lantern/lanternlaw04.BlocksCuts", spec := "blocksCuts", unfollowed := true, recurses := true, apart := false, narrowed := true }
def BlocksCutsUptoSaid : Prop := blocksCutsUptoRow.holds Try.pinned (OpenSpec.upto blocksCutsSpec)

/-- 'lanternlaw04.BlocksAgains', WHERE WHAT IT READS IS OF BULK AT MOST 1048576: true; the input reads as it did. -/
def blocksAgainsUptoRow : OpenClaim := { program := "ytdnngagahhleiaa", sum := "275c5100283527b6966e51dec6277f0c4f094a3f93c783e30f3471342ae8a897", func := "lantern/lanternlaw04.BlocksAgains", spec := "blocksAgains", unfollowed := true, recurses := true, apart := false, narrowed := true }
def BlocksAgainsUptoSaid : Prop := blocksAgainsUptoRow.holds Try.pinned (OpenSpec.upto blocksAgainsSpec)

/-- 'lanternlaw04.BlocksMakes', WHERE WHAT IT READS IS OF BULK AT MOST 1048576: true; the input reads as it did. -/
def blocksMakesUptoRow : OpenClaim := { program := "ytdnngagahhleiaa", sum := "275c5100283527b6966e51dec6277f0c4f094a3f93c783e30f3471342ae8a897", func := "lantern/lanternlaw04.BlocksMakes", spec := "blocksMakes", unfollowed := true, recurses := true, apart := false, narrowed := true }
def BlocksMakesUptoSaid : Prop := blocksMakesUptoRow.holds Try.pinned (OpenSpec.upto blocksMakesSpec)

/-- 'lanternlaw04.BlocksBuffers', WHERE WHAT IT READS IS OF BULK AT MOST 1048576: true; the input reads as it did. -/
def blocksBuffersUptoRow : OpenClaim := { program := "ytdnngagahhleiaa", sum := "275c5100283527b6966e51dec6277f0c4f094a3f93c783e30f3471342ae8a897", func := "lantern/lanternlaw04.BlocksBuffers", spec := "blocksBuffers", unfollowed := true, recurses := true, apart := false, narrowed := true }
def BlocksBuffersUptoSaid : Prop := blocksBuffersUptoRow.holds Try.pinned (OpenSpec.upto blocksBuffersSpec)

/-- 'lanternlaw04.BlocksBack', WHERE WHAT IT READS IS OF BULK AT MOST 1048576: true; the input reads as it did. -/
def blocksBackUptoRow : OpenClaim := { program := "ytdnngagahhleiaa", sum := "275c5100283527b6966e51dec6277f0c4f094a3f93c783e30f3471342ae8a897", func := "lantern/lanternlaw04.BlocksBack", spec := "blocksBack", unfollowed := true, recurses := true, apart := false, narrowed := true }
def BlocksBackUptoSaid : Prop := blocksBackUptoRow.holds Try.pinned (OpenSpec.upto blocksBackSpec)

end Rows
end Go.Proofs.Ytdnngagahhleiaa
