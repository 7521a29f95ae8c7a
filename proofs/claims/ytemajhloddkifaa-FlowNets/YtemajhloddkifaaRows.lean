/-
  No cell of these rows narrows 'for every input' (looked for: loops, veiled, ifaces, maps, wideKeys, modest, calm, conditions, laid).
  DERIVED. THE GIVEN ROWS OF THIS SEAT. 6 by the template 'for every input the law returns true; each argument reads behind the call as it read before'; 0 by the template 'total and deterministic' (their statements: YtemajhloddkifaaTotals.lean).
  GIVEN WITH THE SEED: the statements are not yours to turn. If you find one false, say at which input.
  Laid BY PROGRAM, IN A SANDBOX (cutbox-rows.mjs): the forced cells as the released guide's own fill.sh prints them over the translation f9d14d9b97fb970d… (all of the seat's roots in one cut). By AI agents, Wed Nov 11 2026. No macro, syntax, notation, axiom, sorry.
-/
import Derived.Test.YtemajhloddkifaaChecked
import GoSem.Claim
import GoSem.ClaimJoined
import GoSem.ClaimMapViews
import Derived.JoinedTies
import Derived.KernelRfl
namespace Go.Proofs.Ytemajhloddkifaa
/- THE CELL 'sum', in the pinned program and in every row, IS THE sha256 OF THE DUMP (.gsa) THAT YtemajhloddkifaaProg.lean LOADS. Nothing in Lean hashes anything: it is a label: what it is worth is what the hold of that sum in a sandbox is worth. -/
noncomputable def Try.pinned : Pinned := { name := "ytemajhloddkifaa", sum := "f9d14d9b97fb970dea1ed22e1efe6ed77a2676ffcf4e2fecd81eb52319613fb0", checked := Try.checked }
namespace Rows
def none {H : Type} : Left H := { results := [], args := [] }

/-- 'contangolaw22.FlowNets': WHATEVER THE INPUT: true; the input reads as it did. -/
def flowNetsSpec : ChangeSpec := { name := "flowNets", fn := fun _ => fun
  | [d] => { results := [.lit (.bool true)], args := [d] }
  | _ => none }
def flowNetsRow : OpenClaim := { program := "ytemajhloddkifaa", sum := "f9d14d9b97fb970dea1ed22e1efe6ed77a2676ffcf4e2fecd81eb52319613fb0", func := "contango/contangolaw22.FlowNets", spec := "flowNets", unfollowed := true, recurses := true, plainKeys := false, apart := false }
def FlowNetsSaid : Prop := flowNetsRow.holds Try.pinned (OpenSpec.ofChange flowNetsSpec)

/-- ITS FALSE NEIGHBOUR: 'it returns false'. Refute it at one input. -/
def flowNetsWrong : ChangeSpec := { name := "flowNets", fn := fun _ => fun
  | [d] => { results := [.lit (.bool false)], args := [d] }
  | _ => none }
def FlowNetsWrongFalsely : Prop := flowNetsRow.holds Try.pinned (OpenSpec.ofChange flowNetsWrong)

/-- 'contangolaw22.FlowOrder': WHATEVER THE INPUT: true; the input reads as it did. -/
def flowOrderSpec : ChangeSpec := { name := "flowOrder", fn := fun _ => fun
  | [d1, d2, d3] => { results := [.lit (.bool true)], args := [d1, d2, d3] }
  | _ => none }
def flowOrderRow : OpenClaim := { program := "ytemajhloddkifaa", sum := "f9d14d9b97fb970dea1ed22e1efe6ed77a2676ffcf4e2fecd81eb52319613fb0", func := "contango/contangolaw22.FlowOrder", spec := "flowOrder", unfollowed := true, recurses := true, plainKeys := false, apart := false }
def FlowOrderSaid : Prop := flowOrderRow.holds Try.pinned (OpenSpec.ofChange flowOrderSpec)

/-- ITS FALSE NEIGHBOUR: 'it returns false'. Refute it at one input. -/
def flowOrderWrong : ChangeSpec := { name := "flowOrder", fn := fun _ => fun
  | [d1, d2, d3] => { results := [.lit (.bool false)], args := [d1, d2, d3] }
  | _ => none }
def FlowOrderWrongFalsely : Prop := flowOrderRow.holds Try.pinned (OpenSpec.ofChange flowOrderWrong)

/-- 'contangolaw22.FlowSums': WHATEVER THE INPUT: true; the input reads as it did. -/
def flowSumsSpec : ChangeSpec := { name := "flowSums", fn := fun _ => fun
  | [d1, d2, d3] => { results := [.lit (.bool true)], args := [d1, d2, d3] }
  | _ => none }
def flowSumsRow : OpenClaim := { program := "ytemajhloddkifaa", sum := "f9d14d9b97fb970dea1ed22e1efe6ed77a2676ffcf4e2fecd81eb52319613fb0", func := "contango/contangolaw22.FlowSums", spec := "flowSums", unfollowed := true, recurses := true, plainKeys := false, apart := false }
def FlowSumsSaid : Prop := flowSumsRow.holds Try.pinned (OpenSpec.ofChange flowSumsSpec)

/-- ITS FALSE NEIGHBOUR: 'it returns false'. Refute it at one input. -/
def flowSumsWrong : ChangeSpec := { name := "flowSums", fn := fun _ => fun
  | [d1, d2, d3] => { results := [.lit (.bool false)], args := [d1, d2, d3] }
  | _ => none }
def FlowSumsWrongFalsely : Prop := flowSumsRow.holds Try.pinned (OpenSpec.ofChange flowSumsWrong)

/-- 'contangolaw22.FlowParts': WHATEVER THE INPUT: true; the input reads as it did. -/
def flowPartsSpec : ChangeSpec := { name := "flowParts", fn := fun _ => fun
  | [d1, d2, d3, d4] => { results := [.lit (.bool true)], args := [d1, d2, d3, d4] }
  | _ => none }
def flowPartsRow : OpenClaim := { program := "ytemajhloddkifaa", sum := "f9d14d9b97fb970dea1ed22e1efe6ed77a2676ffcf4e2fecd81eb52319613fb0", func := "contango/contangolaw22.FlowParts", spec := "flowParts", unfollowed := true, recurses := true, plainKeys := false, apart := false }
def FlowPartsSaid : Prop := flowPartsRow.holds Try.pinned (OpenSpec.ofChange flowPartsSpec)

/-- ITS FALSE NEIGHBOUR: 'it returns false'. Refute it at one input. -/
def flowPartsWrong : ChangeSpec := { name := "flowParts", fn := fun _ => fun
  | [d1, d2, d3, d4] => { results := [.lit (.bool false)], args := [d1, d2, d3, d4] }
  | _ => none }
def FlowPartsWrongFalsely : Prop := flowPartsRow.holds Try.pinned (OpenSpec.ofChange flowPartsWrong)

/-- 'contangolaw22.FlowTurned': WHATEVER THE INPUT: true; the input reads as it did. -/
def flowTurnedSpec : ChangeSpec := { name := "flowTurned", fn := fun _ => fun
  | [d] => { results := [.lit (.bool true)], args := [d] }
  | _ => none }
def flowTurnedRow : OpenClaim := { program := "ytemajhloddkifaa", sum := "f9d14d9b97fb970dea1ed22e1efe6ed77a2676ffcf4e2fecd81eb52319613fb0", func := "contango/contangolaw22.FlowTurned", spec := "flowTurned", unfollowed := true, recurses := true, plainKeys := false, apart := false }
def FlowTurnedSaid : Prop := flowTurnedRow.holds Try.pinned (OpenSpec.ofChange flowTurnedSpec)

/-- ITS FALSE NEIGHBOUR: 'it returns false'. Refute it at one input. -/
def flowTurnedWrong : ChangeSpec := { name := "flowTurned", fn := fun _ => fun
  | [d] => { results := [.lit (.bool false)], args := [d] }
  | _ => none }
def FlowTurnedWrongFalsely : Prop := flowTurnedRow.holds Try.pinned (OpenSpec.ofChange flowTurnedWrong)

/-- 'contangolaw22.FlowPicks': WHATEVER THE INPUT: true; the input reads as it did. -/
def flowPicksSpec : ChangeSpec := { name := "flowPicks", fn := fun _ => fun
  | [d1, d2] => { results := [.lit (.bool true)], args := [d1, d2] }
  | _ => none }
def flowPicksRow : OpenClaim := { program := "ytemajhloddkifaa", sum := "f9d14d9b97fb970dea1ed22e1efe6ed77a2676ffcf4e2fecd81eb52319613fb0", func := "contango/contangolaw22.FlowPicks", spec := "flowPicks", unfollowed := true, recurses := true, plainKeys := false, apart := false }
def FlowPicksSaid : Prop := flowPicksRow.holds Try.pinned (OpenSpec.ofChange flowPicksSpec)

/-- ITS FALSE NEIGHBOUR: 'it returns false'. Refute it at one input. -/
def flowPicksWrong : ChangeSpec := { name := "flowPicks", fn := fun _ => fun
  | [d1, d2] => { results := [.lit (.bool false)], args := [d1, d2] }
  | _ => none }
def FlowPicksWrongFalsely : Prop := flowPicksRow.holds Try.pinned (OpenSpec.ofChange flowPicksWrong)

/- THE SECOND FORM. 'bulk': how many values and letters a reading holds, each counted each time it is reached (what is shared counts as often as it is met; a slice's spare places count too). A statement '..UptoSaid' is the law's where the arguments, and the package variables that the reading takes, are together of bulk at most 1048576: NARROWER than '..Said'. Prove '..Said' where nothing that the law and all that it calls make is longer than what came in: it says more and counts as full. Else prove '..UptoSaid'. A law counts once. -/
mutual
def uptoBulk {H : Type} : DataW H → Nat
  | .lit (.string bytes) => bytes.length + 1
  | .lit _ => 1
  | .nil => 1
  | .ptr d => uptoBulk d + 1
  | .slice elems spare => uptoBulkAll elems + uptoBulkAll spare + 1
  | .agg parts => uptoBulkAll parts + 1
  | .iface _ d => uptoBulk d + 1
  | .map entries => uptoBulkEntries entries + 1
  | .held _ => 1
def uptoBulkAll {H : Type} : List (DataW H) → Nat
  | [] => 0
  | d :: r => uptoBulk d + uptoBulkAll r
def uptoBulkEntries {H : Type} : List (Lit × DataW H) → Nat
  | [] => 0
  | x :: r => uptoBulkEntry x + uptoBulkEntries r
def uptoBulkEntry {H : Type} : Lit × DataW H → Nat
  | (.string bytes, d) => bytes.length + uptoBulk d + 1
  | (_, d) => uptoBulk d + 1
 end
def uptoSmall : (H : Type) → List (DataW H) → Bool := fun _ ds => decide (uptoBulkAll ds ≤ 1048576)
def OpenSpec.upto (s : _root_.Go.ChangeSpec) : _root_.Go.OpenSpec := { _root_.Go.OpenSpec.ofChange s with cond := some uptoSmall }

/-- 'contangolaw22.FlowNets', WHERE WHAT IT READS IS OF BULK AT MOST 1048576: true; the input reads as it did. -/
def flowNetsUptoRow : OpenClaim := { program := "ytemajhloddkifaa", sum := "f9d14d9b97fb970dea1ed22e1efe6ed77a2676ffcf4e2fecd81eb52319613fb0", func := "contango/contangolaw22.FlowNets", spec := "flowNets", unfollowed := true, recurses := true, plainKeys := false, apart := false, narrowed := true }
def FlowNetsUptoSaid : Prop := flowNetsUptoRow.holds Try.pinned (OpenSpec.upto flowNetsSpec)

/-- 'contangolaw22.FlowOrder', WHERE WHAT IT READS IS OF BULK AT MOST 1048576: true; the input reads as it did. -/
def flowOrderUptoRow : OpenClaim := { program := "ytemajhloddkifaa", sum := "f9d14d9b97fb970dea1ed22e1efe6ed77a2676ffcf4e2fecd81eb52319613fb0", func := "contango/contangolaw22.FlowOrder", spec := "flowOrder", unfollowed := true, recurses := true, plainKeys := false, apart := false, narrowed := true }
def FlowOrderUptoSaid : Prop := flowOrderUptoRow.holds Try.pinned (OpenSpec.upto flowOrderSpec)

/-- 'contangolaw22.FlowSums', WHERE WHAT IT READS IS OF BULK AT MOST 1048576: true; the input reads as it did. -/
def flowSumsUptoRow : OpenClaim := { program := "ytemajhloddkifaa", sum := "f9d14d9b97fb970dea1ed22e1efe6ed77a2676ffcf4e2fecd81eb52319613fb0", func := "contango/contangolaw22.FlowSums", spec := "flowSums", unfollowed := true, recurses := true, plainKeys := false, apart := false, narrowed := true }
def FlowSumsUptoSaid : Prop := flowSumsUptoRow.holds Try.pinned (OpenSpec.upto flowSumsSpec)

/-- 'contangolaw22.FlowParts', WHERE WHAT IT READS IS OF BULK AT MOST 1048576: true; the input reads as it did. -/
def flowPartsUptoRow : OpenClaim := { program := "ytemajhloddkifaa", sum := "f9d14d9b97fb970dea1ed22e1efe6ed77a2676ffcf4e2fecd81eb52319613fb0", func := "contango/contangolaw22.FlowParts", spec := "flowParts", unfollowed := true, recurses := true, plainKeys := false, apart := false, narrowed := true }
def FlowPartsUptoSaid : Prop := flowPartsUptoRow.holds Try.pinned (OpenSpec.upto flowPartsSpec)

/-- 'contangolaw22.FlowTurned', WHERE WHAT IT READS IS OF BULK AT MOST 1048576: true; the input reads as it did. -/
def flowTurnedUptoRow : OpenClaim := { program := "ytemajhloddkifaa", sum := "f9d14d9b97fb970dea1ed22e1efe6ed77a2676ffcf4e2fecd81eb52319613fb0", func := "contango/contangolaw22.FlowTurned", spec := "flowTurned", unfollowed := true, recurses := true, plainKeys := false, apart := false, narrowed := true }
def FlowTurnedUptoSaid : Prop := flowTurnedUptoRow.holds Try.pinned (OpenSpec.upto flowTurnedSpec)

/-- 'contangolaw22.FlowPicks', WHERE WHAT IT READS IS OF BULK AT MOST 1048576: true; the input reads as it did. -/
def flowPicksUptoRow : OpenClaim := { program := "ytemajhloddkifaa", sum := "f9d14d9b97fb970dea1ed22e1efe6ed77a2676ffcf4e2fecd81eb52319613fb0", func := "contango/contangolaw22.FlowPicks", spec := "flowPicks", unfollowed := true, recurses := true, plainKeys := false, apart := false, narrowed := true }
def FlowPicksUptoSaid : Prop := flowPicksUptoRow.holds Try.pinned (OpenSpec.upto flowPicksSpec)

end Rows
end Go.Proofs.Ytemajhloddkifaa
