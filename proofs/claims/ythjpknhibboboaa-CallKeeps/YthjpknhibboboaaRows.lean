/-
  No cell of these rows narrows 'for every input' (looked for: loops, veiled, ifaces, maps, wideKeys, modest, calm, conditions, laid).
  DERIVED. THE GIVEN ROWS OF THIS SEAT. 5 by the template 'for every input the law returns true; each argument reads behind the call as it read before'; 0 by the template 'total and deterministic' (their statements: YthjpknhibboboaaTotals.lean).
  GIVEN WITH THE SEED: the statements are not yours to turn. If you find one false, say at which input.
  Laid BY PROGRAM, IN A SANDBOX (cutbox-rows.mjs): the forced cells as the released guide's own fill.sh prints them over the translation d6703086a1cd1d54… (all of the seat's roots in one cut). By AI agents, Wed Nov 11 2026. No macro, syntax, notation, axiom, sorry.
-/
import Derived.Test.YthjpknhibboboaaChecked
import GoSem.Claim
import GoSem.ClaimJoined
import GoSem.ClaimMapViews
import Derived.JoinedTies
import Derived.KernelRfl
namespace Go.Proofs.Ythjpknhibboboaa
/- THE CELL 'sum', in the pinned program and in every row, IS THE sha256 OF THE DUMP (.gsa) THAT YthjpknhibboboaaProg.lean LOADS. Nothing in Lean hashes anything: it is a label: what it is worth is what the hold of that sum in a sandbox is worth. -/
noncomputable def Try.pinned : Pinned := { name := "ythjpknhibboboaa", sum := "d6703086a1cd1d542e67402aa09da03438269e3eecb5f87403bcfbde4bd0042d", checked := Try.checked }
namespace Rows
def none {H : Type} : Left H := { results := [], args := [] }

/-- 'contangolaw37.CallMakes': WHATEVER THE INPUT: true; the input reads as it did. -/
def callMakesSpec : ChangeSpec := { name := "callMakes", fn := fun _ => fun
  | [d1, d2, d3] => { results := [.lit (.bool true)], args := [d1, d2, d3] }
  | _ => none }
def callMakesRow : OpenClaim := { program := "ythjpknhibboboaa", sum := "d6703086a1cd1d542e67402aa09da03438269e3eecb5f87403bcfbde4bd0042d", func := "contango/contangolaw37.CallMakes", spec := "callMakes", unfollowed := true, recurses := true, apart := false }
def CallMakesSaid : Prop := callMakesRow.holds Try.pinned (OpenSpec.ofChange callMakesSpec)

/-- ITS FALSE NEIGHBOUR: 'it returns false'. Refute it at one input. -/
def callMakesWrong : ChangeSpec := { name := "callMakes", fn := fun _ => fun
  | [d1, d2, d3] => { results := [.lit (.bool false)], args := [d1, d2, d3] }
  | _ => none }
def CallMakesWrongFalsely : Prop := callMakesRow.holds Try.pinned (OpenSpec.ofChange callMakesWrong)

/-- 'contangolaw37.CallMeets': WHATEVER THE INPUT: true; the input reads as it did. -/
def callMeetsSpec : ChangeSpec := { name := "callMeets", fn := fun _ => fun
  | [d1, d2, d3] => { results := [.lit (.bool true)], args := [d1, d2, d3] }
  | _ => none }
def callMeetsRow : OpenClaim := { program := "ythjpknhibboboaa", sum := "d6703086a1cd1d542e67402aa09da03438269e3eecb5f87403bcfbde4bd0042d", func := "contango/contangolaw37.CallMeets", spec := "callMeets", unfollowed := true, recurses := true, apart := false }
def CallMeetsSaid : Prop := callMeetsRow.holds Try.pinned (OpenSpec.ofChange callMeetsSpec)

/-- ITS FALSE NEIGHBOUR: 'it returns false'. Refute it at one input. -/
def callMeetsWrong : ChangeSpec := { name := "callMeets", fn := fun _ => fun
  | [d1, d2, d3] => { results := [.lit (.bool false)], args := [d1, d2, d3] }
  | _ => none }
def CallMeetsWrongFalsely : Prop := callMeetsRow.holds Try.pinned (OpenSpec.ofChange callMeetsWrong)

/-- 'contangolaw37.CallTells': WHATEVER THE INPUT: true; the input reads as it did. -/
def callTellsSpec : ChangeSpec := { name := "callTells", fn := fun _ => fun
  | [d1, d2, d3] => { results := [.lit (.bool true)], args := [d1, d2, d3] }
  | _ => none }
def callTellsRow : OpenClaim := { program := "ythjpknhibboboaa", sum := "d6703086a1cd1d542e67402aa09da03438269e3eecb5f87403bcfbde4bd0042d", func := "contango/contangolaw37.CallTells", spec := "callTells", unfollowed := true, recurses := true, apart := false }
def CallTellsSaid : Prop := callTellsRow.holds Try.pinned (OpenSpec.ofChange callTellsSpec)

/-- ITS FALSE NEIGHBOUR: 'it returns false'. Refute it at one input. -/
def callTellsWrong : ChangeSpec := { name := "callTells", fn := fun _ => fun
  | [d1, d2, d3] => { results := [.lit (.bool false)], args := [d1, d2, d3] }
  | _ => none }
def CallTellsWrongFalsely : Prop := callTellsRow.holds Try.pinned (OpenSpec.ofChange callTellsWrong)

/-- 'contangolaw37.CallPays': WHATEVER THE INPUT: true; the input reads as it did. -/
def callPaysSpec : ChangeSpec := { name := "callPays", fn := fun _ => fun
  | [d1, d2, d3] => { results := [.lit (.bool true)], args := [d1, d2, d3] }
  | _ => none }
def callPaysRow : OpenClaim := { program := "ythjpknhibboboaa", sum := "d6703086a1cd1d542e67402aa09da03438269e3eecb5f87403bcfbde4bd0042d", func := "contango/contangolaw37.CallPays", spec := "callPays", unfollowed := true, recurses := true, apart := false }
def CallPaysSaid : Prop := callPaysRow.holds Try.pinned (OpenSpec.ofChange callPaysSpec)

/-- ITS FALSE NEIGHBOUR: 'it returns false'. Refute it at one input. -/
def callPaysWrong : ChangeSpec := { name := "callPays", fn := fun _ => fun
  | [d1, d2, d3] => { results := [.lit (.bool false)], args := [d1, d2, d3] }
  | _ => none }
def CallPaysWrongFalsely : Prop := callPaysRow.holds Try.pinned (OpenSpec.ofChange callPaysWrong)

/-- 'contangolaw37.CallKeeps': WHATEVER THE INPUT: true; the input reads as it did. -/
def callKeepsSpec : ChangeSpec := { name := "callKeeps", fn := fun _ => fun
  | [d] => { results := [.lit (.bool true)], args := [d] }
  | _ => none }
def callKeepsRow : OpenClaim := { program := "ythjpknhibboboaa", sum := "d6703086a1cd1d542e67402aa09da03438269e3eecb5f87403bcfbde4bd0042d", func := "contango/contangolaw37.CallKeeps", spec := "callKeeps", unfollowed := true, recurses := true, apart := false }
def CallKeepsSaid : Prop := callKeepsRow.holds Try.pinned (OpenSpec.ofChange callKeepsSpec)

/-- ITS FALSE NEIGHBOUR: 'it returns false'. Refute it at one input. -/
def callKeepsWrong : ChangeSpec := { name := "callKeeps", fn := fun _ => fun
  | [d] => { results := [.lit (.bool false)], args := [d] }
  | _ => none }
def CallKeepsWrongFalsely : Prop := callKeepsRow.holds Try.pinned (OpenSpec.ofChange callKeepsWrong)

/- THE SECOND FORM. 'bulk': how many values and letters a reading holds, each counted each time it is reached (what is shared counts as often as it is met; a slice's spare places count too). A statement '..UptoSaid' is the law's where the arguments, and the package variables that the reading takes, are together of bulk at most 1048576: NARROWER than '..Said'. Prove '..Said' where nothing that the law and all that it calls make is longer than what came in: it says more and counts as full. Else prove '..UptoSaid'. A law counts once. -/
mutual
def uptoBulk {H : Type} : DataW H → Nat
  | .lit (.string bytes) => bytes.length + 1
  | .lit _ => 1
  | .nil => 1
  | .ptr d => uptoBulk d + 1
  | .slice elems spare => uptoBulkAll elems + uptoBulkAll spare + 1
  | .agg parts => uptoBulkAll parts + 1
  | .iface _ d => uptoBulk d + 1
  | .map entries => uptoBulkEntries entries + 1
  | .held _ => 1
def uptoBulkAll {H : Type} : List (DataW H) → Nat
  | [] => 0
  | d :: r => uptoBulk d + uptoBulkAll r
def uptoBulkEntries {H : Type} : List (Lit × DataW H) → Nat
  | [] => 0
  | x :: r => uptoBulkEntry x + uptoBulkEntries r
def uptoBulkEntry {H : Type} : Lit × DataW H → Nat
  | (.string bytes, d) => bytes.length + uptoBulk d + 1
  | (_, d) => uptoBulk d + 1
 end
def uptoSmall : (H : Type) → List (DataW H) → Bool := fun _ ds => decide (uptoBulkAll ds ≤ 1048576)
def OpenSpec.upto (s : _root_.Go.ChangeSpec) : _root_.Go.OpenSpec := { _root_.Go.OpenSpec.ofChange s with cond := some uptoSmall }

/-- 'contangolaw37.CallMakes', WHERE WHAT IT READS IS OF BULK AT MOST 1048576: true; the input reads as it did. -/
def callMakesUptoRow : OpenClaim := { program := "ythjpknhibboboaa", sum := "d6703086a1cd1d542e67402aa09da03438269e3eecb5f87403bcfbde4bd0042d", func := "contango/contangolaw37.CallMakes", spec := "callMakes", unfollowed := true, recurses := true, apart := false, narrowed := true }
def CallMakesUptoSaid : Prop := callMakesUptoRow.holds Try.pinned (OpenSpec.upto callMakesSpec)

/-- 'contangolaw37.CallMeets', WHERE WHAT IT READS IS OF BULK AT MOST 1048576: true; the input reads as it did. -/
def callMeetsUptoRow : OpenClaim := { program := "ythjpknhibboboaa", sum := "d6703086a1cd1d542e67402aa09da03438269e3eecb5f87403bcfbde4bd0042d", func := "contango/contangolaw37.CallMeets", spec := "callMeets", unfollowed := true, recurses := true, apart := false, narrowed := true }
def CallMeetsUptoSaid : Prop := callMeetsUptoRow.holds Try.pinned (OpenSpec.upto callMeetsSpec)

/-- 'contangolaw37.CallTells', WHERE WHAT IT READS IS OF BULK AT MOST 1048576: true; the input reads as it did. -/
def callTellsUptoRow : OpenClaim := { program := "ythjpknhibboboaa", sum := "d6703086a1cd1d542e67402aa09da03438269e3eecb5f87403bcfbde4bd0042d", func := "contango/contangolaw37.CallTells", spec := "callTells", unfollowed := true, recurses := true, apart := false, narrowed := true }
def CallTellsUptoSaid : Prop := callTellsUptoRow.holds Try.pinned (OpenSpec.upto callTellsSpec)

/-- 'contangolaw37.CallPays', WHERE WHAT IT READS IS OF BULK AT MOST 1048576: true; the input reads as it did. -/
def callPaysUptoRow : OpenClaim := { program := "ythjpknhibboboaa", sum := "d6703086a1cd1d542e67402aa09da03438269e3eecb5f87403bcfbde4bd0042d", func := "contango/contangolaw37.CallPays", spec := "callPays", unfollowed := true, recurses := true, apart := false, narrowed := true }
def CallPaysUptoSaid : Prop := callPaysUptoRow.holds Try.pinned (OpenSpec.upto callPaysSpec)

/-- 'contangolaw37.CallKeeps', WHERE WHAT IT READS IS OF BULK AT MOST 1048576: true; the input reads as it did. -/
def callKeepsUptoRow : OpenClaim := { program := "ythjpknhibboboaa", sum := "d6703086a1cd1d542e67402aa09da03438269e3eecb5f87403bcfbde4bd0042d", func := "contango/contangolaw37.CallKeeps", spec := "callKeeps", unfollowed := true, recurses := true, apart := false, narrowed := true }
def CallKeepsUptoSaid : Prop := callKeepsUptoRow.holds Try.pinned (OpenSpec.upto callKeepsSpec)

end Rows
end Go.Proofs.Ythjpknhibboboaa
