/-
  No cell of these rows narrows 'for every input' (looked for: loops, veiled, ifaces, maps, wideKeys, modest, calm, conditions, laid).
  DERIVED. THE GIVEN ROWS OF THIS SEAT. 5 by the template 'for every input the law returns true; each argument reads behind the call as it read before'; 0 by the template 'total and deterministic' (their statements: YtiadhiggmjiibaaTotals.lean).
  GIVEN WITH THE SEED: the statements are not yours to turn. If you find one false, say at which input.
  Laid BY PROGRAM, IN A SANDBOX (cutbox-rows.mjs): the forced cells as the released guide's own fill.sh prints them over the translation 1c53053c51ded164… (all of the seat's roots in one cut). By AI agents, Wed Nov 11 2026. No macro, syntax, notation, axiom, sorry.
-/
import Derived.Test.YtiadhiggmjiibaaChecked
import GoSem.Claim
import GoSem.ClaimJoined
import GoSem.ClaimMapViews
import Derived.JoinedTies
import Derived.KernelRfl
namespace Go.Proofs.Ytiadhiggmjiibaa
/- THE CELL 'sum', in the pinned program and in every row, IS THE sha256 OF THE DUMP (.gsa) THAT YtiadhiggmjiibaaProg.lean LOADS. Nothing in Lean hashes anything: it is a label: what it is worth is what the hold of that sum in a sandbox is worth. -/
noncomputable def Try.pinned : Pinned := { name := "ytiadhiggmjiibaa", sum := "1c53053c51ded16451ff52989fd280c729795136ab3743609a1673f3fc3c8794", checked := Try.checked }
namespace Rows
def none {H : Type} : Left H := { results := [], args := [] }

/-- 'contangolaw36.BankMakes': WHATEVER THE INPUT: true; the input reads as it did. -/
def bankMakesSpec : ChangeSpec := { name := "bankMakes", fn := fun _ => fun
  | [d1, d2] => { results := [.lit (.bool true)], args := [d1, d2] }
  | _ => none }
def bankMakesRow : OpenClaim := { program := "ytiadhiggmjiibaa", sum := "1c53053c51ded16451ff52989fd280c729795136ab3743609a1673f3fc3c8794", func := "contango/contangolaw36.BankMakes", spec := "bankMakes", unfollowed := true, recurses := true, plainKeys := false, apart := false }
def BankMakesSaid : Prop := bankMakesRow.holds Try.pinned (OpenSpec.ofChange bankMakesSpec)

/-- ITS FALSE NEIGHBOUR: 'it returns false'. Refute it at one input. -/
def bankMakesWrong : ChangeSpec := { name := "bankMakes", fn := fun _ => fun
  | [d1, d2] => { results := [.lit (.bool false)], args := [d1, d2] }
  | _ => none }
def BankMakesWrongFalsely : Prop := bankMakesRow.holds Try.pinned (OpenSpec.ofChange bankMakesWrong)

/-- 'contangolaw36.BankNets': WHATEVER THE INPUT: true; the input reads as it did. -/
def bankNetsSpec : ChangeSpec := { name := "bankNets", fn := fun _ => fun
  | [d] => { results := [.lit (.bool true)], args := [d] }
  | _ => none }
def bankNetsRow : OpenClaim := { program := "ytiadhiggmjiibaa", sum := "1c53053c51ded16451ff52989fd280c729795136ab3743609a1673f3fc3c8794", func := "contango/contangolaw36.BankNets", spec := "bankNets", unfollowed := true, recurses := true, plainKeys := false, apart := false }
def BankNetsSaid : Prop := bankNetsRow.holds Try.pinned (OpenSpec.ofChange bankNetsSpec)

/-- ITS FALSE NEIGHBOUR: 'it returns false'. Refute it at one input. -/
def bankNetsWrong : ChangeSpec := { name := "bankNets", fn := fun _ => fun
  | [d] => { results := [.lit (.bool false)], args := [d] }
  | _ => none }
def BankNetsWrongFalsely : Prop := bankNetsRow.holds Try.pinned (OpenSpec.ofChange bankNetsWrong)

/-- 'contangolaw36.BankTurns': WHATEVER THE INPUT: true; the input reads as it did. -/
def bankTurnsSpec : ChangeSpec := { name := "bankTurns", fn := fun _ => fun
  | [d1, d2] => { results := [.lit (.bool true)], args := [d1, d2] }
  | _ => none }
def bankTurnsRow : OpenClaim := { program := "ytiadhiggmjiibaa", sum := "1c53053c51ded16451ff52989fd280c729795136ab3743609a1673f3fc3c8794", func := "contango/contangolaw36.BankTurns", spec := "bankTurns", unfollowed := true, recurses := true, plainKeys := false, apart := false }
def BankTurnsSaid : Prop := bankTurnsRow.holds Try.pinned (OpenSpec.ofChange bankTurnsSpec)

/-- ITS FALSE NEIGHBOUR: 'it returns false'. Refute it at one input. -/
def bankTurnsWrong : ChangeSpec := { name := "bankTurns", fn := fun _ => fun
  | [d1, d2] => { results := [.lit (.bool false)], args := [d1, d2] }
  | _ => none }
def BankTurnsWrongFalsely : Prop := bankTurnsRow.holds Try.pinned (OpenSpec.ofChange bankTurnsWrong)

/-- 'contangolaw36.BankOnce': WHATEVER THE INPUT: true; the input reads as it did. -/
def bankOnceSpec : ChangeSpec := { name := "bankOnce", fn := fun _ => fun
  | [d1, d2, d3] => { results := [.lit (.bool true)], args := [d1, d2, d3] }
  | _ => none }
def bankOnceRow : OpenClaim := { program := "ytiadhiggmjiibaa", sum := "1c53053c51ded16451ff52989fd280c729795136ab3743609a1673f3fc3c8794", func := "contango/contangolaw36.BankOnce", spec := "bankOnce", unfollowed := true, recurses := true, plainKeys := false, apart := false }
def BankOnceSaid : Prop := bankOnceRow.holds Try.pinned (OpenSpec.ofChange bankOnceSpec)

/-- ITS FALSE NEIGHBOUR: 'it returns false'. Refute it at one input. -/
def bankOnceWrong : ChangeSpec := { name := "bankOnce", fn := fun _ => fun
  | [d1, d2, d3] => { results := [.lit (.bool false)], args := [d1, d2, d3] }
  | _ => none }
def BankOnceWrongFalsely : Prop := bankOnceRow.holds Try.pinned (OpenSpec.ofChange bankOnceWrong)

/-- 'contangolaw36.BankOpens': WHATEVER THE INPUT: true; the input reads as it did. -/
def bankOpensSpec : ChangeSpec := { name := "bankOpens", fn := fun _ => fun
  | [d1, d2, d3] => { results := [.lit (.bool true)], args := [d1, d2, d3] }
  | _ => none }
def bankOpensRow : OpenClaim := { program := "ytiadhiggmjiibaa", sum := "1c53053c51ded16451ff52989fd280c729795136ab3743609a1673f3fc3c8794", func := "contango/contangolaw36.BankOpens", spec := "bankOpens", unfollowed := true, recurses := true, plainKeys := false, apart := false }
def BankOpensSaid : Prop := bankOpensRow.holds Try.pinned (OpenSpec.ofChange bankOpensSpec)

/-- ITS FALSE NEIGHBOUR: 'it returns false'. Refute it at one input. -/
def bankOpensWrong : ChangeSpec := { name := "bankOpens", fn := fun _ => fun
  | [d1, d2, d3] => { results := [.lit (.bool false)], args := [d1, d2, d3] }
  | _ => none }
def BankOpensWrongFalsely : Prop := bankOpensRow.holds Try.pinned (OpenSpec.ofChange bankOpensWrong)

/- THE SECOND FORM. 'bulk': how many values and letters a reading holds, each counted each time it is reached (what is shared counts as often as it is met; a slice's spare places count too). A statement '..UptoSaid' is the law's where the arguments, and the package variables that the reading takes, are together of bulk at most 1048576: NARROWER than '..Said'. Prove '..Said' where nothing that the law and all that it calls make is longer than what came in: it says more and counts as full. Else prove '..UptoSaid'. A law counts once. -/
mutual
def uptoBulk {H : Type} : DataW H → Nat
  | .lit (.string bytes) => bytes.length + 1
  | .lit _ => 1
  | .nil => 1
  | .ptr d => uptoBulk d + 1
  | .slice elems spare => uptoBulkAll elems + uptoBulkAll spare + 1
  | .agg parts => uptoBulkAll parts + 1
  | .iface _ d => uptoBulk d + 1
  | .map entries => uptoBulkEntries entries + 1
  | .held _ => 1
def uptoBulkAll {H : Type} : List (DataW H) → Nat
  | [] => 0
  | d :: r => uptoBulk d + uptoBulkAll r
def uptoBulkEntries {H : Type} : List (Lit × DataW H) → Nat
  | [] => 0
  | x :: r => uptoBulkEntry x + uptoBulkEntries r
def uptoBulkEntry {H : Type} : Lit × DataW H → Nat
  | (.string bytes, d) => bytes.length + uptoBulk d + 1
  | (_, d) => uptoBulk d + 1
 end
def uptoSmall : (H : Type) → List (DataW H) → Bool := fun _ ds => decide (uptoBulkAll ds ≤ 1048576)
def OpenSpec.upto (s : _root_.Go.ChangeSpec) : _root_.Go.OpenSpec := { _root_.Go.OpenSpec.ofChange s with cond := some uptoSmall }

/-- 'contangolaw36.BankMakes', WHERE WHAT IT READS IS OF BULK AT MOST 1048576: true; the input reads as it did. -/
def bankMakesUptoRow : OpenClaim := { program := "ytiadhiggmjiibaa", sum := "1c53053c51ded16451ff52989fd280c729795136ab3743609a1673f3fc3c8794", func := "contango/contangolaw36.BankMakes", spec := "bankMakes", unfollowed := true, recurses := true, plainKeys := false, apart := false, narrowed := true }
def BankMakesUptoSaid : Prop := bankMakesUptoRow.holds Try.pinned (OpenSpec.upto bankMakesSpec)

/-- 'contangolaw36.BankNets', WHERE WHAT IT READS IS OF BULK AT MOST 1048576: true; the input reads as it did. -/
def bankNetsUptoRow : OpenClaim := { program := "ytiadhiggmjiibaa", sum := "1c53053c51ded16451ff52989fd280c729795136ab3743609a1673f3fc3c8794", func := "contango/contangolaw36.BankNets", spec := "bankNets", unfollowed := true, recurses := true, plainKeys := false, apart := false, narrowed := true }
def BankNetsUptoSaid : Prop := bankNetsUptoRow.holds Try.pinned (OpenSpec.upto bankNetsSpec)

/-- 'contangolaw36.BankTurns', WHERE WHAT IT READS IS OF BULK AT MOST 1048576: true; the input reads as it did. -/
def bankTurnsUptoRow : OpenClaim := { program := "ytiadhiggmjiibaa", sum := "1c53053c51ded16451ff52989fd280c729795136ab3743609a1673f3fc3c8794", func := "contango/contangolaw36.BankTurns", spec := "bankTurns", unfollowed := true, recurses := true, plainKeys := false, apart := false, narrowed := true }
def BankTurnsUptoSaid : Prop := bankTurnsUptoRow.holds Try.pinned (OpenSpec.upto bankTurnsSpec)

/-- 'contangolaw36.BankOnce', WHERE WHAT IT READS IS OF BULK AT MOST 1048576: true; the input reads as it did. -/
def bankOnceUptoRow : OpenClaim := { program := "ytiadhiggmjiibaa", sum := "1c53053c51ded16451ff52989fd280c729795136ab3743609a1673f3fc3c8794", func := "contango/contangolaw36.BankOnce", spec := "bankOnce", unfollowed := true, recurses := true, plainKeys := false, apart := false, narrowed := true }
def BankOnceUptoSaid : Prop := bankOnceUptoRow.holds Try.pinned (OpenSpec.upto bankOnceSpec)

/-- 'contangolaw36.BankOpens', WHERE WHAT IT READS IS OF BULK AT MOST 1048576: true; the input reads as it did. -/
def bankOpensUptoRow : OpenClaim := { program := "ytiadhiggmjiibaa", sum := "1c53053c51ded16451ff52989fd280c729795136ab3743609a1673f3fc3c8794", func := "contango/contangolaw36.BankOpens", spec := "bankOpens", unfollowed := true, recurses := true, plainKeys := false, apart := false, narrowed := true }
def BankOpensUptoSaid : Prop := bankOpensUptoRow.holds Try.pinned (OpenSpec.upto bankOpensSpec)

end Rows
end Go.Proofs.Ytiadhiggmjiibaa
