/-
  No cell of these rows narrows 'for every input' (looked for: loops, veiled, ifaces, maps, wideKeys, modest, calm, conditions, laid).
  DERIVED. THE GIVEN ROWS OF THIS SEAT. 10 by the template 'for every input the law returns true; each argument reads behind the call as it read before'; 0 by the template 'total and deterministic' (their statements: YtflebdkgdnfjoaaTotals.lean).
  GIVEN WITH THE SEED: the statements are not yours to turn. If you find one false, say at which input.
  Laid BY PROGRAM, IN A SANDBOX (cutbox-rows.mjs): the forced cells as the released guide's own fill.sh prints them over the translation 8d2391197aa1853e… (all of the seat's roots in one cut). By AI agents, Wed Nov 11 2026. No macro, syntax, notation, axiom, sorry.
-/
import Derived.Test.YtflebdkgdnfjoaaChecked
import GoSem.Claim
import GoSem.ClaimJoined
import GoSem.ClaimMapViews
import Derived.JoinedTies
import Derived.KernelRfl
namespace Go.Proofs.Ytflebdkgdnfjoaa
/- THE CELL 'sum', in the pinned program and in every row, IS THE sha256 OF THE DUMP (.gsa) THAT YtflebdkgdnfjoaaProg.lean LOADS. Nothing in Lean hashes anything: it is a label: what it is worth is what the hold of that sum in a sandbox is worth. -/
noncomputable def Try.pinned : Pinned := { name := "ytflebdkgdnfjoaa", sum := "8d2391197aa1853e9668b211cdd305aa803747e86d28e3c0d2ef73cd193555cb", checked := Try.checked }
namespace Rows
def none {H : Type} : Left H := { results := [], args := [] }

/-- 'contangolaw20.VaryCarries': WHATEVER THE INPUT: true; the input reads as it did. -/
def varyCarriesSpec : ChangeSpec := { name := "varyCarries", fn := fun _ => fun
  | [d1, d2, d3] => { results := [.lit (.bool true)], args := [d1, d2, d3] }
  | _ => none }
def varyCarriesRow : OpenClaim := { program := "ytflebdkgdnfjoaa", sum := "8d2391197aa1853e9668b211cdd305aa803747e86d28e3c0d2ef73cd193555cb", func := "contango/contangolaw20.VaryCarries", spec := "varyCarries", unfollowed := true, recurses := true, plainKeys := false, apart := false }
def VaryCarriesSaid : Prop := varyCarriesRow.holds Try.pinned (OpenSpec.ofChange varyCarriesSpec)

/-- ITS FALSE NEIGHBOUR: 'it returns false'. Refute it at one input. -/
def varyCarriesWrong : ChangeSpec := { name := "varyCarries", fn := fun _ => fun
  | [d1, d2, d3] => { results := [.lit (.bool false)], args := [d1, d2, d3] }
  | _ => none }
def VaryCarriesWrongFalsely : Prop := varyCarriesRow.holds Try.pinned (OpenSpec.ofChange varyCarriesWrong)

/-- 'contangolaw20.VaryAccount': WHATEVER THE INPUT: true; the input reads as it did. -/
def varyAccountSpec : ChangeSpec := { name := "varyAccount", fn := fun _ => fun
  | [d1, d2] => { results := [.lit (.bool true)], args := [d1, d2] }
  | _ => none }
def varyAccountRow : OpenClaim := { program := "ytflebdkgdnfjoaa", sum := "8d2391197aa1853e9668b211cdd305aa803747e86d28e3c0d2ef73cd193555cb", func := "contango/contangolaw20.VaryAccount", spec := "varyAccount", unfollowed := true, recurses := true, plainKeys := false, apart := false }
def VaryAccountSaid : Prop := varyAccountRow.holds Try.pinned (OpenSpec.ofChange varyAccountSpec)

/-- ITS FALSE NEIGHBOUR: 'it returns false'. Refute it at one input. -/
def varyAccountWrong : ChangeSpec := { name := "varyAccount", fn := fun _ => fun
  | [d1, d2] => { results := [.lit (.bool false)], args := [d1, d2] }
  | _ => none }
def VaryAccountWrongFalsely : Prop := varyAccountRow.holds Try.pinned (OpenSpec.ofChange varyAccountWrong)

/-- 'contangolaw20.VaryNought': WHATEVER THE INPUT: true; the input reads as it did. -/
def varyNoughtSpec : ChangeSpec := { name := "varyNought", fn := fun _ => fun
  | [d] => { results := [.lit (.bool true)], args := [d] }
  | _ => none }
def varyNoughtRow : OpenClaim := { program := "ytflebdkgdnfjoaa", sum := "8d2391197aa1853e9668b211cdd305aa803747e86d28e3c0d2ef73cd193555cb", func := "contango/contangolaw20.VaryNought", spec := "varyNought", unfollowed := true, recurses := true, plainKeys := false, apart := false }
def VaryNoughtSaid : Prop := varyNoughtRow.holds Try.pinned (OpenSpec.ofChange varyNoughtSpec)

/-- ITS FALSE NEIGHBOUR: 'it returns false'. Refute it at one input. -/
def varyNoughtWrong : ChangeSpec := { name := "varyNought", fn := fun _ => fun
  | [d] => { results := [.lit (.bool false)], args := [d] }
  | _ => none }
def VaryNoughtWrongFalsely : Prop := varyNoughtRow.holds Try.pinned (OpenSpec.ofChange varyNoughtWrong)

/-- 'contangolaw20.VaryOrder': WHATEVER THE INPUT: true; the input reads as it did. -/
def varyOrderSpec : ChangeSpec := { name := "varyOrder", fn := fun _ => fun
  | [d] => { results := [.lit (.bool true)], args := [d] }
  | _ => none }
def varyOrderRow : OpenClaim := { program := "ytflebdkgdnfjoaa", sum := "8d2391197aa1853e9668b211cdd305aa803747e86d28e3c0d2ef73cd193555cb", func := "contango/contangolaw20.VaryOrder", spec := "varyOrder", unfollowed := true, recurses := true, plainKeys := false, apart := false }
def VaryOrderSaid : Prop := varyOrderRow.holds Try.pinned (OpenSpec.ofChange varyOrderSpec)

/-- ITS FALSE NEIGHBOUR: 'it returns false'. Refute it at one input. -/
def varyOrderWrong : ChangeSpec := { name := "varyOrder", fn := fun _ => fun
  | [d] => { results := [.lit (.bool false)], args := [d] }
  | _ => none }
def VaryOrderWrongFalsely : Prop := varyOrderRow.holds Try.pinned (OpenSpec.ofChange varyOrderWrong)

/-- 'contangolaw20.VaryZero': WHATEVER THE INPUT: true; the input reads as it did. -/
def varyZeroSpec : ChangeSpec := { name := "varyZero", fn := fun _ => fun
  | [d1, d2, d3] => { results := [.lit (.bool true)], args := [d1, d2, d3] }
  | _ => none }
def varyZeroRow : OpenClaim := { program := "ytflebdkgdnfjoaa", sum := "8d2391197aa1853e9668b211cdd305aa803747e86d28e3c0d2ef73cd193555cb", func := "contango/contangolaw20.VaryZero", spec := "varyZero", unfollowed := true, recurses := true, plainKeys := false, apart := false }
def VaryZeroSaid : Prop := varyZeroRow.holds Try.pinned (OpenSpec.ofChange varyZeroSpec)

/-- ITS FALSE NEIGHBOUR: 'it returns false'. Refute it at one input. -/
def varyZeroWrong : ChangeSpec := { name := "varyZero", fn := fun _ => fun
  | [d1, d2, d3] => { results := [.lit (.bool false)], args := [d1, d2, d3] }
  | _ => none }
def VaryZeroWrongFalsely : Prop := varyZeroRow.holds Try.pinned (OpenSpec.ofChange varyZeroWrong)

/-- 'contangolaw27.HistLosses': WHATEVER THE INPUT: true; the input reads as it did. -/
def histLossesSpec : ChangeSpec := { name := "histLosses", fn := fun _ => fun
  | [d1, d2, d3] => { results := [.lit (.bool true)], args := [d1, d2, d3] }
  | _ => none }
def histLossesRow : OpenClaim := { program := "ytflebdkgdnfjoaa", sum := "8d2391197aa1853e9668b211cdd305aa803747e86d28e3c0d2ef73cd193555cb", func := "contango/contangolaw27.HistLosses", spec := "histLosses", unfollowed := true, recurses := true, named := ["math/bits.divideError", "math/bits.overflowError"], plainKeys := false, apart := false }
def HistLossesSaid : Prop := histLossesRow.holds Try.pinned (OpenSpec.ofChange histLossesSpec)

/-- ITS FALSE NEIGHBOUR: 'it returns false'. Refute it at one input. -/
def histLossesWrong : ChangeSpec := { name := "histLosses", fn := fun _ => fun
  | [d1, d2, d3] => { results := [.lit (.bool false)], args := [d1, d2, d3] }
  | _ => none }
def HistLossesWrongFalsely : Prop := histLossesRow.holds Try.pinned (OpenSpec.ofChange histLossesWrong)

/-- 'contangolaw27.HistWorst': WHATEVER THE INPUT: true; the input reads as it did. -/
def histWorstSpec : ChangeSpec := { name := "histWorst", fn := fun _ => fun
  | [d1, d2] => { results := [.lit (.bool true)], args := [d1, d2] }
  | _ => none }
def histWorstRow : OpenClaim := { program := "ytflebdkgdnfjoaa", sum := "8d2391197aa1853e9668b211cdd305aa803747e86d28e3c0d2ef73cd193555cb", func := "contango/contangolaw27.HistWorst", spec := "histWorst", unfollowed := true, recurses := true, named := ["math/bits.divideError", "math/bits.overflowError"], plainKeys := false, apart := false }
def HistWorstSaid : Prop := histWorstRow.holds Try.pinned (OpenSpec.ofChange histWorstSpec)

/-- ITS FALSE NEIGHBOUR: 'it returns false'. Refute it at one input. -/
def histWorstWrong : ChangeSpec := { name := "histWorst", fn := fun _ => fun
  | [d1, d2] => { results := [.lit (.bool false)], args := [d1, d2] }
  | _ => none }
def HistWorstWrongFalsely : Prop := histWorstRow.holds Try.pinned (OpenSpec.ofChange histWorstWrong)

/-- 'contangolaw27.HistFalls': WHATEVER THE INPUT: true; the input reads as it did. -/
def histFallsSpec : ChangeSpec := { name := "histFalls", fn := fun _ => fun
  | [d1, d2] => { results := [.lit (.bool true)], args := [d1, d2] }
  | _ => none }
def histFallsRow : OpenClaim := { program := "ytflebdkgdnfjoaa", sum := "8d2391197aa1853e9668b211cdd305aa803747e86d28e3c0d2ef73cd193555cb", func := "contango/contangolaw27.HistFalls", spec := "histFalls", unfollowed := true, recurses := true, named := ["math/bits.divideError", "math/bits.overflowError"], plainKeys := false, apart := false }
def HistFallsSaid : Prop := histFallsRow.holds Try.pinned (OpenSpec.ofChange histFallsSpec)

/-- ITS FALSE NEIGHBOUR: 'it returns false'. Refute it at one input. -/
def histFallsWrong : ChangeSpec := { name := "histFalls", fn := fun _ => fun
  | [d1, d2] => { results := [.lit (.bool false)], args := [d1, d2] }
  | _ => none }
def HistFallsWrongFalsely : Prop := histFallsRow.holds Try.pinned (OpenSpec.ofChange histFallsWrong)

/-- 'contangolaw27.HistTurned': WHATEVER THE INPUT: true; the input reads as it did. -/
def histTurnedSpec : ChangeSpec := { name := "histTurned", fn := fun _ => fun
  | [d1, d2, d3] => { results := [.lit (.bool true)], args := [d1, d2, d3] }
  | _ => none }
def histTurnedRow : OpenClaim := { program := "ytflebdkgdnfjoaa", sum := "8d2391197aa1853e9668b211cdd305aa803747e86d28e3c0d2ef73cd193555cb", func := "contango/contangolaw27.HistTurned", spec := "histTurned", unfollowed := true, recurses := true, named := ["math/bits.divideError", "math/bits.overflowError"], plainKeys := false, apart := false }
def HistTurnedSaid : Prop := histTurnedRow.holds Try.pinned (OpenSpec.ofChange histTurnedSpec)

/-- ITS FALSE NEIGHBOUR: 'it returns false'. Refute it at one input. -/
def histTurnedWrong : ChangeSpec := { name := "histTurned", fn := fun _ => fun
  | [d1, d2, d3] => { results := [.lit (.bool false)], args := [d1, d2, d3] }
  | _ => none }
def HistTurnedWrongFalsely : Prop := histTurnedRow.holds Try.pinned (OpenSpec.ofChange histTurnedWrong)

/-- 'contangolaw27.HistScales': WHATEVER THE INPUT: true; the input reads as it did. -/
def histScalesSpec : ChangeSpec := { name := "histScales", fn := fun _ => fun
  | [d] => { results := [.lit (.bool true)], args := [d] }
  | _ => none }
def histScalesRow : OpenClaim := { program := "ytflebdkgdnfjoaa", sum := "8d2391197aa1853e9668b211cdd305aa803747e86d28e3c0d2ef73cd193555cb", func := "contango/contangolaw27.HistScales", spec := "histScales", unfollowed := true, recurses := true, named := ["math/bits.divideError", "math/bits.overflowError"], plainKeys := false, apart := false }
def HistScalesSaid : Prop := histScalesRow.holds Try.pinned (OpenSpec.ofChange histScalesSpec)

/-- ITS FALSE NEIGHBOUR: 'it returns false'. Refute it at one input. -/
def histScalesWrong : ChangeSpec := { name := "histScales", fn := fun _ => fun
  | [d] => { results := [.lit (.bool false)], args := [d] }
  | _ => none }
def HistScalesWrongFalsely : Prop := histScalesRow.holds Try.pinned (OpenSpec.ofChange histScalesWrong)

/- THE SECOND FORM. 'bulk': how many values and letters a reading holds, each counted each time it is reached (what is shared counts as often as it is met; a slice's spare places count too). A statement '..UptoSaid' is the law's where the arguments, and the package variables that the reading takes, are together of bulk at most 1048576: NARROWER than '..Said'. Prove '..Said' where nothing that the law and all that it calls make is longer than what came in: it says more and counts as full. Else prove '..UptoSaid'. A law counts once. -/
mutual
def uptoBulk {H : Type} : DataW H → Nat
  | .lit (.string bytes) => bytes.length + 1
  | .lit _ => 1
  | .nil => 1
  | .ptr d => uptoBulk d + 1
  | .slice elems spare => uptoBulkAll elems + uptoBulkAll spare + 1
  | .agg parts => uptoBulkAll parts + 1
  | .iface _ d => uptoBulk d + 1
  | .map entries => uptoBulkEntries entries + 1
  | .held _ => 1
def uptoBulkAll {H : Type} : List (DataW H) → Nat
  | [] => 0
  | d :: r => uptoBulk d + uptoBulkAll r
def uptoBulkEntries {H : Type} : List (Lit × DataW H) → Nat
  | [] => 0
  | x :: r => uptoBulkEntry x + uptoBulkEntries r
def uptoBulkEntry {H : Type} : Lit × DataW H → Nat
  | (.string bytes, d) => bytes.length + uptoBulk d + 1
  | (_, d) => uptoBulk d + 1
 end
def uptoSmall : (H : Type) → List (DataW H) → Bool := fun _ ds => decide (uptoBulkAll ds ≤ 1048576)
def OpenSpec.upto (s : _root_.Go.ChangeSpec) : _root_.Go.OpenSpec := { _root_.Go.OpenSpec.ofChange s with cond := some uptoSmall }

/-- 'contangolaw20.VaryCarries', WHERE WHAT IT READS IS OF BULK AT MOST 1048576: true; the input reads as it did. -/
def varyCarriesUptoRow : OpenClaim := { program := "ytflebdkgdnfjoaa", sum := "8d2391197aa1853e9668b211cdd305aa803747e86d28e3c0d2ef73cd193555cb", func := "contango/contangolaw20.VaryCarries", spec := "varyCarries", unfollowed := true, recurses := true, plainKeys := false, apart := false, narrowed := true }
def VaryCarriesUptoSaid : Prop := varyCarriesUptoRow.holds Try.pinned (OpenSpec.upto varyCarriesSpec)

/-- 'contangolaw20.VaryAccount', WHERE WHAT IT READS IS OF BULK AT MOST 1048576: true; the input reads as it did. -/
def varyAccountUptoRow : OpenClaim := { program := "ytflebdkgdnfjoaa", sum := "8d2391197aa1853e9668b211cdd305aa803747e86d28e3c0d2ef73cd193555cb", func := "contango/contangolaw20.VaryAccount", spec := "varyAccount", unfollowed := true, recurses := true, plainKeys := false, apart := false, narrowed := true }
def VaryAccountUptoSaid : Prop := varyAccountUptoRow.holds Try.pinned (OpenSpec.upto varyAccountSpec)

/-- 'contangolaw20.VaryNought', WHERE WHAT IT READS IS OF BULK AT MOST 1048576: true; the input reads as it did. -/
def varyNoughtUptoRow : OpenClaim := { program := "ytflebdkgdnfjoaa", sum := "8d2391197aa1853e9668b211cdd305aa803747e86d28e3c0d2ef73cd193555cb", func := "contango/contangolaw20.VaryNought", spec := "varyNought", unfollowed := true, recurses := true, plainKeys := false, apart := false, narrowed := true }
def VaryNoughtUptoSaid : Prop := varyNoughtUptoRow.holds Try.pinned (OpenSpec.upto varyNoughtSpec)

/-- 'contangolaw20.VaryOrder', WHERE WHAT IT READS IS OF BULK AT MOST 1048576: true; the input reads as it did. -/
def varyOrderUptoRow : OpenClaim := { program := "ytflebdkgdnfjoaa", sum := "8d2391197aa1853e9668b211cdd305aa803747e86d28e3c0d2ef73cd193555cb", func := "contango/contangolaw20.VaryOrder", spec := "varyOrder", unfollowed := true, recurses := true, plainKeys := false, apart := false, narrowed := true }
def VaryOrderUptoSaid : Prop := varyOrderUptoRow.holds Try.pinned (OpenSpec.upto varyOrderSpec)

/-- 'contangolaw20.VaryZero', WHERE WHAT IT READS IS OF BULK AT MOST 1048576: true; the input reads as it did. -/
def varyZeroUptoRow : OpenClaim := { program := "ytflebdkgdnfjoaa", sum := "8d2391197aa1853e9668b211cdd305aa803747e86d28e3c0d2ef73cd193555cb", func := "contango/contangolaw20.VaryZero", spec := "varyZero", unfollowed := true, recurses := true, plainKeys := false, apart := false, narrowed := true }
def VaryZeroUptoSaid : Prop := varyZeroUptoRow.holds Try.pinned (OpenSpec.upto varyZeroSpec)

/-- 'contangolaw27.HistLosses', WHERE WHAT IT READS IS OF BULK AT MOST 1048576: true; the input reads as it did. -/
def histLossesUptoRow : OpenClaim := { program := "ytflebdkgdnfjoaa", sum := "8d2391197aa1853e9668b211cdd305aa803747e86d28e3c0d2ef73cd193555cb", func := "contango/contangolaw27.HistLosses", spec := "histLosses", unfollowed := true, recurses := true, named := ["math/bits.divideError", "math/bits.overflowError"], plainKeys := false, apart := false, narrowed := true }
def HistLossesUptoSaid : Prop := histLossesUptoRow.holds Try.pinned (OpenSpec.upto histLossesSpec)

/-- 'contangolaw27.HistWorst', WHERE WHAT IT READS IS OF BULK AT MOST 1048576: true; the input reads as it did. -/
def histWorstUptoRow : OpenClaim := { program := "ytflebdkgdnfjoaa", sum := "8d2391197aa1853e9668b211cdd305aa803747e86d28e3c0d2ef73cd193555cb", func := "contango/contangolaw27.HistWorst", spec := "histWorst", unfollowed := true, recurses := true, named := ["math/bits.divideError", "math/bits.overflowError"], plainKeys := false, apart := false, narrowed := true }
def HistWorstUptoSaid : Prop := histWorstUptoRow.holds Try.pinned (OpenSpec.upto histWorstSpec)

/-- 'contangolaw27.HistFalls', WHERE WHAT IT READS IS OF BULK AT MOST 1048576: true; the input reads as it did. -/
def histFallsUptoRow : OpenClaim := { program := "ytflebdkgdnfjoaa", sum := "8d2391197aa1853e9668b211cdd305aa803747e86d28e3c0d2ef73cd193555cb", func := "contango/contangolaw27.HistFalls", spec := "histFalls", unfollowed := true, recurses := true, named := ["math/bits.divideError", "math/bits.overflowError"], plainKeys := false, apart := false, narrowed := true }
def HistFallsUptoSaid : Prop := histFallsUptoRow.holds Try.pinned (OpenSpec.upto histFallsSpec)

/-- 'contangolaw27.HistTurned', WHERE WHAT IT READS IS OF BULK AT MOST 1048576: true; the input reads as it did. -/
def histTurnedUptoRow : OpenClaim := { program := "ytflebdkgdnfjoaa", sum := "8d2391197aa1853e9668b211cdd305aa803747e86d28e3c0d2ef73cd193555cb", func := "contango/contangolaw27.HistTurned", spec := "histTurned", unfollowed := true, recurses := true, named := ["math/bits.divideError", "math/bits.overflowError"], plainKeys := false, apart := false, narrowed := true }
def HistTurnedUptoSaid : Prop := histTurnedUptoRow.holds Try.pinned (OpenSpec.upto histTurnedSpec)

/-- 'contangolaw27.HistScales', WHERE WHAT IT READS IS OF BULK AT MOST 1048576: true; the input reads as it did. -/
def histScalesUptoRow : OpenClaim := { program := "ytflebdkgdnfjoaa", sum := "8d2391197aa1853e9668b211cdd305aa803747e86d28e3c0d2ef73cd193555cb", func := "contango/contangolaw27.HistScales", spec := "histScales", unfollowed := true, recurses := true, named := ["math/bits.divideError", "math/bits.overflowError"], plainKeys := false, apart := false, narrowed := true }
def HistScalesUptoSaid : Prop := histScalesUptoRow.holds Try.pinned (OpenSpec.upto histScalesSpec)

end Rows
end Go.Proofs.Ytflebdkgdnfjoaa
