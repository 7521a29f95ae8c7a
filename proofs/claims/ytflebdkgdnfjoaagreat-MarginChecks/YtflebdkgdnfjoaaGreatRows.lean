/-
  No cell of these rows narrows 'for every input' (looked for: loops, veiled, ifaces, maps, wideKeys, modest, calm, conditions, laid).
  DERIVED. THE GIVEN ROWS OF THIS SEAT. 12 by the template 'for every input the law returns true; each argument reads behind the call as it read before'; 0 by the template 'total and deterministic' (their statements: YtflebdkgdnfjoaaGreatTotals.lean).
  GIVEN WITH THE SEED: the statements are not yours to turn. If you find one false, say at which input.
  Laid BY PROGRAM, IN A SANDBOX (cutbox-rows.mjs): the forced cells as the released guide's own fill.sh prints them over the translation 2defe97456a14bc7… (all of the seat's roots in one cut). By AI agents, Wed Nov 11 2026. No macro, syntax, notation, axiom, sorry.
-/
import Derived.Test.YtflebdkgdnfjoaaGreatChecked
import GoSem.Claim
import GoSem.ClaimJoined
import GoSem.ClaimMapViews
import Derived.JoinedTies
import Derived.KernelRfl
namespace Go.Proofs.YtflebdkgdnfjoaaGreat
/- THE CELL 'sum', in the pinned program and in every row, IS THE sha256 OF THE DUMP (.gsa) THAT YtflebdkgdnfjoaaGreatProg.lean LOADS. Nothing in Lean hashes anything: it is a label: what it is worth is what the hold of that sum in a sandbox is worth. -/
noncomputable def Tryz.pinned : Pinned := { name := "ytflebdkgdnfjoaagreat", sum := "2defe97456a14bc73d0638f3068d7eaa09e3103beea02a4ce50b1e61a9cca539", checked := Tryz.checked }
namespace Rows
def none {H : Type} : Left H := { results := [], args := [] }

/-- 'contangolaw20.VaryAll': WHATEVER THE INPUT: true; the input reads as it did. -/
def varyAllSpec : ChangeSpec := { name := "varyAll", fn := fun _ => fun
  | [d] => { results := [.lit (.bool true)], args := [d] }
  | _ => none }
def varyAllRow : OpenClaim := { program := "ytflebdkgdnfjoaagreat", sum := "2defe97456a14bc73d0638f3068d7eaa09e3103beea02a4ce50b1e61a9cca539", func := "contango/contangolaw20.VaryAll", spec := "varyAll", unfollowed := true, recurses := true, plainKeys := false, apart := false }
def VaryAllSaid : Prop := varyAllRow.holds Tryz.pinned (OpenSpec.ofChange varyAllSpec)

/-- ITS FALSE NEIGHBOUR: 'it returns false'. Refute it at one input. -/
def varyAllWrong : ChangeSpec := { name := "varyAll", fn := fun _ => fun
  | [d] => { results := [.lit (.bool false)], args := [d] }
  | _ => none }
def VaryAllWrongFalsely : Prop := varyAllRow.holds Tryz.pinned (OpenSpec.ofChange varyAllWrong)

/-- 'contangolaw29.MarginChecks': WHATEVER THE INPUT: true; the input reads as it did. -/
def marginChecksSpec : ChangeSpec := { name := "marginChecks", fn := fun _ => fun
  | [d1, d2] => { results := [.lit (.bool true)], args := [d1, d2] }
  | _ => none }
def marginChecksRow : OpenClaim := { program := "ytflebdkgdnfjoaagreat", sum := "2defe97456a14bc73d0638f3068d7eaa09e3103beea02a4ce50b1e61a9cca539", func := "contango/contangolaw29.MarginChecks", spec := "marginChecks", inPlace := ["slices.overlaps[int]"], unfollowed := true, recurses := true, named := ["math/bits.divideError", "math/bits.overflowError"], plainKeys := false, apart := false }
def MarginChecksSaid : Prop := marginChecksRow.holds Tryz.pinned (OpenSpec.ofChange marginChecksSpec)

/-- ITS FALSE NEIGHBOUR: 'it returns false'. Refute it at one input. -/
def marginChecksWrong : ChangeSpec := { name := "marginChecks", fn := fun _ => fun
  | [d1, d2] => { results := [.lit (.bool false)], args := [d1, d2] }
  | _ => none }
def MarginChecksWrongFalsely : Prop := marginChecksRow.holds Tryz.pinned (OpenSpec.ofChange marginChecksWrong)

/-- 'contangolaw29.MarginAccounts': WHATEVER THE INPUT: true; the input reads as it did. -/
def marginAccountsSpec : ChangeSpec := { name := "marginAccounts", fn := fun _ => fun
  | [d1, d2] => { results := [.lit (.bool true)], args := [d1, d2] }
  | _ => none }
def marginAccountsRow : OpenClaim := { program := "ytflebdkgdnfjoaagreat", sum := "2defe97456a14bc73d0638f3068d7eaa09e3103beea02a4ce50b1e61a9cca539", func := "contango/contangolaw29.MarginAccounts", spec := "marginAccounts", inPlace := ["slices.overlaps[int]"], unfollowed := true, recurses := true, named := ["math/bits.divideError", "math/bits.overflowError"], plainKeys := false, apart := false }
def MarginAccountsSaid : Prop := marginAccountsRow.holds Tryz.pinned (OpenSpec.ofChange marginAccountsSpec)

/-- ITS FALSE NEIGHBOUR: 'it returns false'. Refute it at one input. -/
def marginAccountsWrong : ChangeSpec := { name := "marginAccounts", fn := fun _ => fun
  | [d1, d2] => { results := [.lit (.bool false)], args := [d1, d2] }
  | _ => none }
def MarginAccountsWrongFalsely : Prop := marginAccountsRow.holds Tryz.pinned (OpenSpec.ofChange marginAccountsWrong)

/-- 'contangolaw29.MarginNever': WHATEVER THE INPUT: true; the input reads as it did. -/
def marginNeverSpec : ChangeSpec := { name := "marginNever", fn := fun _ => fun
  | [d1, d2] => { results := [.lit (.bool true)], args := [d1, d2] }
  | _ => none }
def marginNeverRow : OpenClaim := { program := "ytflebdkgdnfjoaagreat", sum := "2defe97456a14bc73d0638f3068d7eaa09e3103beea02a4ce50b1e61a9cca539", func := "contango/contangolaw29.MarginNever", spec := "marginNever", inPlace := ["slices.overlaps[int]"], unfollowed := true, recurses := true, named := ["math/bits.divideError", "math/bits.overflowError"], plainKeys := false, apart := false }
def MarginNeverSaid : Prop := marginNeverRow.holds Tryz.pinned (OpenSpec.ofChange marginNeverSpec)

/-- ITS FALSE NEIGHBOUR: 'it returns false'. Refute it at one input. -/
def marginNeverWrong : ChangeSpec := { name := "marginNever", fn := fun _ => fun
  | [d1, d2] => { results := [.lit (.bool false)], args := [d1, d2] }
  | _ => none }
def MarginNeverWrongFalsely : Prop := marginNeverRow.holds Tryz.pinned (OpenSpec.ofChange marginNeverWrong)

/-- 'contangolaw29.MarginNetted': WHATEVER THE INPUT: true; the input reads as it did. -/
def marginNettedSpec : ChangeSpec := { name := "marginNetted", fn := fun _ => fun
  | [d1, d2, d3] => { results := [.lit (.bool true)], args := [d1, d2, d3] }
  | _ => none }
def marginNettedRow : OpenClaim := { program := "ytflebdkgdnfjoaagreat", sum := "2defe97456a14bc73d0638f3068d7eaa09e3103beea02a4ce50b1e61a9cca539", func := "contango/contangolaw29.MarginNetted", spec := "marginNetted", inPlace := ["slices.overlaps[int]"], unfollowed := true, recurses := true, named := ["math/bits.divideError", "math/bits.overflowError"], plainKeys := false, apart := false }
def MarginNettedSaid : Prop := marginNettedRow.holds Tryz.pinned (OpenSpec.ofChange marginNettedSpec)

/-- ITS FALSE NEIGHBOUR: 'it returns false'. Refute it at one input. -/
def marginNettedWrong : ChangeSpec := { name := "marginNetted", fn := fun _ => fun
  | [d1, d2, d3] => { results := [.lit (.bool false)], args := [d1, d2, d3] }
  | _ => none }
def MarginNettedWrongFalsely : Prop := marginNettedRow.holds Tryz.pinned (OpenSpec.ofChange marginNettedWrong)

/-- 'contangolaw29.MarginSums': WHATEVER THE INPUT: true; the input reads as it did. -/
def marginSumsSpec : ChangeSpec := { name := "marginSums", fn := fun _ => fun
  | [d1, d2] => { results := [.lit (.bool true)], args := [d1, d2] }
  | _ => none }
def marginSumsRow : OpenClaim := { program := "ytflebdkgdnfjoaagreat", sum := "2defe97456a14bc73d0638f3068d7eaa09e3103beea02a4ce50b1e61a9cca539", func := "contango/contangolaw29.MarginSums", spec := "marginSums", inPlace := ["slices.overlaps[int]"], unfollowed := true, recurses := true, named := ["math/bits.divideError", "math/bits.overflowError"], plainKeys := false, apart := false }
def MarginSumsSaid : Prop := marginSumsRow.holds Tryz.pinned (OpenSpec.ofChange marginSumsSpec)

/-- ITS FALSE NEIGHBOUR: 'it returns false'. Refute it at one input. -/
def marginSumsWrong : ChangeSpec := { name := "marginSums", fn := fun _ => fun
  | [d1, d2] => { results := [.lit (.bool false)], args := [d1, d2] }
  | _ => none }
def MarginSumsWrongFalsely : Prop := marginSumsRow.holds Tryz.pinned (OpenSpec.ofChange marginSumsWrong)

/-- 'contangolaw30.ClientNeeds': WHATEVER THE INPUT: true; the input reads as it did. -/
def clientNeedsSpec : ChangeSpec := { name := "clientNeeds", fn := fun _ => fun
  | [d1, d2, d3] => { results := [.lit (.bool true)], args := [d1, d2, d3] }
  | _ => none }
def clientNeedsRow : OpenClaim := { program := "ytflebdkgdnfjoaagreat", sum := "2defe97456a14bc73d0638f3068d7eaa09e3103beea02a4ce50b1e61a9cca539", func := "contango/contangolaw30.ClientNeeds", spec := "clientNeeds", inPlace := ["slices.overlaps[int]"], unfollowed := true, recurses := true, named := ["math/bits.divideError", "math/bits.overflowError"], plainKeys := false, apart := false }
def ClientNeedsSaid : Prop := clientNeedsRow.holds Tryz.pinned (OpenSpec.ofChange clientNeedsSpec)

/-- ITS FALSE NEIGHBOUR: 'it returns false'. Refute it at one input. -/
def clientNeedsWrong : ChangeSpec := { name := "clientNeeds", fn := fun _ => fun
  | [d1, d2, d3] => { results := [.lit (.bool false)], args := [d1, d2, d3] }
  | _ => none }
def ClientNeedsWrongFalsely : Prop := clientNeedsRow.holds Tryz.pinned (OpenSpec.ofChange clientNeedsWrong)

/-- 'contangolaw30.ClientMembers': WHATEVER THE INPUT: true; the input reads as it did. -/
def clientMembersSpec : ChangeSpec := { name := "clientMembers", fn := fun _ => fun
  | [d1, d2] => { results := [.lit (.bool true)], args := [d1, d2] }
  | _ => none }
def clientMembersRow : OpenClaim := { program := "ytflebdkgdnfjoaagreat", sum := "2defe97456a14bc73d0638f3068d7eaa09e3103beea02a4ce50b1e61a9cca539", func := "contango/contangolaw30.ClientMembers", spec := "clientMembers", inPlace := ["slices.overlaps[int]"], unfollowed := true, recurses := true, named := ["math/bits.divideError", "math/bits.overflowError"], plainKeys := false, apart := false }
def ClientMembersSaid : Prop := clientMembersRow.holds Tryz.pinned (OpenSpec.ofChange clientMembersSpec)

/-- ITS FALSE NEIGHBOUR: 'it returns false'. Refute it at one input. -/
def clientMembersWrong : ChangeSpec := { name := "clientMembers", fn := fun _ => fun
  | [d1, d2] => { results := [.lit (.bool false)], args := [d1, d2] }
  | _ => none }
def ClientMembersWrongFalsely : Prop := clientMembersRow.holds Tryz.pinned (OpenSpec.ofChange clientMembersWrong)

/-- 'contangolaw30.ClientSides': WHATEVER THE INPUT: true; the input reads as it did. -/
def clientSidesSpec : ChangeSpec := { name := "clientSides", fn := fun _ => fun
  | [d] => { results := [.lit (.bool true)], args := [d] }
  | _ => none }
def clientSidesRow : OpenClaim := { program := "ytflebdkgdnfjoaagreat", sum := "2defe97456a14bc73d0638f3068d7eaa09e3103beea02a4ce50b1e61a9cca539", func := "contango/contangolaw30.ClientSides", spec := "clientSides", inPlace := ["slices.overlaps[int]"], unfollowed := true, recurses := true, named := ["math/bits.divideError", "math/bits.overflowError"], plainKeys := false, apart := false }
def ClientSidesSaid : Prop := clientSidesRow.holds Tryz.pinned (OpenSpec.ofChange clientSidesSpec)

/-- ITS FALSE NEIGHBOUR: 'it returns false'. Refute it at one input. -/
def clientSidesWrong : ChangeSpec := { name := "clientSides", fn := fun _ => fun
  | [d] => { results := [.lit (.bool false)], args := [d] }
  | _ => none }
def ClientSidesWrongFalsely : Prop := clientSidesRow.holds Tryz.pinned (OpenSpec.ofChange clientSidesWrong)

/-- 'contangolaw30.ClientAlone': WHATEVER THE INPUT: true; the input reads as it did. -/
def clientAloneSpec : ChangeSpec := { name := "clientAlone", fn := fun _ => fun
  | [d1, d2, d3] => { results := [.lit (.bool true)], args := [d1, d2, d3] }
  | _ => none }
def clientAloneRow : OpenClaim := { program := "ytflebdkgdnfjoaagreat", sum := "2defe97456a14bc73d0638f3068d7eaa09e3103beea02a4ce50b1e61a9cca539", func := "contango/contangolaw30.ClientAlone", spec := "clientAlone", inPlace := ["slices.overlaps[int]"], unfollowed := true, recurses := true, named := ["math/bits.divideError", "math/bits.overflowError"], plainKeys := false, apart := false }
def ClientAloneSaid : Prop := clientAloneRow.holds Tryz.pinned (OpenSpec.ofChange clientAloneSpec)

/-- ITS FALSE NEIGHBOUR: 'it returns false'. Refute it at one input. -/
def clientAloneWrong : ChangeSpec := { name := "clientAlone", fn := fun _ => fun
  | [d1, d2, d3] => { results := [.lit (.bool false)], args := [d1, d2, d3] }
  | _ => none }
def ClientAloneWrongFalsely : Prop := clientAloneRow.holds Tryz.pinned (OpenSpec.ofChange clientAloneWrong)

/-- 'contangolaw30.ClientAll': WHATEVER THE INPUT: true; the input reads as it did. -/
def clientAllSpec : ChangeSpec := { name := "clientAll", fn := fun _ => fun
  | [d] => { results := [.lit (.bool true)], args := [d] }
  | _ => none }
def clientAllRow : OpenClaim := { program := "ytflebdkgdnfjoaagreat", sum := "2defe97456a14bc73d0638f3068d7eaa09e3103beea02a4ce50b1e61a9cca539", func := "contango/contangolaw30.ClientAll", spec := "clientAll", inPlace := ["slices.overlaps[int]"], unfollowed := true, recurses := true, named := ["math/bits.divideError", "math/bits.overflowError"], plainKeys := false, apart := false }
def ClientAllSaid : Prop := clientAllRow.holds Tryz.pinned (OpenSpec.ofChange clientAllSpec)

/-- ITS FALSE NEIGHBOUR: 'it returns false'. Refute it at one input. -/
def clientAllWrong : ChangeSpec := { name := "clientAll", fn := fun _ => fun
  | [d] => { results := [.lit (.bool false)], args := [d] }
  | _ => none }
def ClientAllWrongFalsely : Prop := clientAllRow.holds Tryz.pinned (OpenSpec.ofChange clientAllWrong)

/-- 'contangotop.TopMarginDay': WHATEVER THE INPUT: true; the input reads as it did. -/
def topMarginDaySpec : ChangeSpec := { name := "topMarginDay", fn := fun _ => fun
  | [d1, d2, d3] => { results := [.lit (.bool true)], args := [d1, d2, d3] }
  | _ => none }
def topMarginDayRow : OpenClaim := { program := "ytflebdkgdnfjoaagreat", sum := "2defe97456a14bc73d0638f3068d7eaa09e3103beea02a4ce50b1e61a9cca539", func := "contango/contangotop.TopMarginDay", spec := "topMarginDay", inPlace := ["slices.overlaps[int]"], unfollowed := true, recurses := true, named := ["math/bits.divideError", "math/bits.overflowError"], plainKeys := false, apart := false }
def TopMarginDaySaid : Prop := topMarginDayRow.holds Tryz.pinned (OpenSpec.ofChange topMarginDaySpec)

/-- ITS FALSE NEIGHBOUR: 'it returns false'. Refute it at one input. -/
def topMarginDayWrong : ChangeSpec := { name := "topMarginDay", fn := fun _ => fun
  | [d1, d2, d3] => { results := [.lit (.bool false)], args := [d1, d2, d3] }
  | _ => none }
def TopMarginDayWrongFalsely : Prop := topMarginDayRow.holds Tryz.pinned (OpenSpec.ofChange topMarginDayWrong)

/- THE SECOND FORM. 'bulk': how many values and letters a reading holds, each counted each time it is reached (what is shared counts as often as it is met; a slice's spare places count too). A statement '..UptoSaid' is the law's where the arguments, and the package variables that the reading takes, are together of bulk at most 1048576: NARROWER than '..Said'. Prove '..Said' where nothing that the law and all that it calls make is longer than what came in: it says more and counts as full. Else prove '..UptoSaid'. A law counts once. -/
mutual
def uptoBulk {H : Type} : DataW H → Nat
  | .lit (.string bytes) => bytes.length + 1
  | .lit _ => 1
  | .nil => 1
  | .ptr d => uptoBulk d + 1
  | .slice elems spare => uptoBulkAll elems + uptoBulkAll spare + 1
  | .agg parts => uptoBulkAll parts + 1
  | .iface _ d => uptoBulk d + 1
  | .map entries => uptoBulkEntries entries + 1
  | .held _ => 1
def uptoBulkAll {H : Type} : List (DataW H) → Nat
  | [] => 0
  | d :: r => uptoBulk d + uptoBulkAll r
def uptoBulkEntries {H : Type} : List (Lit × DataW H) → Nat
  | [] => 0
  | x :: r => uptoBulkEntry x + uptoBulkEntries r
def uptoBulkEntry {H : Type} : Lit × DataW H → Nat
  | (.string bytes, d) => bytes.length + uptoBulk d + 1
  | (_, d) => uptoBulk d + 1
 end
def uptoSmall : (H : Type) → List (DataW H) → Bool := fun _ ds => decide (uptoBulkAll ds ≤ 1048576)
def OpenSpec.upto (s : _root_.Go.ChangeSpec) : _root_.Go.OpenSpec := { _root_.Go.OpenSpec.ofChange s with cond := some uptoSmall }

/-- 'contangolaw20.VaryAll', WHERE WHAT IT READS IS OF BULK AT MOST 1048576: true; the input reads as it did. -/
def varyAllUptoRow : OpenClaim := { program := "ytflebdkgdnfjoaagreat", sum := "2defe97456a14bc73d0638f3068d7eaa09e3103beea02a4ce50b1e61a9cca539", func := "contango/contangolaw20.VaryAll", spec := "varyAll", unfollowed := true, recurses := true, plainKeys := false, apart := false, narrowed := true }
def VaryAllUptoSaid : Prop := varyAllUptoRow.holds Tryz.pinned (OpenSpec.upto varyAllSpec)

/-- 'contangolaw29.MarginChecks', WHERE WHAT IT READS IS OF BULK AT MOST 1048576: true; the input reads as it did. -/
def marginChecksUptoRow : OpenClaim := { program := "ytflebdkgdnfjoaagreat", sum := "2defe97456a14bc73d0638f3068d7eaa09e3103beea02a4ce50b1e61a9cca539", func := "contango/contangolaw29.MarginChecks", spec := "marginChecks", inPlace := ["slices.overlaps[int]"], unfollowed := true, recurses := true, named := ["math/bits.divideError", "math/bits.overflowError"], plainKeys := false, apart := false, narrowed := true }
def MarginChecksUptoSaid : Prop := marginChecksUptoRow.holds Tryz.pinned (OpenSpec.upto marginChecksSpec)

/-- 'contangolaw29.MarginAccounts', WHERE WHAT IT READS IS OF BULK AT MOST 1048576: true; the input reads as it did. -/
def marginAccountsUptoRow : OpenClaim := { program := "ytflebdkgdnfjoaagreat", sum := "2defe97456a14bc73d0638f3068d7eaa09e3103beea02a4ce50b1e61a9cca539", func := "contango/contangolaw29.MarginAccounts", spec := "marginAccounts", inPlace := ["slices.overlaps[int]"], unfollowed := true, recurses := true, named := ["math/bits.divideError", "math/bits.overflowError"], plainKeys := false, apart := false, narrowed := true }
def MarginAccountsUptoSaid : Prop := marginAccountsUptoRow.holds Tryz.pinned (OpenSpec.upto marginAccountsSpec)

/-- 'contangolaw29.MarginNever', WHERE WHAT IT READS IS OF BULK AT MOST 1048576: true; the input reads as it did. -/
def marginNeverUptoRow : OpenClaim := { program := "ytflebdkgdnfjoaagreat", sum := "2defe97456a14bc73d0638f3068d7eaa09e3103beea02a4ce50b1e61a9cca539", func := "contango/contangolaw29.MarginNever", spec := "marginNever", inPlace := ["slices.overlaps[int]"], unfollowed := true, recurses := true, named := ["math/bits.divideError", "math/bits.overflowError"], plainKeys := false, apart := false, narrowed := true }
def MarginNeverUptoSaid : Prop := marginNeverUptoRow.holds Tryz.pinned (OpenSpec.upto marginNeverSpec)

/-- 'contangolaw29.MarginNetted', WHERE WHAT IT READS IS OF BULK AT MOST 1048576: true; the input reads as it did. -/
def marginNettedUptoRow : OpenClaim := { program := "ytflebdkgdnfjoaagreat", sum := "2defe97456a14bc73d0638f3068d7eaa09e3103beea02a4ce50b1e61a9cca539", func := "contango/contangolaw29.MarginNetted", spec := "marginNetted", inPlace := ["slices.overlaps[int]"], unfollowed := true, recurses := true, named := ["math/bits.divideError", "math/bits.overflowError"], plainKeys := false, apart := false, narrowed := true }
def MarginNettedUptoSaid : Prop := marginNettedUptoRow.holds Tryz.pinned (OpenSpec.upto marginNettedSpec)

/-- 'contangolaw29.MarginSums', WHERE WHAT IT READS IS OF BULK AT MOST 1048576: true; the input reads as it did. -/
def marginSumsUptoRow : OpenClaim := { program := "ytflebdkgdnfjoaagreat", sum := "2defe97456a14bc73d0638f3068d7eaa09e3103beea02a4ce50b1e61a9cca539", func := "contango/contangolaw29.MarginSums", spec := "marginSums", inPlace := ["slices.overlaps[int]"], unfollowed := true, recurses := true, named := ["math/bits.divideError", "math/bits.overflowError"], plainKeys := false, apart := false, narrowed := true }
def MarginSumsUptoSaid : Prop := marginSumsUptoRow.holds Tryz.pinned (OpenSpec.upto marginSumsSpec)

/-- 'contangolaw30.ClientNeeds', WHERE WHAT IT READS IS OF BULK AT MOST 1048576: true; the input reads as it did. -/
def clientNeedsUptoRow : OpenClaim := { program := "ytflebdkgdnfjoaagreat", sum := "2defe97456a14bc73d0638f3068d7eaa09e3103beea02a4ce50b1e61a9cca539", func := "contango/contangolaw30.ClientNeeds", spec := "clientNeeds", inPlace := ["slices.overlaps[int]"], unfollowed := true, recurses := true, named := ["math/bits.divideError", "math/bits.overflowError"], plainKeys := false, apart := false, narrowed := true }
def ClientNeedsUptoSaid : Prop := clientNeedsUptoRow.holds Tryz.pinned (OpenSpec.upto clientNeedsSpec)

/-- 'contangolaw30.ClientMembers', WHERE WHAT IT READS IS OF BULK AT MOST 1048576: true; the input reads as it did. -/
def clientMembersUptoRow : OpenClaim := { program := "ytflebdkgdnfjoaagreat", sum := "2defe97456a14bc73d0638f3068d7eaa09e3103beea02a4ce50b1e61a9cca539", func := "contango/contangolaw30.ClientMembers", spec := "clientMembers", inPlace := ["slices.overlaps[int]"], unfollowed := true, recurses := true, named := ["math/bits.divideError", "math/bits.overflowError"], plainKeys := false, apart := false, narrowed := true }
def ClientMembersUptoSaid : Prop := clientMembersUptoRow.holds Tryz.pinned (OpenSpec.upto clientMembersSpec)

/-- 'contangolaw30.ClientSides', WHERE WHAT IT READS IS OF BULK AT MOST 1048576: true; the input reads as it did. -/
def clientSidesUptoRow : OpenClaim := { program := "ytflebdkgdnfjoaagreat", sum := "2defe97456a14bc73d0638f3068d7eaa09e3103beea02a4ce50b1e61a9cca539", func := "contango/contangolaw30.ClientSides", spec := "clientSides", inPlace := ["slices.overlaps[int]"], unfollowed := true, recurses := true, named := ["math/bits.divideError", "math/bits.overflowError"], plainKeys := false, apart := false, narrowed := true }
def ClientSidesUptoSaid : Prop := clientSidesUptoRow.holds Tryz.pinned (OpenSpec.upto clientSidesSpec)

/-- 'contangolaw30.ClientAlone', WHERE WHAT IT READS IS OF BULK AT MOST 1048576: true; the input reads as it did. -/
def clientAloneUptoRow : OpenClaim := { program := "ytflebdkgdnfjoaagreat", sum := "2defe97456a14bc73d0638f3068d7eaa09e3103beea02a4ce50b1e61a9cca539", func := "contango/contangolaw30.ClientAlone", spec := "clientAlone", inPlace := ["slices.overlaps[int]"], unfollowed := true, recurses := true, named := ["math/bits.divideError", "math/bits.overflowError"], plainKeys := false, apart := false, narrowed := true }
def ClientAloneUptoSaid : Prop := clientAloneUptoRow.holds Tryz.pinned (OpenSpec.upto clientAloneSpec)

/-- 'contangolaw30.ClientAll', WHERE WHAT IT READS IS OF BULK AT MOST 1048576: true; the input reads as it did. -/
def clientAllUptoRow : OpenClaim := { program := "ytflebdkgdnfjoaagreat", sum := "2defe97456a14bc73d0638f3068d7eaa09e3103beea02a4ce50b1e61a9cca539", func := "contango/contangolaw30.ClientAll", spec := "clientAll", inPlace := ["slices.overlaps[int]"], unfollowed := true, recurses := true, named := ["math/bits.divideError", "math/bits.overflowError"], plainKeys := false, apart := false, narrowed := true }
def ClientAllUptoSaid : Prop := clientAllUptoRow.holds Tryz.pinned (OpenSpec.upto clientAllSpec)

/-- 'contangotop.TopMarginDay', WHERE WHAT IT READS IS OF BULK AT MOST 1048576: true; the input reads as it did. -/
def topMarginDayUptoRow : OpenClaim := { program := "ytflebdkgdnfjoaagreat", sum := "2defe97456a14bc73d0638f3068d7eaa09e3103beea02a4ce50b1e61a9cca539", func := "contango/contangotop.TopMarginDay", spec := "topMarginDay", inPlace := ["slices.overlaps[int]"], unfollowed := true, recurses := true, named := ["math/bits.divideError", "math/bits.overflowError"], plainKeys := false, apart := false, narrowed := true }
def TopMarginDayUptoSaid : Prop := topMarginDayUptoRow.holds Tryz.pinned (OpenSpec.upto topMarginDaySpec)

end Rows
end Go.Proofs.YtflebdkgdnfjoaaGreat
