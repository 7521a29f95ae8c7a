import Derived.Test.YtemajhloddkifaaLwRowFlowTurned
import Derived.Test.YtemajhloddkifaaLQ
/- FlowTurned of law package 22 (flows and their negations add up to zero and are netted to nothing): proved whatever the input. -/
namespace Go.Proofs.Ytemajhloddkifaa
theorem flowTurned_holds : Rows.FlowTurnedSaid := flowTurned.proved lawTurned
#print axioms flowTurned_holds
end Go.Proofs.Ytemajhloddkifaa
