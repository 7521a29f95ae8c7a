import Derived.Test.YtemajhloddkifaaLwRowFlowSums
import Derived.Test.YtemajhloddkifaaLwSums
/- FlowSums of law package 22 (flow.Sum, flow.Of and flow.Zero agree with the reference for any flows): proved whatever the input. -/
namespace Go.Proofs.Ytemajhloddkifaa
theorem flowSums_holds : Rows.FlowSumsSaid := flowSums.proved lawSums
#print axioms flowSums_holds
end Go.Proofs.Ytemajhloddkifaa
