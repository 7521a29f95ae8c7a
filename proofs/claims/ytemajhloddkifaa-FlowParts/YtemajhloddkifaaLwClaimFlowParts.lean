import Derived.Test.YtemajhloddkifaaLwRowFlowParts
import Derived.Test.YtemajhloddkifaaLwParts
/- FlowParts of law package 22 (the totals of a member over two lists of flows add up): proved whatever the input. -/
namespace Go.Proofs.Ytemajhloddkifaa
theorem flowParts_holds : Rows.FlowPartsSaid := flowParts.proved lawParts
#print axioms flowParts_holds
end Go.Proofs.Ytemajhloddkifaa
