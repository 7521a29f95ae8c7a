import Derived.Test.YtemajhloddkifaaLwRowFlowPicks
import Derived.Test.YtemajhloddkifaaLR
/- FlowPicks of law package 22 (Why, Pays and Turned agree with the reference for any flows): proved whatever the input. -/
namespace Go.Proofs.Ytemajhloddkifaa
theorem flowPicks_holds : Rows.FlowPicksSaid := flowPicks.proved lawPicks
#print axioms flowPicks_holds
end Go.Proofs.Ytemajhloddkifaa
