import Derived.Test.YtemajhloddkifaaLwRowFlowNets
import Derived.Test.YtemajhloddkifaaLS
/- FlowNets of law package 22 (Check and Net accept or reject any flows as specified; the arguments are not modified): proved whatever the input. -/
namespace Go.Proofs.Ytemajhloddkifaa
theorem flowNets_holds : Rows.FlowNetsSaid := flowNets.proved lawNets
#print axioms flowNets_holds
end Go.Proofs.Ytemajhloddkifaa
