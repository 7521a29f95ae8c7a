import Derived.Test.YtemajhloddkifaaLwRowFlowOrder
import Derived.Test.YtemajhloddkifaaLQ
/- FlowOrder of law package 22 (Net does not depend on the order of flows, is unchanged by netting again, and preserves all sums): proved whatever the input. -/
namespace Go.Proofs.Ytemajhloddkifaa
theorem flowOrder_holds : Rows.FlowOrderSaid := flowOrder.proved lawOrder
#print axioms flowOrder_holds
end Go.Proofs.Ytemajhloddkifaa
