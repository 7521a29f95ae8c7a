import Derived.Test.YthjpknhibboboaaCaRowCallMakes
import Derived.Test.YthjpknhibboboaaLR
/- CallMakes of law package 37 (Check and Make agree with the reference): proved whatever the input. -/
namespace Go.Proofs.Ythjpknhibboboaa
theorem callMakes_holds : Rows.CallMakesSaid := callMakes.proved lawMakes
#print axioms callMakes_holds
end Go.Proofs.Ythjpknhibboboaa
