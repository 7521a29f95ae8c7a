import Derived.Test.YthjpknhibboboaaCaRowCallPays
import Derived.Test.YthjpknhibboboaaCaPays
/- CallPays of law package 37 (the amount paid reduces what is lacking to the cent, in the order of due days): proved whatever the input. -/
namespace Go.Proofs.Ythjpknhibboboaa
theorem callPays_holds : Rows.CallPaysSaid := callPays.proved lawPays
#print axioms callPays_holds
end Go.Proofs.Ythjpknhibboboaa
