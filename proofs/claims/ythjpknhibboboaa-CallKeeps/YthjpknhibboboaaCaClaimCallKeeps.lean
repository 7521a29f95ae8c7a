import Derived.Test.YthjpknhibboboaaCaRowCallKeeps
import Derived.Test.YthjpknhibboboaaLS
/- CallKeeps of law package 37 (the operations keep a list of calls valid): proved whatever the input. -/
namespace Go.Proofs.Ythjpknhibboboaa
theorem callKeeps_holds : Rows.CallKeepsSaid := callKeeps.proved lawKeeps
#print axioms callKeeps_holds
end Go.Proofs.Ythjpknhibboboaa
