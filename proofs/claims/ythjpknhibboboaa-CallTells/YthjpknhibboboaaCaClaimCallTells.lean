import Derived.Test.YthjpknhibboboaaCaRowCallTells
import Derived.Test.YthjpknhibboboaaLR
/- CallTells of law package 37 (Open, Late and Clean agree with the reference): proved whatever the input. -/
namespace Go.Proofs.Ythjpknhibboboaa
theorem callTells_holds : Rows.CallTellsSaid := callTells.proved lawTells
#print axioms callTells_holds
end Go.Proofs.Ythjpknhibboboaa
