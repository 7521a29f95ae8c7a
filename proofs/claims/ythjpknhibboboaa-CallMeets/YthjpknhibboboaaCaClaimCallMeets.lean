import Derived.Test.YthjpknhibboboaaCaRowCallMeets
import Derived.Test.YthjpknhibboboaaLR
/- CallMeets of law package 37 (Meet agrees with the reference): proved whatever the input. -/
namespace Go.Proofs.Ythjpknhibboboaa
theorem callMeets_holds : Rows.CallMeetsSaid := callMeets.proved lawMeets
#print axioms callMeets_holds
end Go.Proofs.Ythjpknhibboboaa
