import Derived.Test.YtiadhiggmjiibaaBaRowBankTurns
import Derived.Test.YtiadhiggmjiibaaLS
/- BankTurns of law package 36 (Done, Fail and Late agree with the reference): proved whatever the input. -/
namespace Go.Proofs.Ytiadhiggmjiibaa
theorem bankTurns_holds : Rows.BankTurnsSaid := bankTurns.proved lawTurns
#print axioms bankTurns_holds
end Go.Proofs.Ytiadhiggmjiibaa
