import Derived.Test.YtiadhiggmjiibaaBaRowBankNets
import Derived.Test.YtiadhiggmjiibaaLT
/- BankNets of law package 36 (the payments amount to the flows in each currency): proved whatever the input. -/
namespace Go.Proofs.Ytiadhiggmjiibaa
theorem bankNets_holds : Rows.BankNetsSaid := bankNets.proved lawNets
#print axioms bankNets_holds
end Go.Proofs.Ytiadhiggmjiibaa
