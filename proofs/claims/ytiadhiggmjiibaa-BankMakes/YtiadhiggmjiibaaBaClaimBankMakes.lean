import Derived.Test.YtiadhiggmjiibaaBaRowBankMakes
import Derived.Test.YtiadhiggmjiibaaLS
/- BankMakes of law package 36 (Check and Make agree with the reference): proved whatever the input. -/
namespace Go.Proofs.Ytiadhiggmjiibaa
theorem bankMakes_holds : Rows.BankMakesSaid := bankMakes.proved lawMakes
#print axioms bankMakes_holds
end Go.Proofs.Ytiadhiggmjiibaa
