import Derived.Test.YtiadhiggmjiibaaBaRowBankOpens
import Derived.Test.YtiadhiggmjiibaaLS
/- BankOpens of law package 36 (Open and Of agree with the reference): proved whatever the input. -/
namespace Go.Proofs.Ytiadhiggmjiibaa
theorem bankOpens_holds : Rows.BankOpensSaid := bankOpens.proved lawOpens
#print axioms bankOpens_holds
end Go.Proofs.Ytiadhiggmjiibaa
