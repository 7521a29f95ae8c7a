import Derived.Test.YtiadhiggmjiibaaBaRowBankOnce
import Derived.Test.YtiadhiggmjiibaaBaOnce
/- BankOnce of law package 36 (a payment that is done or failed remains so, and others are unchanged): proved whatever the input. -/
namespace Go.Proofs.Ytiadhiggmjiibaa
theorem bankOnce_holds : Rows.BankOnceSaid := bankOnce.proved lawOnce
#print axioms bankOnce_holds
end Go.Proofs.Ytiadhiggmjiibaa
