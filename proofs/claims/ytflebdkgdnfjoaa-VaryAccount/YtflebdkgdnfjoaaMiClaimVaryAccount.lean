import Derived.Test.YtflebdkgdnfjoaaMiRowVaryAccount
import Derived.Test.YtflebdkgdnfjoaaLZA
/- VaryAccount of law package 20 (Account agrees with the reference): proved whatever the input. -/
namespace Go.Proofs.Ytflebdkgdnfjoaa
theorem varyAccount_holds : Rows.VaryAccountSaid := varyAccount.proved lawAccount
#print axioms varyAccount_holds
end Go.Proofs.Ytflebdkgdnfjoaa
