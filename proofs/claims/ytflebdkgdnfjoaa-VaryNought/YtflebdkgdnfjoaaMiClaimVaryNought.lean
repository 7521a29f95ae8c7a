import Derived.Test.YtflebdkgdnfjoaaMiRowVaryNought
import Derived.Test.YtflebdkgdnfjoaaLZ
/- VaryNought of law package 20 (Zero agrees with the reference): proved whatever the input. -/
namespace Go.Proofs.Ytflebdkgdnfjoaa
theorem varyNought_holds : Rows.VaryNoughtSaid := varyNought.proved lawNought
#print axioms varyNought_holds
end Go.Proofs.Ytflebdkgdnfjoaa
