import Derived.Test.YtflebdkgdnfjoaaMiRowVaryCarries
import Derived.Test.YtflebdkgdnfjoaaLX
/- VaryCarries of law package 20 (Carried and Fresh agree with the reference, and consecutive price changes add up): proved whatever the input. -/
namespace Go.Proofs.Ytflebdkgdnfjoaa
theorem varyCarries_holds : Rows.VaryCarriesSaid := varyCarries.proved lawCarries
#print axioms varyCarries_holds
end Go.Proofs.Ytflebdkgdnfjoaa
