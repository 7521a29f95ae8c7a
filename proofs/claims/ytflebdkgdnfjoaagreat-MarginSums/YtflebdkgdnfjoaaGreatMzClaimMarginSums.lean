import Derived.Test.YtflebdkgdnfjoaaGreatMzRowMarginSums
import Derived.Test.YtflebdkgdnfjoaaGreatLZ
/- MarginSums of law package 29 (Sum and Of agree with the reference): proved whatever the input. -/
namespace Go.Proofs.YtflebdkgdnfjoaaGreat
theorem marginSums_holds : Rows.MarginSumsSaid := marginSums.proved lawSums
#print axioms marginSums_holds
end Go.Proofs.YtflebdkgdnfjoaaGreat
