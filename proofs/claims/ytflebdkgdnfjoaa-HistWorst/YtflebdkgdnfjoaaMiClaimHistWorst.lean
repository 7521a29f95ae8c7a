import Derived.Test.YtflebdkgdnfjoaaMiRowHistWorst
import Derived.Test.YtflebdkgdnfjoaaLX
/- HistWorst of law package 27 (Worst and Shortfall agree with the reference): proved whatever the input. -/
namespace Go.Proofs.Ytflebdkgdnfjoaa
theorem histWorst_holds : Rows.HistWorstSaid := histWorst.proved lawWorst
#print axioms histWorst_holds
end Go.Proofs.Ytflebdkgdnfjoaa
