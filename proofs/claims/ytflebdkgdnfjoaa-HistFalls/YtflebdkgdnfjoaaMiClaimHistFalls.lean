import Derived.Test.YtflebdkgdnfjoaaMiRowHistFalls
import Derived.Test.YtflebdkgdnfjoaaLU
/- HistFalls of law package 27 (the worst losses are ordered, and the shortfall lies between them): proved whatever the input. -/
namespace Go.Proofs.Ytflebdkgdnfjoaa
theorem histFalls_holds : Rows.HistFallsSaid := histFalls.proved lawFalls
#print axioms histFalls_holds
end Go.Proofs.Ytflebdkgdnfjoaa
