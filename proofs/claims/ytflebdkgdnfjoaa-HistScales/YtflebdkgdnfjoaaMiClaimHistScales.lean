import Derived.Test.YtflebdkgdnfjoaaMiRowHistScales
import Derived.Test.YtflebdkgdnfjoaaLU
/- HistScales of law package 27 (what is scaled and what is held beyond agree with the reference): proved whatever the input. -/
namespace Go.Proofs.Ytflebdkgdnfjoaa
theorem histScales_holds : Rows.HistScalesSaid := histScales.proved lawScales
#print axioms histScales_holds
end Go.Proofs.Ytflebdkgdnfjoaa
