import Derived.Test.YtflebdkgdnfjoaaMiRowHistLosses
import Derived.Test.YtflebdkgdnfjoaaLU
/- HistLosses of law package 27 (losses of a history agree with the reference): proved whatever the input. -/
namespace Go.Proofs.Ytflebdkgdnfjoaa
theorem histLosses_holds : Rows.HistLossesSaid := histLosses.proved lawLosses
#print axioms histLosses_holds
end Go.Proofs.Ytflebdkgdnfjoaa
