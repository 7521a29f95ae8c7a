import Derived.Test.YtflebdkgdnfjoaaMiRowHistTurned
import Derived.Test.YtflebdkgdnfjoaaLU
/- HistTurned of law package 27 (what is turned round gains what it lost, and twice the lots would have lost twice as much): proved whatever the input. -/
namespace Go.Proofs.Ytflebdkgdnfjoaa
theorem histTurned_holds : Rows.HistTurnedSaid := histTurned.proved lawTurned
#print axioms histTurned_holds
end Go.Proofs.Ytflebdkgdnfjoaa
