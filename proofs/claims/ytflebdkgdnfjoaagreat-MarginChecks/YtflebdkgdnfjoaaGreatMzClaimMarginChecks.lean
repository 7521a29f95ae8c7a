import Derived.Test.YtflebdkgdnfjoaaGreatMzRowMarginChecks
import Derived.Test.YtflebdkgdnfjoaaGreatLZC
/- MarginChecks of law package 29 (margin.Check tells of any rules and products what the reference tells): proved whatever the input. -/
namespace Go.Proofs.YtflebdkgdnfjoaaGreat
theorem marginChecks_holds : Rows.MarginChecksSaid := marginChecks.proved lawChecks
#print axioms marginChecks_holds
end Go.Proofs.YtflebdkgdnfjoaaGreat
