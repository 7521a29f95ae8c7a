import Derived.Test.YtemajhloddkifaaAxFuel
import Derived.Test.YtemajhloddkifaaLK
namespace Go.Proofs
open Ax Go
def ghT (f r : Nat) : List Ghost := match f, r with | 11, 6 => [.fresh 5] | 11, 14 => [.adopt 5] | _, _ => []
noncomputable def cxT : Ctx where
  P := Try.prog
  inl := fun _ => false
  keep := fun _ _ => none
  keepX := fun _ _ => none
  xf := fun _ _ _ => false
  ow := fun _ => true
  gh := ghT
  gf := fun _ => []
  ln := fun _ => false
  srt := srtT
set_option maxRecDepth 20000
theorem goesOK : CallOK Try.prog 9 [] (fun r => r = .bool true) :=
  lfp_sound (cx := cxT) rfl progOK (fuel_call (calm := yesCalm) 80 (q := isTrueAV) (fun r h => isTrueAV_of h) (by decide +kernel))
end Go.Proofs

