import Derived.Test.YtflebdkgdnfjoaaAxFuel
import Derived.Test.YtflebdkgdnfjoaaLM
import Derived.Test.YtflebdkgdnfjoaaLV
namespace Go.Proofs
open Ax Go
noncomputable def cxG20 : Ctx where
  P := Try.prog
  inl := fun _ => false
  keep := fun _ _ => none
  keepX := fun _ _ => none
  xf := fun _ _ _ => false
  ow := fun _ => true
  gh := fun _ _ => []
  gf := fun f => match f with | 52 => [.shutC 2] | _ => []
  ln := fun _ => false
  srt := srtT
set_option maxRecDepth 100000
end Go.Proofs


namespace Go.Proofs
open Ax Go
set_option maxRecDepth 100000
theorem goes20 : CallOK Try.prog 17 [] (fun r => r = .bool true) :=
  lfp_sound (cx := cxG20) rfl progOK (fuel_call (calm := calmT) 120 (q := isTrueAV) (fun r h => isTrueAV_of h) (by decide +kernel))
end Go.Proofs


set_option linter.unusedVariables false
set_option linter.unusedSimpArgs false
namespace Go.Proofs
open Ax Go
set_option maxRecDepth 10000
noncomputable def cxLC : Ctx where
  P := Try.prog
  inl := fun _ => false
  keep := fun _ _ => none
  keepX := fun _ _ => none
  xf := fun _ _ _ => false
  ow := fun _ => false
  gh := fun _ _ => []
  gf := fun _ => []
  ln := fun _ => false
  srt := srtT
theorem okLC {f a Q} (h : stepCall (SX Try.prog calmT) cxLC calmT f a Q) : CallOK Try.prog f a Q := okOf (cx := cxLC) rfl progOK h
set_option maxHeartbeats 4000000 in
theorem lawCarries : ∀ xs, TypedArgs Try.prog 8 Try.f3.params.toList xs → CallOK Try.prog 3 xs (fun r => r = .bool true) := by
  intro xs h
  obtain ⟨a, r, rfl, ha, b, r', rfl, hb, c, r'', rfl, hc, rfl⟩ := h
  obtain ⟨p, rfl, hp⟩ := arg_pr ha
  obtain ⟨g, rfl⟩ := arg_lg hb
  obtain ⟨x, y, z, rfl⟩ := arg_three hc
  refine okLC ?_
  have hs : p.n.size ≤ 9223372036854775807 := hp
  have k1 := carried p g.q x y
  have k2 := refCarried p g.q x y hs
  have k3 := fresh p g x
  have k4 := refFresh p g x hs
  have k5 := carried p g.q y z
  have k6 := carried p g.q x z
  have h0 := @car_add p g.q x y z
  generalize carE p g.q x y = e1 at *
  generalize carE p g.q g.pr x = e2 at *
  generalize carE p g.q y z = e3 at *
  generalize carE p g.q x z = e4 at *
  by_cases c1 : e1.2 = 0 ∧ e3.2 = 0
  · obtain ⟨h1, h2⟩ := h0 c1.1 c1.2
    obtain ⟨c1, c2⟩ := c1
    conv => whnf
    repeat' ((first | with_reducible refine bT rfl ?_ | with_reducible refine bF rfl ?_ | (refine sN ?_; (conv => whnf); refine bT (by first | rfl | exact iR8 _ | exact uNN _ | exact iR (by omega) | exact iR (by rw [hw]; omega) | exact nBlt (by omega) | exact nBle (by omega) | (simp; omega)) ?_) | (refine sA ?_; (conv => whnf); refine bT (roomL (by omega) rfl) ?_) | (refine sS ?_; (conv => whnf); refine bT (by first | rfl | exact iR8 _ | exact uNN _ | exact iR (by omega) | exact iR (by rw [hw]; omega) | exact nBlt (by omega) | exact nBle (by omega) | (simp; omega)) ?_) | (refine sM ?_; (conv => whnf); refine bT (mkOK (by omega) (by omega) (by omega) rfl) ?_) | (refine sC ?_; (conv => whnf); refine bT (nBle (by first | omega | (simp; omega))) ?_) | refine bDt (by omega) ?_ | refine bDf (by omega) ?_ | refine bNt (by omega) ?_ | refine bNf (by omega) ?_ | refine call_is k1 ?_ | refine call_is k2 ?_ | refine call_is k3 ?_ | refine call_is k4 ?_ | refine call_is k5 ?_ | refine call_is k6 ?_ | refine call_is goes20 ?_ | refine bDt rfl ?_ | refine bNf rfl ?_ | refine bDt c1 ?_ | refine bNf c1 ?_ | refine bDt c2 ?_ | refine bNf c2 ?_ | refine bDt h1 ?_ | refine bNf h1 ?_ | refine bDt h2 ?_ | refine bD (fun _ => ?_) (fun _ => ?_) | refine bN (fun _ => ?_) (fun _ => ?_) | refine bB (fun hb => ?_) (fun hb => ?_)) <;> conv => whnf)
    all_goals rfl
  · conv => whnf
    repeat' ((first | with_reducible refine bT rfl ?_ | with_reducible refine bF rfl ?_ | (refine sN ?_; (conv => whnf); refine bT (by first | rfl | exact iR8 _ | exact uNN _ | exact iR (by omega) | exact iR (by rw [hw]; omega) | exact nBlt (by omega) | exact nBle (by omega) | (simp; omega)) ?_) | (refine sA ?_; (conv => whnf); refine bT (roomL (by omega) rfl) ?_) | (refine sS ?_; (conv => whnf); refine bT (by first | rfl | exact iR8 _ | exact uNN _ | exact iR (by omega) | exact iR (by rw [hw]; omega) | exact nBlt (by omega) | exact nBle (by omega) | (simp; omega)) ?_) | (refine sM ?_; (conv => whnf); refine bT (mkOK (by omega) (by omega) (by omega) rfl) ?_) | (refine sC ?_; (conv => whnf); refine bT (nBle (by first | omega | (simp; omega))) ?_) | refine bDt (by omega) ?_ | refine bDf (by omega) ?_ | refine bNt (by omega) ?_ | refine bNf (by omega) ?_ | refine call_is k1 ?_ | refine call_is k2 ?_ | refine call_is k3 ?_ | refine call_is k4 ?_ | refine call_is k5 ?_ | refine call_is k6 ?_ | refine call_is goes20 ?_ | refine bDt rfl ?_ | refine bNf rfl ?_ | refine bD (fun _ => ?_) (fun _ => ?_) | refine bN (fun _ => ?_) (fun _ => ?_) | refine bB (fun hb => ?_) (fun hb => ?_)) <;> conv => whnf)
    all_goals rfl
end Go.Proofs

