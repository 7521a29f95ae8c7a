import Derived.Test.YtflebdkgdnfjoaaAxFuel
import Derived.Test.YtflebdkgdnfjoaaLM
import Derived.Test.YtflebdkgdnfjoaaLV
namespace Go.Proofs
open Ax Go
noncomputable def cxG20 : Ctx where
  P := Try.prog
  inl := fun _ => false
  keep := fun _ _ => none
  keepX := fun _ _ => none
  xf := fun _ _ _ => false
  ow := fun _ => true
  gh := fun _ _ => []
  gf := fun f => match f with | 52 => [.shutC 2] | _ => []
  ln := fun _ => false
  srt := srtT
set_option maxRecDepth 100000
end Go.Proofs


namespace Go.Proofs
open Ax Go
set_option maxRecDepth 100000
theorem goes20 : CallOK Try.prog 17 [] (fun r => r = .bool true) :=
  lfp_sound (cx := cxG20) rfl progOK (fuel_call (calm := calmT) 120 (q := isTrueAV) (fun r h => isTrueAV_of h) (by decide +kernel))
end Go.Proofs


set_option linter.unusedVariables false
set_option linter.unusedSimpArgs false
namespace Go.Proofs
open Ax Go
set_option maxRecDepth 10000
def keepMa (f r : Nat) : Option (List Nat) := match f, r with
  | 50, 4 => some [0, 8, 9, 10]
  | 102, 4 => some [0, 3]
  | 60, 2 => some [0, 3, 6]
  | 131, 2 => some [0, 1, 7, 8]
  | 46, 4 => some [0, 9, 10, 11]
  | 101, 4 => some [0, 3]
  | 97, 2 => some [1, 4, 9, 10, 11]
  | 103, 2 => some [0, 1, 4, 6]
  | _, _ => none
def keepXMa (f r : Nat) : Option (List Nat) := match f, r with
  | 50, 4 => some [2]
  | 102, 4 => some [2]
  | 60, 2 => some [4, 5]
  | 131, 2 => some [4]
  | 46, 4 => some [2]
  | 101, 4 => some [2]
  | 97, 2 => some [4, 5]
  | 103, 2 => some [4, 5]
  | _, _ => none
noncomputable def cxMa : Ctx where
  P := Try.prog
  inl := fun f => memN f [131, 97]
  keep := keepMa
  keepX := keepXMa
  xf := fun _ _ _ => false
  ow := fun _ => false
  gh := fun _ _ => []
  gf := fun _ => []
  ln := fun _ => false
  srt := srtT
theorem okMa {f a Q} (h : stepCall (SX Try.prog calmT) cxMa calmT f a Q) : CallOK Try.prog f a Q := okOf (cx := cxMa) rfl progOK h
structure Mk where
  s : Sr
  p : Int
def encMk (x : Mk) : AV := .agg [.str x.s.p, .int .i64 x.s.k, .int .i64 x.s.e, .int .i64 x.s.s, .int .i64 x.p]
def EMk : Enc Mk := ⟨5, encMk, ⟨⟨ByteArray.empty, 0, 0, 0⟩, 0⟩⟩
def mkAt (l : List Mk) (i : Nat) : Int :=
  if 0 < i ∧ 0 ≤ cmpR (l.getD (i - 1) EMk.d).s (l.getD i EMk.d).s then 19
  else if -16777216 ≤ (l.getD i EMk.d).p ∧ (l.getD i EMk.d).p ≤ 16777216 then 0 else 17
def mkE (l : List Mk) : Int := if 128 < l.length then 8 else firstE (mkAt l) l.length 0
theorem mprice (n : Int) : CallOK Try.prog 94 [.int .i64 n] (fun r => r = .bool (decide (-16777216 ≤ n ∧ n ≤ 16777216))) := by
  refine okMa ?_
  conv => whnf
  repeat' ((first | with_reducible refine bT rfl ?_ | with_reducible refine bF rfl ?_ | (refine sN ?_; (conv => whnf); refine bT (by first | rfl | exact iR8 _ | exact uNN _ | exact iR (by omega) | exact iR (by rw [hw]; omega) | exact nBlt (by omega) | exact nBle (by omega) | (simp; omega)) ?_) | (refine sA ?_; (conv => whnf); refine bT (roomL (by omega) rfl) ?_) | (refine sS ?_; (conv => whnf); refine bT (by first | rfl | exact iR8 _ | exact uNN _ | exact iR (by omega) | exact iR (by rw [hw]; omega) | exact nBlt (by omega) | exact nBle (by omega) | (simp; omega)) ?_) | (refine sM ?_; (conv => whnf); refine bT (mkOK (by omega) (by omega) (by omega) rfl) ?_) | (refine sC ?_; (conv => whnf); refine bT (nBle (by first | omega | (simp; omega))) ?_) | refine bDt (by omega) ?_ | refine bDf (by omega) ?_ | refine bNt (by omega) ?_ | refine bNf (by omega) ?_ | refine bD (fun _ => ?_) (fun _ => ?_) | refine bN (fun _ => ?_) (fun _ => ?_)) <;> conv => whnf)
  · exact congrArg AV.bool (decide_eq_decide.2 (by omega))
  · exact congrArg AV.bool (decide_eq_false (by omega)).symm
theorem refWithin18 (n a b : Int) : CallOK Try.prog 133 [.int .i64 n, .int .i64 a, .int .i64 b] (fun r => r = .bool (decide (a ≤ n ∧ n ≤ b))) := by
  refine okMa ?_
  conv => whnf
  repeat' ((first | with_reducible refine bT rfl ?_ | with_reducible refine bF rfl ?_ | (refine sN ?_; (conv => whnf); refine bT (by first | rfl | exact iR8 _ | exact uNN _ | exact iR (by omega) | exact iR (by rw [hw]; omega) | exact nBlt (by omega) | exact nBle (by omega) | (simp; omega)) ?_) | (refine sA ?_; (conv => whnf); refine bT (roomL (by omega) rfl) ?_) | (refine sS ?_; (conv => whnf); refine bT (by first | rfl | exact iR8 _ | exact uNN _ | exact iR (by omega) | exact iR (by rw [hw]; omega) | exact nBlt (by omega) | exact nBle (by omega) | (simp; omega)) ?_) | (refine sM ?_; (conv => whnf); refine bT (mkOK (by omega) (by omega) (by omega) rfl) ?_) | (refine sC ?_; (conv => whnf); refine bT (nBle (by first | omega | (simp; omega))) ?_) | refine bDt (by omega) ?_ | refine bDf (by omega) ?_ | refine bNt (by omega) ?_ | refine bNf (by omega) ?_ | refine bD (fun _ => ?_) (fun _ => ?_) | refine bN (fun _ => ?_) (fun _ => ?_)) <;> conv => whnf)
  · exact congrArg AV.bool (decide_eq_decide.2 (by omega))
  · exact congrArg AV.bool (decide_eq_false (by omega)).symm
theorem mkCheck (l : List Mk) (hl : l.length ≤ 1073741824) : CallOK Try.prog 50 [EMk.L l] (fun r => r = .int .i64 (mkE l)) := by
  refine okMa ?_
  by_cases hlong : 128 < l.length
  · rw [mkE, if_pos hlong]
    conv => whnf
    repeat' ((first | with_reducible refine bT rfl ?_ | with_reducible refine bF rfl ?_ | (refine sN ?_; (conv => whnf); refine bT (by first | rfl | exact iR8 _ | exact uNN _ | exact iR (by omega) | exact iR (by rw [hw]; omega) | exact nBlt (by omega) | exact nBle (by omega) | (simp; omega)) ?_) | (refine sA ?_; (conv => whnf); refine bT (roomL (by omega) rfl) ?_) | (refine sS ?_; (conv => whnf); refine bT (by first | rfl | exact iR8 _ | exact uNN _ | exact iR (by omega) | exact iR (by rw [hw]; omega) | exact nBlt (by omega) | exact nBle (by omega) | (simp; omega)) ?_) | (refine sM ?_; (conv => whnf); refine bT (mkOK (by omega) (by omega) (by omega) rfl) ?_) | (refine sC ?_; (conv => whnf); refine bT (nBle (by first | omega | (simp; omega))) ?_) | refine bDt (by omega) ?_ | refine bDf (by omega) ?_ | refine bNt (by omega) ?_ | refine bNf (by omega) ?_ | refine bD (fun _ => ?_) (fun _ => ?_) | refine bN (fun _ => ?_) (fun _ => ?_)) <;> conv => whnf)
    all_goals rfl
  rw [mkE, if_neg hlong]
  conv => whnf
  repeat' ((first | with_reducible refine bT rfl ?_ | with_reducible refine bF rfl ?_ | (refine sN ?_; (conv => whnf); refine bT (by first | rfl | exact iR8 _ | exact uNN _ | exact iR (by omega) | exact iR (by rw [hw]; omega) | exact nBlt (by omega) | exact nBle (by omega) | (simp; omega)) ?_) | (refine sA ?_; (conv => whnf); refine bT (roomL (by omega) rfl) ?_) | (refine sS ?_; (conv => whnf); refine bT (by first | rfl | exact iR8 _ | exact uNN _ | exact iR (by omega) | exact iR (by rw [hw]; omega) | exact nBlt (by omega) | exact nBle (by omega) | (simp; omega)) ?_) | (refine sM ?_; (conv => whnf); refine bT (mkOK (by omega) (by omega) (by omega) rfl) ?_) | (refine sC ?_; (conv => whnf); refine bT (nBle (by first | omega | (simp; omega))) ?_) | refine bDt (by omega) ?_ | refine bDf (by omega) ?_ | refine bNt (by omega) ?_ | refine bNf (by omega) ?_ | refine bD (fun _ => ?_) (fun _ => ?_) | refine bN (fun _ => ?_) (fun _ => ?_)) <;> conv => whnf)
  refine loop_by (cx := cxMa) rfl progOK (ι := {i : Nat // i ≤ l.length ∧ firstE (mkAt l) (l.length - i) i = firstE (mkAt l) l.length 0}) (fun i => l.length - i.1) (fun i => ⟨[(0, EMk.L l), (8, EMk.L l), (9, .int .i64 l.length), (10, .int .i64 i.1)], [], [], none⟩) ?_ ⟨0, Nat.zero_le _, rfl⟩
  rintro ⟨i, hi, hf⟩ ih
  dsimp only
  by_cases hlt : i < l.length
  · rw [firstE_at hlt] at hf
    have hw0 : 0 < i → IntKind.i64.wrap ((i : Int) - 1) = ((i - 1 : Nat) : Int) := fun h => by rw [wrap64 (by omega)]; omega
    by_cases hc : 0 < i ∧ 0 ≤ cmpR (l.getD (i - 1) EMk.d).s (l.getD i EMk.d).s
    · have hw := hw0 hc.1
      rw [mkAt, if_pos hc, if_neg (by decide)] at hf
      rw [← hf]
      conv => whnf
      repeat' ((first | with_reducible refine bT rfl ?_ | with_reducible refine bF rfl ?_ | (refine sN ?_; (conv => whnf); refine bT (by first | rfl | exact iR8 _ | exact uNN _ | exact iR (by omega) | exact iR (by rw [hw]; omega) | exact nBlt (by omega) | exact nBle (by omega) | (simp; omega)) ?_) | (refine sA ?_; (conv => whnf); refine bT (roomL (by omega) rfl) ?_) | (refine sS ?_; (conv => whnf); refine bT (by first | rfl | exact iR8 _ | exact uNN _ | exact iR (by omega) | exact iR (by rw [hw]; omega) | exact nBlt (by omega) | exact nBle (by omega) | (simp; omega)) ?_) | (refine sM ?_; (conv => whnf); refine bT (mkOK (by omega) (by omega) (by omega) rfl) ?_) | (refine sC ?_; (conv => whnf); refine bT (nBle (by first | omega | (simp; omega))) ?_) | refine bDt (by omega) ?_ | refine bDf (by omega) ?_ | refine bNt (by omega) ?_ | refine bNf (by omega) ?_ | refine call_is (compare _ _) ?_ | refine bDt (by rw [hw]; exact hc.2) ?_ | refine bD (fun _ => ?_) (fun _ => ?_) | refine bN (fun _ => ?_) (fun _ => ?_)) <;> conv => whnf)
      all_goals rfl
    · have hc2 : 0 < i → ¬ 0 ≤ cmpR (l.getD (i - 1) EMk.d).s (l.getD i EMk.d).s := fun hz h => hc ⟨hz, h⟩
      by_cases hq : -16777216 ≤ (l.getD i EMk.d).p ∧ (l.getD i EMk.d).p ≤ 16777216
      · rw [mkAt, if_neg hc, if_pos hq, if_pos rfl] at hf
        have hq' := hq
        rw [← Int.toNat_natCast i] at hq'
        rcases Nat.eq_zero_or_pos i with hz | hz
        · conv => whnf
          repeat' ((first | with_reducible refine bT rfl ?_ | with_reducible refine bF rfl ?_ | (refine sN ?_; (conv => whnf); refine bT (by first | rfl | exact iR8 _ | exact uNN _ | exact iR (by omega) | exact iR (by rw [hw]; omega) | exact nBlt (by omega) | exact nBle (by omega) | (simp; omega)) ?_) | (refine sA ?_; (conv => whnf); refine bT (roomL (by omega) rfl) ?_) | (refine sS ?_; (conv => whnf); refine bT (by first | rfl | exact iR8 _ | exact uNN _ | exact iR (by omega) | exact iR (by rw [hw]; omega) | exact nBlt (by omega) | exact nBle (by omega) | (simp; omega)) ?_) | (refine sM ?_; (conv => whnf); refine bT (mkOK (by omega) (by omega) (by omega) rfl) ?_) | (refine sC ?_; (conv => whnf); refine bT (nBle (by first | omega | (simp; omega))) ?_) | refine bDt (by omega) ?_ | refine bDf (by omega) ?_ | refine bNt (by omega) ?_ | refine bNf (by omega) ?_ | refine call_is (mprice _) ?_ | refine loop_to ih ⟨i + 1, hlt, hf⟩ (show l.length - (i+1) < l.length - i by omega) ?_ | refine bD (fun _ => ?_) (fun _ => ?_) | refine bN (fun _ => ?_) (fun _ => ?_)) <;> conv => whnf)
          all_goals (rw [next_i hlt (by omega)]; rfl)
        · have hw := hw0 hz
          conv => whnf
          repeat' ((first | with_reducible refine bT rfl ?_ | with_reducible refine bF rfl ?_ | (refine sN ?_; (conv => whnf); refine bT (by first | rfl | exact iR8 _ | exact uNN _ | exact iR (by omega) | exact iR (by rw [hw]; omega) | exact nBlt (by omega) | exact nBle (by omega) | (simp; omega)) ?_) | (refine sA ?_; (conv => whnf); refine bT (roomL (by omega) rfl) ?_) | (refine sS ?_; (conv => whnf); refine bT (by first | rfl | exact iR8 _ | exact uNN _ | exact iR (by omega) | exact iR (by rw [hw]; omega) | exact nBlt (by omega) | exact nBle (by omega) | (simp; omega)) ?_) | (refine sM ?_; (conv => whnf); refine bT (mkOK (by omega) (by omega) (by omega) rfl) ?_) | (refine sC ?_; (conv => whnf); refine bT (nBle (by first | omega | (simp; omega))) ?_) | refine bDt (by omega) ?_ | refine bDf (by omega) ?_ | refine bNt (by omega) ?_ | refine bNf (by omega) ?_ | refine call_is (compare _ _) ?_ | refine call_is (mprice _) ?_ | refine bDf (by rw [hw]; exact hc2 hz) ?_ | refine loop_to ih ⟨i + 1, hlt, hf⟩ (show l.length - (i+1) < l.length - i by omega) ?_ | refine bD (fun _ => ?_) (fun _ => ?_) | refine bN (fun _ => ?_) (fun _ => ?_)) <;> conv => whnf)
          all_goals (rw [next_i hlt (by omega)]; rfl)
      · rw [mkAt, if_neg hc, if_neg hq, if_neg (by decide)] at hf
        rw [← hf]
        have hq' := hq
        rw [← Int.toNat_natCast i] at hq'
        rcases Nat.eq_zero_or_pos i with hz | hz
        · conv => whnf
          repeat' ((first | with_reducible refine bT rfl ?_ | with_reducible refine bF rfl ?_ | (refine sN ?_; (conv => whnf); refine bT (by first | rfl | exact iR8 _ | exact uNN _ | exact iR (by omega) | exact iR (by rw [hw]; omega) | exact nBlt (by omega) | exact nBle (by omega) | (simp; omega)) ?_) | (refine sA ?_; (conv => whnf); refine bT (roomL (by omega) rfl) ?_) | (refine sS ?_; (conv => whnf); refine bT (by first | rfl | exact iR8 _ | exact uNN _ | exact iR (by omega) | exact iR (by rw [hw]; omega) | exact nBlt (by omega) | exact nBle (by omega) | (simp; omega)) ?_) | (refine sM ?_; (conv => whnf); refine bT (mkOK (by omega) (by omega) (by omega) rfl) ?_) | (refine sC ?_; (conv => whnf); refine bT (nBle (by first | omega | (simp; omega))) ?_) | refine bDt (by omega) ?_ | refine bDf (by omega) ?_ | refine bNt (by omega) ?_ | refine bNf (by omega) ?_ | refine call_is (mprice _) ?_ | refine bD (fun _ => ?_) (fun _ => ?_) | refine bN (fun _ => ?_) (fun _ => ?_)) <;> conv => whnf)
          all_goals rfl
        · have hw := hw0 hz
          conv => whnf
          repeat' ((first | with_reducible refine bT rfl ?_ | with_reducible refine bF rfl ?_ | (refine sN ?_; (conv => whnf); refine bT (by first | rfl | exact iR8 _ | exact uNN _ | exact iR (by omega) | exact iR (by rw [hw]; omega) | exact nBlt (by omega) | exact nBle (by omega) | (simp; omega)) ?_) | (refine sA ?_; (conv => whnf); refine bT (roomL (by omega) rfl) ?_) | (refine sS ?_; (conv => whnf); refine bT (by first | rfl | exact iR8 _ | exact uNN _ | exact iR (by omega) | exact iR (by rw [hw]; omega) | exact nBlt (by omega) | exact nBle (by omega) | (simp; omega)) ?_) | (refine sM ?_; (conv => whnf); refine bT (mkOK (by omega) (by omega) (by omega) rfl) ?_) | (refine sC ?_; (conv => whnf); refine bT (nBle (by first | omega | (simp; omega))) ?_) | refine bDt (by omega) ?_ | refine bDf (by omega) ?_ | refine bNt (by omega) ?_ | refine bNf (by omega) ?_ | refine call_is (compare _ _) ?_ | refine call_is (mprice _) ?_ | refine bDf (by rw [hw]; exact hc2 hz) ?_ | refine bD (fun _ => ?_) (fun _ => ?_) | refine bN (fun _ => ?_) (fun _ => ?_)) <;> conv => whnf)
          all_goals rfl
  · obtain rfl : i = l.length := by omega
    rw [Nat.sub_self, firstE] at hf
    rw [← hf]
    conv => whnf
    repeat' ((first | with_reducible refine bT rfl ?_ | with_reducible refine bF rfl ?_ | (refine sN ?_; (conv => whnf); refine bT (by first | rfl | exact iR8 _ | exact uNN _ | exact iR (by omega) | exact iR (by rw [hw]; omega) | exact nBlt (by omega) | exact nBle (by omega) | (simp; omega)) ?_) | (refine sA ?_; (conv => whnf); refine bT (roomL (by omega) rfl) ?_) | (refine sS ?_; (conv => whnf); refine bT (by first | rfl | exact iR8 _ | exact uNN _ | exact iR (by omega) | exact iR (by rw [hw]; omega) | exact nBlt (by omega) | exact nBle (by omega) | (simp; omega)) ?_) | (refine sM ?_; (conv => whnf); refine bT (mkOK (by omega) (by omega) (by omega) rfl) ?_) | (refine sC ?_; (conv => whnf); refine bT (nBle (by first | omega | (simp; omega))) ?_) | refine bDt (by omega) ?_ | refine bDf (by omega) ?_ | refine bNt (by omega) ?_ | refine bNf (by omega) ?_ | refine bD (fun _ => ?_) (fun _ => ?_) | refine bN (fun _ => ?_) (fun _ => ?_)) <;> conv => whnf)
    all_goals rfl
theorem refMkCheck (l : List Mk) (hl : l.length ≤ 1073741824) : CallOK Try.prog 102 [EMk.L l] (fun r => r = .int .i64 (mkE l)) := by
  refine okMa ?_
  by_cases hlong : 128 < l.length
  · rw [mkE, if_pos hlong]
    conv => whnf
    repeat' ((first | with_reducible refine bT rfl ?_ | with_reducible refine bF rfl ?_ | (refine sN ?_; (conv => whnf); refine bT (by first | rfl | exact iR8 _ | exact uNN _ | exact iR (by omega) | exact iR (by rw [hw]; omega) | exact nBlt (by omega) | exact nBle (by omega) | (simp; omega)) ?_) | (refine sA ?_; (conv => whnf); refine bT (roomL (by omega) rfl) ?_) | (refine sS ?_; (conv => whnf); refine bT (by first | rfl | exact iR8 _ | exact uNN _ | exact iR (by omega) | exact iR (by rw [hw]; omega) | exact nBlt (by omega) | exact nBle (by omega) | (simp; omega)) ?_) | (refine sM ?_; (conv => whnf); refine bT (mkOK (by omega) (by omega) (by omega) rfl) ?_) | (refine sC ?_; (conv => whnf); refine bT (nBle (by first | omega | (simp; omega))) ?_) | refine bDt (by omega) ?_ | refine bDf (by omega) ?_ | refine bNt (by omega) ?_ | refine bNf (by omega) ?_ | refine bD (fun _ => ?_) (fun _ => ?_) | refine bN (fun _ => ?_) (fun _ => ?_)) <;> conv => whnf)
    all_goals rfl
  rw [mkE, if_neg hlong]
  conv => whnf
  repeat' ((first | with_reducible refine bT rfl ?_ | with_reducible refine bF rfl ?_ | (refine sN ?_; (conv => whnf); refine bT (by first | rfl | exact iR8 _ | exact uNN _ | exact iR (by omega) | exact iR (by rw [hw]; omega) | exact nBlt (by omega) | exact nBle (by omega) | (simp; omega)) ?_) | (refine sA ?_; (conv => whnf); refine bT (roomL (by omega) rfl) ?_) | (refine sS ?_; (conv => whnf); refine bT (by first | rfl | exact iR8 _ | exact uNN _ | exact iR (by omega) | exact iR (by rw [hw]; omega) | exact nBlt (by omega) | exact nBle (by omega) | (simp; omega)) ?_) | (refine sM ?_; (conv => whnf); refine bT (mkOK (by omega) (by omega) (by omega) rfl) ?_) | (refine sC ?_; (conv => whnf); refine bT (nBle (by first | omega | (simp; omega))) ?_) | refine bDt (by omega) ?_ | refine bDf (by omega) ?_ | refine bNt (by omega) ?_ | refine bNf (by omega) ?_ | refine bD (fun _ => ?_) (fun _ => ?_) | refine bN (fun _ => ?_) (fun _ => ?_)) <;> conv => whnf)
  refine loop_by (cx := cxMa) rfl progOK (ι := {i : Nat // i ≤ l.length ∧ firstE (mkAt l) (l.length - i) i = firstE (mkAt l) l.length 0}) (fun i => l.length - i.1) (fun i => ⟨[(0, EMk.L l), (3, .int .i64 i.1)], [], [], none⟩) ?_ ⟨0, Nat.zero_le _, rfl⟩
  rintro ⟨i, hi, hf⟩ ih
  dsimp only
  by_cases hlt : i < l.length
  · rw [firstE_at hlt] at hf
    have hw0 : 0 < i → IntKind.i64.wrap ((i : Int) - 1) = ((i - 1 : Nat) : Int) := fun h => by rw [wrap64 (by omega)]; omega
    by_cases hc : 0 < i ∧ 0 ≤ cmpR (l.getD (i - 1) EMk.d).s (l.getD i EMk.d).s
    · have hw := hw0 hc.1
      rw [mkAt, if_pos hc, if_neg (by decide)] at hf
      rw [← hf]
      conv => whnf
      repeat' ((first | with_reducible refine bT rfl ?_ | with_reducible refine bF rfl ?_ | (refine sN ?_; (conv => whnf); refine bT (by first | rfl | exact iR8 _ | exact uNN _ | exact iR (by omega) | exact iR (by rw [hw]; omega) | exact nBlt (by omega) | exact nBle (by omega) | (simp; omega)) ?_) | (refine sA ?_; (conv => whnf); refine bT (roomL (by omega) rfl) ?_) | (refine sS ?_; (conv => whnf); refine bT (by first | rfl | exact iR8 _ | exact uNN _ | exact iR (by omega) | exact iR (by rw [hw]; omega) | exact nBlt (by omega) | exact nBle (by omega) | (simp; omega)) ?_) | (refine sM ?_; (conv => whnf); refine bT (mkOK (by omega) (by omega) (by omega) rfl) ?_) | (refine sC ?_; (conv => whnf); refine bT (nBle (by first | omega | (simp; omega))) ?_) | refine bDt (by omega) ?_ | refine bDf (by omega) ?_ | refine bNt (by omega) ?_ | refine bNf (by omega) ?_ | refine call_is (refCompare _ _) ?_ | refine bDt (by rw [hw]; exact hc.2) ?_ | refine bD (fun _ => ?_) (fun _ => ?_) | refine bN (fun _ => ?_) (fun _ => ?_)) <;> conv => whnf)
      all_goals rfl
    · have hc2 : 0 < i → ¬ 0 ≤ cmpR (l.getD (i - 1) EMk.d).s (l.getD i EMk.d).s := fun hz h => hc ⟨hz, h⟩
      by_cases hq : -16777216 ≤ (l.getD i EMk.d).p ∧ (l.getD i EMk.d).p ≤ 16777216
      · rw [mkAt, if_neg hc, if_pos hq, if_pos rfl] at hf
        have hq' := hq
        rw [← Int.toNat_natCast i] at hq'
        rcases Nat.eq_zero_or_pos i with hz | hz
        · conv => whnf
          repeat' ((first | with_reducible refine bT rfl ?_ | with_reducible refine bF rfl ?_ | (refine sN ?_; (conv => whnf); refine bT (by first | rfl | exact iR8 _ | exact uNN _ | exact iR (by omega) | exact iR (by rw [hw]; omega) | exact nBlt (by omega) | exact nBle (by omega) | (simp; omega)) ?_) | (refine sA ?_; (conv => whnf); refine bT (roomL (by omega) rfl) ?_) | (refine sS ?_; (conv => whnf); refine bT (by first | rfl | exact iR8 _ | exact uNN _ | exact iR (by omega) | exact iR (by rw [hw]; omega) | exact nBlt (by omega) | exact nBle (by omega) | (simp; omega)) ?_) | (refine sM ?_; (conv => whnf); refine bT (mkOK (by omega) (by omega) (by omega) rfl) ?_) | (refine sC ?_; (conv => whnf); refine bT (nBle (by first | omega | (simp; omega))) ?_) | refine bDt (by omega) ?_ | refine bDf (by omega) ?_ | refine bNt (by omega) ?_ | refine bNf (by omega) ?_ | refine call_is (refWithin18 _ _ _) ?_ | refine loop_to ih ⟨i + 1, hlt, hf⟩ (show l.length - (i+1) < l.length - i by omega) ?_ | refine bD (fun _ => ?_) (fun _ => ?_) | refine bN (fun _ => ?_) (fun _ => ?_)) <;> conv => whnf)
          all_goals (rw [next_i hlt (by omega)]; rfl)
        · have hw := hw0 hz
          conv => whnf
          repeat' ((first | with_reducible refine bT rfl ?_ | with_reducible refine bF rfl ?_ | (refine sN ?_; (conv => whnf); refine bT (by first | rfl | exact iR8 _ | exact uNN _ | exact iR (by omega) | exact iR (by rw [hw]; omega) | exact nBlt (by omega) | exact nBle (by omega) | (simp; omega)) ?_) | (refine sA ?_; (conv => whnf); refine bT (roomL (by omega) rfl) ?_) | (refine sS ?_; (conv => whnf); refine bT (by first | rfl | exact iR8 _ | exact uNN _ | exact iR (by omega) | exact iR (by rw [hw]; omega) | exact nBlt (by omega) | exact nBle (by omega) | (simp; omega)) ?_) | (refine sM ?_; (conv => whnf); refine bT (mkOK (by omega) (by omega) (by omega) rfl) ?_) | (refine sC ?_; (conv => whnf); refine bT (nBle (by first | omega | (simp; omega))) ?_) | refine bDt (by omega) ?_ | refine bDf (by omega) ?_ | refine bNt (by omega) ?_ | refine bNf (by omega) ?_ | refine call_is (refCompare _ _) ?_ | refine call_is (refWithin18 _ _ _) ?_ | refine bDf (by rw [hw]; exact hc2 hz) ?_ | refine loop_to ih ⟨i + 1, hlt, hf⟩ (show l.length - (i+1) < l.length - i by omega) ?_ | refine bD (fun _ => ?_) (fun _ => ?_) | refine bN (fun _ => ?_) (fun _ => ?_)) <;> conv => whnf)
          all_goals (rw [next_i hlt (by omega)]; rfl)
      · rw [mkAt, if_neg hc, if_neg hq, if_neg (by decide)] at hf
        rw [← hf]
        have hq' := hq
        rw [← Int.toNat_natCast i] at hq'
        rcases Nat.eq_zero_or_pos i with hz | hz
        · conv => whnf
          repeat' ((first | with_reducible refine bT rfl ?_ | with_reducible refine bF rfl ?_ | (refine sN ?_; (conv => whnf); refine bT (by first | rfl | exact iR8 _ | exact uNN _ | exact iR (by omega) | exact iR (by rw [hw]; omega) | exact nBlt (by omega) | exact nBle (by omega) | (simp; omega)) ?_) | (refine sA ?_; (conv => whnf); refine bT (roomL (by omega) rfl) ?_) | (refine sS ?_; (conv => whnf); refine bT (by first | rfl | exact iR8 _ | exact uNN _ | exact iR (by omega) | exact iR (by rw [hw]; omega) | exact nBlt (by omega) | exact nBle (by omega) | (simp; omega)) ?_) | (refine sM ?_; (conv => whnf); refine bT (mkOK (by omega) (by omega) (by omega) rfl) ?_) | (refine sC ?_; (conv => whnf); refine bT (nBle (by first | omega | (simp; omega))) ?_) | refine bDt (by omega) ?_ | refine bDf (by omega) ?_ | refine bNt (by omega) ?_ | refine bNf (by omega) ?_ | refine call_is (refWithin18 _ _ _) ?_ | refine bD (fun _ => ?_) (fun _ => ?_) | refine bN (fun _ => ?_) (fun _ => ?_)) <;> conv => whnf)
          all_goals rfl
        · have hw := hw0 hz
          conv => whnf
          repeat' ((first | with_reducible refine bT rfl ?_ | with_reducible refine bF rfl ?_ | (refine sN ?_; (conv => whnf); refine bT (by first | rfl | exact iR8 _ | exact uNN _ | exact iR (by omega) | exact iR (by rw [hw]; omega) | exact nBlt (by omega) | exact nBle (by omega) | (simp; omega)) ?_) | (refine sA ?_; (conv => whnf); refine bT (roomL (by omega) rfl) ?_) | (refine sS ?_; (conv => whnf); refine bT (by first | rfl | exact iR8 _ | exact uNN _ | exact iR (by omega) | exact iR (by rw [hw]; omega) | exact nBlt (by omega) | exact nBle (by omega) | (simp; omega)) ?_) | (refine sM ?_; (conv => whnf); refine bT (mkOK (by omega) (by omega) (by omega) rfl) ?_) | (refine sC ?_; (conv => whnf); refine bT (nBle (by first | omega | (simp; omega))) ?_) | refine bDt (by omega) ?_ | refine bDf (by omega) ?_ | refine bNt (by omega) ?_ | refine bNf (by omega) ?_ | refine call_is (refCompare _ _) ?_ | refine call_is (refWithin18 _ _ _) ?_ | refine bDf (by rw [hw]; exact hc2 hz) ?_ | refine bD (fun _ => ?_) (fun _ => ?_) | refine bN (fun _ => ?_) (fun _ => ?_)) <;> conv => whnf)
          all_goals rfl
  · obtain rfl : i = l.length := by omega
    rw [Nat.sub_self, firstE] at hf
    rw [← hf]
    conv => whnf
    repeat' ((first | with_reducible refine bT rfl ?_ | with_reducible refine bF rfl ?_ | (refine sN ?_; (conv => whnf); refine bT (by first | rfl | exact iR8 _ | exact uNN _ | exact iR (by omega) | exact iR (by rw [hw]; omega) | exact nBlt (by omega) | exact nBle (by omega) | (simp; omega)) ?_) | (refine sA ?_; (conv => whnf); refine bT (roomL (by omega) rfl) ?_) | (refine sS ?_; (conv => whnf); refine bT (by first | rfl | exact iR8 _ | exact uNN _ | exact iR (by omega) | exact iR (by rw [hw]; omega) | exact nBlt (by omega) | exact nBle (by omega) | (simp; omega)) ?_) | (refine sM ?_; (conv => whnf); refine bT (mkOK (by omega) (by omega) (by omega) rfl) ?_) | (refine sC ?_; (conv => whnf); refine bT (nBle (by first | omega | (simp; omega))) ?_) | refine bDt (by omega) ?_ | refine bDf (by omega) ?_ | refine bNt (by omega) ?_ | refine bNf (by omega) ?_ | refine bD (fun _ => ?_) (fun _ => ?_) | refine bN (fun _ => ?_) (fun _ => ?_)) <;> conv => whnf)
    all_goals rfl
def findM (s : Sr) : List Mk → Int × Bool
  | [] => (0, false)
  | x :: r => if x.s = s then (x.p, true) else findM s r
theorem refMkFind (l : List Mk) (s : Sr) (hl : l.length ≤ 1073741824) : CallOK Try.prog 60 [EMk.L l, encSr s] (fun r => r = tupB (findM s l)) := by
  refine okMa ?_
  conv => whnf
  repeat' ((first | with_reducible refine bT rfl ?_ | with_reducible refine bF rfl ?_ | (refine sN ?_; (conv => whnf); refine bT (by first | rfl | exact iR8 _ | exact uNN _ | exact iR (by omega) | exact iR (by rw [hw]; omega) | exact nBlt (by omega) | exact nBle (by omega) | (simp; omega)) ?_) | (refine sA ?_; (conv => whnf); refine bT (roomL (by omega) rfl) ?_) | (refine sS ?_; (conv => whnf); refine bT (by first | rfl | exact iR8 _ | exact uNN _ | exact iR (by omega) | exact iR (by rw [hw]; omega) | exact nBlt (by omega) | exact nBle (by omega) | (simp; omega)) ?_) | (refine sM ?_; (conv => whnf); refine bT (mkOK (by omega) (by omega) (by omega) rfl) ?_) | (refine sC ?_; (conv => whnf); refine bT (nBle (by first | omega | (simp; omega))) ?_) | refine bDt (by omega) ?_ | refine bDf (by omega) ?_ | refine bNt (by omega) ?_ | refine bNf (by omega) ?_ | refine bD (fun _ => ?_) (fun _ => ?_) | refine bN (fun _ => ?_) (fun _ => ?_)) <;> conv => whnf)
  refine loop_by (cx := cxMa) rfl progOK (ι := {i : Nat // i ≤ l.length ∧ findM s (l.drop i) = findM s l}) (fun i => l.length - i.1) (fun i => ⟨[(0, EMk.L l), (3, .ptr 0 0), (6, .int .i64 i.1)], [.cells [.str s.p, .int .i64 s.k, .int .i64 s.e, .int .i64 s.s]], [], none⟩) ?_ ⟨0, Nat.zero_le _, rfl⟩
  rintro ⟨i, hi, hf⟩ ih
  dsimp only
  by_cases hlt : i < l.length
  · rw [Enc.drop_cons (E := EMk) hlt, findM] at hf
    by_cases hx : (l.getD i EMk.d).s = s
    · rw [if_pos hx] at hf
      conv => whnf
      repeat' ((first | with_reducible refine bT rfl ?_ | with_reducible refine bF rfl ?_ | (refine sN ?_; (conv => whnf); refine bT (by first | rfl | exact iR8 _ | exact uNN _ | exact iR (by omega) | exact iR (by rw [hw]; omega) | exact nBlt (by omega) | exact nBle (by omega) | (simp; omega)) ?_) | (refine sA ?_; (conv => whnf); refine bT (roomL (by omega) rfl) ?_) | (refine sS ?_; (conv => whnf); refine bT (by first | rfl | exact iR8 _ | exact uNN _ | exact iR (by omega) | exact iR (by rw [hw]; omega) | exact nBlt (by omega) | exact nBle (by omega) | (simp; omega)) ?_) | (refine sM ?_; (conv => whnf); refine bT (mkOK (by omega) (by omega) (by omega) rfl) ?_) | (refine sC ?_; (conv => whnf); refine bT (nBle (by first | omega | (simp; omega))) ?_) | refine bDt (by omega) ?_ | refine bDf (by omega) ?_ | refine bNt (by omega) ?_ | refine bNf (by omega) ?_ | refine st_bin rfl rfl rfl (eqSr (l.getD i EMk.d).s s) ?_ | refine bDt hx ?_ | refine bD (fun _ => ?_) (fun _ => ?_) | refine bN (fun _ => ?_) (fun _ => ?_)) <;> conv => whnf)
      rw [← hf]; rfl
    · rw [if_neg hx] at hf
      conv => whnf
      repeat' ((first | with_reducible refine bT rfl ?_ | with_reducible refine bF rfl ?_ | (refine sN ?_; (conv => whnf); refine bT (by first | rfl | exact iR8 _ | exact uNN _ | exact iR (by omega) | exact iR (by rw [hw]; omega) | exact nBlt (by omega) | exact nBle (by omega) | (simp; omega)) ?_) | (refine sA ?_; (conv => whnf); refine bT (roomL (by omega) rfl) ?_) | (refine sS ?_; (conv => whnf); refine bT (by first | rfl | exact iR8 _ | exact uNN _ | exact iR (by omega) | exact iR (by rw [hw]; omega) | exact nBlt (by omega) | exact nBle (by omega) | (simp; omega)) ?_) | (refine sM ?_; (conv => whnf); refine bT (mkOK (by omega) (by omega) (by omega) rfl) ?_) | (refine sC ?_; (conv => whnf); refine bT (nBle (by first | omega | (simp; omega))) ?_) | refine bDt (by omega) ?_ | refine bDf (by omega) ?_ | refine bNt (by omega) ?_ | refine bNf (by omega) ?_ | refine st_bin rfl rfl rfl (eqSr (l.getD i EMk.d).s s) ?_ | refine bDf hx ?_ | refine loop_to ih ⟨i + 1, hlt, hf⟩ (show l.length - (i+1) < l.length - i by omega) ?_ | refine bD (fun _ => ?_) (fun _ => ?_) | refine bN (fun _ => ?_) (fun _ => ?_)) <;> conv => whnf)
      rw [next_i hlt (by omega)]; rfl
  · obtain rfl : i = l.length := by omega
    rw [List.drop_length, findM] at hf
    rw [← hf]
    conv => whnf
    repeat' ((first | with_reducible refine bT rfl ?_ | with_reducible refine bF rfl ?_ | (refine sN ?_; (conv => whnf); refine bT (by first | rfl | exact iR8 _ | exact uNN _ | exact iR (by omega) | exact iR (by rw [hw]; omega) | exact nBlt (by omega) | exact nBle (by omega) | (simp; omega)) ?_) | (refine sA ?_; (conv => whnf); refine bT (roomL (by omega) rfl) ?_) | (refine sS ?_; (conv => whnf); refine bT (by first | rfl | exact iR8 _ | exact uNN _ | exact iR (by omega) | exact iR (by rw [hw]; omega) | exact nBlt (by omega) | exact nBle (by omega) | (simp; omega)) ?_) | (refine sM ?_; (conv => whnf); refine bT (mkOK (by omega) (by omega) (by omega) rfl) ?_) | (refine sC ?_; (conv => whnf); refine bT (nBle (by first | omega | (simp; omega))) ?_) | refine bDt (by omega) ?_ | refine bDf (by omega) ?_ | refine bNt (by omega) ?_ | refine bNf (by omega) ?_ | refine bD (fun _ => ?_) (fun _ => ?_) | refine bN (fun _ => ?_) (fun _ => ?_)) <;> conv => whnf)
    all_goals rfl
theorem mkFind (l : List Mk) (s : Sr) (hl : l.length ≤ 1073741824) : CallOK Try.prog 96 [EMk.L l, encSr s] (fun r => r = tupB (findM s l)) := by
  refine okMa ?_
  conv => whnf
  repeat' ((first | with_reducible refine bT rfl ?_ | with_reducible refine bF rfl ?_ | (refine sN ?_; (conv => whnf); refine bT (by first | rfl | exact iR8 _ | exact uNN _ | exact iR (by omega) | exact iR (by rw [hw]; omega) | exact nBlt (by omega) | exact nBle (by omega) | (simp; omega)) ?_) | (refine sA ?_; (conv => whnf); refine bT (roomL (by omega) rfl) ?_) | (refine sS ?_; (conv => whnf); refine bT (by first | rfl | exact iR8 _ | exact uNN _ | exact iR (by omega) | exact iR (by rw [hw]; omega) | exact nBlt (by omega) | exact nBle (by omega) | (simp; omega)) ?_) | (refine sM ?_; (conv => whnf); refine bT (mkOK (by omega) (by omega) (by omega) rfl) ?_) | (refine sC ?_; (conv => whnf); refine bT (nBle (by first | omega | (simp; omega))) ?_) | refine bDt (by omega) ?_ | refine bDf (by omega) ?_ | refine bNt (by omega) ?_ | refine bNf (by omega) ?_ | refine bD (fun _ => ?_) (fun _ => ?_) | refine bN (fun _ => ?_) (fun _ => ?_)) <;> conv => whnf)
  refine loop_by (cx := cxMa) rfl progOK (ι := {i : Nat // i ≤ l.length ∧ findM s (l.drop i) = findM s l}) (fun i => l.length - i.1) (fun i => ⟨[(0, EMk.L l), (0 + 1, .fn 132 [] [.ptr 0 0]), (7, .int .i64 l.length), (8, .int .i64 i.1)], [.cells [.str s.p, .int .i64 s.k, .int .i64 s.e, .int .i64 s.s]], [], none⟩) ?_ ⟨0, Nat.zero_le _, rfl⟩
  rintro ⟨i, hi, hf⟩ ih
  dsimp only
  by_cases hlt : i < l.length
  · rw [Enc.drop_cons (E := EMk) hlt, findM] at hf
    by_cases hx : (l.getD i EMk.d).s = s
    · rw [if_pos hx] at hf
      conv => whnf
      repeat' ((first | with_reducible refine bT rfl ?_ | with_reducible refine bF rfl ?_ | (refine sN ?_; (conv => whnf); refine bT (by first | rfl | exact iR8 _ | exact uNN _ | exact iR (by omega) | exact iR (by rw [hw]; omega) | exact nBlt (by omega) | exact nBle (by omega) | (simp; omega)) ?_) | (refine sA ?_; (conv => whnf); refine bT (roomL (by omega) rfl) ?_) | (refine sS ?_; (conv => whnf); refine bT (by first | rfl | exact iR8 _ | exact uNN _ | exact iR (by omega) | exact iR (by rw [hw]; omega) | exact nBlt (by omega) | exact nBle (by omega) | (simp; omega)) ?_) | (refine sM ?_; (conv => whnf); refine bT (mkOK (by omega) (by omega) (by omega) rfl) ?_) | (refine sC ?_; (conv => whnf); refine bT (nBle (by first | omega | (simp; omega))) ?_) | refine bDt (by omega) ?_ | refine bDf (by omega) ?_ | refine bNt (by omega) ?_ | refine bNf (by omega) ?_ | refine st_bin rfl rfl rfl (eqSr (l.getD i EMk.d).s s) ?_ | refine bDt hx ?_ | refine bD (fun _ => ?_) (fun _ => ?_) | refine bN (fun _ => ?_) (fun _ => ?_)) <;> conv => whnf)
      rw [← hf]; rfl
    · rw [if_neg hx] at hf
      conv => whnf
      repeat' ((first | with_reducible refine bT rfl ?_ | with_reducible refine bF rfl ?_ | (refine sN ?_; (conv => whnf); refine bT (by first | rfl | exact iR8 _ | exact uNN _ | exact iR (by omega) | exact iR (by rw [hw]; omega) | exact nBlt (by omega) | exact nBle (by omega) | (simp; omega)) ?_) | (refine sA ?_; (conv => whnf); refine bT (roomL (by omega) rfl) ?_) | (refine sS ?_; (conv => whnf); refine bT (by first | rfl | exact iR8 _ | exact uNN _ | exact iR (by omega) | exact iR (by rw [hw]; omega) | exact nBlt (by omega) | exact nBle (by omega) | (simp; omega)) ?_) | (refine sM ?_; (conv => whnf); refine bT (mkOK (by omega) (by omega) (by omega) rfl) ?_) | (refine sC ?_; (conv => whnf); refine bT (nBle (by first | omega | (simp; omega))) ?_) | refine bDt (by omega) ?_ | refine bDf (by omega) ?_ | refine bNt (by omega) ?_ | refine bNf (by omega) ?_ | refine st_bin rfl rfl rfl (eqSr (l.getD i EMk.d).s s) ?_ | refine bDf hx ?_ | refine loop_to ih ⟨i + 1, hlt, hf⟩ (show l.length - (i+1) < l.length - i by omega) ?_ | refine bD (fun _ => ?_) (fun _ => ?_) | refine bN (fun _ => ?_) (fun _ => ?_)) <;> conv => whnf)
      rw [next_i hlt (by omega)]; rfl
  · obtain rfl : i = l.length := by omega
    rw [List.drop_length, findM] at hf
    rw [← hf]
    conv => whnf
    repeat' ((first | with_reducible refine bT rfl ?_ | with_reducible refine bF rfl ?_ | (refine sN ?_; (conv => whnf); refine bT (by first | rfl | exact iR8 _ | exact uNN _ | exact iR (by omega) | exact iR (by rw [hw]; omega) | exact nBlt (by omega) | exact nBle (by omega) | (simp; omega)) ?_) | (refine sA ?_; (conv => whnf); refine bT (roomL (by omega) rfl) ?_) | (refine sS ?_; (conv => whnf); refine bT (by first | rfl | exact iR8 _ | exact uNN _ | exact iR (by omega) | exact iR (by rw [hw]; omega) | exact nBlt (by omega) | exact nBle (by omega) | (simp; omega)) ?_) | (refine sM ?_; (conv => whnf); refine bT (mkOK (by omega) (by omega) (by omega) rfl) ?_) | (refine sC ?_; (conv => whnf); refine bT (nBle (by first | omega | (simp; omega))) ?_) | refine bDt (by omega) ?_ | refine bDf (by omega) ?_ | refine bNt (by omega) ?_ | refine bNf (by omega) ?_ | refine bD (fun _ => ?_) (fun _ => ?_) | refine bN (fun _ => ?_) (fun _ => ?_)) <;> conv => whnf)
    all_goals rfl
def prAt (l : List Pr) (i : Nat) : Int :=
  if prE (l.getD i EPr.d) = 0 then (if 0 < i ∧ (strLt (l.getD i EPr.d).n (l.getD (i - 1) EPr.d).n || decide ((l.getD i EPr.d).n = (l.getD (i - 1) EPr.d).n)) = true then 12 else 0) else prE (l.getD i EPr.d)
def prAllE (l : List Pr) : Int := if 32 < l.length then 8 else firstE (prAt l) l.length 0
theorem prAll (l : List Pr) (hl : l.length ≤ 1073741824) : CallOK Try.prog 46 [EPr.L l] (fun r => r = .int .i64 (prAllE l)) := by
  refine okMa ?_
  by_cases hlong : 32 < l.length
  · rw [prAllE, if_pos hlong]
    conv => whnf
    repeat' ((first | with_reducible refine bT rfl ?_ | with_reducible refine bF rfl ?_ | (refine sN ?_; (conv => whnf); refine bT (by first | rfl | exact iR8 _ | exact uNN _ | exact iR (by omega) | exact iR (by rw [hw]; omega) | exact nBlt (by omega) | exact nBle (by omega) | (simp; omega)) ?_) | (refine sA ?_; (conv => whnf); refine bT (roomL (by omega) rfl) ?_) | (refine sS ?_; (conv => whnf); refine bT (by first | rfl | exact iR8 _ | exact uNN _ | exact iR (by omega) | exact iR (by rw [hw]; omega) | exact nBlt (by omega) | exact nBle (by omega) | (simp; omega)) ?_) | (refine sM ?_; (conv => whnf); refine bT (mkOK (by omega) (by omega) (by omega) rfl) ?_) | (refine sC ?_; (conv => whnf); refine bT (nBle (by first | omega | (simp; omega))) ?_) | refine bDt (by omega) ?_ | refine bDf (by omega) ?_ | refine bNt (by omega) ?_ | refine bNf (by omega) ?_ | refine bD (fun _ => ?_) (fun _ => ?_) | refine bN (fun _ => ?_) (fun _ => ?_)) <;> conv => whnf)
    all_goals rfl
  rw [prAllE, if_neg hlong]
  conv => whnf
  repeat' ((first | with_reducible refine bT rfl ?_ | with_reducible refine bF rfl ?_ | (refine sN ?_; (conv => whnf); refine bT (by first | rfl | exact iR8 _ | exact uNN _ | exact iR (by omega) | exact iR (by rw [hw]; omega) | exact nBlt (by omega) | exact nBle (by omega) | (simp; omega)) ?_) | (refine sA ?_; (conv => whnf); refine bT (roomL (by omega) rfl) ?_) | (refine sS ?_; (conv => whnf); refine bT (by first | rfl | exact iR8 _ | exact uNN _ | exact iR (by omega) | exact iR (by rw [hw]; omega) | exact nBlt (by omega) | exact nBle (by omega) | (simp; omega)) ?_) | (refine sM ?_; (conv => whnf); refine bT (mkOK (by omega) (by omega) (by omega) rfl) ?_) | (refine sC ?_; (conv => whnf); refine bT (nBle (by first | omega | (simp; omega))) ?_) | refine bDt (by omega) ?_ | refine bDf (by omega) ?_ | refine bNt (by omega) ?_ | refine bNf (by omega) ?_ | refine bD (fun _ => ?_) (fun _ => ?_) | refine bN (fun _ => ?_) (fun _ => ?_)) <;> conv => whnf)
  refine loop_by (cx := cxMa) rfl progOK (ι := {i : Nat // i ≤ l.length ∧ firstE (prAt l) (l.length - i) i = firstE (prAt l) l.length 0}) (fun i => l.length - i.1) (fun i => ⟨[(0, EPr.L l), (9, EPr.L l), (10, .int .i64 l.length), (11, .int .i64 i.1)], [], [], none⟩) ?_ ⟨0, Nat.zero_le _, rfl⟩
  rintro ⟨i, hi, hf⟩ ih
  dsimp only
  by_cases hlt : i < l.length
  · rw [firstE_at hlt] at hf
    have hw0 : 0 < i → IntKind.i64.wrap ((i : Int) - 1) = ((i - 1 : Nat) : Int) := fun h => by rw [wrap64 (by omega)]; omega
    by_cases h0 : prE (l.getD i EPr.d) = 0
    rotate_left
    · rw [prAt, if_neg h0, if_neg h0] at hf
      rw [← hf]
      conv => whnf
      repeat' ((first | with_reducible refine bT rfl ?_ | with_reducible refine bF rfl ?_ | (refine sN ?_; (conv => whnf); refine bT (by first | rfl | exact iR8 _ | exact uNN _ | exact iR (by omega) | exact iR (by rw [hw]; omega) | exact nBlt (by omega) | exact nBle (by omega) | (simp; omega)) ?_) | (refine sA ?_; (conv => whnf); refine bT (roomL (by omega) rfl) ?_) | (refine sS ?_; (conv => whnf); refine bT (by first | rfl | exact iR8 _ | exact uNN _ | exact iR (by omega) | exact iR (by rw [hw]; omega) | exact nBlt (by omega) | exact nBle (by omega) | (simp; omega)) ?_) | (refine sM ?_; (conv => whnf); refine bT (mkOK (by omega) (by omega) (by omega) rfl) ?_) | (refine sC ?_; (conv => whnf); refine bT (nBle (by first | omega | (simp; omega))) ?_) | refine bDt (by omega) ?_ | refine bDf (by omega) ?_ | refine bNt (by omega) ?_ | refine bNf (by omega) ?_ | refine call_is (prCheck (l.getD i EPr.d)) ?_ | refine bNt h0 ?_ | refine bD (fun _ => ?_) (fun _ => ?_) | refine bN (fun _ => ?_) (fun _ => ?_)) <;> conv => whnf)
      all_goals rfl
    by_cases hc : 0 < i ∧ (strLt (l.getD i EPr.d).n (l.getD (i - 1) EPr.d).n || decide ((l.getD i EPr.d).n = (l.getD (i - 1) EPr.d).n)) = true
    · have hw := hw0 hc.1
      rw [prAt, if_pos h0, if_pos hc, if_neg (by decide)] at hf
      rw [← hf]
      conv => whnf
      repeat' ((first | with_reducible refine bT rfl ?_ | with_reducible refine bF rfl ?_ | (refine sN ?_; (conv => whnf); refine bT (by first | rfl | exact iR8 _ | exact uNN _ | exact iR (by omega) | exact iR (by rw [hw]; omega) | exact nBlt (by omega) | exact nBle (by omega) | (simp; omega)) ?_) | (refine sA ?_; (conv => whnf); refine bT (roomL (by omega) rfl) ?_) | (refine sS ?_; (conv => whnf); refine bT (by first | rfl | exact iR8 _ | exact uNN _ | exact iR (by omega) | exact iR (by rw [hw]; omega) | exact nBlt (by omega) | exact nBle (by omega) | (simp; omega)) ?_) | (refine sM ?_; (conv => whnf); refine bT (mkOK (by omega) (by omega) (by omega) rfl) ?_) | (refine sC ?_; (conv => whnf); refine bT (nBle (by first | omega | (simp; omega))) ?_) | refine bDt (by omega) ?_ | refine bDf (by omega) ?_ | refine bNt (by omega) ?_ | refine bNf (by omega) ?_ | refine call_is (prCheck (l.getD i EPr.d)) ?_ | refine bNf h0 ?_ | refine bT (by rw [hw]; exact hc.2) ?_ | refine bD (fun _ => ?_) (fun _ => ?_) | refine bN (fun _ => ?_) (fun _ => ?_)) <;> conv => whnf)
      all_goals rfl
    · rw [prAt, if_pos h0, if_neg hc, if_pos rfl] at hf
      rcases Nat.eq_zero_or_pos i with hz | hz
      · conv => whnf
        repeat' ((first | with_reducible refine bT rfl ?_ | with_reducible refine bF rfl ?_ | (refine sN ?_; (conv => whnf); refine bT (by first | rfl | exact iR8 _ | exact uNN _ | exact iR (by omega) | exact iR (by rw [hw]; omega) | exact nBlt (by omega) | exact nBle (by omega) | (simp; omega)) ?_) | (refine sA ?_; (conv => whnf); refine bT (roomL (by omega) rfl) ?_) | (refine sS ?_; (conv => whnf); refine bT (by first | rfl | exact iR8 _ | exact uNN _ | exact iR (by omega) | exact iR (by rw [hw]; omega) | exact nBlt (by omega) | exact nBle (by omega) | (simp; omega)) ?_) | (refine sM ?_; (conv => whnf); refine bT (mkOK (by omega) (by omega) (by omega) rfl) ?_) | (refine sC ?_; (conv => whnf); refine bT (nBle (by first | omega | (simp; omega))) ?_) | refine bDt (by omega) ?_ | refine bDf (by omega) ?_ | refine bNt (by omega) ?_ | refine bNf (by omega) ?_ | refine call_is (prCheck (l.getD i EPr.d)) ?_ | refine bNf h0 ?_ | refine loop_to ih ⟨i + 1, hlt, hf⟩ (show l.length - (i+1) < l.length - i by omega) ?_ | refine bD (fun _ => ?_) (fun _ => ?_) | refine bN (fun _ => ?_) (fun _ => ?_)) <;> conv => whnf)
        all_goals (rw [next_i hlt (by omega)]; rfl)
      · have hw := hw0 hz
        have hc2 : (strLt (l.getD i EPr.d).n (l.getD (i - 1) EPr.d).n || decide ((l.getD i EPr.d).n = (l.getD (i - 1) EPr.d).n)) = false := by
          cases hh : (strLt (l.getD i EPr.d).n (l.getD (i - 1) EPr.d).n || decide ((l.getD i EPr.d).n = (l.getD (i - 1) EPr.d).n)) with
          | false => rfl
          | true => exact absurd ⟨hz, hh⟩ hc
        conv => whnf
        repeat' ((first | with_reducible refine bT rfl ?_ | with_reducible refine bF rfl ?_ | (refine sN ?_; (conv => whnf); refine bT (by first | rfl | exact iR8 _ | exact uNN _ | exact iR (by omega) | exact iR (by rw [hw]; omega) | exact nBlt (by omega) | exact nBle (by omega) | (simp; omega)) ?_) | (refine sA ?_; (conv => whnf); refine bT (roomL (by omega) rfl) ?_) | (refine sS ?_; (conv => whnf); refine bT (by first | rfl | exact iR8 _ | exact uNN _ | exact iR (by omega) | exact iR (by rw [hw]; omega) | exact nBlt (by omega) | exact nBle (by omega) | (simp; omega)) ?_) | (refine sM ?_; (conv => whnf); refine bT (mkOK (by omega) (by omega) (by omega) rfl) ?_) | (refine sC ?_; (conv => whnf); refine bT (nBle (by first | omega | (simp; omega))) ?_) | refine bDt (by omega) ?_ | refine bDf (by omega) ?_ | refine bNt (by omega) ?_ | refine bNf (by omega) ?_ | refine call_is (prCheck (l.getD i EPr.d)) ?_ | refine bNf h0 ?_ | refine bF (by rw [hw]; exact hc2) ?_ | refine loop_to ih ⟨i + 1, hlt, hf⟩ (show l.length - (i+1) < l.length - i by omega) ?_ | refine bD (fun _ => ?_) (fun _ => ?_) | refine bN (fun _ => ?_) (fun _ => ?_)) <;> conv => whnf)
        all_goals (rw [next_i hlt (by omega)]; rfl)
  · obtain rfl : i = l.length := by omega
    rw [Nat.sub_self, firstE] at hf
    rw [← hf]
    conv => whnf
    repeat' ((first | with_reducible refine bT rfl ?_ | with_reducible refine bF rfl ?_ | (refine sN ?_; (conv => whnf); refine bT (by first | rfl | exact iR8 _ | exact uNN _ | exact iR (by omega) | exact iR (by rw [hw]; omega) | exact nBlt (by omega) | exact nBle (by omega) | (simp; omega)) ?_) | (refine sA ?_; (conv => whnf); refine bT (roomL (by omega) rfl) ?_) | (refine sS ?_; (conv => whnf); refine bT (by first | rfl | exact iR8 _ | exact uNN _ | exact iR (by omega) | exact iR (by rw [hw]; omega) | exact nBlt (by omega) | exact nBle (by omega) | (simp; omega)) ?_) | (refine sM ?_; (conv => whnf); refine bT (mkOK (by omega) (by omega) (by omega) rfl) ?_) | (refine sC ?_; (conv => whnf); refine bT (nBle (by first | omega | (simp; omega))) ?_) | refine bDt (by omega) ?_ | refine bDf (by omega) ?_ | refine bNt (by omega) ?_ | refine bNf (by omega) ?_ | refine bD (fun _ => ?_) (fun _ => ?_) | refine bN (fun _ => ?_) (fun _ => ?_)) <;> conv => whnf)
    all_goals rfl
theorem refPrAll (l : List Pr) (hl : l.length ≤ 1073741824) (hs : ∀ p ∈ l, p.n.size ≤ 9223372036854775807) : CallOK Try.prog 101 [EPr.L l] (fun r => r = .int .i64 (prAllE l)) := by
  refine okMa ?_
  by_cases hlong : 32 < l.length
  · rw [prAllE, if_pos hlong]
    conv => whnf
    repeat' ((first | with_reducible refine bT rfl ?_ | with_reducible refine bF rfl ?_ | (refine sN ?_; (conv => whnf); refine bT (by first | rfl | exact iR8 _ | exact uNN _ | exact iR (by omega) | exact iR (by rw [hw]; omega) | exact nBlt (by omega) | exact nBle (by omega) | (simp; omega)) ?_) | (refine sA ?_; (conv => whnf); refine bT (roomL (by omega) rfl) ?_) | (refine sS ?_; (conv => whnf); refine bT (by first | rfl | exact iR8 _ | exact uNN _ | exact iR (by omega) | exact iR (by rw [hw]; omega) | exact nBlt (by omega) | exact nBle (by omega) | (simp; omega)) ?_) | (refine sM ?_; (conv => whnf); refine bT (mkOK (by omega) (by omega) (by omega) rfl) ?_) | (refine sC ?_; (conv => whnf); refine bT (nBle (by first | omega | (simp; omega))) ?_) | refine bDt (by omega) ?_ | refine bDf (by omega) ?_ | refine bNt (by omega) ?_ | refine bNf (by omega) ?_ | refine bD (fun _ => ?_) (fun _ => ?_) | refine bN (fun _ => ?_) (fun _ => ?_)) <;> conv => whnf)
    all_goals rfl
  rw [prAllE, if_neg hlong]
  conv => whnf
  repeat' ((first | with_reducible refine bT rfl ?_ | with_reducible refine bF rfl ?_ | (refine sN ?_; (conv => whnf); refine bT (by first | rfl | exact iR8 _ | exact uNN _ | exact iR (by omega) | exact iR (by rw [hw]; omega) | exact nBlt (by omega) | exact nBle (by omega) | (simp; omega)) ?_) | (refine sA ?_; (conv => whnf); refine bT (roomL (by omega) rfl) ?_) | (refine sS ?_; (conv => whnf); refine bT (by first | rfl | exact iR8 _ | exact uNN _ | exact iR (by omega) | exact iR (by rw [hw]; omega) | exact nBlt (by omega) | exact nBle (by omega) | (simp; omega)) ?_) | (refine sM ?_; (conv => whnf); refine bT (mkOK (by omega) (by omega) (by omega) rfl) ?_) | (refine sC ?_; (conv => whnf); refine bT (nBle (by first | omega | (simp; omega))) ?_) | refine bDt (by omega) ?_ | refine bDf (by omega) ?_ | refine bNt (by omega) ?_ | refine bNf (by omega) ?_ | refine bD (fun _ => ?_) (fun _ => ?_) | refine bN (fun _ => ?_) (fun _ => ?_)) <;> conv => whnf)
  refine loop_by (cx := cxMa) rfl progOK (ι := {i : Nat // i ≤ l.length ∧ firstE (prAt l) (l.length - i) i = firstE (prAt l) l.length 0}) (fun i => l.length - i.1) (fun i => ⟨[(0, EPr.L l), (3, .int .i64 i.1)], [], [], none⟩) ?_ ⟨0, Nat.zero_le _, rfl⟩
  rintro ⟨i, hi, hf⟩ ih
  dsimp only
  by_cases hlt : i < l.length
  · rw [firstE_at hlt] at hf
    have hw0 : 0 < i → IntKind.i64.wrap ((i : Int) - 1) = ((i - 1 : Nat) : Int) := fun h => by rw [wrap64 (by omega)]; omega
    have hsi := hs _ (EPr.get_mem hlt)
    by_cases h0 : prE (l.getD i EPr.d) = 0
    rotate_left
    · rw [prAt, if_neg h0, if_neg h0] at hf
      rw [← hf]
      conv => whnf
      repeat' ((first | with_reducible refine bT rfl ?_ | with_reducible refine bF rfl ?_ | (refine sN ?_; (conv => whnf); refine bT (by first | rfl | exact iR8 _ | exact uNN _ | exact iR (by omega) | exact iR (by rw [hw]; omega) | exact nBlt (by omega) | exact nBle (by omega) | (simp; omega)) ?_) | (refine sA ?_; (conv => whnf); refine bT (roomL (by omega) rfl) ?_) | (refine sS ?_; (conv => whnf); refine bT (by first | rfl | exact iR8 _ | exact uNN _ | exact iR (by omega) | exact iR (by rw [hw]; omega) | exact nBlt (by omega) | exact nBle (by omega) | (simp; omega)) ?_) | (refine sM ?_; (conv => whnf); refine bT (mkOK (by omega) (by omega) (by omega) rfl) ?_) | (refine sC ?_; (conv => whnf); refine bT (nBle (by first | omega | (simp; omega))) ?_) | refine bDt (by omega) ?_ | refine bDf (by omega) ?_ | refine bNt (by omega) ?_ | refine bNf (by omega) ?_ | refine call_is (refPrCheck (l.getD i EPr.d) hsi) ?_ | refine bNt h0 ?_ | refine bD (fun _ => ?_) (fun _ => ?_) | refine bN (fun _ => ?_) (fun _ => ?_)) <;> conv => whnf)
      all_goals rfl
    by_cases hc : 0 < i ∧ (strLt (l.getD i EPr.d).n (l.getD (i - 1) EPr.d).n || decide ((l.getD i EPr.d).n = (l.getD (i - 1) EPr.d).n)) = true
    · have hw := hw0 hc.1
      rw [prAt, if_pos h0, if_pos hc, if_neg (by decide)] at hf
      rw [← hf]
      conv => whnf
      repeat' ((first | with_reducible refine bT rfl ?_ | with_reducible refine bF rfl ?_ | (refine sN ?_; (conv => whnf); refine bT (by first | rfl | exact iR8 _ | exact uNN _ | exact iR (by omega) | exact iR (by rw [hw]; omega) | exact nBlt (by omega) | exact nBle (by omega) | (simp; omega)) ?_) | (refine sA ?_; (conv => whnf); refine bT (roomL (by omega) rfl) ?_) | (refine sS ?_; (conv => whnf); refine bT (by first | rfl | exact iR8 _ | exact uNN _ | exact iR (by omega) | exact iR (by rw [hw]; omega) | exact nBlt (by omega) | exact nBle (by omega) | (simp; omega)) ?_) | (refine sM ?_; (conv => whnf); refine bT (mkOK (by omega) (by omega) (by omega) rfl) ?_) | (refine sC ?_; (conv => whnf); refine bT (nBle (by first | omega | (simp; omega))) ?_) | refine bDt (by omega) ?_ | refine bDf (by omega) ?_ | refine bNt (by omega) ?_ | refine bNf (by omega) ?_ | refine call_is (refPrCheck (l.getD i EPr.d) hsi) ?_ | refine bNf h0 ?_ | refine bT (by rw [hw]; exact hc.2) ?_ | refine bD (fun _ => ?_) (fun _ => ?_) | refine bN (fun _ => ?_) (fun _ => ?_)) <;> conv => whnf)
      all_goals rfl
    · rw [prAt, if_pos h0, if_neg hc, if_pos rfl] at hf
      rcases Nat.eq_zero_or_pos i with hz | hz
      · conv => whnf
        repeat' ((first | with_reducible refine bT rfl ?_ | with_reducible refine bF rfl ?_ | (refine sN ?_; (conv => whnf); refine bT (by first | rfl | exact iR8 _ | exact uNN _ | exact iR (by omega) | exact iR (by rw [hw]; omega) | exact nBlt (by omega) | exact nBle (by omega) | (simp; omega)) ?_) | (refine sA ?_; (conv => whnf); refine bT (roomL (by omega) rfl) ?_) | (refine sS ?_; (conv => whnf); refine bT (by first | rfl | exact iR8 _ | exact uNN _ | exact iR (by omega) | exact iR (by rw [hw]; omega) | exact nBlt (by omega) | exact nBle (by omega) | (simp; omega)) ?_) | (refine sM ?_; (conv => whnf); refine bT (mkOK (by omega) (by omega) (by omega) rfl) ?_) | (refine sC ?_; (conv => whnf); refine bT (nBle (by first | omega | (simp; omega))) ?_) | refine bDt (by omega) ?_ | refine bDf (by omega) ?_ | refine bNt (by omega) ?_ | refine bNf (by omega) ?_ | refine call_is (refPrCheck (l.getD i EPr.d) hsi) ?_ | refine bNf h0 ?_ | refine loop_to ih ⟨i + 1, hlt, hf⟩ (show l.length - (i+1) < l.length - i by omega) ?_ | refine bD (fun _ => ?_) (fun _ => ?_) | refine bN (fun _ => ?_) (fun _ => ?_)) <;> conv => whnf)
        all_goals (rw [next_i hlt (by omega)]; rfl)
      · have hw := hw0 hz
        have hc2 : (strLt (l.getD i EPr.d).n (l.getD (i - 1) EPr.d).n || decide ((l.getD i EPr.d).n = (l.getD (i - 1) EPr.d).n)) = false := by
          cases hh : (strLt (l.getD i EPr.d).n (l.getD (i - 1) EPr.d).n || decide ((l.getD i EPr.d).n = (l.getD (i - 1) EPr.d).n)) with
          | false => rfl
          | true => exact absurd ⟨hz, hh⟩ hc
        conv => whnf
        repeat' ((first | with_reducible refine bT rfl ?_ | with_reducible refine bF rfl ?_ | (refine sN ?_; (conv => whnf); refine bT (by first | rfl | exact iR8 _ | exact uNN _ | exact iR (by omega) | exact iR (by rw [hw]; omega) | exact nBlt (by omega) | exact nBle (by omega) | (simp; omega)) ?_) | (refine sA ?_; (conv => whnf); refine bT (roomL (by omega) rfl) ?_) | (refine sS ?_; (conv => whnf); refine bT (by first | rfl | exact iR8 _ | exact uNN _ | exact iR (by omega) | exact iR (by rw [hw]; omega) | exact nBlt (by omega) | exact nBle (by omega) | (simp; omega)) ?_) | (refine sM ?_; (conv => whnf); refine bT (mkOK (by omega) (by omega) (by omega) rfl) ?_) | (refine sC ?_; (conv => whnf); refine bT (nBle (by first | omega | (simp; omega))) ?_) | refine bDt (by omega) ?_ | refine bDf (by omega) ?_ | refine bNt (by omega) ?_ | refine bNf (by omega) ?_ | refine call_is (refPrCheck (l.getD i EPr.d) hsi) ?_ | refine bNf h0 ?_ | refine bF (by rw [hw]; exact hc2) ?_ | refine loop_to ih ⟨i + 1, hlt, hf⟩ (show l.length - (i+1) < l.length - i by omega) ?_ | refine bD (fun _ => ?_) (fun _ => ?_) | refine bN (fun _ => ?_) (fun _ => ?_)) <;> conv => whnf)
        all_goals (rw [next_i hlt (by omega)]; rfl)
  · obtain rfl : i = l.length := by omega
    rw [Nat.sub_self, firstE] at hf
    rw [← hf]
    conv => whnf
    repeat' ((first | with_reducible refine bT rfl ?_ | with_reducible refine bF rfl ?_ | (refine sN ?_; (conv => whnf); refine bT (by first | rfl | exact iR8 _ | exact uNN _ | exact iR (by omega) | exact iR (by rw [hw]; omega) | exact nBlt (by omega) | exact nBle (by omega) | (simp; omega)) ?_) | (refine sA ?_; (conv => whnf); refine bT (roomL (by omega) rfl) ?_) | (refine sS ?_; (conv => whnf); refine bT (by first | rfl | exact iR8 _ | exact uNN _ | exact iR (by omega) | exact iR (by rw [hw]; omega) | exact nBlt (by omega) | exact nBle (by omega) | (simp; omega)) ?_) | (refine sM ?_; (conv => whnf); refine bT (mkOK (by omega) (by omega) (by omega) rfl) ?_) | (refine sC ?_; (conv => whnf); refine bT (nBle (by first | omega | (simp; omega))) ?_) | refine bDt (by omega) ?_ | refine bDf (by omega) ?_ | refine bNt (by omega) ?_ | refine bNf (by omega) ?_ | refine bD (fun _ => ?_) (fun _ => ?_) | refine bN (fun _ => ?_) (fun _ => ?_)) <;> conv => whnf)
    all_goals rfl
def findP (s : ByteArray) : List Pr → Pr × Bool
  | [] => (EPr.d, false)
  | x :: r => if x.n = s then (x, true) else findP s r
def tupPr (p : Pr × Bool) : AV := .tup [encPr p.1, .bool p.2]
theorem refPrFind (l : List Pr) (s : ByteArray) (hl : l.length ≤ 1073741824) : CallOK Try.prog 103 [EPr.L l, .str s] (fun r => r = tupPr (findP s l)) := by
  refine okMa ?_
  conv => whnf
  repeat' ((first | with_reducible refine bT rfl ?_ | with_reducible refine bF rfl ?_ | (refine sN ?_; (conv => whnf); refine bT (by first | rfl | exact iR8 _ | exact uNN _ | exact iR (by omega) | exact iR (by rw [hw]; omega) | exact nBlt (by omega) | exact nBle (by omega) | (simp; omega)) ?_) | (refine sA ?_; (conv => whnf); refine bT (roomL (by omega) rfl) ?_) | (refine sS ?_; (conv => whnf); refine bT (by first | rfl | exact iR8 _ | exact uNN _ | exact iR (by omega) | exact iR (by rw [hw]; omega) | exact nBlt (by omega) | exact nBle (by omega) | (simp; omega)) ?_) | (refine sM ?_; (conv => whnf); refine bT (mkOK (by omega) (by omega) (by omega) rfl) ?_) | (refine sC ?_; (conv => whnf); refine bT (nBle (by first | omega | (simp; omega))) ?_) | refine bDt (by omega) ?_ | refine bDf (by omega) ?_ | refine bNt (by omega) ?_ | refine bNf (by omega) ?_ | refine bD (fun _ => ?_) (fun _ => ?_) | refine bN (fun _ => ?_) (fun _ => ?_)) <;> conv => whnf)
  refine loop_by (cx := cxMa) rfl progOK (ι := {i : Nat // i ≤ l.length ∧ findP s (l.drop i) = findP s l}) (fun i => l.length - i.1) (fun i => ⟨[(0, EPr.L l), (0 + 1, .str s), (4, .ptr 0 0), (6, .int .i64 i.1)], [.cells [.str ⟨#[]⟩, .int .i64 0, .int .i64 0, .int .i64 0, .int .i64 0, .int .i64 0, .bool false]], [], none⟩) ?_ ⟨0, Nat.zero_le _, rfl⟩
  rintro ⟨i, hi, hf⟩ ih
  dsimp only
  by_cases hlt : i < l.length
  · rw [Enc.drop_cons (E := EPr) hlt, findP] at hf
    by_cases hx : (l.getD i EPr.d).n = s
    · rw [if_pos hx] at hf
      conv => whnf
      repeat' ((first | with_reducible refine bT rfl ?_ | with_reducible refine bF rfl ?_ | (refine sN ?_; (conv => whnf); refine bT (by first | rfl | exact iR8 _ | exact uNN _ | exact iR (by omega) | exact iR (by rw [hw]; omega) | exact nBlt (by omega) | exact nBle (by omega) | (simp; omega)) ?_) | (refine sA ?_; (conv => whnf); refine bT (roomL (by omega) rfl) ?_) | (refine sS ?_; (conv => whnf); refine bT (by first | rfl | exact iR8 _ | exact uNN _ | exact iR (by omega) | exact iR (by rw [hw]; omega) | exact nBlt (by omega) | exact nBle (by omega) | (simp; omega)) ?_) | (refine sM ?_; (conv => whnf); refine bT (mkOK (by omega) (by omega) (by omega) rfl) ?_) | (refine sC ?_; (conv => whnf); refine bT (nBle (by first | omega | (simp; omega))) ?_) | refine bDt (by omega) ?_ | refine bDf (by omega) ?_ | refine bNt (by omega) ?_ | refine bNf (by omega) ?_ | refine bDt hx ?_ | refine bD (fun _ => ?_) (fun _ => ?_) | refine bN (fun _ => ?_) (fun _ => ?_)) <;> conv => whnf)
      rw [← hf]; rfl
    · rw [if_neg hx] at hf
      conv => whnf
      repeat' ((first | with_reducible refine bT rfl ?_ | with_reducible refine bF rfl ?_ | (refine sN ?_; (conv => whnf); refine bT (by first | rfl | exact iR8 _ | exact uNN _ | exact iR (by omega) | exact iR (by rw [hw]; omega) | exact nBlt (by omega) | exact nBle (by omega) | (simp; omega)) ?_) | (refine sA ?_; (conv => whnf); refine bT (roomL (by omega) rfl) ?_) | (refine sS ?_; (conv => whnf); refine bT (by first | rfl | exact iR8 _ | exact uNN _ | exact iR (by omega) | exact iR (by rw [hw]; omega) | exact nBlt (by omega) | exact nBle (by omega) | (simp; omega)) ?_) | (refine sM ?_; (conv => whnf); refine bT (mkOK (by omega) (by omega) (by omega) rfl) ?_) | (refine sC ?_; (conv => whnf); refine bT (nBle (by first | omega | (simp; omega))) ?_) | refine bDt (by omega) ?_ | refine bDf (by omega) ?_ | refine bNt (by omega) ?_ | refine bNf (by omega) ?_ | refine bDf hx ?_ | refine loop_to ih ⟨i + 1, hlt, hf⟩ (show l.length - (i+1) < l.length - i by omega) ?_ | refine bD (fun _ => ?_) (fun _ => ?_) | refine bN (fun _ => ?_) (fun _ => ?_)) <;> conv => whnf)
      rw [next_i hlt (by omega)]; rfl
  · obtain rfl : i = l.length := by omega
    rw [List.drop_length, findP] at hf
    rw [← hf]
    conv => whnf
    repeat' ((first | with_reducible refine bT rfl ?_ | with_reducible refine bF rfl ?_ | (refine sN ?_; (conv => whnf); refine bT (by first | rfl | exact iR8 _ | exact uNN _ | exact iR (by omega) | exact iR (by rw [hw]; omega) | exact nBlt (by omega) | exact nBle (by omega) | (simp; omega)) ?_) | (refine sA ?_; (conv => whnf); refine bT (roomL (by omega) rfl) ?_) | (refine sS ?_; (conv => whnf); refine bT (by first | rfl | exact iR8 _ | exact uNN _ | exact iR (by omega) | exact iR (by rw [hw]; omega) | exact nBlt (by omega) | exact nBle (by omega) | (simp; omega)) ?_) | (refine sM ?_; (conv => whnf); refine bT (mkOK (by omega) (by omega) (by omega) rfl) ?_) | (refine sC ?_; (conv => whnf); refine bT (nBle (by first | omega | (simp; omega))) ?_) | refine bDt (by omega) ?_ | refine bDf (by omega) ?_ | refine bNt (by omega) ?_ | refine bNf (by omega) ?_ | refine bD (fun _ => ?_) (fun _ => ?_) | refine bN (fun _ => ?_) (fun _ => ?_)) <;> conv => whnf)
    all_goals rfl
theorem prFind (l : List Pr) (s : ByteArray) (hl : l.length ≤ 1073741824) : CallOK Try.prog 54 [EPr.L l, .str s] (fun r => r = tupPr (findP s l)) := by
  refine okMa ?_
  conv => whnf
  repeat' ((first | with_reducible refine bT rfl ?_ | with_reducible refine bF rfl ?_ | (refine sN ?_; (conv => whnf); refine bT (by first | rfl | exact iR8 _ | exact uNN _ | exact iR (by omega) | exact iR (by rw [hw]; omega) | exact nBlt (by omega) | exact nBle (by omega) | (simp; omega)) ?_) | (refine sA ?_; (conv => whnf); refine bT (roomL (by omega) rfl) ?_) | (refine sS ?_; (conv => whnf); refine bT (by first | rfl | exact iR8 _ | exact uNN _ | exact iR (by omega) | exact iR (by rw [hw]; omega) | exact nBlt (by omega) | exact nBle (by omega) | (simp; omega)) ?_) | (refine sM ?_; (conv => whnf); refine bT (mkOK (by omega) (by omega) (by omega) rfl) ?_) | (refine sC ?_; (conv => whnf); refine bT (nBle (by first | omega | (simp; omega))) ?_) | refine bDt (by omega) ?_ | refine bDf (by omega) ?_ | refine bNt (by omega) ?_ | refine bNf (by omega) ?_ | refine bD (fun _ => ?_) (fun _ => ?_) | refine bN (fun _ => ?_) (fun _ => ?_)) <;> conv => whnf)
  refine loop_by (cx := cxMa) rfl progOK (ι := {i : Nat // i ≤ l.length ∧ findP s (l.drop i) = findP s l}) (fun i => l.length - i.1) (fun i => ⟨[(0 + 1, .fn 98 [] [.ptr (0 + 1) 0]), (4, .ptr (0 + 1 + 1) 0), (9, EPr.L l), (10, .int .i64 l.length), (11, .int .i64 i.1)], [.cells [.str ⟨#[]⟩, .int .i64 0, .int .i64 0, .int .i64 0, .int .i64 0, .int .i64 0, .bool false], .cells [.str s], .cells [.str ⟨#[]⟩, .int .i64 0, .int .i64 0, .int .i64 0, .int .i64 0, .int .i64 0, .bool false]], [], none⟩) ?_ ⟨0, Nat.zero_le _, rfl⟩
  rintro ⟨i, hi, hf⟩ ih
  dsimp only
  by_cases hlt : i < l.length
  · rw [Enc.drop_cons (E := EPr) hlt, findP] at hf
    by_cases hx : (l.getD i EPr.d).n = s
    · rw [if_pos hx] at hf
      conv => whnf
      repeat' ((first | with_reducible refine bT rfl ?_ | with_reducible refine bF rfl ?_ | (refine sN ?_; (conv => whnf); refine bT (by first | rfl | exact iR8 _ | exact uNN _ | exact iR (by omega) | exact iR (by rw [hw]; omega) | exact nBlt (by omega) | exact nBle (by omega) | (simp; omega)) ?_) | (refine sA ?_; (conv => whnf); refine bT (roomL (by omega) rfl) ?_) | (refine sS ?_; (conv => whnf); refine bT (by first | rfl | exact iR8 _ | exact uNN _ | exact iR (by omega) | exact iR (by rw [hw]; omega) | exact nBlt (by omega) | exact nBle (by omega) | (simp; omega)) ?_) | (refine sM ?_; (conv => whnf); refine bT (mkOK (by omega) (by omega) (by omega) rfl) ?_) | (refine sC ?_; (conv => whnf); refine bT (nBle (by first | omega | (simp; omega))) ?_) | refine bDt (by omega) ?_ | refine bDf (by omega) ?_ | refine bNt (by omega) ?_ | refine bNf (by omega) ?_ | refine bDt hx ?_ | refine bD (fun _ => ?_) (fun _ => ?_) | refine bN (fun _ => ?_) (fun _ => ?_)) <;> conv => whnf)
      rw [← hf]; rfl
    · rw [if_neg hx] at hf
      conv => whnf
      repeat' ((first | with_reducible refine bT rfl ?_ | with_reducible refine bF rfl ?_ | (refine sN ?_; (conv => whnf); refine bT (by first | rfl | exact iR8 _ | exact uNN _ | exact iR (by omega) | exact iR (by rw [hw]; omega) | exact nBlt (by omega) | exact nBle (by omega) | (simp; omega)) ?_) | (refine sA ?_; (conv => whnf); refine bT (roomL (by omega) rfl) ?_) | (refine sS ?_; (conv => whnf); refine bT (by first | rfl | exact iR8 _ | exact uNN _ | exact iR (by omega) | exact iR (by rw [hw]; omega) | exact nBlt (by omega) | exact nBle (by omega) | (simp; omega)) ?_) | (refine sM ?_; (conv => whnf); refine bT (mkOK (by omega) (by omega) (by omega) rfl) ?_) | (refine sC ?_; (conv => whnf); refine bT (nBle (by first | omega | (simp; omega))) ?_) | refine bDt (by omega) ?_ | refine bDf (by omega) ?_ | refine bNt (by omega) ?_ | refine bNf (by omega) ?_ | refine bDf hx ?_ | refine loop_to ih ⟨i + 1, hlt, hf⟩ (show l.length - (i+1) < l.length - i by omega) ?_ | refine bD (fun _ => ?_) (fun _ => ?_) | refine bN (fun _ => ?_) (fun _ => ?_)) <;> conv => whnf)
      rw [next_i hlt (by omega)]; rfl
  · obtain rfl : i = l.length := by omega
    rw [List.drop_length, findP] at hf
    rw [← hf]
    conv => whnf
    repeat' ((first | with_reducible refine bT rfl ?_ | with_reducible refine bF rfl ?_ | (refine sN ?_; (conv => whnf); refine bT (by first | rfl | exact iR8 _ | exact uNN _ | exact iR (by omega) | exact iR (by rw [hw]; omega) | exact nBlt (by omega) | exact nBle (by omega) | (simp; omega)) ?_) | (refine sA ?_; (conv => whnf); refine bT (roomL (by omega) rfl) ?_) | (refine sS ?_; (conv => whnf); refine bT (by first | rfl | exact iR8 _ | exact uNN _ | exact iR (by omega) | exact iR (by rw [hw]; omega) | exact nBlt (by omega) | exact nBle (by omega) | (simp; omega)) ?_) | (refine sM ?_; (conv => whnf); refine bT (mkOK (by omega) (by omega) (by omega) rfl) ?_) | (refine sC ?_; (conv => whnf); refine bT (nBle (by first | omega | (simp; omega))) ?_) | refine bDt (by omega) ?_ | refine bDf (by omega) ?_ | refine bNt (by omega) ?_ | refine bNf (by omega) ?_ | refine bD (fun _ => ?_) (fun _ => ?_) | refine bN (fun _ => ?_) (fun _ => ?_)) <;> conv => whnf)
    all_goals rfl
end Go.Proofs

