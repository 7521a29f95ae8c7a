import Derived.Test.YtflebdkgdnfjoaaGreatLZB
import Derived.Test.YtflebdkgdnfjoaaGreatAxEnc3
import Derived.Test.YtflebdkgdnfjoaaGreatLW
import Derived.Test.YtflebdkgdnfjoaaGreatLZA
set_option linter.unusedVariables false
set_option linter.unusedSimpArgs false
namespace Go.Proofs
open Ax Go
set_option maxRecDepth 10000
set_option maxHeartbeats 8000000
def keepCm (f r : Nat) : Option (List Nat) := match f, r with
  | 24, 2 => some [2, 14, 15, 16]
  | 82, 4 => some [0, 1, 13, 14, 15]
  | 95, 4 => some [0, 1, 5]
  | 92, 2 => some [0, 3]
  | _, _ => none
def keepXCm (f r : Nat) : Option (List Nat) := match f, r with
  | 24, 2 => some [2, 4]
  | 82, 4 => some [4]
  | 95, 4 => some [4]
  | 92, 2 => some [2]
  | _, _ => none
noncomputable def cxCm : Ctx where
  P := Tryz.prog
  inl := fun _ => false
  keep := keepCm
  keepX := keepXCm
  xf := fun _ _ _ => false
  ow := fun _ => false
  gh := fun _ _ => []
  gf := fun _ => []
  ln := fun _ => false
  srt := srtT
theorem okCm {f a Q} (h : stepCall (SX Tryz.prog calmT) cxCm calmT f a Q) : CallOK Tryz.prog f a Q := okOf (cx := cxCm) rfl progOK h
def tiBad (l : List Ti) (ps : List Pr) (i : Nat) : Prop := (findP (l.getD i ETi.d).p ps).2 = false ∨ (0 < i ∧ strLt (l.getD (i - 1) ETi.d).p (l.getD i ETi.d).p = false)
instance (l : List Ti) (ps : List Pr) (i : Nat) : Decidable (tiBad l ps i) := inferInstanceAs (Decidable (_ ∨ _))
def tiAt (l : List Ti) (ps : List Pr) (i : Nat) : Int := if tiBad l ps i then 19 else spE (l.getD i ETi.d).l
def tiE (l : List Ti) (ps : List Pr) : Int := if 32 < l.length then 8 else firstE (tiAt l ps) l.length 0
theorem geLe (x y : ByteArray) : (strLt y x || decide (y = x)) = !strLt x y := by
  cases h : strLt x y
  · by_cases e : y = x
    · subst e; simp
    · rw [strLt_tri h (fun q => e q.symm)]; rfl
  · cases h2 : strLt y x
    · have : ¬ y = x := fun e => by subst e; rw [strLt_irr] at h; cases h
      simp [this]
    · have := strLt_tr h h2; rw [strLt_irr] at this; cases this
theorem geLeT {x y : ByteArray} (h : strLt x y = false) : (strLt y x || decide (y = x)) = true := by rw [geLe, h]; rfl
theorem geLeF {x y : ByteArray} (h : strLt x y = true) : (strLt y x || decide (y = x)) = false := by rw [geLe, h]; rfl
theorem tiCheck (l : List Ti) (ps : List Pr) (hl : l.length ≤ 9223372036854775807) (hls : ∀ x ∈ l, x.l.length ≤ 9223372036854775807) (hp : ps.length ≤ 1073741824) : CallOK Tryz.prog 82 [ETi.L l, EPr.L ps] (fun r => r = .int .i64 (tiE l ps)) := by
  refine okCm ?_
  by_cases hlong : 32 < l.length
  · rw [tiE, if_pos hlong]
    conv => whnf
    repeat' ((first | with_reducible refine bT rfl ?_ | with_reducible refine bF rfl ?_ | ((first | refine sN ?_ | refine sS ?_ | refine sA ?_ | refine sM ?_ | refine sC ?_); (conv => whnf); refine bT (by first | rfl | exact iR8 _ | exact uNN _ | exact iR (by omega) | exact iR (by rw [hw]; omega) | exact nBlt (by omega) | exact nBle (by omega) | exact roomL (by omega) rfl | exact mkOK (by omega) (by omega) (by omega) rfl | (simp; omega)) ?_) | refine bDt (by omega) ?_ | refine bDf (by omega) ?_ | refine bNt (by omega) ?_ | refine bNf (by omega) ?_ | refine bD (fun _ => ?_) (fun _ => ?_) | refine bN (fun _ => ?_) (fun _ => ?_)) <;> conv => whnf)
    all_goals rfl
  rw [tiE, if_neg hlong]
  conv => whnf
  repeat' ((first | with_reducible refine bT rfl ?_ | with_reducible refine bF rfl ?_ | ((first | refine sN ?_ | refine sS ?_ | refine sA ?_ | refine sM ?_ | refine sC ?_); (conv => whnf); refine bT (by first | rfl | exact iR8 _ | exact uNN _ | exact iR (by omega) | exact iR (by rw [hw]; omega) | exact nBlt (by omega) | exact nBle (by omega) | exact roomL (by omega) rfl | exact mkOK (by omega) (by omega) (by omega) rfl | (simp; omega)) ?_) | refine bDt (by omega) ?_ | refine bDf (by omega) ?_ | refine bNt (by omega) ?_ | refine bNf (by omega) ?_ | refine bD (fun _ => ?_) (fun _ => ?_) | refine bN (fun _ => ?_) (fun _ => ?_)) <;> conv => whnf)
  refine loop_by (cx := cxCm) rfl progOK (ι := {i : Nat // i ≤ l.length ∧ firstE (tiAt l ps) (l.length - i) i = firstE (tiAt l ps) l.length 0}) (fun i => l.length - i.1) (fun i => ⟨[(0, ETi.L l), (1, EPr.L ps), (13, ETi.L l), (14, .int .i64 l.length), (15, .int .i64 i.1)], [], [], none⟩) ?_ ⟨0, Nat.zero_le _, rfl⟩
  rintro ⟨i, hi, hf⟩ ih
  dsimp only at hi hf ⊢
  by_cases hlt : i < l.length
  · rw [firstE_at hlt] at hf
    have hw0 : 0 < i → IntKind.i64.wrap ((i : Int) - 1) = ((i - 1 : Nat) : Int) := fun h => by rw [wrap64 (by omega)]; omega
    have kf := prFind ps (l.getD i ETi.d).p hp
    have ks := spCheck (l.getD i ETi.d).l (hls _ (Enc.get_mem (E := ETi) hlt))
    by_cases hb : tiBad l ps i
    · rw [tiAt, if_pos hb, if_neg (by decide)] at hf
      rw [← hf]
      clear ih
      unfold tiBad at hb
      generalize findP (l.getD i ETi.d).p ps = q at *
      obtain ⟨q1, q2⟩ := q
      cases q2
      · conv => whnf
        repeat' ((first | with_reducible refine bT rfl ?_ | with_reducible refine bF rfl ?_ | ((first | refine sN ?_ | refine sS ?_ | refine sA ?_ | refine sM ?_ | refine sC ?_); (conv => whnf); refine bT (by first | rfl | exact iR8 _ | exact uNN _ | exact iR (by omega) | exact iR (by rw [hw]; omega) | exact nBlt (by omega) | exact nBle (by omega) | exact roomL (by omega) rfl | exact mkOK (by omega) (by omega) (by omega) rfl | (simp; omega)) ?_) | refine bDt (by omega) ?_ | refine bDf (by omega) ?_ | refine bNt (by omega) ?_ | refine bNf (by omega) ?_ | refine call_is kf ?_ | refine bD (fun _ => ?_) (fun _ => ?_) | refine bN (fun _ => ?_) (fun _ => ?_)) <;> conv => whnf)
        all_goals rfl
      · have hb2 := hb.resolve_left (by simp)
        have hw := hw0 hb2.1
        conv => whnf
        repeat' ((first | with_reducible refine bT rfl ?_ | with_reducible refine bF rfl ?_ | ((first | refine sN ?_ | refine sS ?_ | refine sA ?_ | refine sM ?_ | refine sC ?_); (conv => whnf); refine bT (by first | rfl | exact iR8 _ | exact uNN _ | exact iR (by omega) | exact iR (by rw [hw]; omega) | exact nBlt (by omega) | exact nBle (by omega) | exact roomL (by omega) rfl | exact mkOK (by omega) (by omega) (by omega) rfl | (simp; omega)) ?_) | refine bDt (by omega) ?_ | refine bDf (by omega) ?_ | refine bNt (by omega) ?_ | refine bNf (by omega) ?_ | refine call_is kf ?_ | refine bT (by rw [hw]; show (!strLt _ _) = true; rw [Bool.not_eq_true']; exact hb2.2) ?_ | refine bD (fun _ => ?_) (fun _ => ?_) | refine bN (fun _ => ?_) (fun _ => ?_)) <;> conv => whnf)
        all_goals rfl
    · rw [tiAt, if_neg hb] at hf
      unfold tiBad at hb
      generalize findP (l.getD i ETi.d).p ps = q at *
      obtain ⟨q1, q2⟩ := q
      cases q2
      · exact absurd (.inl rfl) hb
      · have hb2 : 0 < i → strLt (l.getD (i - 1) ETi.d).p (l.getD i ETi.d).p = true := fun h => by
          cases hh : strLt (l.getD (i - 1) ETi.d).p (l.getD i ETi.d).p with
          | true => rfl
          | false => exact absurd (.inr ⟨h, hh⟩) hb
        by_cases h1 : spE (l.getD i ETi.d).l = 0
        · rw [if_pos h1] at hf
          conv => whnf
          repeat' ((first | with_reducible refine bT rfl ?_ | with_reducible refine bF rfl ?_ | ((first | refine sN ?_ | refine sS ?_ | refine sA ?_ | refine sM ?_ | refine sC ?_); (conv => whnf); refine bT (by first | rfl | exact iR8 _ | exact uNN _ | exact iR (by omega) | exact iR (by rw [hw]; omega) | exact nBlt (by omega) | exact nBle (by omega) | exact roomL (by omega) rfl | exact mkOK (by omega) (by omega) (by omega) rfl | (simp; omega)) ?_) | refine bDt (by omega) ?_ | refine bDf (by omega) ?_ | refine bNt (by omega) ?_ | refine bNf (by omega) ?_ | refine call_is kf ?_ | refine bF (by rw [hw0 (by omega)]; show (!strLt _ _) = false; rw [Bool.not_eq_false']; exact hb2 (by omega)) ?_ | refine call_is ks ?_ | refine bNf h1 ?_ | refine loop_to ih ⟨i + 1, hlt, hf⟩ (show l.length - (i+1) < l.length - i by omega) ?_ | refine bD (fun _ => ?_) (fun _ => ?_) | refine bN (fun _ => ?_) (fun _ => ?_)) <;> conv => whnf)
          all_goals (rw [next_i hlt (by omega)]; rfl)
        · rw [if_neg h1] at hf
          rw [← hf]
          clear ih
          conv => whnf
          repeat' ((first | with_reducible refine bT rfl ?_ | with_reducible refine bF rfl ?_ | ((first | refine sN ?_ | refine sS ?_ | refine sA ?_ | refine sM ?_ | refine sC ?_); (conv => whnf); refine bT (by first | rfl | exact iR8 _ | exact uNN _ | exact iR (by omega) | exact iR (by rw [hw]; omega) | exact nBlt (by omega) | exact nBle (by omega) | exact roomL (by omega) rfl | exact mkOK (by omega) (by omega) (by omega) rfl | (simp; omega)) ?_) | refine bDt (by omega) ?_ | refine bDf (by omega) ?_ | refine bNt (by omega) ?_ | refine bNf (by omega) ?_ | refine call_is kf ?_ | refine bF (by rw [hw0 (by omega)]; show (!strLt _ _) = false; rw [Bool.not_eq_false']; exact hb2 (by omega)) ?_ | refine call_is ks ?_ | refine bNt h1 ?_ | refine bD (fun _ => ?_) (fun _ => ?_) | refine bN (fun _ => ?_) (fun _ => ?_)) <;> conv => whnf)
          all_goals rfl
  · obtain rfl : i = l.length := by omega
    rw [Nat.sub_self, firstE] at hf
    rw [← hf]
    conv => whnf
    repeat' ((first | with_reducible refine bT rfl ?_ | with_reducible refine bF rfl ?_ | ((first | refine sN ?_ | refine sS ?_ | refine sA ?_ | refine sM ?_ | refine sC ?_); (conv => whnf); refine bT (by first | rfl | exact iR8 _ | exact uNN _ | exact iR (by omega) | exact iR (by rw [hw]; omega) | exact nBlt (by omega) | exact nBle (by omega) | exact roomL (by omega) rfl | exact mkOK (by omega) (by omega) (by omega) rfl | (simp; omega)) ?_) | refine bDt (by omega) ?_ | refine bDf (by omega) ?_ | refine bNt (by omega) ?_ | refine bNf (by omega) ?_ | refine bD (fun _ => ?_) (fun _ => ?_) | refine bN (fun _ => ?_) (fun _ => ?_)) <;> conv => whnf)
    all_goals rfl
theorem refTiCheck (l : List Ti) (ps : List Pr) (hl : l.length ≤ 9223372036854775807) (hls : ∀ x ∈ l, x.l.length ≤ 9223372036854775807) (hp : ps.length ≤ 1073741824) : CallOK Tryz.prog 95 [ETi.L l, EPr.L ps] (fun r => r = .int .i64 (tiE l ps)) := by
  refine okCm ?_
  by_cases hlong : 32 < l.length
  · rw [tiE, if_pos hlong]
    conv => whnf
    repeat' ((first | with_reducible refine bT rfl ?_ | with_reducible refine bF rfl ?_ | ((first | refine sN ?_ | refine sS ?_ | refine sA ?_ | refine sM ?_ | refine sC ?_); (conv => whnf); refine bT (by first | rfl | exact iR8 _ | exact uNN _ | exact iR (by omega) | exact iR (by rw [hw]; omega) | exact nBlt (by omega) | exact nBle (by omega) | exact roomL (by omega) rfl | exact mkOK (by omega) (by omega) (by omega) rfl | (simp; omega)) ?_) | refine bDt (by omega) ?_ | refine bDf (by omega) ?_ | refine bNt (by omega) ?_ | refine bNf (by omega) ?_ | refine bD (fun _ => ?_) (fun _ => ?_) | refine bN (fun _ => ?_) (fun _ => ?_)) <;> conv => whnf)
    all_goals rfl
  rw [tiE, if_neg hlong]
  conv => whnf
  repeat' ((first | with_reducible refine bT rfl ?_ | with_reducible refine bF rfl ?_ | ((first | refine sN ?_ | refine sS ?_ | refine sA ?_ | refine sM ?_ | refine sC ?_); (conv => whnf); refine bT (by first | rfl | exact iR8 _ | exact uNN _ | exact iR (by omega) | exact iR (by rw [hw]; omega) | exact nBlt (by omega) | exact nBle (by omega) | exact roomL (by omega) rfl | exact mkOK (by omega) (by omega) (by omega) rfl | (simp; omega)) ?_) | refine bDt (by omega) ?_ | refine bDf (by omega) ?_ | refine bNt (by omega) ?_ | refine bNf (by omega) ?_ | refine bD (fun _ => ?_) (fun _ => ?_) | refine bN (fun _ => ?_) (fun _ => ?_)) <;> conv => whnf)
  refine loop_by (cx := cxCm) rfl progOK (ι := {i : Nat // i ≤ l.length ∧ firstE (tiAt l ps) (l.length - i) i = firstE (tiAt l ps) l.length 0}) (fun i => l.length - i.1) (fun i => ⟨[(0, ETi.L l), (1, EPr.L ps), (5, .int .i64 i.1)], [], [], none⟩) ?_ ⟨0, Nat.zero_le _, rfl⟩
  rintro ⟨i, hi, hf⟩ ih
  dsimp only at hi hf ⊢
  by_cases hlt : i < l.length
  · rw [firstE_at hlt] at hf
    have hw0 : 0 < i → IntKind.i64.wrap ((i : Int) - 1) = ((i - 1 : Nat) : Int) := fun h => by rw [wrap64 (by omega)]; omega
    have kf := refPrFind ps (l.getD i ETi.d).p hp
    have ks := refSpCheck (l.getD i ETi.d).l (hls _ (Enc.get_mem (E := ETi) hlt))
    by_cases hb : tiBad l ps i
    · rw [tiAt, if_pos hb, if_neg (by decide)] at hf
      rw [← hf]
      clear ih
      unfold tiBad at hb
      generalize findP (l.getD i ETi.d).p ps = q at *
      obtain ⟨q1, q2⟩ := q
      cases q2
      · conv => whnf
        repeat' ((first | with_reducible refine bT rfl ?_ | with_reducible refine bF rfl ?_ | ((first | refine sN ?_ | refine sS ?_ | refine sA ?_ | refine sM ?_ | refine sC ?_); (conv => whnf); refine bT (by first | rfl | exact iR8 _ | exact uNN _ | exact iR (by omega) | exact iR (by rw [hw]; omega) | exact nBlt (by omega) | exact nBle (by omega) | exact roomL (by omega) rfl | exact mkOK (by omega) (by omega) (by omega) rfl | (simp; omega)) ?_) | refine bDt (by omega) ?_ | refine bDf (by omega) ?_ | refine bNt (by omega) ?_ | refine bNf (by omega) ?_ | refine call_is kf ?_ | refine bD (fun _ => ?_) (fun _ => ?_) | refine bN (fun _ => ?_) (fun _ => ?_)) <;> conv => whnf)
        all_goals rfl
      · have hb2 := hb.resolve_left (by simp)
        have hw := hw0 hb2.1
        conv => whnf
        repeat' ((first | with_reducible refine bT rfl ?_ | with_reducible refine bF rfl ?_ | ((first | refine sN ?_ | refine sS ?_ | refine sA ?_ | refine sM ?_ | refine sC ?_); (conv => whnf); refine bT (by first | rfl | exact iR8 _ | exact uNN _ | exact iR (by omega) | exact iR (by rw [hw]; omega) | exact nBlt (by omega) | exact nBle (by omega) | exact roomL (by omega) rfl | exact mkOK (by omega) (by omega) (by omega) rfl | (simp; omega)) ?_) | refine bDt (by omega) ?_ | refine bDf (by omega) ?_ | refine bNt (by omega) ?_ | refine bNf (by omega) ?_ | refine call_is kf ?_ | refine bT (by rw [hw]; exact geLeT hb2.2) ?_ | refine bD (fun _ => ?_) (fun _ => ?_) | refine bN (fun _ => ?_) (fun _ => ?_)) <;> conv => whnf)
        all_goals rfl
    · rw [tiAt, if_neg hb] at hf
      unfold tiBad at hb
      generalize findP (l.getD i ETi.d).p ps = q at *
      obtain ⟨q1, q2⟩ := q
      cases q2
      · exact absurd (.inl rfl) hb
      · have hb2 : 0 < i → strLt (l.getD (i - 1) ETi.d).p (l.getD i ETi.d).p = true := fun h => by
          cases hh : strLt (l.getD (i - 1) ETi.d).p (l.getD i ETi.d).p with
          | true => rfl
          | false => exact absurd (.inr ⟨h, hh⟩) hb
        by_cases h1 : spE (l.getD i ETi.d).l = 0
        · rw [if_pos h1] at hf
          conv => whnf
          repeat' ((first | with_reducible refine bT rfl ?_ | with_reducible refine bF rfl ?_ | ((first | refine sN ?_ | refine sS ?_ | refine sA ?_ | refine sM ?_ | refine sC ?_); (conv => whnf); refine bT (by first | rfl | exact iR8 _ | exact uNN _ | exact iR (by omega) | exact iR (by rw [hw]; omega) | exact nBlt (by omega) | exact nBle (by omega) | exact roomL (by omega) rfl | exact mkOK (by omega) (by omega) (by omega) rfl | (simp; omega)) ?_) | refine bDt (by omega) ?_ | refine bDf (by omega) ?_ | refine bNt (by omega) ?_ | refine bNf (by omega) ?_ | refine call_is kf ?_ | refine bF (by rw [hw0 (by omega)]; exact geLeF (hb2 (by omega))) ?_ | refine call_is ks ?_ | refine bNf h1 ?_ | refine loop_to ih ⟨i + 1, hlt, hf⟩ (show l.length - (i+1) < l.length - i by omega) ?_ | refine bD (fun _ => ?_) (fun _ => ?_) | refine bN (fun _ => ?_) (fun _ => ?_)) <;> conv => whnf)
          all_goals (rw [next_i hlt (by omega)]; rfl)
        · rw [if_neg h1] at hf
          rw [← hf]
          clear ih
          conv => whnf
          repeat' ((first | with_reducible refine bT rfl ?_ | with_reducible refine bF rfl ?_ | ((first | refine sN ?_ | refine sS ?_ | refine sA ?_ | refine sM ?_ | refine sC ?_); (conv => whnf); refine bT (by first | rfl | exact iR8 _ | exact uNN _ | exact iR (by omega) | exact iR (by rw [hw]; omega) | exact nBlt (by omega) | exact nBle (by omega) | exact roomL (by omega) rfl | exact mkOK (by omega) (by omega) (by omega) rfl | (simp; omega)) ?_) | refine bDt (by omega) ?_ | refine bDf (by omega) ?_ | refine bNt (by omega) ?_ | refine bNf (by omega) ?_ | refine call_is kf ?_ | refine bF (by rw [hw0 (by omega)]; exact geLeF (hb2 (by omega))) ?_ | refine call_is ks ?_ | refine bNt h1 ?_ | refine bD (fun _ => ?_) (fun _ => ?_) | refine bN (fun _ => ?_) (fun _ => ?_)) <;> conv => whnf)
          all_goals rfl
  · obtain rfl : i = l.length := by omega
    rw [Nat.sub_self, firstE] at hf
    rw [← hf]
    conv => whnf
    repeat' ((first | with_reducible refine bT rfl ?_ | with_reducible refine bF rfl ?_ | ((first | refine sN ?_ | refine sS ?_ | refine sA ?_ | refine sM ?_ | refine sC ?_); (conv => whnf); refine bT (by first | rfl | exact iR8 _ | exact uNN _ | exact iR (by omega) | exact iR (by rw [hw]; omega) | exact nBlt (by omega) | exact nBle (by omega) | exact roomL (by omega) rfl | exact mkOK (by omega) (by omega) (by omega) rfl | (simp; omega)) ?_) | refine bDt (by omega) ?_ | refine bDf (by omega) ?_ | refine bNt (by omega) ?_ | refine bNf (by omega) ?_ | refine bD (fun _ => ?_) (fun _ => ?_) | refine bN (fun _ => ?_) (fun _ => ?_)) <;> conv => whnf)
    all_goals rfl
def flE (x : Ru) : Int := if (0 ≤ x.sh ∧ x.sh ≤ 68719476736) ∧ (0 ≤ x.ne ∧ x.ne ≤ 68719476736) ∧ (0 ≤ x.nd ∧ x.nd ≤ 73048) then 0 else 2
theorem floors (x : Ru) : CallOK Tryz.prog 86 [encRu x] (fun r => r = .int .i64 (flE x)) := by
  refine okCm ?_
  by_cases h : (0 ≤ x.sh ∧ x.sh ≤ 68719476736) ∧ (0 ≤ x.ne ∧ x.ne ≤ 68719476736) ∧ (0 ≤ x.nd ∧ x.nd ≤ 73048)
  · rw [flE, if_pos h]
    conv => whnf
    repeat' ((first | with_reducible refine bT rfl ?_ | with_reducible refine bF rfl ?_ | ((first | refine sN ?_ | refine sS ?_ | refine sA ?_ | refine sM ?_ | refine sC ?_); (conv => whnf); refine bT (by first | rfl | exact iR8 _ | exact uNN _ | exact iR (by omega) | exact iR (by rw [hw]; omega) | exact nBlt (by omega) | exact nBle (by omega) | exact roomL (by omega) rfl | exact mkOK (by omega) (by omega) (by omega) rfl | (simp; omega)) ?_) | refine bDt (by omega) ?_ | refine bDf (by omega) ?_ | refine bNt (by omega) ?_ | refine bNf (by omega) ?_ | refine bD (fun _ => ?_) (fun _ => ?_) | refine bN (fun _ => ?_) (fun _ => ?_)) <;> conv => whnf)
    all_goals first | rfl | (exfalso; omega)
  · rw [flE, if_neg h]
    conv => whnf
    repeat' ((first | with_reducible refine bT rfl ?_ | with_reducible refine bF rfl ?_ | ((first | refine sN ?_ | refine sS ?_ | refine sA ?_ | refine sM ?_ | refine sC ?_); (conv => whnf); refine bT (by first | rfl | exact iR8 _ | exact uNN _ | exact iR (by omega) | exact iR (by rw [hw]; omega) | exact nBlt (by omega) | exact nBle (by omega) | exact roomL (by omega) rfl | exact mkOK (by omega) (by omega) (by omega) rfl | (simp; omega)) ?_) | refine bDt (by omega) ?_ | refine bDf (by omega) ?_ | refine bNt (by omega) ?_ | refine bNf (by omega) ?_ | refine bD (fun _ => ?_) (fun _ => ?_) | refine bN (fun _ => ?_) (fun _ => ?_)) <;> conv => whnf)
    all_goals first | rfl | (exfalso; omega)
def hiE (x : Ru) : Int := if x.mo.length = 0 then 0 else if chkE x.se x.mo = 0 then (if 1 ≤ x.wo ∧ x.wo ≤ x.mo.length then 0 else 2) else chkE x.se x.mo
theorem history (x : Ru) (hs : x.se.length ≤ 1073741824) (hm : x.mo.length ≤ 9223372036854775807) (hl : ∀ d ∈ x.mo, d.length ≤ 9223372036854775807) : CallOK Tryz.prog 90 [encRu x] (fun r => r = .int .i64 (hiE x)) := by
  refine okCm ?_
  have kc := check x.se x.mo hs hm hl
  unfold hiE
  by_cases h : x.mo.length = 0
  · rw [if_pos h]
    conv => whnf
    repeat' ((first | with_reducible refine bT rfl ?_ | with_reducible refine bF rfl ?_ | ((first | refine sN ?_ | refine sS ?_ | refine sA ?_ | refine sM ?_ | refine sC ?_); (conv => whnf); refine bT (by first | rfl | exact iR8 _ | exact uNN _ | exact iR (by omega) | exact iR (by rw [hw]; omega) | exact nBlt (by omega) | exact nBle (by omega) | exact roomL (by omega) rfl | exact mkOK (by omega) (by omega) (by omega) rfl | (simp; omega)) ?_) | refine bDt (by omega) ?_ | refine bDf (by omega) ?_ | refine bNt (by omega) ?_ | refine bNf (by omega) ?_ | refine bD (fun _ => ?_) (fun _ => ?_) | refine bN (fun _ => ?_) (fun _ => ?_)) <;> conv => whnf)
    all_goals first | rfl | (exfalso; omega)
  · rw [if_neg h]
    by_cases h1 : chkE x.se x.mo = 0
    · rw [if_pos h1]
      by_cases h2 : 1 ≤ x.wo ∧ x.wo ≤ x.mo.length
      · rw [if_pos h2]
        conv => whnf
        repeat' ((first | with_reducible refine bT rfl ?_ | with_reducible refine bF rfl ?_ | ((first | refine sN ?_ | refine sS ?_ | refine sA ?_ | refine sM ?_ | refine sC ?_); (conv => whnf); refine bT (by first | rfl | exact iR8 _ | exact uNN _ | exact iR (by omega) | exact iR (by rw [hw]; omega) | exact nBlt (by omega) | exact nBle (by omega) | exact roomL (by omega) rfl | exact mkOK (by omega) (by omega) (by omega) rfl | (simp; omega)) ?_) | refine bDt (by omega) ?_ | refine bDf (by omega) ?_ | refine bNt (by omega) ?_ | refine bNf (by omega) ?_ | refine call_is kc ?_ | refine bNf h1 ?_ | refine bD (fun _ => ?_) (fun _ => ?_) | refine bN (fun _ => ?_) (fun _ => ?_)) <;> conv => whnf)
        all_goals first | rfl | (exfalso; omega)
      · rw [if_neg h2]
        conv => whnf
        repeat' ((first | with_reducible refine bT rfl ?_ | with_reducible refine bF rfl ?_ | ((first | refine sN ?_ | refine sS ?_ | refine sA ?_ | refine sM ?_ | refine sC ?_); (conv => whnf); refine bT (by first | rfl | exact iR8 _ | exact uNN _ | exact iR (by omega) | exact iR (by rw [hw]; omega) | exact nBlt (by omega) | exact nBle (by omega) | exact roomL (by omega) rfl | exact mkOK (by omega) (by omega) (by omega) rfl | (simp; omega)) ?_) | refine bDt (by omega) ?_ | refine bDf (by omega) ?_ | refine bNt (by omega) ?_ | refine bNf (by omega) ?_ | refine call_is kc ?_ | refine bNf h1 ?_ | refine bD (fun _ => ?_) (fun _ => ?_) | refine bN (fun _ => ?_) (fun _ => ?_)) <;> conv => whnf)
        all_goals first | rfl | (exfalso; omega)
    · rw [if_neg h1]
      conv => whnf
      repeat' ((first | with_reducible refine bT rfl ?_ | with_reducible refine bF rfl ?_ | ((first | refine sN ?_ | refine sS ?_ | refine sA ?_ | refine sM ?_ | refine sC ?_); (conv => whnf); refine bT (by first | rfl | exact iR8 _ | exact uNN _ | exact iR (by omega) | exact iR (by rw [hw]; omega) | exact nBlt (by omega) | exact nBle (by omega) | exact roomL (by omega) rfl | exact mkOK (by omega) (by omega) (by omega) rfl | (simp; omega)) ?_) | refine bDt (by omega) ?_ | refine bDf (by omega) ?_ | refine bNt (by omega) ?_ | refine bNf (by omega) ?_ | refine call_is kc ?_ | refine bNt h1 ?_ | refine bD (fun _ => ?_) (fun _ => ?_) | refine bN (fun _ => ?_) (fun _ => ?_)) <;> conv => whnf)
      all_goals first | rfl | (exfalso; omega)
theorem refHistory (x : Ru) (hs : x.se.length ≤ 1073741824) (hm : x.mo.length ≤ 9223372036854775807) (hl : ∀ d ∈ x.mo, d.length ≤ 9223372036854775807) : CallOK Tryz.prog 98 [encRu x] (fun r => r = .int .i64 (hiE x)) := by
  refine okCm ?_
  have kc := refCheck x.se x.mo hs hm hl
  unfold hiE
  by_cases h : x.mo.length = 0
  · rw [if_pos h]
    conv => whnf
    repeat' ((first | with_reducible refine bT rfl ?_ | with_reducible refine bF rfl ?_ | ((first | refine sN ?_ | refine sS ?_ | refine sA ?_ | refine sM ?_ | refine sC ?_); (conv => whnf); refine bT (by first | rfl | exact iR8 _ | exact uNN _ | exact iR (by omega) | exact iR (by rw [hw]; omega) | exact nBlt (by omega) | exact nBle (by omega) | exact roomL (by omega) rfl | exact mkOK (by omega) (by omega) (by omega) rfl | (simp; omega)) ?_) | refine bDt (by omega) ?_ | refine bDf (by omega) ?_ | refine bNt (by omega) ?_ | refine bNf (by omega) ?_ | refine bD (fun _ => ?_) (fun _ => ?_) | refine bN (fun _ => ?_) (fun _ => ?_)) <;> conv => whnf)
    all_goals first | rfl | (exfalso; omega)
  · rw [if_neg h]
    by_cases h1 : chkE x.se x.mo = 0
    · rw [if_pos h1]
      by_cases h2 : 1 ≤ x.wo ∧ x.wo ≤ x.mo.length
      · rw [if_pos h2]
        conv => whnf
        repeat' ((first | with_reducible refine bT rfl ?_ | with_reducible refine bF rfl ?_ | ((first | refine sN ?_ | refine sS ?_ | refine sA ?_ | refine sM ?_ | refine sC ?_); (conv => whnf); refine bT (by first | rfl | exact iR8 _ | exact uNN _ | exact iR (by omega) | exact iR (by rw [hw]; omega) | exact nBlt (by omega) | exact nBle (by omega) | exact roomL (by omega) rfl | exact mkOK (by omega) (by omega) (by omega) rfl | (simp; omega)) ?_) | refine bDt (by omega) ?_ | refine bDf (by omega) ?_ | refine bNt (by omega) ?_ | refine bNf (by omega) ?_ | refine call_is kc ?_ | refine bNf h1 ?_ | refine bD (fun _ => ?_) (fun _ => ?_) | refine bN (fun _ => ?_) (fun _ => ?_)) <;> conv => whnf)
        all_goals first | rfl | (exfalso; omega)
      · rw [if_neg h2]
        conv => whnf
        repeat' ((first | with_reducible refine bT rfl ?_ | with_reducible refine bF rfl ?_ | ((first | refine sN ?_ | refine sS ?_ | refine sA ?_ | refine sM ?_ | refine sC ?_); (conv => whnf); refine bT (by first | rfl | exact iR8 _ | exact uNN _ | exact iR (by omega) | exact iR (by rw [hw]; omega) | exact nBlt (by omega) | exact nBle (by omega) | exact roomL (by omega) rfl | exact mkOK (by omega) (by omega) (by omega) rfl | (simp; omega)) ?_) | refine bDt (by omega) ?_ | refine bDf (by omega) ?_ | refine bNt (by omega) ?_ | refine bNf (by omega) ?_ | refine call_is kc ?_ | refine bNf h1 ?_ | refine bD (fun _ => ?_) (fun _ => ?_) | refine bN (fun _ => ?_) (fun _ => ?_)) <;> conv => whnf)
        all_goals first | rfl | (exfalso; omega)
    · rw [if_neg h1]
      conv => whnf
      repeat' ((first | with_reducible refine bT rfl ?_ | with_reducible refine bF rfl ?_ | ((first | refine sN ?_ | refine sS ?_ | refine sA ?_ | refine sM ?_ | refine sC ?_); (conv => whnf); refine bT (by first | rfl | exact iR8 _ | exact uNN _ | exact iR (by omega) | exact iR (by rw [hw]; omega) | exact nBlt (by omega) | exact nBle (by omega) | exact roomL (by omega) rfl | exact mkOK (by omega) (by omega) (by omega) rfl | (simp; omega)) ?_) | refine bDt (by omega) ?_ | refine bDf (by omega) ?_ | refine bNt (by omega) ?_ | refine bNf (by omega) ?_ | refine call_is kc ?_ | refine bNt h1 ?_ | refine bD (fun _ => ?_) (fun _ => ?_) | refine bN (fun _ => ?_) (fun _ => ?_)) <;> conv => whnf)
      all_goals first | rfl | (exfalso; omega)
def laE (x : Ru) : Int := if (0 ≤ x.lo ∧ x.lo ≤ 1152921504606846976) ∧ (0 ≤ x.pa ∧ x.pa ≤ 1000) then 0 else 2
def fst0 : List Int → Int
  | [] => 0
  | x :: r => if x = 0 then fst0 r else x
def ruL (x : Ru) (ps : List Pr) : List Int := [prAllE ps, arE x.ar, tiE x.ti ps, crE x.cr, flE x, stE x.st, hiE x, laE x]
def ruE (x : Ru) (ps : List Pr) : Int := fst0 (ruL x ps)
theorem refFirst (l : List Int) (hl : l.length ≤ 1073741824) : CallOK Tryz.prog 92 [EI.L l] (fun r => r = .int .i64 (fst0 l)) := by
  refine okCm ?_
  conv => whnf
  repeat' ((first | with_reducible refine bT rfl ?_ | with_reducible refine bF rfl ?_ | ((first | refine sN ?_ | refine sS ?_ | refine sA ?_ | refine sM ?_ | refine sC ?_); (conv => whnf); refine bT (by first | rfl | exact iR8 _ | exact uNN _ | exact iR (by omega) | exact iR (by rw [hw]; omega) | exact nBlt (by omega) | exact nBle (by omega) | exact roomL (by omega) rfl | exact mkOK (by omega) (by omega) (by omega) rfl | (simp; omega)) ?_) | refine bDt (by omega) ?_ | refine bDf (by omega) ?_ | refine bNt (by omega) ?_ | refine bNf (by omega) ?_ | refine bD (fun _ => ?_) (fun _ => ?_) | refine bN (fun _ => ?_) (fun _ => ?_)) <;> conv => whnf)
  refine loop_by (cx := cxCm) rfl progOK (ι := {i : Nat // i ≤ l.length ∧ fst0 (l.drop i) = fst0 l}) (fun i => l.length - i.1) (fun i => ⟨[(0, EI.L l), (3, .int .i64 i.1)], [], [], none⟩) ?_ ⟨0, Nat.zero_le _, rfl⟩
  rintro ⟨i, hi, hf⟩ ih
  dsimp only at hi hf ⊢
  by_cases hlt : i < l.length
  · rw [Enc.drop_cons (E := EI) hlt, fst0] at hf
    by_cases h1 : l.getD i EI.d = 0
    · rw [if_pos h1] at hf
      have h1' := h1
      rw [← Int.toNat_natCast i] at h1'
      conv => whnf
      repeat' ((first | with_reducible refine bT rfl ?_ | with_reducible refine bF rfl ?_ | ((first | refine sN ?_ | refine sS ?_ | refine sA ?_ | refine sM ?_ | refine sC ?_); (conv => whnf); refine bT (by first | rfl | exact iR8 _ | exact uNN _ | exact iR (by omega) | exact iR (by rw [hw]; omega) | exact nBlt (by omega) | exact nBle (by omega) | exact roomL (by omega) rfl | exact mkOK (by omega) (by omega) (by omega) rfl | (simp; omega)) ?_) | refine bDt (by omega) ?_ | refine bDf (by omega) ?_ | refine bNt (by omega) ?_ | refine bNf (by omega) ?_ | refine loop_to ih ⟨i + 1, hlt, hf⟩ (show l.length - (i+1) < l.length - i by omega) ?_ | refine bD (fun _ => ?_) (fun _ => ?_) | refine bN (fun _ => ?_) (fun _ => ?_)) <;> conv => whnf)
      all_goals (rw [next_i hlt (by omega)]; rfl)
    · rw [if_neg h1] at hf
      have h1' := h1
      rw [← Int.toNat_natCast i] at h1'
      rw [← hf]
      clear ih
      conv => whnf
      repeat' ((first | with_reducible refine bT rfl ?_ | with_reducible refine bF rfl ?_ | ((first | refine sN ?_ | refine sS ?_ | refine sA ?_ | refine sM ?_ | refine sC ?_); (conv => whnf); refine bT (by first | rfl | exact iR8 _ | exact uNN _ | exact iR (by omega) | exact iR (by rw [hw]; omega) | exact nBlt (by omega) | exact nBle (by omega) | exact roomL (by omega) rfl | exact mkOK (by omega) (by omega) (by omega) rfl | (simp; omega)) ?_) | refine bDt (by omega) ?_ | refine bDf (by omega) ?_ | refine bNt (by omega) ?_ | refine bNf (by omega) ?_ | refine bD (fun _ => ?_) (fun _ => ?_) | refine bN (fun _ => ?_) (fun _ => ?_)) <;> conv => whnf)
      all_goals first | rfl | (exfalso; omega)
  · obtain rfl : i = l.length := by omega
    rw [List.drop_length, fst0] at hf
    rw [← hf]
    conv => whnf
    repeat' ((first | with_reducible refine bT rfl ?_ | with_reducible refine bF rfl ?_ | ((first | refine sN ?_ | refine sS ?_ | refine sA ?_ | refine sM ?_ | refine sC ?_); (conv => whnf); refine bT (by first | rfl | exact iR8 _ | exact uNN _ | exact iR (by omega) | exact iR (by rw [hw]; omega) | exact nBlt (by omega) | exact nBle (by omega) | exact roomL (by omega) rfl | exact mkOK (by omega) (by omega) (by omega) rfl | (simp; omega)) ?_) | refine bDt (by omega) ?_ | refine bDf (by omega) ?_ | refine bNt (by omega) ?_ | refine bNf (by omega) ?_ | refine bD (fun _ => ?_) (fun _ => ?_) | refine bN (fun _ => ?_) (fun _ => ?_)) <;> conv => whnf)
    all_goals rfl
end Go.Proofs

namespace Go.Proofs
open Ax Go
set_option maxRecDepth 10000
set_option maxHeartbeats 16000000
def keepCh (f r : Nat) : Option (List Nat) := match f, r with
  | 24, 2 => some [2, 14, 15, 16]
  | _, _ => none
def keepXCh (f r : Nat) : Option (List Nat) := match f, r with
  | 24, 2 => some [2, 4]
  | _, _ => none
noncomputable def cxCh : Ctx where
  P := Tryz.prog
  inl := fun _ => false
  keep := keepCh
  keepX := keepXCh
  xf := fun _ _ _ => false
  ow := fun _ => false
  gh := fun _ _ => []
  gf := fun _ => []
  ln := fun _ => false
  srt := srtT
theorem okCh {f a Q} (h : stepCall (SX Tryz.prog calmT) cxCh calmT f a Q) : CallOK Tryz.prog f a Q := okOf (cx := cxCh) rfl progOK h
theorem mCheck (x : Ru) (ps : List Pr) (hp : ps.length ≤ 1073741824) (ha : x.ar.length ≤ 9223372036854775807 ∧ ∀ y ∈ x.ar, y.l.length ≤ 9223372036854775807) (ht : x.ti.length ≤ 9223372036854775807 ∧ ∀ y ∈ x.ti, y.l.length ≤ 9223372036854775807) (hc : x.cr.length ≤ 9223372036854775807) (hst : x.st.length ≤ 9223372036854775807)
    (hse : x.se.length ≤ 1073741824) (hm : x.mo.length ≤ 9223372036854775807 ∧ ∀ d ∈ x.mo, d.length ≤ 9223372036854775807) : CallOK Tryz.prog 24 [encRu x, EPr.L ps] (fun r => r = .int .i64 (ruE x ps)) := by
  refine okCh ?_
  conv => whnf
  repeat' ((first | with_reducible refine bT rfl ?_ | with_reducible refine bF rfl ?_ | ((first | refine sN ?_ | refine sS ?_ | refine sA ?_ | refine sM ?_ | refine sC ?_); (conv => whnf); refine bT (by first | rfl | exact iR8 _ | exact uNN _ | exact iR (by omega) | exact iR (by rw [hw]; omega) | exact nBlt (by omega) | exact nBle (by omega) | exact roomL (by omega) rfl | exact mkOK (by omega) (by omega) (by omega) rfl | (simp; omega)) ?_) | refine bDt (by omega) ?_ | refine bDf (by omega) ?_ | refine bNt (by omega) ?_ | refine bNf (by omega) ?_ | refine bD (fun _ => ?_) (fun _ => ?_) | refine bN (fun _ => ?_) (fun _ => ?_)) <;> conv => whnf)
  refine loop_by (cx := cxCh) rfl progOK (ι := {i : Nat // i ≤ 7 ∧ (0 < i → prAllE ps = 0) ∧ (1 < i → arE x.ar = 0) ∧ (2 < i → tiE x.ti ps = 0) ∧ (3 < i → crE x.cr = 0) ∧ (4 < i → flE x = 0) ∧ (5 < i → stE x.st = 0) ∧ (6 < i → hiE x = 0)}) (fun i => 7 - i.1) (fun i => ⟨[(2, .ptr 0 0), (14, .rvec [.fn 77 [] [.ptr (0 + 1) 0], .fn 79 [] [.ptr 0 0], .fn 81 [] [.ptr 0 0, .ptr (0 + 1) 0], .fn 83 [] [.ptr 0 0], .fn 85 [] [.ptr 0 0], .fn 87 [] [.ptr 0 0], .fn 89 [] [.ptr 0 0]]), (15, .int .i64 7), (16, .int .i64 i.1)], [.cells (cellsRu x), .cells [EPr.L ps]], [], none⟩) ?_ ⟨0, by omega, by omega, by omega, by omega, by omega, by omega, by omega, by omega⟩
  rintro ⟨i, hi, q0, q1, q2, q3, q4, q5, q6⟩ ih
  dsimp only at hi q0 q1 q2 q3 q4 q5 q6 ⊢
  obtain rfl | rfl | rfl | rfl | rfl | rfl | rfl | rfl : i = 0 ∨ i = 1 ∨ i = 2 ∨ i = 3 ∨ i = 4 ∨ i = 5 ∨ i = 6 ∨ i = 7 := by omega
  · skip
    by_cases h0 : prAllE ps = 0
    · conv => whnf
      repeat' ((first | with_reducible refine bT rfl ?_ | with_reducible refine bF rfl ?_ | ((first | refine sN ?_ | refine sS ?_ | refine sA ?_ | refine sM ?_ | refine sC ?_); (conv => whnf); refine bT (by first | rfl | exact iR8 _ | exact uNN _ | exact iR (by omega) | exact iR (by rw [hw]; omega) | exact nBlt (by omega) | exact nBle (by omega) | exact roomL (by omega) rfl | exact mkOK (by omega) (by omega) (by omega) rfl | (simp; omega)) ?_) | refine bDt (by omega) ?_ | refine bDf (by omega) ?_ | refine bNt (by omega) ?_ | refine bNf (by omega) ?_ | refine call_is (prAll ps hp) ?_ | refine bNf h0 ?_ | refine loop_to ih ⟨1, by omega, fun _ => h0, by omega, by omega, by omega, by omega, by omega, by omega⟩ (show 7 - 1 < 7 - 0 by omega) rfl | refine bD (fun _ => ?_) (fun _ => ?_) | refine bN (fun _ => ?_) (fun _ => ?_)) <;> conv => whnf)
    · clear ih
      have hE : ruE x ps = prAllE ps := by simp only [ruE, ruL, fst0, if_neg h0]
      rw [hE]
      conv => whnf
      repeat' ((first | with_reducible refine bT rfl ?_ | with_reducible refine bF rfl ?_ | ((first | refine sN ?_ | refine sS ?_ | refine sA ?_ | refine sM ?_ | refine sC ?_); (conv => whnf); refine bT (by first | rfl | exact iR8 _ | exact uNN _ | exact iR (by omega) | exact iR (by rw [hw]; omega) | exact nBlt (by omega) | exact nBle (by omega) | exact roomL (by omega) rfl | exact mkOK (by omega) (by omega) (by omega) rfl | (simp; omega)) ?_) | refine bDt (by omega) ?_ | refine bDf (by omega) ?_ | refine bNt (by omega) ?_ | refine bNf (by omega) ?_ | refine call_is (prAll ps hp) ?_ | refine bNt h0 ?_ | refine bD (fun _ => ?_) (fun _ => ?_) | refine bN (fun _ => ?_) (fun _ => ?_)) <;> conv => whnf)
      all_goals rfl
  · skip
    have h0 := q0 (by omega)
    by_cases h1 : arE x.ar = 0
    · conv => whnf
      repeat' ((first | with_reducible refine bT rfl ?_ | with_reducible refine bF rfl ?_ | ((first | refine sN ?_ | refine sS ?_ | refine sA ?_ | refine sM ?_ | refine sC ?_); (conv => whnf); refine bT (by first | rfl | exact iR8 _ | exact uNN _ | exact iR (by omega) | exact iR (by rw [hw]; omega) | exact nBlt (by omega) | exact nBle (by omega) | exact roomL (by omega) rfl | exact mkOK (by omega) (by omega) (by omega) rfl | (simp; omega)) ?_) | refine bDt (by omega) ?_ | refine bDf (by omega) ?_ | refine bNt (by omega) ?_ | refine bNf (by omega) ?_ | refine call_is (arCheck x.ar ha.1 ha.2) ?_ | refine bNf h1 ?_ | refine loop_to ih ⟨2, by omega, fun _ => h0, fun _ => h1, by omega, by omega, by omega, by omega, by omega⟩ (show 7 - 2 < 7 - 1 by omega) rfl | refine bD (fun _ => ?_) (fun _ => ?_) | refine bN (fun _ => ?_) (fun _ => ?_)) <;> conv => whnf)
    · clear ih
      have hE : ruE x ps = arE x.ar := by simp only [ruE, ruL, fst0, if_pos h0, if_neg h1]
      rw [hE]
      conv => whnf
      repeat' ((first | with_reducible refine bT rfl ?_ | with_reducible refine bF rfl ?_ | ((first | refine sN ?_ | refine sS ?_ | refine sA ?_ | refine sM ?_ | refine sC ?_); (conv => whnf); refine bT (by first | rfl | exact iR8 _ | exact uNN _ | exact iR (by omega) | exact iR (by rw [hw]; omega) | exact nBlt (by omega) | exact nBle (by omega) | exact roomL (by omega) rfl | exact mkOK (by omega) (by omega) (by omega) rfl | (simp; omega)) ?_) | refine bDt (by omega) ?_ | refine bDf (by omega) ?_ | refine bNt (by omega) ?_ | refine bNf (by omega) ?_ | refine call_is (arCheck x.ar ha.1 ha.2) ?_ | refine bNt h1 ?_ | refine bD (fun _ => ?_) (fun _ => ?_) | refine bN (fun _ => ?_) (fun _ => ?_)) <;> conv => whnf)
      all_goals rfl
  · skip
    have h0 := q0 (by omega)
    have h1 := q1 (by omega)
    by_cases h2 : tiE x.ti ps = 0
    · conv => whnf
      repeat' ((first | with_reducible refine bT rfl ?_ | with_reducible refine bF rfl ?_ | ((first | refine sN ?_ | refine sS ?_ | refine sA ?_ | refine sM ?_ | refine sC ?_); (conv => whnf); refine bT (by first | rfl | exact iR8 _ | exact uNN _ | exact iR (by omega) | exact iR (by rw [hw]; omega) | exact nBlt (by omega) | exact nBle (by omega) | exact roomL (by omega) rfl | exact mkOK (by omega) (by omega) (by omega) rfl | (simp; omega)) ?_) | refine bDt (by omega) ?_ | refine bDf (by omega) ?_ | refine bNt (by omega) ?_ | refine bNf (by omega) ?_ | refine call_is (tiCheck x.ti ps ht.1 ht.2 hp) ?_ | refine bNf h2 ?_ | refine loop_to ih ⟨3, by omega, fun _ => h0, fun _ => h1, fun _ => h2, by omega, by omega, by omega, by omega⟩ (show 7 - 3 < 7 - 2 by omega) rfl | refine bD (fun _ => ?_) (fun _ => ?_) | refine bN (fun _ => ?_) (fun _ => ?_)) <;> conv => whnf)
    · clear ih
      have hE : ruE x ps = tiE x.ti ps := by simp only [ruE, ruL, fst0, if_pos h0, if_pos h1, if_neg h2]
      rw [hE]
      conv => whnf
      repeat' ((first | with_reducible refine bT rfl ?_ | with_reducible refine bF rfl ?_ | ((first | refine sN ?_ | refine sS ?_ | refine sA ?_ | refine sM ?_ | refine sC ?_); (conv => whnf); refine bT (by first | rfl | exact iR8 _ | exact uNN _ | exact iR (by omega) | exact iR (by rw [hw]; omega) | exact nBlt (by omega) | exact nBle (by omega) | exact roomL (by omega) rfl | exact mkOK (by omega) (by omega) (by omega) rfl | (simp; omega)) ?_) | refine bDt (by omega) ?_ | refine bDf (by omega) ?_ | refine bNt (by omega) ?_ | refine bNf (by omega) ?_ | refine call_is (tiCheck x.ti ps ht.1 ht.2 hp) ?_ | refine bNt h2 ?_ | refine bD (fun _ => ?_) (fun _ => ?_) | refine bN (fun _ => ?_) (fun _ => ?_)) <;> conv => whnf)
      all_goals rfl
  · skip
    have h0 := q0 (by omega)
    have h1 := q1 (by omega)
    have h2 := q2 (by omega)
    by_cases h3 : crE x.cr = 0
    · conv => whnf
      repeat' ((first | with_reducible refine bT rfl ?_ | with_reducible refine bF rfl ?_ | ((first | refine sN ?_ | refine sS ?_ | refine sA ?_ | refine sM ?_ | refine sC ?_); (conv => whnf); refine bT (by first | rfl | exact iR8 _ | exact uNN _ | exact iR (by omega) | exact iR (by rw [hw]; omega) | exact nBlt (by omega) | exact nBle (by omega) | exact roomL (by omega) rfl | exact mkOK (by omega) (by omega) (by omega) rfl | (simp; omega)) ?_) | refine bDt (by omega) ?_ | refine bDf (by omega) ?_ | refine bNt (by omega) ?_ | refine bNf (by omega) ?_ | refine call_is (crCheck x.cr hc) ?_ | refine bNf h3 ?_ | refine loop_to ih ⟨4, by omega, fun _ => h0, fun _ => h1, fun _ => h2, fun _ => h3, by omega, by omega, by omega⟩ (show 7 - 4 < 7 - 3 by omega) rfl | refine bD (fun _ => ?_) (fun _ => ?_) | refine bN (fun _ => ?_) (fun _ => ?_)) <;> conv => whnf)
    · clear ih
      have hE : ruE x ps = crE x.cr := by simp only [ruE, ruL, fst0, if_pos h0, if_pos h1, if_pos h2, if_neg h3]
      rw [hE]
      conv => whnf
      repeat' ((first | with_reducible refine bT rfl ?_ | with_reducible refine bF rfl ?_ | ((first | refine sN ?_ | refine sS ?_ | refine sA ?_ | refine sM ?_ | refine sC ?_); (conv => whnf); refine bT (by first | rfl | exact iR8 _ | exact uNN _ | exact iR (by omega) | exact iR (by rw [hw]; omega) | exact nBlt (by omega) | exact nBle (by omega) | exact roomL (by omega) rfl | exact mkOK (by omega) (by omega) (by omega) rfl | (simp; omega)) ?_) | refine bDt (by omega) ?_ | refine bDf (by omega) ?_ | refine bNt (by omega) ?_ | refine bNf (by omega) ?_ | refine call_is (crCheck x.cr hc) ?_ | refine bNt h3 ?_ | refine bD (fun _ => ?_) (fun _ => ?_) | refine bN (fun _ => ?_) (fun _ => ?_)) <;> conv => whnf)
      all_goals rfl
  · skip
    have h0 := q0 (by omega)
    have h1 := q1 (by omega)
    have h2 := q2 (by omega)
    have h3 := q3 (by omega)
    by_cases h4 : flE x = 0
    · conv => whnf
      repeat' ((first | with_reducible refine bT rfl ?_ | with_reducible refine bF rfl ?_ | ((first | refine sN ?_ | refine sS ?_ | refine sA ?_ | refine sM ?_ | refine sC ?_); (conv => whnf); refine bT (by first | rfl | exact iR8 _ | exact uNN _ | exact iR (by omega) | exact iR (by rw [hw]; omega) | exact nBlt (by omega) | exact nBle (by omega) | exact roomL (by omega) rfl | exact mkOK (by omega) (by omega) (by omega) rfl | (simp; omega)) ?_) | refine bDt (by omega) ?_ | refine bDf (by omega) ?_ | refine bNt (by omega) ?_ | refine bNf (by omega) ?_ | refine call_is (floors x) ?_ | refine bNf h4 ?_ | refine loop_to ih ⟨5, by omega, fun _ => h0, fun _ => h1, fun _ => h2, fun _ => h3, fun _ => h4, by omega, by omega⟩ (show 7 - 5 < 7 - 4 by omega) rfl | refine bD (fun _ => ?_) (fun _ => ?_) | refine bN (fun _ => ?_) (fun _ => ?_)) <;> conv => whnf)
    · clear ih
      have hE : ruE x ps = flE x := by simp only [ruE, ruL, fst0, if_pos h0, if_pos h1, if_pos h2, if_pos h3, if_neg h4]
      rw [hE]
      conv => whnf
      repeat' ((first | with_reducible refine bT rfl ?_ | with_reducible refine bF rfl ?_ | ((first | refine sN ?_ | refine sS ?_ | refine sA ?_ | refine sM ?_ | refine sC ?_); (conv => whnf); refine bT (by first | rfl | exact iR8 _ | exact uNN _ | exact iR (by omega) | exact iR (by rw [hw]; omega) | exact nBlt (by omega) | exact nBle (by omega) | exact roomL (by omega) rfl | exact mkOK (by omega) (by omega) (by omega) rfl | (simp; omega)) ?_) | refine bDt (by omega) ?_ | refine bDf (by omega) ?_ | refine bNt (by omega) ?_ | refine bNf (by omega) ?_ | refine call_is (floors x) ?_ | refine bNt h4 ?_ | refine bD (fun _ => ?_) (fun _ => ?_) | refine bN (fun _ => ?_) (fun _ => ?_)) <;> conv => whnf)
      all_goals rfl
  · skip
    have h0 := q0 (by omega)
    have h1 := q1 (by omega)
    have h2 := q2 (by omega)
    have h3 := q3 (by omega)
    have h4 := q4 (by omega)
    by_cases h5 : stE x.st = 0
    · conv => whnf
      repeat' ((first | with_reducible refine bT rfl ?_ | with_reducible refine bF rfl ?_ | ((first | refine sN ?_ | refine sS ?_ | refine sA ?_ | refine sM ?_ | refine sC ?_); (conv => whnf); refine bT (by first | rfl | exact iR8 _ | exact uNN _ | exact iR (by omega) | exact iR (by rw [hw]; omega) | exact nBlt (by omega) | exact nBle (by omega) | exact roomL (by omega) rfl | exact mkOK (by omega) (by omega) (by omega) rfl | (simp; omega)) ?_) | refine bDt (by omega) ?_ | refine bDf (by omega) ?_ | refine bNt (by omega) ?_ | refine bNf (by omega) ?_ | refine call_is (stCheck x.st hst) ?_ | refine bNf h5 ?_ | refine loop_to ih ⟨6, by omega, fun _ => h0, fun _ => h1, fun _ => h2, fun _ => h3, fun _ => h4, fun _ => h5, by omega⟩ (show 7 - 6 < 7 - 5 by omega) rfl | refine bD (fun _ => ?_) (fun _ => ?_) | refine bN (fun _ => ?_) (fun _ => ?_)) <;> conv => whnf)
    · clear ih
      have hE : ruE x ps = stE x.st := by simp only [ruE, ruL, fst0, if_pos h0, if_pos h1, if_pos h2, if_pos h3, if_pos h4, if_neg h5]
      rw [hE]
      conv => whnf
      repeat' ((first | with_reducible refine bT rfl ?_ | with_reducible refine bF rfl ?_ | ((first | refine sN ?_ | refine sS ?_ | refine sA ?_ | refine sM ?_ | refine sC ?_); (conv => whnf); refine bT (by first | rfl | exact iR8 _ | exact uNN _ | exact iR (by omega) | exact iR (by rw [hw]; omega) | exact nBlt (by omega) | exact nBle (by omega) | exact roomL (by omega) rfl | exact mkOK (by omega) (by omega) (by omega) rfl | (simp; omega)) ?_) | refine bDt (by omega) ?_ | refine bDf (by omega) ?_ | refine bNt (by omega) ?_ | refine bNf (by omega) ?_ | refine call_is (stCheck x.st hst) ?_ | refine bNt h5 ?_ | refine bD (fun _ => ?_) (fun _ => ?_) | refine bN (fun _ => ?_) (fun _ => ?_)) <;> conv => whnf)
      all_goals rfl
  · skip
    have h0 := q0 (by omega)
    have h1 := q1 (by omega)
    have h2 := q2 (by omega)
    have h3 := q3 (by omega)
    have h4 := q4 (by omega)
    have h5 := q5 (by omega)
    by_cases h6 : hiE x = 0
    · conv => whnf
      repeat' ((first | with_reducible refine bT rfl ?_ | with_reducible refine bF rfl ?_ | ((first | refine sN ?_ | refine sS ?_ | refine sA ?_ | refine sM ?_ | refine sC ?_); (conv => whnf); refine bT (by first | rfl | exact iR8 _ | exact uNN _ | exact iR (by omega) | exact iR (by rw [hw]; omega) | exact nBlt (by omega) | exact nBle (by omega) | exact roomL (by omega) rfl | exact mkOK (by omega) (by omega) (by omega) rfl | (simp; omega)) ?_) | refine bDt (by omega) ?_ | refine bDf (by omega) ?_ | refine bNt (by omega) ?_ | refine bNf (by omega) ?_ | refine call_is (history x hse hm.1 hm.2) ?_ | refine bNf h6 ?_ | refine loop_to ih ⟨7, by omega, fun _ => h0, fun _ => h1, fun _ => h2, fun _ => h3, fun _ => h4, fun _ => h5, fun _ => h6⟩ (show 7 - 7 < 7 - 6 by omega) rfl | refine bD (fun _ => ?_) (fun _ => ?_) | refine bN (fun _ => ?_) (fun _ => ?_)) <;> conv => whnf)
    · clear ih
      have hE : ruE x ps = hiE x := by simp only [ruE, ruL, fst0, if_pos h0, if_pos h1, if_pos h2, if_pos h3, if_pos h4, if_pos h5, if_neg h6]
      rw [hE]
      conv => whnf
      repeat' ((first | with_reducible refine bT rfl ?_ | with_reducible refine bF rfl ?_ | ((first | refine sN ?_ | refine sS ?_ | refine sA ?_ | refine sM ?_ | refine sC ?_); (conv => whnf); refine bT (by first | rfl | exact iR8 _ | exact uNN _ | exact iR (by omega) | exact iR (by rw [hw]; omega) | exact nBlt (by omega) | exact nBle (by omega) | exact roomL (by omega) rfl | exact mkOK (by omega) (by omega) (by omega) rfl | (simp; omega)) ?_) | refine bDt (by omega) ?_ | refine bDf (by omega) ?_ | refine bNt (by omega) ?_ | refine bNf (by omega) ?_ | refine call_is (history x hse hm.1 hm.2) ?_ | refine bNt h6 ?_ | refine bD (fun _ => ?_) (fun _ => ?_) | refine bN (fun _ => ?_) (fun _ => ?_)) <;> conv => whnf)
      all_goals rfl
  · clear ih
    have h0 := q0 (by omega)
    have h1 := q1 (by omega)
    have h2 := q2 (by omega)
    have h3 := q3 (by omega)
    have h4 := q4 (by omega)
    have h5 := q5 (by omega)
    have h6 := q6 (by omega)
    have hE : ruE x ps = laE x := by
      simp only [ruE, ruL, fst0, if_pos h0, if_pos h1, if_pos h2, if_pos h3, if_pos h4, if_pos h5, if_pos h6]
      split
      · rename_i h; exact h.symm
      · rfl
    rw [hE, laE]
    by_cases h : (0 ≤ x.lo ∧ x.lo ≤ 1152921504606846976) ∧ (0 ≤ x.pa ∧ x.pa ≤ 1000)
    · rw [if_pos h]
      conv => whnf
      repeat' ((first | with_reducible refine bT rfl ?_ | with_reducible refine bF rfl ?_ | ((first | refine sN ?_ | refine sS ?_ | refine sA ?_ | refine sM ?_ | refine sC ?_); (conv => whnf); refine bT (by first | rfl | exact iR8 _ | exact uNN _ | exact iR (by omega) | exact iR (by rw [hw]; omega) | exact nBlt (by omega) | exact nBle (by omega) | exact roomL (by omega) rfl | exact mkOK (by omega) (by omega) (by omega) rfl | (simp; omega)) ?_) | refine bDt (by omega) ?_ | refine bDf (by omega) ?_ | refine bNt (by omega) ?_ | refine bNf (by omega) ?_ | refine bD (fun _ => ?_) (fun _ => ?_) | refine bN (fun _ => ?_) (fun _ => ?_)) <;> conv => whnf)
      all_goals first | rfl | (exfalso; omega)
    · rw [if_neg h]
      conv => whnf
      repeat' ((first | with_reducible refine bT rfl ?_ | with_reducible refine bF rfl ?_ | ((first | refine sN ?_ | refine sS ?_ | refine sA ?_ | refine sM ?_ | refine sC ?_); (conv => whnf); refine bT (by first | rfl | exact iR8 _ | exact uNN _ | exact iR (by omega) | exact iR (by rw [hw]; omega) | exact nBlt (by omega) | exact nBle (by omega) | exact roomL (by omega) rfl | exact mkOK (by omega) (by omega) (by omega) rfl | (simp; omega)) ?_) | refine bDt (by omega) ?_ | refine bDf (by omega) ?_ | refine bNt (by omega) ?_ | refine bNf (by omega) ?_ | refine bD (fun _ => ?_) (fun _ => ?_) | refine bN (fun _ => ?_) (fun _ => ?_)) <;> conv => whnf)
      all_goals first | rfl | (exfalso; omega)
theorem refRate (n : Int) : CallOK Tryz.prog 91 [.int .i64 n] (fun r => r = .bool (decide (0 ≤ n ∧ n ≤ 68719476736))) := by
  refine okCh ?_
  conv => whnf
  repeat' ((first | with_reducible refine bT rfl ?_ | with_reducible refine bF rfl ?_ | ((first | refine sN ?_ | refine sS ?_ | refine sA ?_ | refine sM ?_ | refine sC ?_); (conv => whnf); refine bT (by first | rfl | exact iR8 _ | exact uNN _ | exact iR (by omega) | exact iR (by rw [hw]; omega) | exact nBlt (by omega) | exact nBle (by omega) | exact roomL (by omega) rfl | exact mkOK (by omega) (by omega) (by omega) rfl | (simp; omega)) ?_) | refine bDt (by omega) ?_ | refine bDf (by omega) ?_ | refine bNt (by omega) ?_ | refine bNf (by omega) ?_ | refine bD (fun _ => ?_) (fun _ => ?_) | refine bN (fun _ => ?_) (fun _ => ?_)) <;> conv => whnf)
  · exact congrArg AV.bool (decide_eq_decide.2 (by omega))
  · exact congrArg AV.bool (decide_eq_false (by omega)).symm
theorem refMCheck (x : Ru) (ps : List Pr) (hp : ps.length ≤ 1073741824) (hpn : ∀ p ∈ ps, p.n.size ≤ 9223372036854775807) (ha : x.ar.length ≤ 9223372036854775807 ∧ ∀ y ∈ x.ar, y.l.length ≤ 9223372036854775807) (ht : x.ti.length ≤ 9223372036854775807 ∧ ∀ y ∈ x.ti, y.l.length ≤ 9223372036854775807) (hc : x.cr.length ≤ 9223372036854775807) (hcn : ∀ y ∈ x.cr, y.a.size ≤ 9223372036854775807 ∧ y.b.size ≤ 9223372036854775807) (hst : x.st.length ≤ 9223372036854775807)
    (hse : x.se.length ≤ 1073741824) (hm : x.mo.length ≤ 9223372036854775807 ∧ ∀ d ∈ x.mo, d.length ≤ 9223372036854775807) : CallOK Tryz.prog 26 [encRu x, EPr.L ps] (fun r => r = .int .i64 (ruE x ps)) := by
  refine okCh ?_
  by_cases h1 : (0 ≤ x.sh ∧ x.sh ≤ 68719476736) ∧ (0 ≤ x.ne ∧ x.ne ≤ 68719476736) ∧ (0 ≤ x.nd ∧ x.nd ≤ 73048)
  · have f1 : flE x = 0 := if_pos h1
    by_cases h2 : (0 ≤ x.lo ∧ x.lo ≤ 1152921504606846976) ∧ (0 ≤ x.pa ∧ x.pa ≤ 1000)
    · have f2 : laE x = 0 := if_pos h2
      conv => whnf
      repeat' ((first | with_reducible refine bT rfl ?_ | with_reducible refine bF rfl ?_ | ((first | refine sN ?_ | refine sS ?_ | refine sA ?_ | refine sM ?_ | refine sC ?_); (conv => whnf); refine bT (by first | rfl | exact iR8 _ | exact uNN _ | exact iR (by omega) | exact iR (by rw [hw]; omega) | exact nBlt (by omega) | exact nBle (by omega) | exact roomL (by omega) rfl | exact mkOK (by omega) (by omega) (by omega) rfl | (simp; omega)) ?_) | refine bDt (by omega) ?_ | refine bDf (by omega) ?_ | refine bNt (by omega) ?_ | refine bNf (by omega) ?_ | refine call_is (refRate _) ?_ | refine call_is (refPrAll ps hp hpn) ?_ | refine call_is (refArCheck x.ar ha.1 ha.2) ?_ | refine call_is (refTiCheck x.ti ps ht.1 ht.2 hp) ?_ | refine call_is (refCrCheck x.cr hc hcn) ?_ | refine call_is (refStCheck x.st hst) ?_ | refine call_is (refHistory x hse hm.1 hm.2) ?_ | refine call_eq (one_eq (vlist_av (E := EI) (L := [prAllE ps, arE x.ar, tiE x.ti ps, crE x.cr, 0, stE x.st, hiE x, 0]) rfl rfl rfl rfl)) (call_is (refFirst _ (by simp)) ?_) | refine bD (fun _ => ?_) (fun _ => ?_) | refine bN (fun _ => ?_) (fun _ => ?_)) <;> conv => whnf)
      all_goals first | (simp only [ruE, ruL, f1, f2]) | (exfalso; omega)
    · have f2 : laE x = 2 := if_neg h2
      conv => whnf
      repeat' ((first | with_reducible refine bT rfl ?_ | with_reducible refine bF rfl ?_ | ((first | refine sN ?_ | refine sS ?_ | refine sA ?_ | refine sM ?_ | refine sC ?_); (conv => whnf); refine bT (by first | rfl | exact iR8 _ | exact uNN _ | exact iR (by omega) | exact iR (by rw [hw]; omega) | exact nBlt (by omega) | exact nBle (by omega) | exact roomL (by omega) rfl | exact mkOK (by omega) (by omega) (by omega) rfl | (simp; omega)) ?_) | refine bDt (by omega) ?_ | refine bDf (by omega) ?_ | refine bNt (by omega) ?_ | refine bNf (by omega) ?_ | refine call_is (refRate _) ?_ | refine call_is (refPrAll ps hp hpn) ?_ | refine call_is (refArCheck x.ar ha.1 ha.2) ?_ | refine call_is (refTiCheck x.ti ps ht.1 ht.2 hp) ?_ | refine call_is (refCrCheck x.cr hc hcn) ?_ | refine call_is (refStCheck x.st hst) ?_ | refine call_is (refHistory x hse hm.1 hm.2) ?_ | refine call_eq (one_eq (vlist_av (E := EI) (L := [prAllE ps, arE x.ar, tiE x.ti ps, crE x.cr, 0, stE x.st, hiE x, 2]) rfl rfl rfl rfl)) (call_is (refFirst _ (by simp)) ?_) | refine bD (fun _ => ?_) (fun _ => ?_) | refine bN (fun _ => ?_) (fun _ => ?_)) <;> conv => whnf)
      all_goals first | (simp only [ruE, ruL, f1, f2]) | (exfalso; omega)
  · have f1 : flE x = 2 := if_neg h1
    by_cases h2 : (0 ≤ x.lo ∧ x.lo ≤ 1152921504606846976) ∧ (0 ≤ x.pa ∧ x.pa ≤ 1000)
    · have f2 : laE x = 0 := if_pos h2
      conv => whnf
      repeat' ((first | with_reducible refine bT rfl ?_ | with_reducible refine bF rfl ?_ | ((first | refine sN ?_ | refine sS ?_ | refine sA ?_ | refine sM ?_ | refine sC ?_); (conv => whnf); refine bT (by first | rfl | exact iR8 _ | exact uNN _ | exact iR (by omega) | exact iR (by rw [hw]; omega) | exact nBlt (by omega) | exact nBle (by omega) | exact roomL (by omega) rfl | exact mkOK (by omega) (by omega) (by omega) rfl | (simp; omega)) ?_) | refine bDt (by omega) ?_ | refine bDf (by omega) ?_ | refine bNt (by omega) ?_ | refine bNf (by omega) ?_ | refine call_is (refRate _) ?_ | refine call_is (refPrAll ps hp hpn) ?_ | refine call_is (refArCheck x.ar ha.1 ha.2) ?_ | refine call_is (refTiCheck x.ti ps ht.1 ht.2 hp) ?_ | refine call_is (refCrCheck x.cr hc hcn) ?_ | refine call_is (refStCheck x.st hst) ?_ | refine call_is (refHistory x hse hm.1 hm.2) ?_ | refine call_eq (one_eq (vlist_av (E := EI) (L := [prAllE ps, arE x.ar, tiE x.ti ps, crE x.cr, 2, stE x.st, hiE x, 0]) rfl rfl rfl rfl)) (call_is (refFirst _ (by simp)) ?_) | refine bD (fun _ => ?_) (fun _ => ?_) | refine bN (fun _ => ?_) (fun _ => ?_)) <;> conv => whnf)
      all_goals first | (simp only [ruE, ruL, f1, f2]) | (exfalso; omega)
    · have f2 : laE x = 2 := if_neg h2
      conv => whnf
      repeat' ((first | with_reducible refine bT rfl ?_ | with_reducible refine bF rfl ?_ | ((first | refine sN ?_ | refine sS ?_ | refine sA ?_ | refine sM ?_ | refine sC ?_); (conv => whnf); refine bT (by first | rfl | exact iR8 _ | exact uNN _ | exact iR (by omega) | exact iR (by rw [hw]; omega) | exact nBlt (by omega) | exact nBle (by omega) | exact roomL (by omega) rfl | exact mkOK (by omega) (by omega) (by omega) rfl | (simp; omega)) ?_) | refine bDt (by omega) ?_ | refine bDf (by omega) ?_ | refine bNt (by omega) ?_ | refine bNf (by omega) ?_ | refine call_is (refRate _) ?_ | refine call_is (refPrAll ps hp hpn) ?_ | refine call_is (refArCheck x.ar ha.1 ha.2) ?_ | refine call_is (refTiCheck x.ti ps ht.1 ht.2 hp) ?_ | refine call_is (refCrCheck x.cr hc hcn) ?_ | refine call_is (refStCheck x.st hst) ?_ | refine call_is (refHistory x hse hm.1 hm.2) ?_ | refine call_eq (one_eq (vlist_av (E := EI) (L := [prAllE ps, arE x.ar, tiE x.ti ps, crE x.cr, 2, stE x.st, hiE x, 2]) rfl rfl rfl rfl)) (call_is (refFirst _ (by simp)) ?_) | refine bD (fun _ => ?_) (fun _ => ?_) | refine bN (fun _ => ?_) (fun _ => ?_)) <;> conv => whnf)
      all_goals first | (simp only [ruE, ruL, f1, f2]) | (exfalso; omega)
end Go.Proofs

namespace Go.Proofs
open Ax Go
set_option maxRecDepth 10000
noncomputable def cxLC : Ctx where
  P := Tryz.prog
  inl := fun _ => false
  keep := fun _ _ => none
  keepX := fun _ _ => none
  xf := fun _ _ _ => false
  ow := fun _ => false
  gh := fun _ _ => []
  gf := fun _ => []
  ln := fun _ => false
  srt := srtT
theorem okLC {f a Q} (h : stepCall (SX Tryz.prog calmT) cxLC calmT f a Q) : CallOK Tryz.prog f a Q := okOf (cx := cxLC) rfl progOK h
theorem fewOf {x : Ru} (h : lensP x) (t : RuT x) : fewRu x := ⟨h.1, h.2.1, h.2.2.1, h.2.2.2.1, h.2.2.2.2.1, h.2.2.2.2.2, t.arl, t.til, t.mol⟩
set_option maxHeartbeats 4000000 in
theorem lawChecks : ∀ xs, TypedArgs Tryz.prog 8 Tryz.f4.params.toList xs → CallOK Tryz.prog 4 xs (fun r => r = .bool true) := by
  intro xs h
  obtain ⟨a, r, rfl, ha, b, s, rfl, hb, rfl⟩ := h
  obtain ⟨x, hl1, T⟩ := arg_ru ha
  obtain ⟨ps, hs, hps, hpn⟩ := arg_prs hb
  refine ok_same (.cons hl1 (.cons hs .nil)) ?_
  have kF := few29 x T.ar T.ti T.mo
  have hps : ps.length ≤ 9223372036854775807 := hps
  refine okLC ?_
  conv => whnf
  repeat' ((first | with_reducible refine bT rfl ?_ | with_reducible refine bF rfl ?_ | ((first | refine sN ?_ | refine sS ?_ | refine sA ?_ | refine sM ?_ | refine sC ?_); (conv => whnf); refine bT (by first | rfl | exact iR8 _ | exact uNN _ | exact iR (by omega) | exact iR (by rw [hw]; omega) | exact nBlt (by omega) | exact nBle (by omega) | exact roomL (by omega) rfl | exact mkOK (by omega) (by omega) (by omega) rfl | (simp; omega)) ?_) | refine bDt (by omega) ?_ | refine bDf (by omega) ?_ | refine bNt (by omega) ?_ | refine bNf (by omega) ?_ | refine bD (fun _ => ?_) (fun _ => ?_) | refine bN (fun _ => ?_) (fun _ => ?_)) <;> conv => whnf)
  refine call_by kF ⟨.bool false, false, rfl, fun h => by cases h⟩ (fun r hr => ?_)
  obtain ⟨q, rfl, hq⟩ := hr
  cases q
  · conv => whnf
    repeat' ((first | with_reducible refine bT rfl ?_ | with_reducible refine bF rfl ?_ | ((first | refine sN ?_ | refine sS ?_ | refine sA ?_ | refine sM ?_ | refine sC ?_); (conv => whnf); refine bT (by first | rfl | exact iR8 _ | exact uNN _ | exact iR (by omega) | exact iR (by rw [hw]; omega) | exact nBlt (by omega) | exact nBle (by omega) | exact roomL (by omega) rfl | exact mkOK (by omega) (by omega) (by omega) rfl | (simp; omega)) ?_) | refine bDt (by omega) ?_ | refine bDf (by omega) ?_ | refine bNt (by omega) ?_ | refine bNf (by omega) ?_ | refine call_is goes29 ?_ | refine bD (fun _ => ?_) (fun _ => ?_) | refine bN (fun _ => ?_) (fun _ => ?_)) <;> conv => whnf)
    all_goals rfl
  have hf := hq rfl
  by_cases hlen : ps.length ≤ 60
  · have k1 := program x (fewOf hf T)
    have k2 := mCheck x ps (by omega) ⟨T.ar, fun y hy => Nat.le_trans (T.arl y hy) (by decide)⟩ ⟨T.ti, fun y hy => Nat.le_trans (T.til y hy) (by decide)⟩ T.cr T.st (Nat.le_trans hf.2.2.2.2.1 (by decide)) ⟨T.mo, fun y hy => Nat.le_trans (T.mol y hy) (by decide)⟩
    have k3 := refMCheck x ps (by omega) hpn ⟨T.ar, fun y hy => Nat.le_trans (T.arl y hy) (by decide)⟩ ⟨T.ti, fun y hy => Nat.le_trans (T.til y hy) (by decide)⟩ T.cr T.crl T.st (Nat.le_trans hf.2.2.2.2.1 (by decide)) ⟨T.mo, fun y hy => Nat.le_trans (T.mol y hy) (by decide)⟩
    conv => whnf
    repeat' ((first | with_reducible refine bT rfl ?_ | with_reducible refine bF rfl ?_ | ((first | refine sN ?_ | refine sS ?_ | refine sA ?_ | refine sM ?_ | refine sC ?_); (conv => whnf); refine bT (by first | rfl | exact iR8 _ | exact uNN _ | exact iR (by omega) | exact iR (by rw [hw]; omega) | exact nBlt (by omega) | exact nBle (by omega) | exact roomL (by omega) rfl | exact mkOK (by omega) (by omega) (by omega) rfl | (simp; omega)) ?_) | refine bDt (by omega) ?_ | refine bDf (by omega) ?_ | refine bNt (by omega) ?_ | refine bNf (by omega) ?_ | refine call_is k1 ?_ | refine call_is k2 ?_ | refine call_is k3 ?_ | refine call_is goes29 ?_ | refine bDt rfl ?_ | refine bD (fun _ => ?_) (fun _ => ?_) | refine bN (fun _ => ?_) (fun _ => ?_)) <;> conv => whnf)
    all_goals rfl
  · conv => whnf
    repeat' ((first | with_reducible refine bT rfl ?_ | with_reducible refine bF rfl ?_ | ((first | refine sN ?_ | refine sS ?_ | refine sA ?_ | refine sM ?_ | refine sC ?_); (conv => whnf); refine bT (by first | rfl | exact iR8 _ | exact uNN _ | exact iR (by omega) | exact iR (by rw [hw]; omega) | exact nBlt (by omega) | exact nBle (by omega) | exact roomL (by omega) rfl | exact mkOK (by omega) (by omega) (by omega) rfl | (simp; omega)) ?_) | refine bDt (by omega) ?_ | refine bDf (by omega) ?_ | refine bNt (by omega) ?_ | refine bNf (by omega) ?_ | refine call_is goes29 ?_ | refine bD (fun _ => ?_) (fun _ => ?_) | refine bN (fun _ => ?_) (fun _ => ?_)) <;> conv => whnf)
    all_goals rfl
end Go.Proofs
