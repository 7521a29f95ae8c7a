import Derived.Test.YtflebdkgdnfjoaaLU
import Derived.Test.YtflebdkgdnfjoaaAxRow
set_option linter.unusedVariables false
set_option linter.unusedSimpArgs false
namespace Go.Proofs
open Ax Go
set_option maxRecDepth 10000
def keepVy (f r : Nat) : Option (List Nat) := match f, r with
  | 19, 2 => some [2, 5, 6, 8, 9, 10, 29, 30, 31]
  | 19, 14 => some [2, 10, 14, 15, 16, 17, 50, 51, 52]
  | 19, 21 => some [10, 15, 16, 17, 65, 66, 67]
  | 19, 28 => some [10, 16, 80]
  | _, _ => none
def keepXVy (f r : Nat) : Option (List Nat) := match f, r with
  | 19, 2 => some [2, 5, 6, 8, 9, 10, 11]
  | 19, 14 => some [2, 10, 11, 15, 16, 17]
  | 19, 21 => some [10, 11, 16]
  | 19, 28 => some [10, 11]
  | _, _ => none
noncomputable def cxVy : Ctx where
  P := Try.prog
  inl := fun _ => false
  keep := keepVy
  keepX := keepXVy
  xf := fun _ _ _ => false
  ow := fun _ => false
  gh := fun _ _ => []
  gf := fun _ => []
  ln := fun _ => false
  srt := srtT
theorem okVy {f a Q} (h : stepCall (SX Try.prog calmT) cxVy calmT f a Q) : CallOK Try.prog f a Q := okOf (cx := cxVy) rfl progOK h
def carE (p : Pr) (net a b : Int) : Int × Int := if prE p = 0 then (if (-16777216 ≤ a ∧ a ≤ 16777216) ∧ (-16777216 ≤ b ∧ b ≤ 16777216) then valE p (b - a) net else (0, 17)) else (0, prE p)
theorem vprice (n : Int) : CallOK Try.prog 89 [.int .i64 n] (fun r => r = .bool (decide (-16777216 ≤ n ∧ n ≤ 16777216))) := by
  refine okVy ?_
  conv => whnf
  repeat' ((first | with_reducible refine bT rfl ?_ | with_reducible refine bF rfl ?_ | (refine sN ?_; (conv => whnf); refine bT (by first | rfl | exact iR8 _ | exact uNN _ | exact iR (by omega) | exact iR (by rw [hw]; omega) | exact nBlt (by omega) | exact nBle (by omega) | (simp; omega)) ?_) | (refine sA ?_; (conv => whnf); refine bT (roomL (by omega) rfl) ?_) | (refine sS ?_; (conv => whnf); refine bT (by first | rfl | exact iR8 _ | exact uNN _ | exact iR (by omega) | exact iR (by rw [hw]; omega) | exact nBlt (by omega) | exact nBle (by omega) | (simp; omega)) ?_) | (refine sM ?_; (conv => whnf); refine bT (mkOK (by omega) (by omega) (by omega) rfl) ?_) | (refine sC ?_; (conv => whnf); refine bT (nBle (by first | omega | (simp; omega))) ?_) | refine bDt (by omega) ?_ | refine bDf (by omega) ?_ | refine bNt (by omega) ?_ | refine bNf (by omega) ?_ | refine bD (fun _ => ?_) (fun _ => ?_) | refine bN (fun _ => ?_) (fun _ => ?_)) <;> conv => whnf)
  · exact congrArg AV.bool (decide_eq_decide.2 (by omega))
  · exact congrArg AV.bool (decide_eq_false (by omega)).symm
theorem refWithin20 (n : Int) : CallOK Try.prog 43 [.int .i64 n] (fun r => r = .bool (decide (-16777216 ≤ n ∧ n ≤ 16777216))) := by
  refine okVy ?_
  conv => whnf
  repeat' ((first | with_reducible refine bT rfl ?_ | with_reducible refine bF rfl ?_ | (refine sN ?_; (conv => whnf); refine bT (by first | rfl | exact iR8 _ | exact uNN _ | exact iR (by omega) | exact iR (by rw [hw]; omega) | exact nBlt (by omega) | exact nBle (by omega) | (simp; omega)) ?_) | (refine sA ?_; (conv => whnf); refine bT (roomL (by omega) rfl) ?_) | (refine sS ?_; (conv => whnf); refine bT (by first | rfl | exact iR8 _ | exact uNN _ | exact iR (by omega) | exact iR (by rw [hw]; omega) | exact nBlt (by omega) | exact nBle (by omega) | (simp; omega)) ?_) | (refine sM ?_; (conv => whnf); refine bT (mkOK (by omega) (by omega) (by omega) rfl) ?_) | (refine sC ?_; (conv => whnf); refine bT (nBle (by first | omega | (simp; omega))) ?_) | refine bDt (by omega) ?_ | refine bDf (by omega) ?_ | refine bNt (by omega) ?_ | refine bNf (by omega) ?_ | refine bD (fun _ => ?_) (fun _ => ?_) | refine bN (fun _ => ?_) (fun _ => ?_)) <;> conv => whnf)
  · exact congrArg AV.bool (decide_eq_decide.2 (by omega))
  · exact congrArg AV.bool (decide_eq_false (by omega)).symm
theorem change (p : Pr) (net a b : Int) : CallOK Try.prog 41 [encPr p, .int .i64 net, .int .i64 a, .int .i64 b] (fun r => r = tup2 (carE p net a b)) := by
  refine okVy ?_
  have k := prCheck p
  unfold carE
  by_cases h1 : prE p = 0
  rotate_left
  · rw [if_neg h1]
    conv => whnf
    repeat' ((first | with_reducible refine bT rfl ?_ | with_reducible refine bF rfl ?_ | (refine sN ?_; (conv => whnf); refine bT (by first | rfl | exact iR8 _ | exact uNN _ | exact iR (by omega) | exact iR (by rw [hw]; omega) | exact nBlt (by omega) | exact nBle (by omega) | (simp; omega)) ?_) | (refine sA ?_; (conv => whnf); refine bT (roomL (by omega) rfl) ?_) | (refine sS ?_; (conv => whnf); refine bT (by first | rfl | exact iR8 _ | exact uNN _ | exact iR (by omega) | exact iR (by rw [hw]; omega) | exact nBlt (by omega) | exact nBle (by omega) | (simp; omega)) ?_) | (refine sM ?_; (conv => whnf); refine bT (mkOK (by omega) (by omega) (by omega) rfl) ?_) | (refine sC ?_; (conv => whnf); refine bT (nBle (by first | omega | (simp; omega))) ?_) | refine bDt (by omega) ?_ | refine bDf (by omega) ?_ | refine bNt (by omega) ?_ | refine bNf (by omega) ?_ | refine call_is k ?_ | refine bDf h1 ?_ | refine bNt h1 ?_ | refine bD (fun _ => ?_) (fun _ => ?_) | refine bN (fun _ => ?_) (fun _ => ?_)) <;> conv => whnf)
    all_goals rfl
  rw [if_pos h1]
  by_cases h2 : (-16777216 ≤ a ∧ a ≤ 16777216) ∧ (-16777216 ≤ b ∧ b ≤ 16777216)
  · rw [if_pos h2]
    have hw : IntKind.i64.wrap (b - a) = b - a := wrap64 (by omega)
    have kv := value p (b - a) net
    rw [← hw] at kv
    conv => whnf
    repeat' ((first | with_reducible refine bT rfl ?_ | with_reducible refine bF rfl ?_ | (refine sN ?_; (conv => whnf); refine bT (by first | rfl | exact iR8 _ | exact uNN _ | exact iR (by omega) | exact iR (by rw [hw]; omega) | exact nBlt (by omega) | exact nBle (by omega) | (simp; omega)) ?_) | (refine sA ?_; (conv => whnf); refine bT (roomL (by omega) rfl) ?_) | (refine sS ?_; (conv => whnf); refine bT (by first | rfl | exact iR8 _ | exact uNN _ | exact iR (by omega) | exact iR (by rw [hw]; omega) | exact nBlt (by omega) | exact nBle (by omega) | (simp; omega)) ?_) | (refine sM ?_; (conv => whnf); refine bT (mkOK (by omega) (by omega) (by omega) rfl) ?_) | (refine sC ?_; (conv => whnf); refine bT (nBle (by first | omega | (simp; omega))) ?_) | refine bDt (by omega) ?_ | refine bDf (by omega) ?_ | refine bNt (by omega) ?_ | refine bNf (by omega) ?_ | refine call_is k ?_ | refine bDt h1 ?_ | refine bNf h1 ?_ | refine call_is (vprice _) ?_ | refine call_is kv ?_ | refine bD (fun _ => ?_) (fun _ => ?_) | refine bN (fun _ => ?_) (fun _ => ?_)) <;> conv => whnf)
    all_goals (rw [hw]; rfl)
  · rw [if_neg h2]
    conv => whnf
    repeat' ((first | with_reducible refine bT rfl ?_ | with_reducible refine bF rfl ?_ | (refine sN ?_; (conv => whnf); refine bT (by first | rfl | exact iR8 _ | exact uNN _ | exact iR (by omega) | exact iR (by rw [hw]; omega) | exact nBlt (by omega) | exact nBle (by omega) | (simp; omega)) ?_) | (refine sA ?_; (conv => whnf); refine bT (roomL (by omega) rfl) ?_) | (refine sS ?_; (conv => whnf); refine bT (by first | rfl | exact iR8 _ | exact uNN _ | exact iR (by omega) | exact iR (by rw [hw]; omega) | exact nBlt (by omega) | exact nBle (by omega) | (simp; omega)) ?_) | (refine sM ?_; (conv => whnf); refine bT (mkOK (by omega) (by omega) (by omega) rfl) ?_) | (refine sC ?_; (conv => whnf); refine bT (nBle (by first | omega | (simp; omega))) ?_) | refine bDt (by omega) ?_ | refine bDf (by omega) ?_ | refine bNt (by omega) ?_ | refine bNf (by omega) ?_ | refine call_is k ?_ | refine bDt h1 ?_ | refine bNf h1 ?_ | refine call_is (vprice _) ?_ | refine bD (fun _ => ?_) (fun _ => ?_) | refine bN (fun _ => ?_) (fun _ => ?_)) <;> conv => whnf)
    all_goals first | rfl | (exfalso; omega)
theorem carried (p : Pr) (net a b : Int) : CallOK Try.prog 13 [encPr p, .int .i64 net, .int .i64 a, .int .i64 b] (fun r => r = tup2 (carE p net a b)) := by
  refine okVy ?_
  conv => whnf
  repeat' ((first | with_reducible refine bT rfl ?_ | with_reducible refine bF rfl ?_ | (refine sN ?_; (conv => whnf); refine bT (by first | rfl | exact iR8 _ | exact uNN _ | exact iR (by omega) | exact iR (by rw [hw]; omega) | exact nBlt (by omega) | exact nBle (by omega) | (simp; omega)) ?_) | (refine sA ?_; (conv => whnf); refine bT (roomL (by omega) rfl) ?_) | (refine sS ?_; (conv => whnf); refine bT (by first | rfl | exact iR8 _ | exact uNN _ | exact iR (by omega) | exact iR (by rw [hw]; omega) | exact nBlt (by omega) | exact nBle (by omega) | (simp; omega)) ?_) | (refine sM ?_; (conv => whnf); refine bT (mkOK (by omega) (by omega) (by omega) rfl) ?_) | (refine sC ?_; (conv => whnf); refine bT (nBle (by first | omega | (simp; omega))) ?_) | refine bDt (by omega) ?_ | refine bDf (by omega) ?_ | refine bNt (by omega) ?_ | refine bNf (by omega) ?_ | refine call_is (change _ _ _ _) ?_ | refine bD (fun _ => ?_) (fun _ => ?_) | refine bN (fun _ => ?_) (fun _ => ?_)) <;> conv => whnf)
  all_goals rfl
theorem refCarried (p : Pr) (net a b : Int) (hs : p.n.size ≤ 9223372036854775807) : CallOK Try.prog 14 [encPr p, .int .i64 net, .int .i64 a, .int .i64 b] (fun r => r = tup2 (carE p net a b)) := by
  refine okVy ?_
  have k := refPrCheck p hs
  unfold carE
  by_cases h1 : prE p = 0
  rotate_left
  · rw [if_neg h1]
    conv => whnf
    repeat' ((first | with_reducible refine bT rfl ?_ | with_reducible refine bF rfl ?_ | (refine sN ?_; (conv => whnf); refine bT (by first | rfl | exact iR8 _ | exact uNN _ | exact iR (by omega) | exact iR (by rw [hw]; omega) | exact nBlt (by omega) | exact nBle (by omega) | (simp; omega)) ?_) | (refine sA ?_; (conv => whnf); refine bT (roomL (by omega) rfl) ?_) | (refine sS ?_; (conv => whnf); refine bT (by first | rfl | exact iR8 _ | exact uNN _ | exact iR (by omega) | exact iR (by rw [hw]; omega) | exact nBlt (by omega) | exact nBle (by omega) | (simp; omega)) ?_) | (refine sM ?_; (conv => whnf); refine bT (mkOK (by omega) (by omega) (by omega) rfl) ?_) | (refine sC ?_; (conv => whnf); refine bT (nBle (by first | omega | (simp; omega))) ?_) | refine bDt (by omega) ?_ | refine bDf (by omega) ?_ | refine bNt (by omega) ?_ | refine bNf (by omega) ?_ | refine call_is k ?_ | refine bDf h1 ?_ | refine bNt h1 ?_ | refine bD (fun _ => ?_) (fun _ => ?_) | refine bN (fun _ => ?_) (fun _ => ?_)) <;> conv => whnf)
    all_goals rfl
  rw [if_pos h1]
  by_cases h2 : (-16777216 ≤ a ∧ a ≤ 16777216) ∧ (-16777216 ≤ b ∧ b ≤ 16777216)
  · rw [if_pos h2]
    have hw : IntKind.i64.wrap (b - a) = b - a := wrap64 (by omega)
    have kv := refValue p (b - a) net hs
    rw [← hw] at kv
    conv => whnf
    repeat' ((first | with_reducible refine bT rfl ?_ | with_reducible refine bF rfl ?_ | (refine sN ?_; (conv => whnf); refine bT (by first | rfl | exact iR8 _ | exact uNN _ | exact iR (by omega) | exact iR (by rw [hw]; omega) | exact nBlt (by omega) | exact nBle (by omega) | (simp; omega)) ?_) | (refine sA ?_; (conv => whnf); refine bT (roomL (by omega) rfl) ?_) | (refine sS ?_; (conv => whnf); refine bT (by first | rfl | exact iR8 _ | exact uNN _ | exact iR (by omega) | exact iR (by rw [hw]; omega) | exact nBlt (by omega) | exact nBle (by omega) | (simp; omega)) ?_) | (refine sM ?_; (conv => whnf); refine bT (mkOK (by omega) (by omega) (by omega) rfl) ?_) | (refine sC ?_; (conv => whnf); refine bT (nBle (by first | omega | (simp; omega))) ?_) | refine bDt (by omega) ?_ | refine bDf (by omega) ?_ | refine bNt (by omega) ?_ | refine bNf (by omega) ?_ | refine call_is k ?_ | refine bDt h1 ?_ | refine bNf h1 ?_ | refine call_is (refWithin20 _) ?_ | refine call_is kv ?_ | refine bD (fun _ => ?_) (fun _ => ?_) | refine bN (fun _ => ?_) (fun _ => ?_)) <;> conv => whnf)
    all_goals (rw [hw]; rfl)
  · rw [if_neg h2]
    conv => whnf
    repeat' ((first | with_reducible refine bT rfl ?_ | with_reducible refine bF rfl ?_ | (refine sN ?_; (conv => whnf); refine bT (by first | rfl | exact iR8 _ | exact uNN _ | exact iR (by omega) | exact iR (by rw [hw]; omega) | exact nBlt (by omega) | exact nBle (by omega) | (simp; omega)) ?_) | (refine sA ?_; (conv => whnf); refine bT (roomL (by omega) rfl) ?_) | (refine sS ?_; (conv => whnf); refine bT (by first | rfl | exact iR8 _ | exact uNN _ | exact iR (by omega) | exact iR (by rw [hw]; omega) | exact nBlt (by omega) | exact nBle (by omega) | (simp; omega)) ?_) | (refine sM ?_; (conv => whnf); refine bT (mkOK (by omega) (by omega) (by omega) rfl) ?_) | (refine sC ?_; (conv => whnf); refine bT (nBle (by first | omega | (simp; omega))) ?_) | refine bDt (by omega) ?_ | refine bDf (by omega) ?_ | refine bNt (by omega) ?_ | refine bNf (by omega) ?_ | refine call_is k ?_ | refine bDt h1 ?_ | refine bNf h1 ?_ | refine call_is (refWithin20 _) ?_ | refine bD (fun _ => ?_) (fun _ => ?_) | refine bN (fun _ => ?_) (fun _ => ?_)) <;> conv => whnf)
    all_goals first | rfl | (exfalso; omega)
structure Lg where
  am : ByteArray
  an : ByteArray
  s : Sr
  q : Int
  pr : Int
  tr : Int
def encLg (x : Lg) : AV := .agg [.str x.am, .str x.an, .str x.s.p, .int .i64 x.s.k, .int .i64 x.s.e, .int .i64 x.s.s, .int .i64 x.q, .int .i64 x.pr, .int .i64 x.tr]
theorem fresh (p : Pr) (g : Lg) (b : Int) : CallOK Try.prog 15 [encPr p, encLg g, .int .i64 b] (fun r => r = tup2 (carE p g.q g.pr b)) := by
  refine okVy ?_
  conv => whnf
  repeat' ((first | with_reducible refine bT rfl ?_ | with_reducible refine bF rfl ?_ | (refine sN ?_; (conv => whnf); refine bT (by first | rfl | exact iR8 _ | exact uNN _ | exact iR (by omega) | exact iR (by rw [hw]; omega) | exact nBlt (by omega) | exact nBle (by omega) | (simp; omega)) ?_) | (refine sA ?_; (conv => whnf); refine bT (roomL (by omega) rfl) ?_) | (refine sS ?_; (conv => whnf); refine bT (by first | rfl | exact iR8 _ | exact uNN _ | exact iR (by omega) | exact iR (by rw [hw]; omega) | exact nBlt (by omega) | exact nBle (by omega) | (simp; omega)) ?_) | (refine sM ?_; (conv => whnf); refine bT (mkOK (by omega) (by omega) (by omega) rfl) ?_) | (refine sC ?_; (conv => whnf); refine bT (nBle (by first | omega | (simp; omega))) ?_) | refine bDt (by omega) ?_ | refine bDf (by omega) ?_ | refine bNt (by omega) ?_ | refine bNf (by omega) ?_ | refine call_is (change p _ _ _) ?_ | refine bD (fun _ => ?_) (fun _ => ?_) | refine bN (fun _ => ?_) (fun _ => ?_)) <;> conv => whnf)
  all_goals rfl
theorem refFresh (p : Pr) (g : Lg) (b : Int) (hs : p.n.size ≤ 9223372036854775807) : CallOK Try.prog 16 [encPr p, encLg g, .int .i64 b] (fun r => r = tup2 (carE p g.q g.pr b)) := by
  refine okVy ?_
  conv => whnf
  repeat' ((first | with_reducible refine bT rfl ?_ | with_reducible refine bF rfl ?_ | (refine sN ?_; (conv => whnf); refine bT (by first | rfl | exact iR8 _ | exact uNN _ | exact iR (by omega) | exact iR (by rw [hw]; omega) | exact nBlt (by omega) | exact nBle (by omega) | (simp; omega)) ?_) | (refine sA ?_; (conv => whnf); refine bT (roomL (by omega) rfl) ?_) | (refine sS ?_; (conv => whnf); refine bT (by first | rfl | exact iR8 _ | exact uNN _ | exact iR (by omega) | exact iR (by rw [hw]; omega) | exact nBlt (by omega) | exact nBle (by omega) | (simp; omega)) ?_) | (refine sM ?_; (conv => whnf); refine bT (mkOK (by omega) (by omega) (by omega) rfl) ?_) | (refine sC ?_; (conv => whnf); refine bT (nBle (by first | omega | (simp; omega))) ?_) | refine bDt (by omega) ?_ | refine bDf (by omega) ?_ | refine bNt (by omega) ?_ | refine bNf (by omega) ?_ | refine call_is (refCarried p _ _ _ hs) ?_ | refine bD (fun _ => ?_) (fun _ => ?_) | refine bN (fun _ => ?_) (fun _ => ?_)) <;> conv => whnf)
  all_goals rfl
theorem mulB {x y X Y : Int} (hX : -X ≤ x ∧ x ≤ X) (hY : -Y ≤ y ∧ y ≤ Y) : -(X * Y) ≤ x * y ∧ x * y ≤ X * Y := by
  have h := Nat.mul_le_mul (show x.natAbs ≤ X.natAbs by omega) (show y.natAbs ≤ Y.natAbs by omega)
  rw [← Int.natAbs_mul, ← Int.natAbs_mul] at h
  have h0 : 0 ≤ X * Y := Int.mul_nonneg (by omega) (by omega)
  omega
theorem val_ok {p : Pr} {x q : Int} (hp : prE p = 0) (hx : -33554432 ≤ x ∧ x ≤ 33554432) (hq : -1048576 ≤ q ∧ q ≤ 1048576) : valE p x q = (x * p.m * q, 0) ∧ (-144115188075855872 ≤ x * p.m * q ∧ x * p.m * q ≤ 144115188075855872) := by
  have hm : 1 ≤ p.m ∧ p.m ≤ 4096 := by
    unfold prE at hp
    split at hp
    · split at hp
      · split at hp
        · assumption
        · cases hp
      · cases hp
    · cases hp
  have b1 := mulB (X := 33554432) (Y := 4096) hx (show -4096 ≤ p.m ∧ p.m ≤ 4096 by omega)
  have b2 := mulB (X := 137438953472) (Y := 1048576) (show -137438953472 ≤ x * p.m ∧ x * p.m ≤ 137438953472 by omega) hq
  refine ⟨?_, by omega⟩
  rw [valE, if_pos hp, if_pos hx, if_pos hq, wrap64 (x := x * p.m) (by omega), wrap64 (by omega)]
theorem car_add {p : Pr} {q a b c : Int} (h1 : (carE p q a b).2 = 0) (h2 : (carE p q b c).2 = 0) : (carE p q a c).2 = 0 ∧ IntKind.i64.wrap ((carE p q a b).1 + (carE p q b c).1) = (carE p q a c).1 := by
  have hp : prE p = 0 := by
    unfold carE at h1
    split at h1
    · assumption
    · exact h1
  unfold carE at *
  simp only [if_pos hp] at h1 h2
  by_cases r1 : (-16777216 ≤ a ∧ a ≤ 16777216) ∧ (-16777216 ≤ b ∧ b ≤ 16777216)
  rotate_left
  · rw [if_neg r1] at h1; cases h1
  by_cases r2 : (-16777216 ≤ b ∧ b ≤ 16777216) ∧ (-16777216 ≤ c ∧ c ≤ 16777216)
  rotate_left
  · rw [if_neg r2] at h2; cases h2
  have r3 : (-16777216 ≤ a ∧ a ≤ 16777216) ∧ (-16777216 ≤ c ∧ c ≤ 16777216) := ⟨r1.1, r2.2⟩
  simp only [if_pos r1, if_pos r2] at h1 h2
  simp only [if_pos r1, if_pos r2, if_pos r3]
  have hq : -1048576 ≤ q ∧ q ≤ 1048576 := by
    unfold valE at h1
    rw [if_pos hp, if_pos (by omega)] at h1
    split at h1
    · assumption
    · cases h1
  obtain ⟨v1, w1⟩ := val_ok hp (show -33554432 ≤ b - a ∧ b - a ≤ 33554432 by omega) hq
  obtain ⟨v2, w2⟩ := val_ok hp (show -33554432 ≤ c - b ∧ c - b ≤ 33554432 by omega) hq
  obtain ⟨v3, w3⟩ := val_ok hp (show -33554432 ≤ c - a ∧ c - a ≤ 33554432 by omega) hq
  simp only [if_pos hp, v1, v2, v3]
  refine ⟨trivial, ?_⟩
  rw [wrap64 (by omega), ← Int.add_mul, ← Int.add_mul]
  congr 2
  omega
end Go.Proofs


set_option linter.unusedVariables false
set_option linter.unusedSimpArgs false
namespace Go.Proofs
open Ax Go
set_option maxRecDepth 10000
theorem typed_slice {P : Program} {d : Nat} {t e : TypeId} {es : List AV} (ht : P.underlying t = some (.slice e)) (h : Typed P (d + 1) t es) : ∃ n g, es = [.vec (P.cellsOf e) n g] ∧ n ≤ maxLen ∧ ∀ i, i < n → TypedAV P d e (g i) := by
  unfold Typed at h
  rw [ht] at h
  exact h
theorem typed_struct {P : Program} {d : Nat} {t : TypeId} {fs : Array Field} {es : List AV} (ht : P.underlying t = some (.struct fs)) (h : Typed P (d + 1) t es) : TypedL (Typed P d) fs.toList es := by
  unfold Typed at h
  rw [ht] at h
  exact h
theorem typed_int {P : Program} {d : Nat} {t : TypeId} {k : IntKind} {es : List AV} (ht : P.underlying t = some (.int k)) (h : Typed P (d + 1) t es) : ∃ n, es = [.int k n] ∧ (Lit.int k n).wf = true := by
  unfold Typed at h
  rw [ht] at h
  exact h
theorem typed_str {P : Program} {d : Nat} {t : TypeId} {es : List AV} (ht : P.underlying t = some .string) (h : Typed P (d + 1) t es) : ∃ s : ByteArray, es = [.str s] ∧ s.size ≤ maxLen := by
  unfold Typed at h
  rw [ht] at h
  exact h
theorem typed_array {P : Program} {d n : Nat} {t e : TypeId} {es : List AV} (ht : P.underlying t = some (.array n e)) (h : Typed P (d + 1) t es) : TypedN (Typed P d e) n es := by
  unfold Typed at h
  rw [ht] at h
  exact h
theorem arg_int {d : Nat} {a : AV} (h : TypedAV Try.prog (d + 1) 3 a) : ∃ n, a = .int .i64 n ∧ (Lit.int .i64 n).wf = true := by
  obtain ⟨es, h1, h2, h3⟩ := h
  obtain ⟨n, rfl, hn⟩ := typed_int Try.underlying3 h3
  exact ⟨n, h1, hn⟩
theorem arg_sr {d : Nat} {a : AV} (h : TypedAV Try.prog (d + 2) 27 a) : ∃ s : Sr, a = encSr s := by
  obtain ⟨es, h1, h2, h3⟩ := h
  obtain ⟨a0, r0, rfl, k0, a1, r1, rfl, k1, a2, r2, rfl, k2, a3, r3, rfl, k3, rfl⟩ := typed_struct Try.underlying27 h3
  obtain ⟨m, rfl, hm⟩ := typed_str Try.underlying9 k0
  obtain ⟨c, rfl, _⟩ := typed_int Try.underlying3 k1
  obtain ⟨n, rfl, _⟩ := typed_int Try.underlying3 k2
  obtain ⟨s, rfl, _⟩ := typed_int Try.underlying3 k3
  exact ⟨⟨m, c, n, s⟩, h1⟩
theorem list_of {α : Type} {E : Enc α} {n : Nat} {g : Nat → AV} (h : ∀ i, i < n → ∃ x, g i = E.f x) : ∃ l : List α, l.length = n ∧ Same (.vec E.sz n g) (E.L l) := by
  have each : ∀ i, ∃ x : α, i < n → g i = E.f x := fun i => by
    by_cases hi : i < n
    · obtain ⟨x, hx⟩ := h i hi; exact ⟨x, fun _ => hx⟩
    · exact ⟨E.d, fun h => absurd h hi⟩
  obtain ⟨f, hf⟩ := Classical.axiomOfChoice each
  have hl : ((List.range n).map f).length = n := by simp
  refine ⟨(List.range n).map f, hl, Enc.At.same (E := E) ⟨hl.symm, fun i hi => ?_⟩⟩
  rw [hl] at hi
  rw [hf i hi, List.getD_eq_getElem?_getD, List.getElem?_map, List.getElem?_range hi]; rfl
theorem arg_ints {d : Nat} {a : AV} (h : TypedAV Try.prog (d + 2) 50 a) : ∃ l : List Int, Same a (EI.L l) ∧ l.length ≤ maxLen := by
  obtain ⟨es, h1, h2, h3⟩ := h
  obtain ⟨n, g, rfl, hn, hg⟩ := typed_slice Try.underlying50 h3
  have h1 : a = .vec 1 n g := h1
  subst h1
  obtain ⟨l, e, hs⟩ := list_of (E := EI) (n := n) (g := g) fun i hi => let ⟨x, hx, _⟩ := arg_int (hg i hi); ⟨x, hx⟩
  exact ⟨l, hs, by rw [e]; exact hn⟩
theorem vec_same {n : Nat} {g g' : Nat → AV} (h1 : ∀ i, i < n → (g i).cells = [g i]) (h2 : ∀ i, i < n → (g' i).cells = [g' i]) (h : ∀ i, i < n → Same (g i) (g' i)) : Same (.vec 1 n g) (.vec 1 n g') := by
  intro w F U bl v hr
  cases hr with
  | vec hcap vals hz hs ho hc =>
    refine .vec hcap vals hz (fun i hi => by rw [h2 i hi]; rfl) ho (fun i j c hi hj => ?_)
    rw [h2 i hi] at hj
    cases j with
    | zero =>
      simp at hj
      subst hj
      exact h i hi _ _ _ _ _ (hc i 0 (g i) hi (by rw [h1 i hi]; rfl))
    | succ j => simp at hj
theorem arg_three {d : Nat} {a : AV} (h : TypedAV Try.prog (d + 2) 30 a) : ∃ x y z : Int, a = .agg [.int .i64 x, .int .i64 y, .int .i64 z] := by
  obtain ⟨es, h1, h2, h3⟩ := h
  obtain ⟨a0, r0, rfl, k0, a1, r1, rfl, k1, a2, r2, rfl, k2, rfl⟩ := typed_array Try.underlying30 h3
  obtain ⟨x, rfl, _⟩ := typed_int Try.underlying3 k0
  obtain ⟨y, rfl, _⟩ := typed_int Try.underlying3 k1
  obtain ⟨z, rfl, _⟩ := typed_int Try.underlying3 k2
  exact ⟨x, y, z, h1⟩
theorem typed_bool {P : Program} {d : Nat} {t : TypeId} {es : List AV} (ht : P.underlying t = some .bool) (h : Typed P (d + 1) t es) : ∃ b, es = [.bool b] := by
  unfold Typed at h
  rw [ht] at h
  exact h
theorem arg_pr {d : Nat} {a : AV} (h : TypedAV Try.prog (d + 2) 23 a) : ∃ p : Pr, a = encPr p ∧ p.n.size ≤ maxLen := by
  obtain ⟨es, h1, h2, h3⟩ := h
  obtain ⟨a0, r0, rfl, k0, a1, r1, rfl, k1, a2, r2, rfl, k2, a3, r3, rfl, k3, a4, r4, rfl, k4, a5, r5, rfl, k5, a6, r6, rfl, k6, rfl⟩ := typed_struct Try.underlying23 h3
  obtain ⟨n, rfl, hn⟩ := typed_str Try.underlying9 k0
  obtain ⟨x1, rfl, _⟩ := typed_int Try.underlying3 k1
  obtain ⟨x2, rfl, _⟩ := typed_int Try.underlying3 k2
  obtain ⟨x3, rfl, _⟩ := typed_int Try.underlying3 k3
  obtain ⟨x4, rfl, _⟩ := typed_int Try.underlying3 k4
  obtain ⟨x5, rfl, _⟩ := typed_int Try.underlying3 k5
  obtain ⟨b, rfl⟩ := typed_bool Try.underlying4 k6
  exact ⟨⟨n, x1, x2, x3, x4, x5, b⟩, h1, hn⟩
theorem arg_lg {d : Nat} {a : AV} (h : TypedAV Try.prog (d + 3) 29 a) : ∃ g : Lg, a = encLg g := by
  obtain ⟨es, h1, h2, h3⟩ := h
  obtain ⟨b0, q0, rfl, j0, b1, q1, rfl, j1, b2, q2, rfl, j2, b3, q3, rfl, j3, b4, q4, rfl, j4, rfl⟩ := typed_struct Try.underlying29 h3
  obtain ⟨c0, s0, rfl, i0, c1, s1, rfl, i1, rfl⟩ := typed_struct Try.underlying25 j0
  obtain ⟨a0, r0, rfl, k0, a1, r1, rfl, k1, a2, r2, rfl, k2, a3, r3, rfl, k3, rfl⟩ := typed_struct Try.underlying27 j1
  obtain ⟨m1, rfl, _⟩ := typed_str Try.underlying9 i0
  obtain ⟨m2, rfl, _⟩ := typed_str Try.underlying9 i1
  obtain ⟨m, rfl, hm⟩ := typed_str Try.underlying9 k0
  obtain ⟨c, rfl, _⟩ := typed_int Try.underlying3 k1
  obtain ⟨n, rfl, _⟩ := typed_int Try.underlying3 k2
  obtain ⟨s, rfl, _⟩ := typed_int Try.underlying3 k3
  obtain ⟨x, rfl, _⟩ := typed_int Try.underlying3 j2
  obtain ⟨y, rfl, _⟩ := typed_int Try.underlying3 j3
  obtain ⟨z, rfl, _⟩ := typed_int Try.underlying3 j4
  exact ⟨⟨m1, m2, ⟨m, c, n, s⟩, x, y, z⟩, h1⟩
end Go.Proofs

