import Derived.Test.YtflebdkgdnfjoaaGreatLS
import Derived.Test.YtflebdkgdnfjoaaGreatAxEnc
set_option linter.unusedVariables false
set_option linter.unusedSimpArgs false
namespace Go.Proofs
open Ax Go
set_option maxRecDepth 10000
def keepCe (f r : Nat) : Option (List Nat) := match f, r with
  | 71, 3 => some [0, 4, 5, 9, 10]
  | 175, 3 => some [0, 4, 5, 6]
  | 394, 3 => some [0, 1, 2, 8, 9, 10]
  | _, _ => none
def keepXCe (f r : Nat) : Option (List Nat) := match f, r with
  | 71, 3 => some [2, 3, 4, 5]
  | 175, 3 => some [2, 3, 4, 5]
  | 394, 3 => some [8, 9]
  | _, _ => none
noncomputable def cxCe : Ctx where
  P := Tryz.prog
  inl := fun f => memN f [309, 375]
  keep := keepCe
  keepX := keepXCe
  xf := fun _ _ _ => false
  ow := fun _ => false
  gh := fun _ _ => []
  gf := fun _ => []
  ln := fun _ => false
  srt := srtT
theorem okCe {f a Q} (h : stepCall (SX Tryz.prog calmT) cxCe calmT f a Q) : CallOK Tryz.prog f a Q := okOf (cx := cxCe) rfl progOK h
theorem wrap_add {a b : Int} (h1 : fitP a) (h2 : fitP b) : IntKind.i64.wrap (a + b) = a + b := wrap64 (by have := fitP_b h1; have := fitP_b h2; omega)
def tup2 (p : Int × Int) : AV := .tup [.int .i64 p.1, .int .i64 p.2]
theorem fits (n : Int) : CallOK Tryz.prog 111 [.int .i64 n] (fun r => r = .bool (decide (fitP n))) := by
  refine okCe ?_
  conv => whnf
  repeat' ((first | with_reducible refine bT rfl ?_ | with_reducible refine bF rfl ?_ | ((first | refine sN ?_ | refine sS ?_ | refine sA ?_ | refine sM ?_ | refine sC ?_); (conv => whnf); refine bT (by first | rfl | exact iR8 _ | exact uNN _ | exact iR (by omega) | exact iR (by rw [hw]; omega) | exact nBlt (by omega) | exact nBle (by omega) | exact roomL (by omega) rfl | exact mkOK (by omega) (by omega) (by omega) rfl | (simp; omega)) ?_) | refine bDt (by omega) ?_ | refine bDf (by omega) ?_ | refine bNt (by omega) ?_ | refine bNf (by omega) ?_ | refine bD (fun _ => ?_) (fun _ => ?_) | refine bN (fun _ => ?_) (fun _ => ?_)) <;> conv => whnf)
  · exact congrArg AV.bool (decide_eq_decide.2 (by unfold fitP; omega))
  · exact congrArg AV.bool (decide_eq_false (by unfold fitP; omega)).symm
theorem fitting (n : Int) : CallOK Tryz.prog 169 [.int .i64 n] (fun r => r = tup2 (fitE n)) := by
  refine okCe ?_
  conv => whnf
  repeat' ((first | with_reducible refine bT rfl ?_ | with_reducible refine bF rfl ?_ | ((first | refine sN ?_ | refine sS ?_ | refine sA ?_ | refine sM ?_ | refine sC ?_); (conv => whnf); refine bT (by first | rfl | exact iR8 _ | exact uNN _ | exact iR (by omega) | exact iR (by rw [hw]; omega) | exact nBlt (by omega) | exact nBle (by omega) | exact roomL (by omega) rfl | exact mkOK (by omega) (by omega) (by omega) rfl | (simp; omega)) ?_) | refine bDt (by omega) ?_ | refine bDf (by omega) ?_ | refine bNt (by omega) ?_ | refine bNf (by omega) ?_ | refine call_is (fits _) ?_ | refine bD (fun _ => ?_) (fun _ => ?_) | refine bN (fun _ => ?_) (fun _ => ?_)) <;> conv => whnf)
  all_goals simp_all [tup2, fitE]
theorem add (a b : Int) : CallOK Tryz.prog 201 [.int .i64 a, .int .i64 b] (fun r => r = tup2 (addE a b)) := by
  have e := @wrap_add a b
  refine okCe ?_
  conv => whnf
  repeat' ((first | with_reducible refine bT rfl ?_ | with_reducible refine bF rfl ?_ | ((first | refine sN ?_ | refine sS ?_ | refine sA ?_ | refine sM ?_ | refine sC ?_); (conv => whnf); refine bT (by first | rfl | exact iR8 _ | exact uNN _ | exact iR (by omega) | exact iR (by rw [hw]; omega) | exact nBlt (by omega) | exact nBle (by omega) | exact roomL (by omega) rfl | exact mkOK (by omega) (by omega) (by omega) rfl | (simp; omega)) ?_) | refine bDt (by omega) ?_ | refine bDf (by omega) ?_ | refine bNt (by omega) ?_ | refine bNf (by omega) ?_ | refine call_is (fits _) ?_ | refine call_is (fitting _) ?_ | refine bD (fun _ => ?_) (fun _ => ?_) | refine bN (fun _ => ?_) (fun _ => ?_)) <;> conv => whnf)
  all_goals simp_all [tup2, addE]
theorem size (n : Int) (h : fitP n) : CallOK Tryz.prog 307 [.int .i64 n] (fun r => r = .int .u64 n.natAbs) := by
  have hb := fitP_b h
  refine okCe ?_
  conv => whnf
  repeat' ((first | with_reducible refine bT rfl ?_ | with_reducible refine bF rfl ?_ | ((first | refine sN ?_ | refine sS ?_ | refine sA ?_ | refine sM ?_ | refine sC ?_); (conv => whnf); refine bT (by first | rfl | exact iR8 _ | exact uNN _ | exact iR (by omega) | exact iR (by rw [hw]; omega) | exact nBlt (by omega) | exact nBle (by omega) | exact roomL (by omega) rfl | exact mkOK (by omega) (by omega) (by omega) rfl | (simp; omega)) ?_) | refine bDt (by omega) ?_ | refine bDf (by omega) ?_ | refine bNt (by omega) ?_ | refine bNf (by omega) ?_ | refine bD (fun _ => ?_) (fun _ => ?_) | refine bN (fun _ => ?_) (fun _ => ?_)) <;> conv => whnf)
  all_goals rw [u_wrapI]
  all_goals try rw [wrap64 (by omega)]
  all_goals congr 1
  all_goals omega
theorem signed (q : Nat) (hq : q < 18446744073709551616) (b : Bool) : CallOK Tryz.prog 310 [.int .u64 q, .bool b] (fun r => r = tup2 (sgnP b q)) := by
  refine okCe ?_
  by_cases h : 1152921504606846976 < q
  · rw [sgnP, if_pos h]
    conv => whnf
    repeat' ((first | with_reducible refine bT rfl ?_ | with_reducible refine bF rfl ?_ | ((first | refine sN ?_ | refine sS ?_ | refine sA ?_ | refine sM ?_ | refine sC ?_); (conv => whnf); refine bT (by first | rfl | exact iR8 _ | exact uNN _ | exact iR (by omega) | exact iR (by rw [hw]; omega) | exact nBlt (by omega) | exact nBle (by omega) | exact roomL (by omega) rfl | exact mkOK (by omega) (by omega) (by omega) rfl | (simp; omega)) ?_) | refine bDt (by omega) ?_ | refine bDf (by omega) ?_ | refine bNt (by omega) ?_ | refine bNf (by omega) ?_ | refine bD (fun _ => ?_) (fun _ => ?_) | refine bN (fun _ => ?_) (fun _ => ?_)) <;> conv => whnf)
    rfl
  · rw [sgnP, if_neg h]
    have e := wrap64 (x := (q : Int)) (by omega)
    have e2 := wrap64 (x := 0 - (q : Int)) (by omega)
    cases b
    · conv => whnf
      repeat' ((first | with_reducible refine bT rfl ?_ | with_reducible refine bF rfl ?_ | ((first | refine sN ?_ | refine sS ?_ | refine sA ?_ | refine sM ?_ | refine sC ?_); (conv => whnf); refine bT (by first | rfl | exact iR8 _ | exact uNN _ | exact iR (by omega) | exact iR (by rw [hw]; omega) | exact nBlt (by omega) | exact nBle (by omega) | exact roomL (by omega) rfl | exact mkOK (by omega) (by omega) (by omega) rfl | (simp; omega)) ?_) | refine bDt (by omega) ?_ | refine bDf (by omega) ?_ | refine bNt (by omega) ?_ | refine bNf (by omega) ?_ | refine bD (fun _ => ?_) (fun _ => ?_) | refine bN (fun _ => ?_) (fun _ => ?_)) <;> conv => whnf)
      simp [tup2, e]
    · conv => whnf
      repeat' ((first | with_reducible refine bT rfl ?_ | with_reducible refine bF rfl ?_ | ((first | refine sN ?_ | refine sS ?_ | refine sA ?_ | refine sM ?_ | refine sC ?_); (conv => whnf); refine bT (by first | rfl | exact iR8 _ | exact uNN _ | exact iR (by omega) | exact iR (by rw [hw]; omega) | exact nBlt (by omega) | exact nBle (by omega) | exact roomL (by omega) rfl | exact mkOK (by omega) (by omega) (by omega) rfl | (simp; omega)) ?_) | refine bDt (by omega) ?_ | refine bDf (by omega) ?_ | refine bNt (by omega) ?_ | refine bNf (by omega) ?_ | refine bD (fun _ => ?_) (fun _ => ?_) | refine bN (fun _ => ?_) (fun _ => ?_)) <;> conv => whnf)
      simp only [tup2, e, e2]
      simp
end Go.Proofs

namespace Go.Proofs
open Ax Go
set_option maxRecDepth 10000
end Go.Proofs

namespace Go.Proofs
open Ax Go
set_option maxRecDepth 10000
def keepSe (f r : Nat) : Option (List Nat) := match f, r with
  | 354, 2 => some [1, 8, 9, 10]
  | 368, 2 => some [0, 3, 6]
  | 99, 4 => some [0, 8, 9, 10]
  | 41, 4 => some [0, 3]
  | _, _ => none
def keepXSe (f r : Nat) : Option (List Nat) := match f, r with
  | 354, 2 => some [4, 5]
  | 368, 2 => some [4, 5]
  | 99, 4 => some [2]
  | 41, 4 => some [2]
  | _, _ => none
noncomputable def cxSe : Ctx where
  P := Tryz.prog
  inl := fun f => memN f [355, 354]
  keep := keepSe
  keepX := keepXSe
  xf := fun _ _ _ => false
  ow := fun _ => false
  gh := fun _ _ => []
  gf := fun _ => []
  ln := fun _ => false
  srt := srtT
theorem okSe {f a Q} (h : stepCall (SX Tryz.prog calmT) cxSe calmT f a Q) : CallOK Tryz.prog f a Q := okOf (cx := cxSe) rfl progOK h
structure Sr where
  p : ByteArray
  k : Int
  e : Int
  s : Int
deriving DecidableEq
def encSr (x : Sr) : AV := .agg [.str x.p, .int .i64 x.k, .int .i64 x.e, .int .i64 x.s]
structure Po where
  s : Sr
  l : Int
  h : Int
def encPo (x : Po) : AV := .agg [.str x.s.p, .int .i64 x.s.k, .int .i64 x.s.e, .int .i64 x.s.s, .int .i64 x.l, .int .i64 x.h]
def ER : Enc Sr := ⟨4, encSr, ⟨ByteArray.empty, 0, 0, 0⟩⟩
def EP : Enc Po := ⟨6, encPo, ⟨⟨ByteArray.empty, 0, 0, 0⟩, 0, 0⟩⟩
def EM : Enc (List Int) := ⟨1, EI.L, []⟩
structure Pr where
  n : ByteArray
  c : Int
  m : Int
  t : Int
  lo : Int
  hi : Int
  ph : Bool
def encPr (x : Pr) : AV := .agg [.str x.n, .int .i64 x.c, .int .i64 x.m, .int .i64 x.t, .int .i64 x.lo, .int .i64 x.hi, .bool x.ph]
def EPr : Enc Pr := ⟨7, encPr, ⟨ByteArray.empty, 0, 0, 0, 0, 0, false⟩⟩
theorem sr_eq (a b : Sr) : a = b ↔ a.p = b.p ∧ a.k = b.k ∧ a.e = b.e ∧ a.s = b.s := by
  cases a; cases b; simp
theorem eqSr (a b : Sr) : binAV Tryz.prog .eql 67 (encSr a) (encSr b) = some (.bool (decide (a = b))) := by
  have h1 : Tryz.prog.eqGuardType Tryz.prog.depth 67 = false := by decide +kernel
  have h2 : Tryz.prog.stoodInHeld 67 = false := by decide +kernel
  have h3 : eqT Tryz.prog depth0 67 (encSr a) (encSr b) = some (decide (a.p = b.p) && (decide (a.k = b.k) && (decide (a.e = b.e) && (decide (a.s = b.s) && true)))) := by
    show (bif Tryz.prog.stoodInHeld 67 then none else _) = _
    rw [h2]; rfl
  show (eqAV Tryz.prog 67 (encSr a) (encSr b)).map AV.bool = _
  have h4 : eqAV Tryz.prog 67 (encSr a) (encSr b) = eqT Tryz.prog depth0 67 (encSr a) (encSr b) := by
    show (bif Tryz.prog.eqGuardType Tryz.prog.depth 67 then none else _) = _
    rw [h1]; rfl
  rw [h4, h3, Option.map_some]
  congr 2
  rw [Bool.eq_iff_iff]
  simp [sr_eq]
def cmpR (a b : Sr) : Int := if a.p = b.p then (if a.e = b.e then (if a.k = b.k then cmpI a.s b.s else cmpI a.k b.k) else cmpI a.e b.e) else cmpS a.p b.p
theorem cmpI_self (a : Int) : cmpI a a = 0 := by simp [cmpI]
theorem cmpR_self (a : Sr) : cmpR a a = 0 := by simp [cmpR, cmpI_self]
theorem nanS (s : ByteArray) : CallOK Tryz.prog 165 [.str s] (fun r => r = .bool false) := by
  refine okSe ?_
  conv => whnf
  repeat' ((first | with_reducible refine bT rfl ?_ | with_reducible refine bF rfl ?_ | ((first | refine sN ?_ | refine sS ?_ | refine sA ?_ | refine sM ?_ | refine sC ?_); (conv => whnf); refine bT (by first | rfl | exact iR8 _ | exact uNN _ | exact iR (by omega) | exact iR (by rw [hw]; omega) | exact nBlt (by omega) | exact nBle (by omega) | exact roomL (by omega) rfl | exact mkOK (by omega) (by omega) (by omega) rfl | (simp; omega)) ?_) | refine bDt (by omega) ?_ | refine bDf (by omega) ?_ | refine bNt (by omega) ?_ | refine bNf (by omega) ?_ | refine bD (fun _ => ?_) (fun _ => ?_) | refine bN (fun _ => ?_) (fun _ => ?_)) <;> conv => whnf)
  simp
theorem nanI (s : Int) : CallOK Tryz.prog 344 [.int .i64 s] (fun r => r = .bool false) := by
  refine okSe ?_
  conv => whnf
  repeat' ((first | with_reducible refine bT rfl ?_ | with_reducible refine bF rfl ?_ | ((first | refine sN ?_ | refine sS ?_ | refine sA ?_ | refine sM ?_ | refine sC ?_); (conv => whnf); refine bT (by first | rfl | exact iR8 _ | exact uNN _ | exact iR (by omega) | exact iR (by rw [hw]; omega) | exact nBlt (by omega) | exact nBle (by omega) | exact roomL (by omega) rfl | exact mkOK (by omega) (by omega) (by omega) rfl | (simp; omega)) ?_) | refine bDt (by omega) ?_ | refine bDf (by omega) ?_ | refine bNt (by omega) ?_ | refine bNf (by omega) ?_ | refine bD (fun _ => ?_) (fun _ => ?_) | refine bN (fun _ => ?_) (fun _ => ?_)) <;> conv => whnf)
  all_goals simp
theorem cmpStr (x y : ByteArray) : CallOK Tryz.prog 68 [.str x, .str y] (fun r => r = .int .i64 (cmpS x y)) := by
  refine okSe ?_
  conv => whnf
  repeat' ((first | with_reducible refine bT rfl ?_ | with_reducible refine bF rfl ?_ | ((first | refine sN ?_ | refine sS ?_ | refine sA ?_ | refine sM ?_ | refine sC ?_); (conv => whnf); refine bT (by first | rfl | exact iR8 _ | exact uNN _ | exact iR (by omega) | exact iR (by rw [hw]; omega) | exact nBlt (by omega) | exact nBle (by omega) | exact roomL (by omega) rfl | exact mkOK (by omega) (by omega) (by omega) rfl | (simp; omega)) ?_) | refine bDt (by omega) ?_ | refine bDf (by omega) ?_ | refine bNt (by omega) ?_ | refine bNf (by omega) ?_ | refine call_is (nanS _) ?_ | refine bD (fun _ => ?_) (fun _ => ?_) | refine bN (fun _ => ?_) (fun _ => ?_) | refine bB (fun hb => ?_) (fun hb => ?_)) <;> conv => whnf)
  · rw [cmpS, if_pos (by assumption)]
  · rw [cmpS, if_neg (by simp_all), if_neg (by simp_all)]
  · rw [cmpS, if_neg (by simp_all), if_pos (by simp_all)]
theorem cmpInt (x y : Int) : CallOK Tryz.prog 256 [.int .i64 x, .int .i64 y] (fun r => r = .int .i64 (cmpI x y)) := by
  refine okSe ?_
  conv => whnf
  repeat' ((first | with_reducible refine bT rfl ?_ | with_reducible refine bF rfl ?_ | ((first | refine sN ?_ | refine sS ?_ | refine sA ?_ | refine sM ?_ | refine sC ?_); (conv => whnf); refine bT (by first | rfl | exact iR8 _ | exact uNN _ | exact iR (by omega) | exact iR (by rw [hw]; omega) | exact nBlt (by omega) | exact nBle (by omega) | exact roomL (by omega) rfl | exact mkOK (by omega) (by omega) (by omega) rfl | (simp; omega)) ?_) | refine bDt (by omega) ?_ | refine bDf (by omega) ?_ | refine bNt (by omega) ?_ | refine bNf (by omega) ?_ | refine call_is (nanI _) ?_ | refine bD (fun _ => ?_) (fun _ => ?_) | refine bN (fun _ => ?_) (fun _ => ?_) | refine bB (fun hb => ?_) (fun hb => ?_)) <;> conv => whnf)
  · rw [cmpI, if_pos (by assumption)]
  · rw [cmpI, if_neg (by assumption), if_pos (by assumption)]
  · rw [cmpI, if_neg (by assumption), if_neg (by assumption)]
theorem compare (a b : Sr) : CallOK Tryz.prog 177 [encSr a, encSr b] (fun r => r = .int .i64 (cmpR a b)) := by
  refine okSe ?_
  conv => whnf
  repeat' ((first | with_reducible refine bT rfl ?_ | with_reducible refine bF rfl ?_ | ((first | refine sN ?_ | refine sS ?_ | refine sA ?_ | refine sM ?_ | refine sC ?_); (conv => whnf); refine bT (by first | rfl | exact iR8 _ | exact uNN _ | exact iR (by omega) | exact iR (by rw [hw]; omega) | exact nBlt (by omega) | exact nBle (by omega) | exact roomL (by omega) rfl | exact mkOK (by omega) (by omega) (by omega) rfl | (simp; omega)) ?_) | refine bDt (by omega) ?_ | refine bDf (by omega) ?_ | refine bNt (by omega) ?_ | refine bNf (by omega) ?_ | refine st_bin rfl rfl rfl (eqSr a b) ?_ | refine call_is (cmpStr _ _) ?_ | refine call_is (cmpInt _ _) ?_ | refine bD (fun _ => ?_) (fun _ => ?_) | refine bN (fun _ => ?_) (fun _ => ?_)) <;> conv => whnf)
  · rw [show a = b by assumption, cmpR_self]
  · rw [cmpR, if_neg (by assumption)]
  · rw [cmpR, if_pos (by assumption), if_neg (by assumption)]
  · rw [cmpR, if_pos (by assumption), if_pos (by assumption), if_neg (by assumption)]
  · rw [cmpR, if_pos (by assumption), if_pos (by assumption), if_pos (by assumption)]
theorem refOrder (x y : Int) : CallOK Tryz.prog 218 [.int .i64 x, .int .i64 y] (fun r => r = .int .i64 (cmpI x y)) := by
  refine okSe ?_
  conv => whnf
  repeat' ((first | with_reducible refine bT rfl ?_ | with_reducible refine bF rfl ?_ | ((first | refine sN ?_ | refine sS ?_ | refine sA ?_ | refine sM ?_ | refine sC ?_); (conv => whnf); refine bT (by first | rfl | exact iR8 _ | exact uNN _ | exact iR (by omega) | exact iR (by rw [hw]; omega) | exact nBlt (by omega) | exact nBle (by omega) | exact roomL (by omega) rfl | exact mkOK (by omega) (by omega) (by omega) rfl | (simp; omega)) ?_) | refine bDt (by omega) ?_ | refine bDf (by omega) ?_ | refine bNt (by omega) ?_ | refine bNf (by omega) ?_ | refine bD (fun _ => ?_) (fun _ => ?_) | refine bN (fun _ => ?_) (fun _ => ?_)) <;> conv => whnf)
  · rw [cmpI, if_pos (by assumption)]
  · rw [cmpI, if_neg (by assumption), if_pos (by assumption)]
  · rw [cmpI, if_neg (by assumption), if_neg (by assumption)]
theorem refCompare (a b : Sr) : CallOK Tryz.prog 120 [encSr a, encSr b] (fun r => r = .int .i64 (cmpR a b)) := by
  refine okSe ?_
  conv => whnf
  repeat' ((first | with_reducible refine bT rfl ?_ | with_reducible refine bF rfl ?_ | ((first | refine sN ?_ | refine sS ?_ | refine sA ?_ | refine sM ?_ | refine sC ?_); (conv => whnf); refine bT (by first | rfl | exact iR8 _ | exact uNN _ | exact iR (by omega) | exact iR (by rw [hw]; omega) | exact nBlt (by omega) | exact nBle (by omega) | exact roomL (by omega) rfl | exact mkOK (by omega) (by omega) (by omega) rfl | (simp; omega)) ?_) | refine bDt (by omega) ?_ | refine bDf (by omega) ?_ | refine bNt (by omega) ?_ | refine bNf (by omega) ?_ | refine call_is (refOrder _ _) ?_ | refine bD (fun _ => ?_) (fun _ => ?_) | refine bN (fun _ => ?_) (fun _ => ?_) | refine bB (fun hb => ?_) (fun hb => ?_)) <;> conv => whnf)
  all_goals unfold cmpR cmpS
  all_goals simp_all
  all_goals try (intro h; simp_all [strLt_irr])
def placeE (s : Sr) : List Sr → Nat → Int × Bool
  | [], _ => (0, false)
  | x :: r, i => if x = s then ((i : Int), true) else placeE s r (i + 1)
def tupB (p : Int × Bool) : AV := .tup [.int .i64 p.1, .bool p.2]
theorem st3 {v w x : AV} {c c' : Int} (h : c = c') (H : Heap) : St.mk [(1, v), (8, w), (9, x), (10, .int .i64 c)] H [] none = St.mk [(1, v), (8, w), (9, x), (10, .int .i64 c')] H [] none := by subst h; rfl
theorem place (l : List Sr) (s : Sr) (hl : l.length ≤ 1073741824) : CallOK Tryz.prog 273 [ER.L l, encSr s] (fun r => r = tupB (placeE s l 0)) := by
  refine okSe ?_
  conv => whnf
  repeat' ((first | with_reducible refine bT rfl ?_ | with_reducible refine bF rfl ?_ | ((first | refine sN ?_ | refine sS ?_ | refine sA ?_ | refine sM ?_ | refine sC ?_); (conv => whnf); refine bT (by first | rfl | exact iR8 _ | exact uNN _ | exact iR (by omega) | exact iR (by rw [hw]; omega) | exact nBlt (by omega) | exact nBle (by omega) | exact roomL (by omega) rfl | exact mkOK (by omega) (by omega) (by omega) rfl | (simp; omega)) ?_) | refine bDt (by omega) ?_ | refine bDf (by omega) ?_ | refine bNt (by omega) ?_ | refine bNf (by omega) ?_ | refine bD (fun _ => ?_) (fun _ => ?_) | refine bN (fun _ => ?_) (fun _ => ?_)) <;> conv => whnf)
  refine loop_by (cx := cxSe) rfl progOK (ι := {i : Nat // i ≤ l.length ∧ placeE s (l.drop i) i = placeE s l 0}) (fun i => l.length - i.1) (fun i => ⟨[(1, .fn 355 [] [.ptr 0 0]), (8, ER.L l), (9, .int .i64 l.length), (10, .int .i64 i.1)], [.cells [.str s.p, .int .i64 s.k, .int .i64 s.e, .int .i64 s.s]], [], none⟩) ?_ ⟨0, Nat.zero_le _, rfl⟩
  rintro ⟨i, hi, hf⟩ ih
  dsimp only
  by_cases hlt : i < l.length
  · rw [Enc.drop_cons (E := ER) hlt, placeE] at hf
    by_cases hx : l.getD i ER.d = s
    · rw [if_pos hx] at hf
      conv => whnf
      repeat' ((first | with_reducible refine bT rfl ?_ | with_reducible refine bF rfl ?_ | ((first | refine sN ?_ | refine sS ?_ | refine sA ?_ | refine sM ?_ | refine sC ?_); (conv => whnf); refine bT (by first | rfl | exact iR8 _ | exact uNN _ | exact iR (by omega) | exact iR (by rw [hw]; omega) | exact nBlt (by omega) | exact nBle (by omega) | exact roomL (by omega) rfl | exact mkOK (by omega) (by omega) (by omega) rfl | (simp; omega)) ?_) | refine bDt (by omega) ?_ | refine bDf (by omega) ?_ | refine bNt (by omega) ?_ | refine bNf (by omega) ?_ | refine st_bin rfl rfl rfl (eqSr (l.getD i ER.d) s) ?_ | refine bDt hx ?_ | refine bD (fun _ => ?_) (fun _ => ?_) | refine bN (fun _ => ?_) (fun _ => ?_)) <;> conv => whnf)
      rw [← hf]; rfl
    · rw [if_neg hx] at hf
      conv => whnf
      repeat' ((first | with_reducible refine bT rfl ?_ | with_reducible refine bF rfl ?_ | ((first | refine sN ?_ | refine sS ?_ | refine sA ?_ | refine sM ?_ | refine sC ?_); (conv => whnf); refine bT (by first | rfl | exact iR8 _ | exact uNN _ | exact iR (by omega) | exact iR (by rw [hw]; omega) | exact nBlt (by omega) | exact nBle (by omega) | exact roomL (by omega) rfl | exact mkOK (by omega) (by omega) (by omega) rfl | (simp; omega)) ?_) | refine bDt (by omega) ?_ | refine bDf (by omega) ?_ | refine bNt (by omega) ?_ | refine bNf (by omega) ?_ | refine st_bin rfl rfl rfl (eqSr (l.getD i ER.d) s) ?_ | refine bDf hx ?_ | refine loop_to ih ⟨i + 1, hlt, hf⟩ (show l.length - (i+1) < l.length - i by omega) ?_ | refine bD (fun _ => ?_) (fun _ => ?_) | refine bN (fun _ => ?_) (fun _ => ?_)) <;> conv => whnf)
      exact st3 (next_i hlt (by omega)) _
  · obtain rfl : i = l.length := by omega
    rw [List.drop_length, placeE] at hf
    rw [← hf]
    conv => whnf
    repeat' ((first | with_reducible refine bT rfl ?_ | with_reducible refine bF rfl ?_ | ((first | refine sN ?_ | refine sS ?_ | refine sA ?_ | refine sM ?_ | refine sC ?_); (conv => whnf); refine bT (by first | rfl | exact iR8 _ | exact uNN _ | exact iR (by omega) | exact iR (by rw [hw]; omega) | exact nBlt (by omega) | exact nBle (by omega) | exact roomL (by omega) rfl | exact mkOK (by omega) (by omega) (by omega) rfl | (simp; omega)) ?_) | refine bDt (by omega) ?_ | refine bDf (by omega) ?_ | refine bNt (by omega) ?_ | refine bNf (by omega) ?_ | refine bD (fun _ => ?_) (fun _ => ?_) | refine bN (fun _ => ?_) (fun _ => ?_)) <;> conv => whnf)
    all_goals rfl
def firstE (f : Nat → Int) : Nat → Nat → Int
  | 0, _ => 0
  | n + 1, i => if f i = 0 then firstE f n (i + 1) else f i
theorem firstE_at {f : Nat → Int} {n i : Nat} (h : i < n) : firstE f (n - i) i = if f i = 0 then firstE f (n - (i + 1)) (i + 1) else f i := by
  rw [show n - i = (n - (i + 1)) + 1 by omega, firstE]
end Go.Proofs
