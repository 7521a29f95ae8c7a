import Derived.Test.YtflebdkgdnfjoaaMiSer
set_option linter.unusedVariables false
set_option linter.unusedSimpArgs false
namespace Go.Proofs
open Ax Go
set_option maxRecDepth 10000
def keepHi (f r : Nat) : Option (List Nat) := match f, r with
  | 116, 2 => some [0, 1, 7, 8]
  | 31, 4 => some [0, 1, 5]
  | 31, 9 => some [0, 38, 39, 40]
  | 28, 9 => some [1, 2, 3, 6, 8, 35, 36, 37]
  | 28, 18 => some [3, 6, 13, 57, 58, 59]
  | 28, 23 => some [3, 6, 13, 16, 17, 57, 58, 59, 70, 71]
  | 35, 6 => some [1, 4, 7, 20, 21, 22]
  | 32, 4 => some [0, 1, 5]
  | 32, 9 => some [0, 1, 6]
  | 32, 14 => some [0, 1, 6, 7]
  | 29, 9 => some [0, 1, 2, 9, 10]
  | 29, 17 => some [0, 2, 9, 13, 14]
  | 29, 21 => some [0, 2, 9, 13, 14, 15, 16]
  | 83, 3 => some [0, 3, 4]
  | 83, 7 => some [0, 3, 4, 5]
  | 82, 6 => some [0, 5]
  | 36, 7 => some [1, 7, 8, 9, 10]
  | 30, 4 => some [0, 1, 5]
  | 76, 2 => some [0, 3, 6]
  | 48, 4 => some [0, 8, 9, 10]
  | 75, 4 => some [0, 3]
  | _, _ => none
def keepXHi (f r : Nat) : Option (List Nat) := match f, r with
  | 116, 2 => some [4]
  | 31, 4 => some [0, 1, 4]
  | 31, 9 => some [4]
  | 28, 9 => some [2, 3, 6, 7, 8]
  | 28, 18 => some [6, 7]
  | 28, 23 => some [3, 6, 13, 17, 57, 58, 59]
  | 35, 6 => some [1, 4, 7]
  | 32, 4 => some [0, 1, 4]
  | 32, 9 => some [4]
  | 32, 14 => some [0, 1, 4, 6]
  | 29, 9 => some [0, 2, 6, 7, 9]
  | 29, 17 => some [6, 7, 13]
  | 29, 21 => some [0, 2, 9, 13, 14, 15]
  | 83, 3 => some [3]
  | 83, 7 => some [0, 3, 4]
  | 82, 6 => some [4]
  | 36, 7 => some [1, 8, 9]
  | 30, 4 => some [4]
  | 76, 2 => some [4, 5]
  | 48, 4 => some [2]
  | 75, 4 => some [2]
  | _, _ => none
noncomputable def cxHi : Ctx where
  P := Try.prog
  inl := fun f => memN f [79, 78, 116, 73, 74]
  keep := keepHi
  keepX := keepXHi
  xf := fun _ _ _ => false
  ow := fun _ => false
  gh := fun _ _ => []
  gf := fun _ => []
  ln := fun _ => false
  srt := srtT
theorem okHi {f a Q} (h : stepCall (SX Try.prog calmT) cxHi calmT f a Q) : CallOK Try.prog f a Q := okOf (cx := cxHi) rfl progOK h
def scE (n num den : Int) : Int × Int := if (mdE n num den 2).2 = 0 then (if num < 0 ∨ den < 0 then (0, 2) else mdE n num den 2) else (0, (mdE n num den 2).2)
def buE (n low part : Int) : Int × Int :=
  if n < 0 ∨ 1152921504606846976 < n ∨ low < 0 ∨ 1152921504606846976 < low ∨ part < 0 ∨ 1000 < part then (0, 2)
  else if (addE n (mdE n part 1000 2).1).2 = 0 then (max (addE n (mdE n part 1000 2).1).1 low, 0) else (0, (addE n (mdE n part 1000 2).1).2)
theorem md_part {n part : Int} (h1 : 0 ≤ n) (h2 : n ≤ 1152921504606846976) (h3 : 0 ≤ part) (h4 : part ≤ 1000) : (mdE n part 1000 2).2 = 0 := by
  rw [mdE, if_neg (fun q => q ⟨⟨by omega, by omega⟩, ⟨by omega, by omega⟩, ⟨by omega, by omega⟩, by omega, by omega⟩), if_neg (by omega)]
  unfold sgnP quotP
  have h5 := Nat.mul_le_mul_left n.natAbs (show part.natAbs ≤ 1000 by omega)
  rw [show (1000 : Int).natAbs = 1000 from rfl]
  generalize n.natAbs * part.natAbs = p at *
  rw [if_neg]
  split <;> omega
theorem max_if (a b : Int) : (if a < b then b else a) = max a b := by rw [Int.max_def]; split <;> split <;> omega
theorem scaled (n num den : Int) : CallOK Try.prog 37 [.int .i64 n, .int .i64 num, .int .i64 den] (fun r => r = tup2 (scE n num den)) := by
  refine okHi ?_
  unfold scE
  have hm := mulDiv n num den 2
  generalize mdE n num den 2 = p at *
  obtain ⟨m, e⟩ := p
  conv => whnf
  repeat' ((first | with_reducible refine bT rfl ?_ | with_reducible refine bF rfl ?_ | (refine sN ?_; (conv => whnf); refine bT (by first | rfl | exact iR8 _ | exact uNN _ | exact iR (by omega) | exact iR (by rw [hw]; omega) | exact nBlt (by omega) | exact nBle (by omega) | (simp; omega)) ?_) | (refine sA ?_; (conv => whnf); refine bT (roomL (by omega) rfl) ?_) | (refine sS ?_; (conv => whnf); refine bT (by first | rfl | exact iR8 _ | exact uNN _ | exact iR (by omega) | exact iR (by rw [hw]; omega) | exact nBlt (by omega) | exact nBle (by omega) | (simp; omega)) ?_) | (refine sM ?_; (conv => whnf); refine bT (mkOK (by omega) (by omega) (by omega) rfl) ?_) | (refine sC ?_; (conv => whnf); refine bT (nBle (by first | omega | (simp; omega))) ?_) | refine bDt (by omega) ?_ | refine bDf (by omega) ?_ | refine bNt (by omega) ?_ | refine bNf (by omega) ?_ | refine call_is hm ?_ | refine bD (fun _ => ?_) (fun _ => ?_) | refine bN (fun _ => ?_) (fun _ => ?_)) <;> conv => whnf)
  all_goals simp_all [tup2]
  all_goals (rw [if_neg (by omega)]; exact ⟨rfl, rfl⟩)
theorem refScaled (n num den : Int) : CallOK Try.prog 38 [.int .i64 n, .int .i64 num, .int .i64 den] (fun r => r = tup2 (scE n num den)) := by
  refine okHi ?_
  unfold scE
  have hm := refMulDiv n num den 2
  generalize mdE n num den 2 = p at *
  obtain ⟨m, e⟩ := p
  conv => whnf
  repeat' ((first | with_reducible refine bT rfl ?_ | with_reducible refine bF rfl ?_ | (refine sN ?_; (conv => whnf); refine bT (by first | rfl | exact iR8 _ | exact uNN _ | exact iR (by omega) | exact iR (by rw [hw]; omega) | exact nBlt (by omega) | exact nBle (by omega) | (simp; omega)) ?_) | (refine sA ?_; (conv => whnf); refine bT (roomL (by omega) rfl) ?_) | (refine sS ?_; (conv => whnf); refine bT (by first | rfl | exact iR8 _ | exact uNN _ | exact iR (by omega) | exact iR (by rw [hw]; omega) | exact nBlt (by omega) | exact nBle (by omega) | (simp; omega)) ?_) | (refine sM ?_; (conv => whnf); refine bT (mkOK (by omega) (by omega) (by omega) rfl) ?_) | (refine sC ?_; (conv => whnf); refine bT (nBle (by first | omega | (simp; omega))) ?_) | refine bDt (by omega) ?_ | refine bDf (by omega) ?_ | refine bNt (by omega) ?_ | refine bNf (by omega) ?_ | refine call_is hm ?_ | refine bD (fun _ => ?_) (fun _ => ?_) | refine bN (fun _ => ?_) (fun _ => ?_)) <;> conv => whnf)
  all_goals simp_all [tup2]
  all_goals (rw [if_neg (by omega)]; exact ⟨rfl, rfl⟩)
theorem buffer (n low part : Int) : CallOK Try.prog 39 [.int .i64 n, .int .i64 low, .int .i64 part] (fun r => r = tup2 (buE n low part)) := by
  refine okHi ?_
  unfold buE
  by_cases h : n < 0 ∨ 1152921504606846976 < n ∨ low < 0 ∨ 1152921504606846976 < low ∨ part < 0 ∨ 1000 < part
  · rw [if_pos h]
    conv => whnf
    repeat' ((first | with_reducible refine bT rfl ?_ | with_reducible refine bF rfl ?_ | (refine sN ?_; (conv => whnf); refine bT (by first | rfl | exact iR8 _ | exact uNN _ | exact iR (by omega) | exact iR (by rw [hw]; omega) | exact nBlt (by omega) | exact nBle (by omega) | (simp; omega)) ?_) | (refine sA ?_; (conv => whnf); refine bT (roomL (by omega) rfl) ?_) | (refine sS ?_; (conv => whnf); refine bT (by first | rfl | exact iR8 _ | exact uNN _ | exact iR (by omega) | exact iR (by rw [hw]; omega) | exact nBlt (by omega) | exact nBle (by omega) | (simp; omega)) ?_) | (refine sM ?_; (conv => whnf); refine bT (mkOK (by omega) (by omega) (by omega) rfl) ?_) | (refine sC ?_; (conv => whnf); refine bT (nBle (by first | omega | (simp; omega))) ?_) | refine bDt (by omega) ?_ | refine bDf (by omega) ?_ | refine bNt (by omega) ?_ | refine bNf (by omega) ?_ | refine bD (fun _ => ?_) (fun _ => ?_) | refine bN (fun _ => ?_) (fun _ => ?_)) <;> conv => whnf)
    all_goals first | rfl | (exfalso; omega)
  · rw [if_neg h]
    have hm := mulDiv n part 1000 2
    have h0 : (mdE n part 1000 2).2 = 0 := md_part (by omega) (by omega) (by omega) (by omega)
    by_cases h2 : (addE n (mdE n part 1000 2).1).2 = 0
    · rw [if_pos h2]
      conv => whnf
      repeat' ((first | with_reducible refine bT rfl ?_ | with_reducible refine bF rfl ?_ | (refine sN ?_; (conv => whnf); refine bT (by first | rfl | exact iR8 _ | exact uNN _ | exact iR (by omega) | exact iR (by rw [hw]; omega) | exact nBlt (by omega) | exact nBle (by omega) | (simp; omega)) ?_) | (refine sA ?_; (conv => whnf); refine bT (roomL (by omega) rfl) ?_) | (refine sS ?_; (conv => whnf); refine bT (by first | rfl | exact iR8 _ | exact uNN _ | exact iR (by omega) | exact iR (by rw [hw]; omega) | exact nBlt (by omega) | exact nBle (by omega) | (simp; omega)) ?_) | (refine sM ?_; (conv => whnf); refine bT (mkOK (by omega) (by omega) (by omega) rfl) ?_) | (refine sC ?_; (conv => whnf); refine bT (nBle (by first | omega | (simp; omega))) ?_) | refine bDt (by omega) ?_ | refine bDf (by omega) ?_ | refine bNt (by omega) ?_ | refine bNf (by omega) ?_ | refine call_is hm ?_ | refine call_is (add _ _) ?_ | refine bDt h0 ?_ | refine bNf h0 ?_ | refine bDt h2 ?_ | refine bNf h2 ?_ | refine bD (fun _ => ?_) (fun _ => ?_) | refine bN (fun _ => ?_) (fun _ => ?_)) <;> conv => whnf)
      all_goals rw [max_if]; rfl
    · rw [if_neg h2]
      conv => whnf
      repeat' ((first | with_reducible refine bT rfl ?_ | with_reducible refine bF rfl ?_ | (refine sN ?_; (conv => whnf); refine bT (by first | rfl | exact iR8 _ | exact uNN _ | exact iR (by omega) | exact iR (by rw [hw]; omega) | exact nBlt (by omega) | exact nBle (by omega) | (simp; omega)) ?_) | (refine sA ?_; (conv => whnf); refine bT (roomL (by omega) rfl) ?_) | (refine sS ?_; (conv => whnf); refine bT (by first | rfl | exact iR8 _ | exact uNN _ | exact iR (by omega) | exact iR (by rw [hw]; omega) | exact nBlt (by omega) | exact nBle (by omega) | (simp; omega)) ?_) | (refine sM ?_; (conv => whnf); refine bT (mkOK (by omega) (by omega) (by omega) rfl) ?_) | (refine sC ?_; (conv => whnf); refine bT (nBle (by first | omega | (simp; omega))) ?_) | refine bDt (by omega) ?_ | refine bDf (by omega) ?_ | refine bNt (by omega) ?_ | refine bNf (by omega) ?_ | refine call_is hm ?_ | refine call_is (add _ _) ?_ | refine bDt h0 ?_ | refine bNf h0 ?_ | refine bDf h2 ?_ | refine bNt h2 ?_ | refine bD (fun _ => ?_) (fun _ => ?_) | refine bN (fun _ => ?_) (fun _ => ?_)) <;> conv => whnf)
      all_goals rfl
theorem refBuffer (n low part : Int) : CallOK Try.prog 40 [.int .i64 n, .int .i64 low, .int .i64 part] (fun r => r = tup2 (buE n low part)) := by
  refine okHi ?_
  unfold buE
  by_cases h : n < 0 ∨ 1152921504606846976 < n ∨ low < 0 ∨ 1152921504606846976 < low ∨ part < 0 ∨ 1000 < part
  · rw [if_pos h]
    conv => whnf
    repeat' ((first | with_reducible refine bT rfl ?_ | with_reducible refine bF rfl ?_ | (refine sN ?_; (conv => whnf); refine bT (by first | rfl | exact iR8 _ | exact uNN _ | exact iR (by omega) | exact iR (by rw [hw]; omega) | exact nBlt (by omega) | exact nBle (by omega) | (simp; omega)) ?_) | (refine sA ?_; (conv => whnf); refine bT (roomL (by omega) rfl) ?_) | (refine sS ?_; (conv => whnf); refine bT (by first | rfl | exact iR8 _ | exact uNN _ | exact iR (by omega) | exact iR (by rw [hw]; omega) | exact nBlt (by omega) | exact nBle (by omega) | (simp; omega)) ?_) | (refine sM ?_; (conv => whnf); refine bT (mkOK (by omega) (by omega) (by omega) rfl) ?_) | (refine sC ?_; (conv => whnf); refine bT (nBle (by first | omega | (simp; omega))) ?_) | refine bDt (by omega) ?_ | refine bDf (by omega) ?_ | refine bNt (by omega) ?_ | refine bNf (by omega) ?_ | refine bD (fun _ => ?_) (fun _ => ?_) | refine bN (fun _ => ?_) (fun _ => ?_)) <;> conv => whnf)
    all_goals first | rfl | (exfalso; omega)
  · rw [if_neg h]
    have hm := refMulDiv n part 1000 2
    by_cases h2 : (addE n (mdE n part 1000 2).1).2 = 0
    · rw [if_pos h2]
      conv => whnf
      repeat' ((first | with_reducible refine bT rfl ?_ | with_reducible refine bF rfl ?_ | (refine sN ?_; (conv => whnf); refine bT (by first | rfl | exact iR8 _ | exact uNN _ | exact iR (by omega) | exact iR (by rw [hw]; omega) | exact nBlt (by omega) | exact nBle (by omega) | (simp; omega)) ?_) | (refine sA ?_; (conv => whnf); refine bT (roomL (by omega) rfl) ?_) | (refine sS ?_; (conv => whnf); refine bT (by first | rfl | exact iR8 _ | exact uNN _ | exact iR (by omega) | exact iR (by rw [hw]; omega) | exact nBlt (by omega) | exact nBle (by omega) | (simp; omega)) ?_) | (refine sM ?_; (conv => whnf); refine bT (mkOK (by omega) (by omega) (by omega) rfl) ?_) | (refine sC ?_; (conv => whnf); refine bT (nBle (by first | omega | (simp; omega))) ?_) | refine bDt (by omega) ?_ | refine bDf (by omega) ?_ | refine bNt (by omega) ?_ | refine bNf (by omega) ?_ | refine call_is hm ?_ | refine call_is (refAdd _ _) ?_ | refine bDt h2 ?_ | refine bNf h2 ?_ | refine bD (fun _ => ?_) (fun _ => ?_) | refine bN (fun _ => ?_) (fun _ => ?_)) <;> conv => whnf)
      all_goals rw [← max_if]
      · rw [if_pos (by assumption)]; rfl
      · rw [if_neg (by assumption)]; rfl
    · rw [if_neg h2]
      conv => whnf
      repeat' ((first | with_reducible refine bT rfl ?_ | with_reducible refine bF rfl ?_ | (refine sN ?_; (conv => whnf); refine bT (by first | rfl | exact iR8 _ | exact uNN _ | exact iR (by omega) | exact iR (by rw [hw]; omega) | exact nBlt (by omega) | exact nBle (by omega) | (simp; omega)) ?_) | (refine sA ?_; (conv => whnf); refine bT (roomL (by omega) rfl) ?_) | (refine sS ?_; (conv => whnf); refine bT (by first | rfl | exact iR8 _ | exact uNN _ | exact iR (by omega) | exact iR (by rw [hw]; omega) | exact nBlt (by omega) | exact nBle (by omega) | (simp; omega)) ?_) | (refine sM ?_; (conv => whnf); refine bT (mkOK (by omega) (by omega) (by omega) rfl) ?_) | (refine sC ?_; (conv => whnf); refine bT (nBle (by first | omega | (simp; omega))) ?_) | refine bDt (by omega) ?_ | refine bDf (by omega) ?_ | refine bNt (by omega) ?_ | refine bNf (by omega) ?_ | refine call_is hm ?_ | refine call_is (refAdd _ _) ?_ | refine bDf h2 ?_ | refine bNt h2 ?_ | refine bD (fun _ => ?_) (fun _ => ?_) | refine bN (fun _ => ?_) (fun _ => ?_)) <;> conv => whnf)
      all_goals rfl
def lossAV (p : List Int × Int) : AV := .tup [EI.L p.1, .int .i64 p.2]
def EM : Enc (List Int) := ⟨1, EI.L, []⟩
def serAt (s : List Sr) (i : Nat) : Int := if 0 ≤ cmpR (s.getD (i - 1) ER.d) (s.getD i ER.d) then 19 else 0
def farP (x : Int) : Prop := x < -68719476736 ∨ 68719476736 < x
instance (x : Int) : Decidable (farP x) := inferInstanceAs (Decidable (_ ∨ _))
def dayAt (s : List Sr) (m : List (List Int)) (i : Nat) : Int := if (m.getD i EM.d).length = s.length then (if ∀ x ∈ m.getD i EM.d, ¬ farP x then 0 else 3) else 27
def chkE (s : List Sr) (m : List (List Int)) : Int :=
  if 128 < s.length ∨ m.length < 1 ∨ 512 < m.length then 8 else if firstE (serAt s) (s.length - 1) 1 = 0 then firstE (dayAt s m) m.length 0 else 19
theorem firstE_ser {s : List Sr} : ∀ {n i : Nat}, firstE (serAt s) n i = 0 ∨ firstE (serAt s) n i = 19
  | 0, _ => .inl rfl
  | n + 1, i => by
    rw [firstE]
    split
    · exact firstE_ser
    · unfold serAt at *; split <;> simp_all
theorem serLoop (s : List Sr) (hs : s.length ≤ 1073741824) {i : Nat} (h0 : 1 ≤ i) (hlt : i < s.length) : firstE (serAt s) (s.length - i) i = if 0 ≤ cmpR (s.getD (i - 1) ER.d) (s.getD i ER.d) then 19 else firstE (serAt s) (s.length - (i + 1)) (i + 1) := by
  rw [firstE_at hlt]
  unfold serAt
  split <;> rename_i h <;> split <;> simp_all
theorem check (s : List Sr) (m : List (List Int)) (hs : s.length ≤ 1073741824) (hm : m.length ≤ 9223372036854775807) (hl : ∀ d ∈ m, d.length ≤ 9223372036854775807) : CallOK Try.prog 31 [ER.L s, EM.L m] (fun r => r = .int .i64 (chkE s m)) := by
  refine okHi ?_
  by_cases h8 : 128 < s.length ∨ m.length < 1 ∨ 512 < m.length
  · rw [chkE, if_pos h8]
    conv => whnf
    repeat' ((first | with_reducible refine bT rfl ?_ | with_reducible refine bF rfl ?_ | (refine sN ?_; (conv => whnf); refine bT (by first | rfl | exact iR8 _ | exact uNN _ | exact iR (by omega) | exact iR (by rw [hw]; omega) | exact nBlt (by omega) | exact nBle (by omega) | (simp; omega)) ?_) | (refine sA ?_; (conv => whnf); refine bT (roomL (by omega) rfl) ?_) | (refine sS ?_; (conv => whnf); refine bT (by first | rfl | exact iR8 _ | exact uNN _ | exact iR (by omega) | exact iR (by rw [hw]; omega) | exact nBlt (by omega) | exact nBle (by omega) | (simp; omega)) ?_) | (refine sM ?_; (conv => whnf); refine bT (mkOK (by omega) (by omega) (by omega) rfl) ?_) | (refine sC ?_; (conv => whnf); refine bT (nBle (by first | omega | (simp; omega))) ?_) | refine bDt (by omega) ?_ | refine bDf (by omega) ?_ | refine bNt (by omega) ?_ | refine bNf (by omega) ?_ | refine bD (fun _ => ?_) (fun _ => ?_) | refine bN (fun _ => ?_) (fun _ => ?_)) <;> conv => whnf)
    all_goals first | rfl | (exfalso; omega)
  rw [chkE, if_neg h8]
  conv => whnf
  repeat' ((first | with_reducible refine bT rfl ?_ | with_reducible refine bF rfl ?_ | (refine sN ?_; (conv => whnf); refine bT (by first | rfl | exact iR8 _ | exact uNN _ | exact iR (by omega) | exact iR (by rw [hw]; omega) | exact nBlt (by omega) | exact nBle (by omega) | (simp; omega)) ?_) | (refine sA ?_; (conv => whnf); refine bT (roomL (by omega) rfl) ?_) | (refine sS ?_; (conv => whnf); refine bT (by first | rfl | exact iR8 _ | exact uNN _ | exact iR (by omega) | exact iR (by rw [hw]; omega) | exact nBlt (by omega) | exact nBle (by omega) | (simp; omega)) ?_) | (refine sM ?_; (conv => whnf); refine bT (mkOK (by omega) (by omega) (by omega) rfl) ?_) | (refine sC ?_; (conv => whnf); refine bT (nBle (by first | omega | (simp; omega))) ?_) | refine bDt (by omega) ?_ | refine bDf (by omega) ?_ | refine bNt (by omega) ?_ | refine bNf (by omega) ?_ | refine bD (fun _ => ?_) (fun _ => ?_) | refine bN (fun _ => ?_) (fun _ => ?_)) <;> conv => whnf)
  refine loop_by (cx := cxHi) rfl progOK (ι := {i : Nat // 1 ≤ i ∧ (i ≤ s.length ∨ i = 1) ∧ firstE (serAt s) (s.length - i) i = firstE (serAt s) (s.length - 1) 1}) (fun i => s.length - i.1) (fun i => ⟨[(0, ER.L s), (1, EM.L m), (5, .int .i64 i.1)], [], [], none⟩) ?_ ⟨1, Nat.le_refl _, .inr rfl, rfl⟩
  rintro ⟨i, h1, hi, hf⟩ ih
  dsimp only
  have hw : IntKind.i64.wrap ((i : Int) - 1) = ((i - 1 : Nat) : Int) := by rw [wrap64 (by omega)]; omega
  by_cases hlt : i < s.length
  · rw [serLoop s hs h1 hlt] at hf
    by_cases hc : 0 ≤ cmpR (s.getD (i - 1) ER.d) (s.getD i ER.d)
    · rw [if_pos hc] at hf
      rw [← hf, if_neg (by decide)]
      conv => whnf
      repeat' ((first | with_reducible refine bT rfl ?_ | with_reducible refine bF rfl ?_ | (refine sN ?_; (conv => whnf); refine bT (by first | rfl | exact iR8 _ | exact uNN _ | exact iR (by omega) | exact iR (by rw [hw]; omega) | exact nBlt (by omega) | exact nBle (by omega) | (simp; omega)) ?_) | (refine sA ?_; (conv => whnf); refine bT (roomL (by omega) rfl) ?_) | (refine sS ?_; (conv => whnf); refine bT (by first | rfl | exact iR8 _ | exact uNN _ | exact iR (by omega) | exact iR (by rw [hw]; omega) | exact nBlt (by omega) | exact nBle (by omega) | (simp; omega)) ?_) | (refine sM ?_; (conv => whnf); refine bT (mkOK (by omega) (by omega) (by omega) rfl) ?_) | (refine sC ?_; (conv => whnf); refine bT (nBle (by first | omega | (simp; omega))) ?_) | refine bDt (by omega) ?_ | refine bDf (by omega) ?_ | refine bNt (by omega) ?_ | refine bNf (by omega) ?_ | refine call_is (compare _ _) ?_ | refine bDt (by rw [hw]; exact hc) ?_ | refine bD (fun _ => ?_) (fun _ => ?_) | refine bN (fun _ => ?_) (fun _ => ?_)) <;> conv => whnf)
      all_goals rfl
    · rw [if_neg hc] at hf
      conv => whnf
      repeat' ((first | with_reducible refine bT rfl ?_ | with_reducible refine bF rfl ?_ | (refine sN ?_; (conv => whnf); refine bT (by first | rfl | exact iR8 _ | exact uNN _ | exact iR (by omega) | exact iR (by rw [hw]; omega) | exact nBlt (by omega) | exact nBle (by omega) | (simp; omega)) ?_) | (refine sA ?_; (conv => whnf); refine bT (roomL (by omega) rfl) ?_) | (refine sS ?_; (conv => whnf); refine bT (by first | rfl | exact iR8 _ | exact uNN _ | exact iR (by omega) | exact iR (by rw [hw]; omega) | exact nBlt (by omega) | exact nBle (by omega) | (simp; omega)) ?_) | (refine sM ?_; (conv => whnf); refine bT (mkOK (by omega) (by omega) (by omega) rfl) ?_) | (refine sC ?_; (conv => whnf); refine bT (nBle (by first | omega | (simp; omega))) ?_) | refine bDt (by omega) ?_ | refine bDf (by omega) ?_ | refine bNt (by omega) ?_ | refine bNf (by omega) ?_ | refine call_is (compare _ _) ?_ | refine bDf (by rw [hw]; exact hc) ?_ | refine loop_to ih ⟨i + 1, by omega, by omega, hf⟩ (show s.length - (i+1) < s.length - i by omega) ?_ | refine bD (fun _ => ?_) (fun _ => ?_) | refine bN (fun _ => ?_) (fun _ => ?_)) <;> conv => whnf)
      rw [next_i hlt (by omega)]; rfl
  · have h0 : firstE (serAt s) (s.length - 1) 1 = 0 := by rw [← hf, show s.length - i = 0 by omega]; rfl
    rw [if_pos h0]
    conv => whnf
    repeat' ((first | with_reducible refine bT rfl ?_ | with_reducible refine bF rfl ?_ | (refine sN ?_; (conv => whnf); refine bT (by first | rfl | exact iR8 _ | exact uNN _ | exact iR (by omega) | exact iR (by rw [hw]; omega) | exact nBlt (by omega) | exact nBle (by omega) | (simp; omega)) ?_) | (refine sA ?_; (conv => whnf); refine bT (roomL (by omega) rfl) ?_) | (refine sS ?_; (conv => whnf); refine bT (by first | rfl | exact iR8 _ | exact uNN _ | exact iR (by omega) | exact iR (by rw [hw]; omega) | exact nBlt (by omega) | exact nBle (by omega) | (simp; omega)) ?_) | (refine sM ?_; (conv => whnf); refine bT (mkOK (by omega) (by omega) (by omega) rfl) ?_) | (refine sC ?_; (conv => whnf); refine bT (nBle (by first | omega | (simp; omega))) ?_) | refine bDt (by omega) ?_ | refine bDf (by omega) ?_ | refine bNt (by omega) ?_ | refine bNf (by omega) ?_ | refine bD (fun _ => ?_) (fun _ => ?_) | refine bN (fun _ => ?_) (fun _ => ?_)) <;> conv => whnf)
    clear ih hf h0 hw h1 hi hlt
    refine loop_by (cx := cxHi) rfl progOK (ι := {i : Nat // i ≤ m.length ∧ firstE (dayAt s m) (m.length - i) i = firstE (dayAt s m) m.length 0}) (fun i => m.length - i.1) (fun i => ⟨[(0, ER.L s), (38, EM.L m), (39, .int .i64 m.length), (40, .int .i64 i.1)], [], [], none⟩) ?_ ⟨0, Nat.zero_le _, rfl⟩
    rintro ⟨i, hi, hf⟩ ih
    dsimp only
    by_cases hlt : i < m.length
    · rw [firstE_at hlt] at hf
      have hdl := hl (m.getD i EM.d) (Enc.get_mem (E := EM) hlt)
      by_cases he : (m.getD i EM.d).length = s.length
      · have he' := he
        rw [← Int.toNat_natCast i] at he'
        rw [dayAt, if_pos he] at hf
        conv => whnf
        repeat' ((first | with_reducible refine bT rfl ?_ | with_reducible refine bF rfl ?_ | (refine sN ?_; (conv => whnf); refine bT (by first | rfl | exact iR8 _ | exact uNN _ | exact iR (by omega) | exact iR (by rw [hw]; omega) | exact nBlt (by omega) | exact nBle (by omega) | (simp; omega)) ?_) | (refine sA ?_; (conv => whnf); refine bT (roomL (by omega) rfl) ?_) | (refine sS ?_; (conv => whnf); refine bT (by first | rfl | exact iR8 _ | exact uNN _ | exact iR (by omega) | exact iR (by rw [hw]; omega) | exact nBlt (by omega) | exact nBle (by omega) | (simp; omega)) ?_) | (refine sM ?_; (conv => whnf); refine bT (mkOK (by omega) (by omega) (by omega) rfl) ?_) | (refine sC ?_; (conv => whnf); refine bT (nBle (by first | omega | (simp; omega))) ?_) | refine bDt (by omega) ?_ | refine bDf (by omega) ?_ | refine bNt (by omega) ?_ | refine bNf (by omega) ?_ | refine bD (fun _ => ?_) (fun _ => ?_) | refine bN (fun _ => ?_) (fun _ => ?_)) <;> conv => whnf)
        have ih' := fun h => ih ⟨i + 1, hlt, h⟩ (show m.length - (i+1) < m.length - i by omega)
        clear ih
        refine loop_by (cx := cxHi) rfl progOK (ι := {j : Nat // j ≤ (m.getD i EM.d).length ∧ ∀ x ∈ (m.getD i EM.d).take j, ¬ farP x}) (fun j => (m.getD i EM.d).length - j.1) (fun j => ⟨[(0, EI.L (m.getD i EM.d)), (1, .fn 79 [] []), (7, .int .i64 (m.getD i EM.d).length), (8, .int .i64 j.1)], [], [], none⟩) ?_ ⟨0, Nat.zero_le _, by simp⟩
        rintro ⟨j, hj, hn⟩ ih
        dsimp only
        by_cases hjl : j < (m.getD i EM.d).length
        · by_cases hx : farP ((m.getD i EM.d).getD j EI.d)
          · have hx2 : _ < (-68719476736 : Int) ∨ (68719476736 : Int) < _ := hx
            have hx2' := hx2
            rw [← Int.toNat_natCast j] at hx2'
            have hx2'' := hx2'
            rw [← Int.toNat_natCast i] at hx2''
            have h3 : (if ∀ x ∈ m.getD i EM.d, ¬ farP x then (0 : Int) else 3) = 3 := if_neg (fun h => h _ (Enc.get_mem (E := EI) hjl) hx)
            rw [h3, if_neg (by decide)] at hf
            rw [← hf]
            conv => whnf
            repeat' ((first | with_reducible refine bT rfl ?_ | with_reducible refine bF rfl ?_ | (refine sN ?_; (conv => whnf); refine bT (by first | rfl | exact iR8 _ | exact uNN _ | exact iR (by omega) | exact iR (by rw [hw]; omega) | exact nBlt (by omega) | exact nBle (by omega) | (simp; omega)) ?_) | (refine sA ?_; (conv => whnf); refine bT (roomL (by omega) rfl) ?_) | (refine sS ?_; (conv => whnf); refine bT (by first | rfl | exact iR8 _ | exact uNN _ | exact iR (by omega) | exact iR (by rw [hw]; omega) | exact nBlt (by omega) | exact nBle (by omega) | (simp; omega)) ?_) | (refine sM ?_; (conv => whnf); refine bT (mkOK (by omega) (by omega) (by omega) rfl) ?_) | (refine sC ?_; (conv => whnf); refine bT (nBle (by first | omega | (simp; omega))) ?_) | refine bDt (by omega) ?_ | refine bDf (by omega) ?_ | refine bNt (by omega) ?_ | refine bNf (by omega) ?_ | refine bD (fun _ => ?_) (fun _ => ?_) | refine bN (fun _ => ?_) (fun _ => ?_)) <;> conv => whnf)
            all_goals rfl
          · have hx2 : ¬ (_ < (-68719476736 : Int) ∨ (68719476736 : Int) < _) := hx
            have hx2' := hx2
            rw [← Int.toNat_natCast j] at hx2'
            have hx2'' := hx2'
            rw [← Int.toNat_natCast i] at hx2''
            have hn2 : ∀ x ∈ (m.getD i EM.d).take (j + 1), ¬ farP x := by
              rw [Enc.take_succ (E := EI) hjl]
              intro x hm
              rcases List.mem_append.1 hm with h | h
              · exact hn x h
              · rw [List.mem_singleton.1 h]; exact hx
            conv => whnf
            repeat' ((first | with_reducible refine bT rfl ?_ | with_reducible refine bF rfl ?_ | (refine sN ?_; (conv => whnf); refine bT (by first | rfl | exact iR8 _ | exact uNN _ | exact iR (by omega) | exact iR (by rw [hw]; omega) | exact nBlt (by omega) | exact nBle (by omega) | (simp; omega)) ?_) | (refine sA ?_; (conv => whnf); refine bT (roomL (by omega) rfl) ?_) | (refine sS ?_; (conv => whnf); refine bT (by first | rfl | exact iR8 _ | exact uNN _ | exact iR (by omega) | exact iR (by rw [hw]; omega) | exact nBlt (by omega) | exact nBle (by omega) | (simp; omega)) ?_) | (refine sM ?_; (conv => whnf); refine bT (mkOK (by omega) (by omega) (by omega) rfl) ?_) | (refine sC ?_; (conv => whnf); refine bT (nBle (by first | omega | (simp; omega))) ?_) | refine bDt (by omega) ?_ | refine bDf (by omega) ?_ | refine bNt (by omega) ?_ | refine bNf (by omega) ?_ | refine loop_to ih ⟨j + 1, hjl, hn2⟩ (show (m.getD i EM.d).length - (j + 1) < (m.getD i EM.d).length - j by omega) ?_ | refine bD (fun _ => ?_) (fun _ => ?_) | refine bN (fun _ => ?_) (fun _ => ?_)) <;> conv => whnf)
            all_goals (rw [next_i hjl (by omega)]; rfl)
        · obtain rfl : j = (m.getD i EM.d).length := by omega
          rw [List.take_length] at hn
          have h3 : (if ∀ x ∈ m.getD i EM.d, ¬ farP x then (0 : Int) else 3) = 0 := if_pos hn
          rw [h3, if_pos rfl] at hf
          have ih2 := ih' hf
          conv => whnf
          repeat' ((first | with_reducible refine bT rfl ?_ | with_reducible refine bF rfl ?_ | (refine sN ?_; (conv => whnf); refine bT (by first | rfl | exact iR8 _ | exact uNN _ | exact iR (by omega) | exact iR (by rw [hw]; omega) | exact nBlt (by omega) | exact nBle (by omega) | (simp; omega)) ?_) | (refine sA ?_; (conv => whnf); refine bT (roomL (by omega) rfl) ?_) | (refine sS ?_; (conv => whnf); refine bT (by first | rfl | exact iR8 _ | exact uNN _ | exact iR (by omega) | exact iR (by rw [hw]; omega) | exact nBlt (by omega) | exact nBle (by omega) | (simp; omega)) ?_) | (refine sM ?_; (conv => whnf); refine bT (mkOK (by omega) (by omega) (by omega) rfl) ?_) | (refine sC ?_; (conv => whnf); refine bT (nBle (by first | omega | (simp; omega))) ?_) | refine bDt (by omega) ?_ | refine bDf (by omega) ?_ | refine bNt (by omega) ?_ | refine bNf (by omega) ?_ | refine loop_start ?_ ih2 | refine bD (fun _ => ?_) (fun _ => ?_) | refine bN (fun _ => ?_) (fun _ => ?_)) <;> conv => whnf)
          all_goals (rw [next_i hlt (by omega)]; rfl)
      · have he' := he
        rw [← Int.toNat_natCast i] at he'
        rw [dayAt, if_neg he, if_neg (by decide)] at hf
        rw [← hf]
        conv => whnf
        repeat' ((first | with_reducible refine bT rfl ?_ | with_reducible refine bF rfl ?_ | (refine sN ?_; (conv => whnf); refine bT (by first | rfl | exact iR8 _ | exact uNN _ | exact iR (by omega) | exact iR (by rw [hw]; omega) | exact nBlt (by omega) | exact nBle (by omega) | (simp; omega)) ?_) | (refine sA ?_; (conv => whnf); refine bT (roomL (by omega) rfl) ?_) | (refine sS ?_; (conv => whnf); refine bT (by first | rfl | exact iR8 _ | exact uNN _ | exact iR (by omega) | exact iR (by rw [hw]; omega) | exact nBlt (by omega) | exact nBle (by omega) | (simp; omega)) ?_) | (refine sM ?_; (conv => whnf); refine bT (mkOK (by omega) (by omega) (by omega) rfl) ?_) | (refine sC ?_; (conv => whnf); refine bT (nBle (by first | omega | (simp; omega))) ?_) | refine bDt (by omega) ?_ | refine bDf (by omega) ?_ | refine bNt (by omega) ?_ | refine bNf (by omega) ?_ | refine bD (fun _ => ?_) (fun _ => ?_) | refine bN (fun _ => ?_) (fun _ => ?_)) <;> conv => whnf)
        all_goals first | rfl | (exfalso; omega)
    · obtain rfl : i = m.length := by omega
      rw [Nat.sub_self, firstE] at hf
      rw [← hf]
      conv => whnf
      repeat' ((first | with_reducible refine bT rfl ?_ | with_reducible refine bF rfl ?_ | (refine sN ?_; (conv => whnf); refine bT (by first | rfl | exact iR8 _ | exact uNN _ | exact iR (by omega) | exact iR (by rw [hw]; omega) | exact nBlt (by omega) | exact nBle (by omega) | (simp; omega)) ?_) | (refine sA ?_; (conv => whnf); refine bT (roomL (by omega) rfl) ?_) | (refine sS ?_; (conv => whnf); refine bT (by first | rfl | exact iR8 _ | exact uNN _ | exact iR (by omega) | exact iR (by rw [hw]; omega) | exact nBlt (by omega) | exact nBle (by omega) | (simp; omega)) ?_) | (refine sM ?_; (conv => whnf); refine bT (mkOK (by omega) (by omega) (by omega) rfl) ?_) | (refine sC ?_; (conv => whnf); refine bT (nBle (by first | omega | (simp; omega))) ?_) | refine bDt (by omega) ?_ | refine bDf (by omega) ?_ | refine bNt (by omega) ?_ | refine bNf (by omega) ?_ | refine bD (fun _ => ?_) (fun _ => ?_) | refine bN (fun _ => ?_) (fun _ => ?_)) <;> conv => whnf)
      all_goals rfl
theorem refCheck (s : List Sr) (m : List (List Int)) (hs : s.length ≤ 1073741824) (hm : m.length ≤ 9223372036854775807) (hl : ∀ d ∈ m, d.length ≤ 9223372036854775807) : CallOK Try.prog 32 [ER.L s, EM.L m] (fun r => r = .int .i64 (chkE s m)) := by
  refine okHi ?_
  by_cases h8 : 128 < s.length ∨ m.length < 1 ∨ 512 < m.length
  · rw [chkE, if_pos h8]
    conv => whnf
    repeat' ((first | with_reducible refine bT rfl ?_ | with_reducible refine bF rfl ?_ | (refine sN ?_; (conv => whnf); refine bT (by first | rfl | exact iR8 _ | exact uNN _ | exact iR (by omega) | exact iR (by rw [hw]; omega) | exact nBlt (by omega) | exact nBle (by omega) | (simp; omega)) ?_) | (refine sA ?_; (conv => whnf); refine bT (roomL (by omega) rfl) ?_) | (refine sS ?_; (conv => whnf); refine bT (by first | rfl | exact iR8 _ | exact uNN _ | exact iR (by omega) | exact iR (by rw [hw]; omega) | exact nBlt (by omega) | exact nBle (by omega) | (simp; omega)) ?_) | (refine sM ?_; (conv => whnf); refine bT (mkOK (by omega) (by omega) (by omega) rfl) ?_) | (refine sC ?_; (conv => whnf); refine bT (nBle (by first | omega | (simp; omega))) ?_) | refine bDt (by omega) ?_ | refine bDf (by omega) ?_ | refine bNt (by omega) ?_ | refine bNf (by omega) ?_ | refine bD (fun _ => ?_) (fun _ => ?_) | refine bN (fun _ => ?_) (fun _ => ?_)) <;> conv => whnf)
    all_goals first | rfl | (exfalso; omega)
  rw [chkE, if_neg h8]
  conv => whnf
  repeat' ((first | with_reducible refine bT rfl ?_ | with_reducible refine bF rfl ?_ | (refine sN ?_; (conv => whnf); refine bT (by first | rfl | exact iR8 _ | exact uNN _ | exact iR (by omega) | exact iR (by rw [hw]; omega) | exact nBlt (by omega) | exact nBle (by omega) | (simp; omega)) ?_) | (refine sA ?_; (conv => whnf); refine bT (roomL (by omega) rfl) ?_) | (refine sS ?_; (conv => whnf); refine bT (by first | rfl | exact iR8 _ | exact uNN _ | exact iR (by omega) | exact iR (by rw [hw]; omega) | exact nBlt (by omega) | exact nBle (by omega) | (simp; omega)) ?_) | (refine sM ?_; (conv => whnf); refine bT (mkOK (by omega) (by omega) (by omega) rfl) ?_) | (refine sC ?_; (conv => whnf); refine bT (nBle (by first | omega | (simp; omega))) ?_) | refine bDt (by omega) ?_ | refine bDf (by omega) ?_ | refine bNt (by omega) ?_ | refine bNf (by omega) ?_ | refine bD (fun _ => ?_) (fun _ => ?_) | refine bN (fun _ => ?_) (fun _ => ?_)) <;> conv => whnf)
  refine loop_by (cx := cxHi) rfl progOK (ι := {i : Nat // 1 ≤ i ∧ (i ≤ s.length ∨ i = 1) ∧ firstE (serAt s) (s.length - i) i = firstE (serAt s) (s.length - 1) 1}) (fun i => s.length - i.1) (fun i => ⟨[(0, ER.L s), (1, EM.L m), (5, .int .i64 i.1)], [], [], none⟩) ?_ ⟨1, Nat.le_refl _, .inr rfl, rfl⟩
  rintro ⟨i, h1, hi, hf⟩ ih
  dsimp only
  have hw : IntKind.i64.wrap ((i : Int) - 1) = ((i - 1 : Nat) : Int) := by rw [wrap64 (by omega)]; omega
  by_cases hlt : i < s.length
  · rw [serLoop s hs h1 hlt] at hf
    by_cases hc : 0 ≤ cmpR (s.getD (i - 1) ER.d) (s.getD i ER.d)
    · rw [if_pos hc] at hf
      rw [← hf, if_neg (by decide)]
      conv => whnf
      repeat' ((first | with_reducible refine bT rfl ?_ | with_reducible refine bF rfl ?_ | (refine sN ?_; (conv => whnf); refine bT (by first | rfl | exact iR8 _ | exact uNN _ | exact iR (by omega) | exact iR (by rw [hw]; omega) | exact nBlt (by omega) | exact nBle (by omega) | (simp; omega)) ?_) | (refine sA ?_; (conv => whnf); refine bT (roomL (by omega) rfl) ?_) | (refine sS ?_; (conv => whnf); refine bT (by first | rfl | exact iR8 _ | exact uNN _ | exact iR (by omega) | exact iR (by rw [hw]; omega) | exact nBlt (by omega) | exact nBle (by omega) | (simp; omega)) ?_) | (refine sM ?_; (conv => whnf); refine bT (mkOK (by omega) (by omega) (by omega) rfl) ?_) | (refine sC ?_; (conv => whnf); refine bT (nBle (by first | omega | (simp; omega))) ?_) | refine bDt (by omega) ?_ | refine bDf (by omega) ?_ | refine bNt (by omega) ?_ | refine bNf (by omega) ?_ | refine call_is (refCompare _ _) ?_ | refine bDt (by rw [hw]; exact hc) ?_ | refine bD (fun _ => ?_) (fun _ => ?_) | refine bN (fun _ => ?_) (fun _ => ?_)) <;> conv => whnf)
      all_goals rfl
    · rw [if_neg hc] at hf
      conv => whnf
      repeat' ((first | with_reducible refine bT rfl ?_ | with_reducible refine bF rfl ?_ | (refine sN ?_; (conv => whnf); refine bT (by first | rfl | exact iR8 _ | exact uNN _ | exact iR (by omega) | exact iR (by rw [hw]; omega) | exact nBlt (by omega) | exact nBle (by omega) | (simp; omega)) ?_) | (refine sA ?_; (conv => whnf); refine bT (roomL (by omega) rfl) ?_) | (refine sS ?_; (conv => whnf); refine bT (by first | rfl | exact iR8 _ | exact uNN _ | exact iR (by omega) | exact iR (by rw [hw]; omega) | exact nBlt (by omega) | exact nBle (by omega) | (simp; omega)) ?_) | (refine sM ?_; (conv => whnf); refine bT (mkOK (by omega) (by omega) (by omega) rfl) ?_) | (refine sC ?_; (conv => whnf); refine bT (nBle (by first | omega | (simp; omega))) ?_) | refine bDt (by omega) ?_ | refine bDf (by omega) ?_ | refine bNt (by omega) ?_ | refine bNf (by omega) ?_ | refine call_is (refCompare _ _) ?_ | refine bDf (by rw [hw]; exact hc) ?_ | refine loop_to ih ⟨i + 1, by omega, by omega, hf⟩ (show s.length - (i+1) < s.length - i by omega) ?_ | refine bD (fun _ => ?_) (fun _ => ?_) | refine bN (fun _ => ?_) (fun _ => ?_)) <;> conv => whnf)
      rw [next_i hlt (by omega)]; rfl
  · have h0 : firstE (serAt s) (s.length - 1) 1 = 0 := by rw [← hf, show s.length - i = 0 by omega]; rfl
    rw [if_pos h0]
    conv => whnf
    repeat' ((first | with_reducible refine bT rfl ?_ | with_reducible refine bF rfl ?_ | (refine sN ?_; (conv => whnf); refine bT (by first | rfl | exact iR8 _ | exact uNN _ | exact iR (by omega) | exact iR (by rw [hw]; omega) | exact nBlt (by omega) | exact nBle (by omega) | (simp; omega)) ?_) | (refine sA ?_; (conv => whnf); refine bT (roomL (by omega) rfl) ?_) | (refine sS ?_; (conv => whnf); refine bT (by first | rfl | exact iR8 _ | exact uNN _ | exact iR (by omega) | exact iR (by rw [hw]; omega) | exact nBlt (by omega) | exact nBle (by omega) | (simp; omega)) ?_) | (refine sM ?_; (conv => whnf); refine bT (mkOK (by omega) (by omega) (by omega) rfl) ?_) | (refine sC ?_; (conv => whnf); refine bT (nBle (by first | omega | (simp; omega))) ?_) | refine bDt (by omega) ?_ | refine bDf (by omega) ?_ | refine bNt (by omega) ?_ | refine bNf (by omega) ?_ | refine bD (fun _ => ?_) (fun _ => ?_) | refine bN (fun _ => ?_) (fun _ => ?_)) <;> conv => whnf)
    clear ih hf h0 hw h1 hi hlt
    refine loop_by (cx := cxHi) rfl progOK (ι := {i : Nat // i ≤ m.length ∧ firstE (dayAt s m) (m.length - i) i = firstE (dayAt s m) m.length 0}) (fun i => m.length - i.1) (fun i => ⟨[(0, ER.L s), (1, EM.L m), (6, .int .i64 i.1)], [], [], none⟩) ?_ ⟨0, Nat.zero_le _, rfl⟩
    rintro ⟨i, hi, hf⟩ ih
    dsimp only
    by_cases hlt : i < m.length
    · rw [firstE_at hlt] at hf
      have hdl := hl (m.getD i EM.d) (Enc.get_mem (E := EM) hlt)
      by_cases he : (m.getD i EM.d).length = s.length
      · have he' := he
        rw [← Int.toNat_natCast i] at he'
        rw [dayAt, if_pos he] at hf
        conv => whnf
        repeat' ((first | with_reducible refine bT rfl ?_ | with_reducible refine bF rfl ?_ | (refine sN ?_; (conv => whnf); refine bT (by first | rfl | exact iR8 _ | exact uNN _ | exact iR (by omega) | exact iR (by rw [hw]; omega) | exact nBlt (by omega) | exact nBle (by omega) | (simp; omega)) ?_) | (refine sA ?_; (conv => whnf); refine bT (roomL (by omega) rfl) ?_) | (refine sS ?_; (conv => whnf); refine bT (by first | rfl | exact iR8 _ | exact uNN _ | exact iR (by omega) | exact iR (by rw [hw]; omega) | exact nBlt (by omega) | exact nBle (by omega) | (simp; omega)) ?_) | (refine sM ?_; (conv => whnf); refine bT (mkOK (by omega) (by omega) (by omega) rfl) ?_) | (refine sC ?_; (conv => whnf); refine bT (nBle (by first | omega | (simp; omega))) ?_) | refine bDt (by omega) ?_ | refine bDf (by omega) ?_ | refine bNt (by omega) ?_ | refine bNf (by omega) ?_ | refine bD (fun _ => ?_) (fun _ => ?_) | refine bN (fun _ => ?_) (fun _ => ?_)) <;> conv => whnf)
        have ih' := fun h => ih ⟨i + 1, hlt, h⟩ (show m.length - (i+1) < m.length - i by omega)
        clear ih
        refine loop_by (cx := cxHi) rfl progOK (ι := {j : Nat // j ≤ (m.getD i EM.d).length ∧ ∀ x ∈ (m.getD i EM.d).take j, ¬ farP x}) (fun j => (m.getD i EM.d).length - j.1) (fun j => ⟨[(0, ER.L s), (1, EM.L m), (6, .int .i64 i), (7, .int .i64 j.1)], [], [], none⟩) ?_ ⟨0, Nat.zero_le _, by simp⟩
        rintro ⟨j, hj, hn⟩ ih
        dsimp only
        by_cases hjl : j < (m.getD i EM.d).length
        · by_cases hx : farP ((m.getD i EM.d).getD j EI.d)
          · have hx2 : _ < (-68719476736 : Int) ∨ (68719476736 : Int) < _ := hx
            have hx2' := hx2
            rw [← Int.toNat_natCast j] at hx2'
            have hx2'' := hx2'
            rw [← Int.toNat_natCast i] at hx2''
            have h3 : (if ∀ x ∈ m.getD i EM.d, ¬ farP x then (0 : Int) else 3) = 3 := if_neg (fun h => h _ (Enc.get_mem (E := EI) hjl) hx)
            rw [h3, if_neg (by decide)] at hf
            rw [← hf]
            conv => whnf
            repeat' ((first | with_reducible refine bT rfl ?_ | with_reducible refine bF rfl ?_ | (refine sN ?_; (conv => whnf); refine bT (by first | rfl | exact iR8 _ | exact uNN _ | exact iR (by omega) | exact iR (by rw [hw]; omega) | exact nBlt (by omega) | exact nBle (by omega) | (simp; omega)) ?_) | (refine sA ?_; (conv => whnf); refine bT (roomL (by omega) rfl) ?_) | (refine sS ?_; (conv => whnf); refine bT (by first | rfl | exact iR8 _ | exact uNN _ | exact iR (by omega) | exact iR (by rw [hw]; omega) | exact nBlt (by omega) | exact nBle (by omega) | (simp; omega)) ?_) | (refine sM ?_; (conv => whnf); refine bT (mkOK (by omega) (by omega) (by omega) rfl) ?_) | (refine sC ?_; (conv => whnf); refine bT (nBle (by first | omega | (simp; omega))) ?_) | refine bDt (by omega) ?_ | refine bDf (by omega) ?_ | refine bNt (by omega) ?_ | refine bNf (by omega) ?_ | refine bD (fun _ => ?_) (fun _ => ?_) | refine bN (fun _ => ?_) (fun _ => ?_)) <;> conv => whnf)
            all_goals rfl
          · have hx2 : ¬ (_ < (-68719476736 : Int) ∨ (68719476736 : Int) < _) := hx
            have hx2' := hx2
            rw [← Int.toNat_natCast j] at hx2'
            have hx2'' := hx2'
            rw [← Int.toNat_natCast i] at hx2''
            have hn2 : ∀ x ∈ (m.getD i EM.d).take (j + 1), ¬ farP x := by
              rw [Enc.take_succ (E := EI) hjl]
              intro x hm
              rcases List.mem_append.1 hm with h | h
              · exact hn x h
              · rw [List.mem_singleton.1 h]; exact hx
            conv => whnf
            repeat' ((first | with_reducible refine bT rfl ?_ | with_reducible refine bF rfl ?_ | (refine sN ?_; (conv => whnf); refine bT (by first | rfl | exact iR8 _ | exact uNN _ | exact iR (by omega) | exact iR (by rw [hw]; omega) | exact nBlt (by omega) | exact nBle (by omega) | (simp; omega)) ?_) | (refine sA ?_; (conv => whnf); refine bT (roomL (by omega) rfl) ?_) | (refine sS ?_; (conv => whnf); refine bT (by first | rfl | exact iR8 _ | exact uNN _ | exact iR (by omega) | exact iR (by rw [hw]; omega) | exact nBlt (by omega) | exact nBle (by omega) | (simp; omega)) ?_) | (refine sM ?_; (conv => whnf); refine bT (mkOK (by omega) (by omega) (by omega) rfl) ?_) | (refine sC ?_; (conv => whnf); refine bT (nBle (by first | omega | (simp; omega))) ?_) | refine bDt (by omega) ?_ | refine bDf (by omega) ?_ | refine bNt (by omega) ?_ | refine bNf (by omega) ?_ | refine loop_to ih ⟨j + 1, hjl, hn2⟩ (show (m.getD i EM.d).length - (j + 1) < (m.getD i EM.d).length - j by omega) ?_ | refine bD (fun _ => ?_) (fun _ => ?_) | refine bN (fun _ => ?_) (fun _ => ?_)) <;> conv => whnf)
            all_goals (rw [next_i hjl (by omega)]; rfl)
        · obtain rfl : j = (m.getD i EM.d).length := by omega
          rw [List.take_length] at hn
          have h3 : (if ∀ x ∈ m.getD i EM.d, ¬ farP x then (0 : Int) else 3) = 0 := if_pos hn
          rw [h3, if_pos rfl] at hf
          have ih2 := ih' hf
          conv => whnf
          repeat' ((first | with_reducible refine bT rfl ?_ | with_reducible refine bF rfl ?_ | (refine sN ?_; (conv => whnf); refine bT (by first | rfl | exact iR8 _ | exact uNN _ | exact iR (by omega) | exact iR (by rw [hw]; omega) | exact nBlt (by omega) | exact nBle (by omega) | (simp; omega)) ?_) | (refine sA ?_; (conv => whnf); refine bT (roomL (by omega) rfl) ?_) | (refine sS ?_; (conv => whnf); refine bT (by first | rfl | exact iR8 _ | exact uNN _ | exact iR (by omega) | exact iR (by rw [hw]; omega) | exact nBlt (by omega) | exact nBle (by omega) | (simp; omega)) ?_) | (refine sM ?_; (conv => whnf); refine bT (mkOK (by omega) (by omega) (by omega) rfl) ?_) | (refine sC ?_; (conv => whnf); refine bT (nBle (by first | omega | (simp; omega))) ?_) | refine bDt (by omega) ?_ | refine bDf (by omega) ?_ | refine bNt (by omega) ?_ | refine bNf (by omega) ?_ | refine loop_start ?_ ih2 | refine bD (fun _ => ?_) (fun _ => ?_) | refine bN (fun _ => ?_) (fun _ => ?_)) <;> conv => whnf)
          all_goals (rw [next_i hlt (by omega)]; rfl)
      · have he' := he
        rw [← Int.toNat_natCast i] at he'
        rw [dayAt, if_neg he, if_neg (by decide)] at hf
        rw [← hf]
        conv => whnf
        repeat' ((first | with_reducible refine bT rfl ?_ | with_reducible refine bF rfl ?_ | (refine sN ?_; (conv => whnf); refine bT (by first | rfl | exact iR8 _ | exact uNN _ | exact iR (by omega) | exact iR (by rw [hw]; omega) | exact nBlt (by omega) | exact nBle (by omega) | (simp; omega)) ?_) | (refine sA ?_; (conv => whnf); refine bT (roomL (by omega) rfl) ?_) | (refine sS ?_; (conv => whnf); refine bT (by first | rfl | exact iR8 _ | exact uNN _ | exact iR (by omega) | exact iR (by rw [hw]; omega) | exact nBlt (by omega) | exact nBle (by omega) | (simp; omega)) ?_) | (refine sM ?_; (conv => whnf); refine bT (mkOK (by omega) (by omega) (by omega) rfl) ?_) | (refine sC ?_; (conv => whnf); refine bT (nBle (by first | omega | (simp; omega))) ?_) | refine bDt (by omega) ?_ | refine bDf (by omega) ?_ | refine bNt (by omega) ?_ | refine bNf (by omega) ?_ | refine bD (fun _ => ?_) (fun _ => ?_) | refine bN (fun _ => ?_) (fun _ => ?_)) <;> conv => whnf)
        all_goals first | rfl | (exfalso; omega)
    · obtain rfl : i = m.length := by omega
      rw [Nat.sub_self, firstE] at hf
      rw [← hf]
      conv => whnf
      repeat' ((first | with_reducible refine bT rfl ?_ | with_reducible refine bF rfl ?_ | (refine sN ?_; (conv => whnf); refine bT (by first | rfl | exact iR8 _ | exact uNN _ | exact iR (by omega) | exact iR (by rw [hw]; omega) | exact nBlt (by omega) | exact nBle (by omega) | (simp; omega)) ?_) | (refine sA ?_; (conv => whnf); refine bT (roomL (by omega) rfl) ?_) | (refine sS ?_; (conv => whnf); refine bT (by first | rfl | exact iR8 _ | exact uNN _ | exact iR (by omega) | exact iR (by rw [hw]; omega) | exact nBlt (by omega) | exact nBle (by omega) | (simp; omega)) ?_) | (refine sM ?_; (conv => whnf); refine bT (mkOK (by omega) (by omega) (by omega) rfl) ?_) | (refine sC ?_; (conv => whnf); refine bT (nBle (by first | omega | (simp; omega))) ?_) | refine bDt (by omega) ?_ | refine bDf (by omega) ?_ | refine bNt (by omega) ?_ | refine bNf (by omega) ?_ | refine bD (fun _ => ?_) (fun _ => ?_) | refine bN (fun _ => ?_) (fun _ => ?_)) <;> conv => whnf)
      all_goals rfl
end Go.Proofs

