import Derived.Test.YtflebdkgdnfjoaaGreatLZA
import Derived.Test.YtflebdkgdnfjoaaGreatLU
set_option linter.unusedVariables false
set_option linter.unusedSimpArgs false
namespace Go.Proofs
open Ax Go
set_option maxRecDepth 10000
set_option maxHeartbeats 8000000
def keepCl (f r : Nat) : Option (List Nat) := match f, r with
  | 80, 4 => some [0, 10, 11, 12]
  | 80, 11 => some [0, 4, 10, 11, 12, 53, 54, 55]
  | 94, 4 => some [0, 3]
  | 182, 4 => some [2, 5]
  | _, _ => none
def keepXCl (f r : Nat) : Option (List Nat) := match f, r with
  | 80, 4 => some [2]
  | 80, 11 => some [0, 2, 4, 10, 11, 12]
  | 94, 4 => some [2]
  | 182, 4 => some [2, 4]
  | _, _ => none
noncomputable def cxCl : Ctx where
  P := Tryz.prog
  inl := fun _ => false
  keep := keepCl
  keepX := keepXCl
  xf := fun _ _ _ => false
  ow := fun _ => false
  gh := fun _ _ => []
  gf := fun _ => []
  ln := fun _ => false
  srt := srtT
theorem okCl {f a Q} (h : stepCall (SX Tryz.prog calmT) cxCl calmT f a Q) : CallOK Tryz.prog f a Q := okOf (cx := cxCl) rfl progOK h
def nearP (x : Int) : Prop := -68719476736 ≤ x ∧ x ≤ 68719476736
instance (x : Int) : Decidable (nearP x) := inferInstanceAs (Decidable (_ ∧ _))
def arE1 (n : Nat) (x : Ar) : Int :=
  if 1 ≤ x.l.length ∧ x.l.length ≤ 32 ∧ x.l.length = n then (if ∀ y ∈ x.l, nearP y then (if -1000 ≤ x.d ∧ x.d ≤ 1000 then 0 else 2) else 3) else 27
def arAt (l : List Ar) (i : Nat) : Int :=
  if 0 < i ∧ 0 ≤ cmpR (l.getD (i - 1) EAr.d).s (l.getD i EAr.d).s then 19 else arE1 (l.getD 0 EAr.d).l.length (l.getD i EAr.d)
def arE (l : List Ar) : Int := if 128 < l.length then 8 else firstE (arAt l) l.length 0
def cellsAr (x : Ar) : List AV := [.str x.s.p, .int .i64 x.s.k, .int .i64 x.s.e, .int .i64 x.s.s, EI.L x.l, .int .i64 x.d]
theorem arCheck (l : List Ar) (hl : l.length ≤ 9223372036854775807) (hls : ∀ x ∈ l, x.l.length ≤ 9223372036854775807) : CallOK Tryz.prog 80 [EAr.L l] (fun r => r = .int .i64 (arE l)) := by
  refine okCl ?_
  by_cases hlong : 128 < l.length
  · rw [arE, if_pos hlong]
    conv => whnf
    repeat' ((first | with_reducible refine bT rfl ?_ | with_reducible refine bF rfl ?_ | ((first | refine sN ?_ | refine sS ?_ | refine sA ?_ | refine sM ?_ | refine sC ?_); (conv => whnf); refine bT (by first | rfl | exact iR8 _ | exact uNN _ | exact iR (by omega) | exact iR (by rw [hw]; omega) | exact nBlt (by omega) | exact nBle (by omega) | exact roomL (by omega) rfl | exact mkOK (by omega) (by omega) (by omega) rfl | (simp; omega)) ?_) | refine bDt (by omega) ?_ | refine bDf (by omega) ?_ | refine bNt (by omega) ?_ | refine bNf (by omega) ?_ | refine bD (fun _ => ?_) (fun _ => ?_) | refine bN (fun _ => ?_) (fun _ => ?_)) <;> conv => whnf)
    all_goals rfl
  rw [arE, if_neg hlong]
  conv => whnf
  repeat' ((first | with_reducible refine bT rfl ?_ | with_reducible refine bF rfl ?_ | ((first | refine sN ?_ | refine sS ?_ | refine sA ?_ | refine sM ?_ | refine sC ?_); (conv => whnf); refine bT (by first | rfl | exact iR8 _ | exact uNN _ | exact iR (by omega) | exact iR (by rw [hw]; omega) | exact nBlt (by omega) | exact nBle (by omega) | exact roomL (by omega) rfl | exact mkOK (by omega) (by omega) (by omega) rfl | (simp; omega)) ?_) | refine bDt (by omega) ?_ | refine bDf (by omega) ?_ | refine bNt (by omega) ?_ | refine bNf (by omega) ?_ | refine bD (fun _ => ?_) (fun _ => ?_) | refine bN (fun _ => ?_) (fun _ => ?_)) <;> conv => whnf)
  have z0 : (l.getD (Int.toNat 0) EAr.d).l.length = (l.getD 0 EAr.d).l.length := rfl
  refine loop_by (cx := cxCl) rfl progOK (ι := {i : Nat // i ≤ l.length ∧ firstE (arAt l) (l.length - i) i = firstE (arAt l) l.length 0}) (fun i => l.length - i.1) (fun i => ⟨[(0, EAr.L l), (10, EAr.L l), (11, .int .i64 l.length), (12, .int .i64 i.1)], [], [], none⟩) ?_ ⟨0, Nat.zero_le _, rfl⟩
  rintro ⟨i, hi, hf⟩ ih
  dsimp only at hi hf ⊢
  by_cases hlt : i < l.length
  · rw [firstE_at hlt] at hf
    have hw0 : 0 < i → IntKind.i64.wrap ((i : Int) - 1) = ((i - 1 : Nat) : Int) := fun h => by rw [wrap64 (by omega)]; omega
    have hli := hls (l.getD i EAr.d) (Enc.get_mem (E := EAr) hlt)
    by_cases hc : 0 < i ∧ 0 ≤ cmpR (l.getD (i - 1) EAr.d).s (l.getD i EAr.d).s
    · have hw := hw0 hc.1
      rw [arAt, if_pos hc, if_neg (by decide)] at hf
      rw [← hf]
      conv => whnf
      repeat' ((first | with_reducible refine bT rfl ?_ | with_reducible refine bF rfl ?_ | ((first | refine sN ?_ | refine sS ?_ | refine sA ?_ | refine sM ?_ | refine sC ?_); (conv => whnf); refine bT (by first | rfl | exact iR8 _ | exact uNN _ | exact iR (by omega) | exact iR (by rw [hw]; omega) | exact nBlt (by omega) | exact nBle (by omega) | exact roomL (by omega) rfl | exact mkOK (by omega) (by omega) (by omega) rfl | (simp; omega)) ?_) | refine bDt (by omega) ?_ | refine bDf (by omega) ?_ | refine bNt (by omega) ?_ | refine bNf (by omega) ?_ | refine call_is (compare _ _) ?_ | refine bDt (by rw [hw]; exact hc.2) ?_ | refine bD (fun _ => ?_) (fun _ => ?_) | refine bN (fun _ => ?_) (fun _ => ?_)) <;> conv => whnf)
      all_goals rfl
    · have hc2 : 0 < i → ¬ 0 ≤ cmpR (l.getD (i - 1) EAr.d).s (l.getD i EAr.d).s := fun hz h => hc ⟨hz, h⟩
      rw [arAt, if_neg hc, arE1] at hf
      by_cases h1 : 1 ≤ (l.getD i EAr.d).l.length ∧ (l.getD i EAr.d).l.length ≤ 32 ∧ (l.getD i EAr.d).l.length = (l.getD 0 EAr.d).l.length
      · rw [if_pos h1] at hf
        have h1' := h1
        rw [← Int.toNat_natCast i] at h1'
        conv => whnf
        repeat' ((first | with_reducible refine bT rfl ?_ | with_reducible refine bF rfl ?_ | ((first | refine sN ?_ | refine sS ?_ | refine sA ?_ | refine sM ?_ | refine sC ?_); (conv => whnf); refine bT (by first | rfl | exact iR8 _ | exact uNN _ | exact iR (by omega) | exact iR (by rw [hw]; omega) | exact nBlt (by omega) | exact nBle (by omega) | exact roomL (by omega) rfl | exact mkOK (by omega) (by omega) (by omega) rfl | (simp; omega)) ?_) | refine bDt (by omega) ?_ | refine bDf (by omega) ?_ | refine bNt (by omega) ?_ | refine bNf (by omega) ?_ | refine call_is (compare _ _) ?_ | refine bDf (by rw [hw0 (by omega)]; exact hc2 (by omega)) ?_ | refine bD (fun _ => ?_) (fun _ => ?_) | refine bN (fun _ => ?_) (fun _ => ?_)) <;> conv => whnf)
        all_goals
          have ih' := fun h => ih ⟨i + 1, hlt, h⟩ (show l.length - (i+1) < l.length - i by omega)
          clear ih
          refine loop_by (cx := cxCl) rfl progOK (ι := {j : Nat // j ≤ (l.getD i EAr.d).l.length ∧ ∀ x ∈ (l.getD i EAr.d).l.take j, nearP x}) (fun j => (l.getD i EAr.d).l.length - j.1) (fun j => ⟨[(0, EAr.L l), (4, .ptr 0 0), (10, EAr.L l), (11, .int .i64 l.length), (12, .int .i64 i), (53, EI.L (l.getD i EAr.d).l), (54, .int .i64 (l.getD i EAr.d).l.length), (55, .int .i64 j.1)], [.cells (cellsAr (l.getD i EAr.d))], [], none⟩) ?_ ⟨0, Nat.zero_le _, by simp⟩
          rintro ⟨j, hj, hn⟩ ih
          dsimp only
          by_cases hjl : j < (l.getD i EAr.d).l.length
          · by_cases hx : nearP ((l.getD i EAr.d).l.getD j EI.d)
            · have hx2 : (-68719476736 : Int) ≤ _ ∧ _ ≤ (68719476736 : Int) := hx
              have hx2' := hx2
              rw [← Int.toNat_natCast j] at hx2'
              have hx2'' := hx2'
              rw [← Int.toNat_natCast i] at hx2''
              have hn2 : ∀ x ∈ (l.getD i EAr.d).l.take (j + 1), nearP x := by
                rw [Enc.take_succ (E := EI) hjl]
                intro x hm
                rcases List.mem_append.1 hm with h | h
                · exact hn x h
                · rw [List.mem_singleton.1 h]; exact hx
              conv => whnf
              repeat' ((first | with_reducible refine bT rfl ?_ | with_reducible refine bF rfl ?_ | ((first | refine sN ?_ | refine sS ?_ | refine sA ?_ | refine sM ?_ | refine sC ?_); (conv => whnf); refine bT (by first | rfl | exact iR8 _ | exact uNN _ | exact iR (by omega) | exact iR (by rw [hw]; omega) | exact nBlt (by omega) | exact nBle (by omega) | exact roomL (by omega) rfl | exact mkOK (by omega) (by omega) (by omega) rfl | (simp; omega)) ?_) | refine bDt (by omega) ?_ | refine bDf (by omega) ?_ | refine bNt (by omega) ?_ | refine bNf (by omega) ?_ | refine loop_to ih ⟨j + 1, hjl, hn2⟩ (show (l.getD i EAr.d).l.length - (j + 1) < (l.getD i EAr.d).l.length - j by omega) ?_ | refine bD (fun _ => ?_) (fun _ => ?_) | refine bN (fun _ => ?_) (fun _ => ?_)) <;> conv => whnf)
              all_goals (rw [next_i hjl (by omega)]; rfl)
            · have hx2 : ¬ ((-68719476736 : Int) ≤ _ ∧ _ ≤ (68719476736 : Int)) := hx
              have hx2' := hx2
              rw [← Int.toNat_natCast j] at hx2'
              have hx2'' := hx2'
              rw [← Int.toNat_natCast i] at hx2''
              have h3 : (if ∀ y ∈ (l.getD i EAr.d).l, nearP y then (if -1000 ≤ (l.getD i EAr.d).d ∧ (l.getD i EAr.d).d ≤ 1000 then (0 : Int) else 2) else 3) = 3 := if_neg (fun h => hx (h _ (Enc.get_mem (E := EI) hjl)))
              rw [h3, if_neg (by decide)] at hf
              rw [← hf]
              clear ih
              conv => whnf
              repeat' ((first | with_reducible refine bT rfl ?_ | with_reducible refine bF rfl ?_ | ((first | refine sN ?_ | refine sS ?_ | refine sA ?_ | refine sM ?_ | refine sC ?_); (conv => whnf); refine bT (by first | rfl | exact iR8 _ | exact uNN _ | exact iR (by omega) | exact iR (by rw [hw]; omega) | exact nBlt (by omega) | exact nBle (by omega) | exact roomL (by omega) rfl | exact mkOK (by omega) (by omega) (by omega) rfl | (simp; omega)) ?_) | refine bDt (by omega) ?_ | refine bDf (by omega) ?_ | refine bNt (by omega) ?_ | refine bNf (by omega) ?_ | refine bD (fun _ => ?_) (fun _ => ?_) | refine bN (fun _ => ?_) (fun _ => ?_)) <;> conv => whnf)
              all_goals first | rfl | (exfalso; omega)
          · obtain rfl : j = (l.getD i EAr.d).l.length := by omega
            rw [List.take_length] at hn
            rw [if_pos hn] at hf
            clear ih
            by_cases hd : -1000 ≤ (l.getD i EAr.d).d ∧ (l.getD i EAr.d).d ≤ 1000
            · rw [if_pos hd, if_pos rfl] at hf
              have hd' := hd
              rw [← Int.toNat_natCast i] at hd'
              have ih2 := ih' hf
              conv => whnf
              repeat' ((first | with_reducible refine bT rfl ?_ | with_reducible refine bF rfl ?_ | ((first | refine sN ?_ | refine sS ?_ | refine sA ?_ | refine sM ?_ | refine sC ?_); (conv => whnf); refine bT (by first | rfl | exact iR8 _ | exact uNN _ | exact iR (by omega) | exact iR (by rw [hw]; omega) | exact nBlt (by omega) | exact nBle (by omega) | exact roomL (by omega) rfl | exact mkOK (by omega) (by omega) (by omega) rfl | (simp; omega)) ?_) | refine bDt (by omega) ?_ | refine bDf (by omega) ?_ | refine bNt (by omega) ?_ | refine bNf (by omega) ?_ | refine loop_start ?_ ih2 | refine bD (fun _ => ?_) (fun _ => ?_) | refine bN (fun _ => ?_) (fun _ => ?_)) <;> conv => whnf)
              all_goals (rw [next_i hlt (by omega)]; rfl)
            · rw [if_neg hd, if_neg (by decide)] at hf
              have hd' := hd
              rw [← Int.toNat_natCast i] at hd'
              rw [← hf]
              conv => whnf
              repeat' ((first | with_reducible refine bT rfl ?_ | with_reducible refine bF rfl ?_ | ((first | refine sN ?_ | refine sS ?_ | refine sA ?_ | refine sM ?_ | refine sC ?_); (conv => whnf); refine bT (by first | rfl | exact iR8 _ | exact uNN _ | exact iR (by omega) | exact iR (by rw [hw]; omega) | exact nBlt (by omega) | exact nBle (by omega) | exact roomL (by omega) rfl | exact mkOK (by omega) (by omega) (by omega) rfl | (simp; omega)) ?_) | refine bDt (by omega) ?_ | refine bDf (by omega) ?_ | refine bNt (by omega) ?_ | refine bNf (by omega) ?_ | refine bD (fun _ => ?_) (fun _ => ?_) | refine bN (fun _ => ?_) (fun _ => ?_)) <;> conv => whnf)
              all_goals first | rfl | (exfalso; omega)
      · rw [if_neg h1, if_neg (by decide)] at hf
        have h1' := h1
        rw [← Int.toNat_natCast i] at h1'
        rw [← hf]
        clear ih
        conv => whnf
        repeat' ((first | with_reducible refine bT rfl ?_ | with_reducible refine bF rfl ?_ | ((first | refine sN ?_ | refine sS ?_ | refine sA ?_ | refine sM ?_ | refine sC ?_); (conv => whnf); refine bT (by first | rfl | exact iR8 _ | exact uNN _ | exact iR (by omega) | exact iR (by rw [hw]; omega) | exact nBlt (by omega) | exact nBle (by omega) | exact roomL (by omega) rfl | exact mkOK (by omega) (by omega) (by omega) rfl | (simp; omega)) ?_) | refine bDt (by omega) ?_ | refine bDf (by omega) ?_ | refine bNt (by omega) ?_ | refine bNf (by omega) ?_ | refine call_is (compare _ _) ?_ | refine bDf (by rw [hw0 (by omega)]; exact hc2 (by omega)) ?_ | refine bD (fun _ => ?_) (fun _ => ?_) | refine bN (fun _ => ?_) (fun _ => ?_)) <;> conv => whnf)
        all_goals first | rfl | (exfalso; omega)
  · obtain rfl : i = l.length := by omega
    rw [Nat.sub_self, firstE] at hf
    rw [← hf]
    conv => whnf
    repeat' ((first | with_reducible refine bT rfl ?_ | with_reducible refine bF rfl ?_ | ((first | refine sN ?_ | refine sS ?_ | refine sA ?_ | refine sM ?_ | refine sC ?_); (conv => whnf); refine bT (by first | rfl | exact iR8 _ | exact uNN _ | exact iR (by omega) | exact iR (by rw [hw]; omega) | exact nBlt (by omega) | exact nBle (by omega) | exact roomL (by omega) rfl | exact mkOK (by omega) (by omega) (by omega) rfl | (simp; omega)) ?_) | refine bDt (by omega) ?_ | refine bDf (by omega) ?_ | refine bNt (by omega) ?_ | refine bNf (by omega) ?_ | refine bD (fun _ => ?_) (fun _ => ?_) | refine bN (fun _ => ?_) (fun _ => ?_)) <;> conv => whnf)
    all_goals rfl
theorem refArOne (x : Ar) (n : Nat) (hls : x.l.length ≤ 9223372036854775807) : CallOK Tryz.prog 182 [encAr x, .int .i64 n] (fun r => r = .int .i64 (arE1 n x)) := by
  refine okCl ?_
  rw [arE1]
  by_cases h1 : 1 ≤ x.l.length ∧ x.l.length ≤ 32 ∧ x.l.length = n
  · rw [if_pos h1]
    conv => whnf
    repeat' ((first | with_reducible refine bT rfl ?_ | with_reducible refine bF rfl ?_ | ((first | refine sN ?_ | refine sS ?_ | refine sA ?_ | refine sM ?_ | refine sC ?_); (conv => whnf); refine bT (by first | rfl | exact iR8 _ | exact uNN _ | exact iR (by omega) | exact iR (by rw [hw]; omega) | exact nBlt (by omega) | exact nBle (by omega) | exact roomL (by omega) rfl | exact mkOK (by omega) (by omega) (by omega) rfl | (simp; omega)) ?_) | refine bDt (by omega) ?_ | refine bDf (by omega) ?_ | refine bNt (by omega) ?_ | refine bNf (by omega) ?_ | refine bD (fun _ => ?_) (fun _ => ?_) | refine bN (fun _ => ?_) (fun _ => ?_)) <;> conv => whnf)
    refine loop_by (cx := cxCl) rfl progOK (ι := {j : Nat // j ≤ x.l.length ∧ ∀ y ∈ x.l.take j, nearP y}) (fun j => x.l.length - j.1) (fun j => ⟨[(2, .ptr 0 0), (5, .int .i64 j.1)], [.cells (cellsAr x)], [], none⟩) ?_ ⟨0, Nat.zero_le _, by simp⟩
    rintro ⟨j, hj, hn⟩ ih
    dsimp only
    by_cases hjl : j < x.l.length
    · by_cases hx : nearP (x.l.getD j EI.d)
      · have hx2 : (-68719476736 : Int) ≤ _ ∧ _ ≤ (68719476736 : Int) := hx
        have hx2' := hx2
        rw [← Int.toNat_natCast j] at hx2'
        have hn2 : ∀ y ∈ x.l.take (j + 1), nearP y := by
          rw [Enc.take_succ (E := EI) hjl]
          intro y hm
          rcases List.mem_append.1 hm with h | h
          · exact hn y h
          · rw [List.mem_singleton.1 h]; exact hx
        conv => whnf
        repeat' ((first | with_reducible refine bT rfl ?_ | with_reducible refine bF rfl ?_ | ((first | refine sN ?_ | refine sS ?_ | refine sA ?_ | refine sM ?_ | refine sC ?_); (conv => whnf); refine bT (by first | rfl | exact iR8 _ | exact uNN _ | exact iR (by omega) | exact iR (by rw [hw]; omega) | exact nBlt (by omega) | exact nBle (by omega) | exact roomL (by omega) rfl | exact mkOK (by omega) (by omega) (by omega) rfl | (simp; omega)) ?_) | refine bDt (by omega) ?_ | refine bDf (by omega) ?_ | refine bNt (by omega) ?_ | refine bNf (by omega) ?_ | refine loop_to ih ⟨j + 1, hjl, hn2⟩ (show x.l.length - (j + 1) < x.l.length - j by omega) ?_ | refine bD (fun _ => ?_) (fun _ => ?_) | refine bN (fun _ => ?_) (fun _ => ?_)) <;> conv => whnf)
        all_goals (rw [next_i hjl (by omega)]; rfl)
      · have hx2 : ¬ ((-68719476736 : Int) ≤ _ ∧ _ ≤ (68719476736 : Int)) := hx
        have hx2' := hx2
        rw [← Int.toNat_natCast j] at hx2'
        rw [if_neg (fun h => hx (h _ (Enc.get_mem (E := EI) hjl)))]
        clear ih
        conv => whnf
        repeat' ((first | with_reducible refine bT rfl ?_ | with_reducible refine bF rfl ?_ | ((first | refine sN ?_ | refine sS ?_ | refine sA ?_ | refine sM ?_ | refine sC ?_); (conv => whnf); refine bT (by first | rfl | exact iR8 _ | exact uNN _ | exact iR (by omega) | exact iR (by rw [hw]; omega) | exact nBlt (by omega) | exact nBle (by omega) | exact roomL (by omega) rfl | exact mkOK (by omega) (by omega) (by omega) rfl | (simp; omega)) ?_) | refine bDt (by omega) ?_ | refine bDf (by omega) ?_ | refine bNt (by omega) ?_ | refine bNf (by omega) ?_ | refine bD (fun _ => ?_) (fun _ => ?_) | refine bN (fun _ => ?_) (fun _ => ?_)) <;> conv => whnf)
        all_goals first | rfl | (exfalso; omega)
    · obtain rfl : j = x.l.length := by omega
      rw [List.take_length] at hn
      rw [if_pos hn]
      clear ih
      by_cases hd : -1000 ≤ x.d ∧ x.d ≤ 1000
      · rw [if_pos hd]
        conv => whnf
        repeat' ((first | with_reducible refine bT rfl ?_ | with_reducible refine bF rfl ?_ | ((first | refine sN ?_ | refine sS ?_ | refine sA ?_ | refine sM ?_ | refine sC ?_); (conv => whnf); refine bT (by first | rfl | exact iR8 _ | exact uNN _ | exact iR (by omega) | exact iR (by rw [hw]; omega) | exact nBlt (by omega) | exact nBle (by omega) | exact roomL (by omega) rfl | exact mkOK (by omega) (by omega) (by omega) rfl | (simp; omega)) ?_) | refine bDt (by omega) ?_ | refine bDf (by omega) ?_ | refine bNt (by omega) ?_ | refine bNf (by omega) ?_ | refine bD (fun _ => ?_) (fun _ => ?_) | refine bN (fun _ => ?_) (fun _ => ?_)) <;> conv => whnf)
        all_goals rfl
      · rw [if_neg hd]
        conv => whnf
        repeat' ((first | with_reducible refine bT rfl ?_ | with_reducible refine bF rfl ?_ | ((first | refine sN ?_ | refine sS ?_ | refine sA ?_ | refine sM ?_ | refine sC ?_); (conv => whnf); refine bT (by first | rfl | exact iR8 _ | exact uNN _ | exact iR (by omega) | exact iR (by rw [hw]; omega) | exact nBlt (by omega) | exact nBle (by omega) | exact roomL (by omega) rfl | exact mkOK (by omega) (by omega) (by omega) rfl | (simp; omega)) ?_) | refine bDt (by omega) ?_ | refine bDf (by omega) ?_ | refine bNt (by omega) ?_ | refine bNf (by omega) ?_ | refine bD (fun _ => ?_) (fun _ => ?_) | refine bN (fun _ => ?_) (fun _ => ?_)) <;> conv => whnf)
        all_goals first | rfl | (exfalso; omega)
  · rw [if_neg h1]
    conv => whnf
    repeat' ((first | with_reducible refine bT rfl ?_ | with_reducible refine bF rfl ?_ | ((first | refine sN ?_ | refine sS ?_ | refine sA ?_ | refine sM ?_ | refine sC ?_); (conv => whnf); refine bT (by first | rfl | exact iR8 _ | exact uNN _ | exact iR (by omega) | exact iR (by rw [hw]; omega) | exact nBlt (by omega) | exact nBle (by omega) | exact roomL (by omega) rfl | exact mkOK (by omega) (by omega) (by omega) rfl | (simp; omega)) ?_) | refine bDt (by omega) ?_ | refine bDf (by omega) ?_ | refine bNt (by omega) ?_ | refine bNf (by omega) ?_ | refine bD (fun _ => ?_) (fun _ => ?_) | refine bN (fun _ => ?_) (fun _ => ?_)) <;> conv => whnf)
    all_goals first | rfl | (exfalso; omega)
theorem refArCheck (l : List Ar) (hl : l.length ≤ 9223372036854775807) (hls : ∀ x ∈ l, x.l.length ≤ 9223372036854775807) : CallOK Tryz.prog 94 [EAr.L l] (fun r => r = .int .i64 (arE l)) := by
  refine okCl ?_
  by_cases hlong : 128 < l.length
  · rw [arE, if_pos hlong]
    conv => whnf
    repeat' ((first | with_reducible refine bT rfl ?_ | with_reducible refine bF rfl ?_ | ((first | refine sN ?_ | refine sS ?_ | refine sA ?_ | refine sM ?_ | refine sC ?_); (conv => whnf); refine bT (by first | rfl | exact iR8 _ | exact uNN _ | exact iR (by omega) | exact iR (by rw [hw]; omega) | exact nBlt (by omega) | exact nBle (by omega) | exact roomL (by omega) rfl | exact mkOK (by omega) (by omega) (by omega) rfl | (simp; omega)) ?_) | refine bDt (by omega) ?_ | refine bDf (by omega) ?_ | refine bNt (by omega) ?_ | refine bNf (by omega) ?_ | refine bD (fun _ => ?_) (fun _ => ?_) | refine bN (fun _ => ?_) (fun _ => ?_)) <;> conv => whnf)
    all_goals rfl
  rw [arE, if_neg hlong]
  conv => whnf
  repeat' ((first | with_reducible refine bT rfl ?_ | with_reducible refine bF rfl ?_ | ((first | refine sN ?_ | refine sS ?_ | refine sA ?_ | refine sM ?_ | refine sC ?_); (conv => whnf); refine bT (by first | rfl | exact iR8 _ | exact uNN _ | exact iR (by omega) | exact iR (by rw [hw]; omega) | exact nBlt (by omega) | exact nBle (by omega) | exact roomL (by omega) rfl | exact mkOK (by omega) (by omega) (by omega) rfl | (simp; omega)) ?_) | refine bDt (by omega) ?_ | refine bDf (by omega) ?_ | refine bNt (by omega) ?_ | refine bNf (by omega) ?_ | refine bD (fun _ => ?_) (fun _ => ?_) | refine bN (fun _ => ?_) (fun _ => ?_)) <;> conv => whnf)
  refine loop_by (cx := cxCl) rfl progOK (ι := {i : Nat // i ≤ l.length ∧ firstE (arAt l) (l.length - i) i = firstE (arAt l) l.length 0}) (fun i => l.length - i.1) (fun i => ⟨[(0, EAr.L l), (3, .int .i64 i.1)], [], [], none⟩) ?_ ⟨0, Nat.zero_le _, rfl⟩
  rintro ⟨i, hi, hf⟩ ih
  dsimp only at hi hf ⊢
  by_cases hlt : i < l.length
  · rw [firstE_at hlt] at hf
    have hw0 : 0 < i → IntKind.i64.wrap ((i : Int) - 1) = ((i - 1 : Nat) : Int) := fun h => by rw [wrap64 (by omega)]; omega
    have ko := refArOne (l.getD i EAr.d) (l.getD 0 EAr.d).l.length (hls (l.getD i EAr.d) (Enc.get_mem (E := EAr) hlt))
    by_cases hc : 0 < i ∧ 0 ≤ cmpR (l.getD (i - 1) EAr.d).s (l.getD i EAr.d).s
    · have hw := hw0 hc.1
      rw [arAt, if_pos hc, if_neg (by decide)] at hf
      rw [← hf]
      conv => whnf
      repeat' ((first | with_reducible refine bT rfl ?_ | with_reducible refine bF rfl ?_ | ((first | refine sN ?_ | refine sS ?_ | refine sA ?_ | refine sM ?_ | refine sC ?_); (conv => whnf); refine bT (by first | rfl | exact iR8 _ | exact uNN _ | exact iR (by omega) | exact iR (by rw [hw]; omega) | exact nBlt (by omega) | exact nBle (by omega) | exact roomL (by omega) rfl | exact mkOK (by omega) (by omega) (by omega) rfl | (simp; omega)) ?_) | refine bDt (by omega) ?_ | refine bDf (by omega) ?_ | refine bNt (by omega) ?_ | refine bNf (by omega) ?_ | refine call_is (refCompare _ _) ?_ | refine bDt (by rw [hw]; exact hc.2) ?_ | refine bD (fun _ => ?_) (fun _ => ?_) | refine bN (fun _ => ?_) (fun _ => ?_)) <;> conv => whnf)
      all_goals rfl
    · have hc2 : 0 < i → ¬ 0 ≤ cmpR (l.getD (i - 1) EAr.d).s (l.getD i EAr.d).s := fun hz h => hc ⟨hz, h⟩
      rw [arAt, if_neg hc] at hf
      by_cases h1 : arE1 (l.getD 0 EAr.d).l.length (l.getD i EAr.d) = 0
      · rw [if_pos h1] at hf
        conv => whnf
        repeat' ((first | with_reducible refine bT rfl ?_ | with_reducible refine bF rfl ?_ | ((first | refine sN ?_ | refine sS ?_ | refine sA ?_ | refine sM ?_ | refine sC ?_); (conv => whnf); refine bT (by first | rfl | exact iR8 _ | exact uNN _ | exact iR (by omega) | exact iR (by rw [hw]; omega) | exact nBlt (by omega) | exact nBle (by omega) | exact roomL (by omega) rfl | exact mkOK (by omega) (by omega) (by omega) rfl | (simp; omega)) ?_) | refine bDt (by omega) ?_ | refine bDf (by omega) ?_ | refine bNt (by omega) ?_ | refine bNf (by omega) ?_ | refine call_is (refCompare _ _) ?_ | refine bDf (by rw [hw0 (by omega)]; exact hc2 (by omega)) ?_ | refine call_is ko ?_ | refine bNf h1 ?_ | refine loop_to ih ⟨i + 1, hlt, hf⟩ (show l.length - (i+1) < l.length - i by omega) ?_ | refine bD (fun _ => ?_) (fun _ => ?_) | refine bN (fun _ => ?_) (fun _ => ?_)) <;> conv => whnf)
        all_goals (rw [next_i hlt (by omega)]; rfl)
      · rw [if_neg h1] at hf
        rw [← hf]
        clear ih
        conv => whnf
        repeat' ((first | with_reducible refine bT rfl ?_ | with_reducible refine bF rfl ?_ | ((first | refine sN ?_ | refine sS ?_ | refine sA ?_ | refine sM ?_ | refine sC ?_); (conv => whnf); refine bT (by first | rfl | exact iR8 _ | exact uNN _ | exact iR (by omega) | exact iR (by rw [hw]; omega) | exact nBlt (by omega) | exact nBle (by omega) | exact roomL (by omega) rfl | exact mkOK (by omega) (by omega) (by omega) rfl | (simp; omega)) ?_) | refine bDt (by omega) ?_ | refine bDf (by omega) ?_ | refine bNt (by omega) ?_ | refine bNf (by omega) ?_ | refine call_is (refCompare _ _) ?_ | refine bDf (by rw [hw0 (by omega)]; exact hc2 (by omega)) ?_ | refine call_is ko ?_ | refine bNt h1 ?_ | refine bD (fun _ => ?_) (fun _ => ?_) | refine bN (fun _ => ?_) (fun _ => ?_)) <;> conv => whnf)
        all_goals rfl
  · obtain rfl : i = l.length := by omega
    rw [Nat.sub_self, firstE] at hf
    rw [← hf]
    conv => whnf
    repeat' ((first | with_reducible refine bT rfl ?_ | with_reducible refine bF rfl ?_ | ((first | refine sN ?_ | refine sS ?_ | refine sA ?_ | refine sM ?_ | refine sC ?_); (conv => whnf); refine bT (by first | rfl | exact iR8 _ | exact uNN _ | exact iR (by omega) | exact iR (by rw [hw]; omega) | exact nBlt (by omega) | exact nBle (by omega) | exact roomL (by omega) rfl | exact mkOK (by omega) (by omega) (by omega) rfl | (simp; omega)) ?_) | refine bDt (by omega) ?_ | refine bDf (by omega) ?_ | refine bNt (by omega) ?_ | refine bNf (by omega) ?_ | refine bD (fun _ => ?_) (fun _ => ?_) | refine bN (fun _ => ?_) (fun _ => ?_)) <;> conv => whnf)
    all_goals rfl
end Go.Proofs

namespace Go.Proofs
open Ax Go
set_option maxRecDepth 10000
def keepPa (f r : Nat) : Option (List Nat) := match f, r with
  | 78, 4 => some [0, 9, 10, 11]
  | 93, 4 => some [0, 3]
  | 246, 2 => some [1, 4, 9, 10, 11]
  | 183, 2 => some [0, 1, 4, 6]
  | _, _ => none
def keepXPa (f r : Nat) : Option (List Nat) := match f, r with
  | 78, 4 => some [2]
  | 93, 4 => some [2]
  | 246, 2 => some [4, 5]
  | 183, 2 => some [4, 5]
  | _, _ => none
noncomputable def cxPa : Ctx where
  P := Tryz.prog
  inl := fun f => memN f [246]
  keep := keepPa
  keepX := keepXPa
  xf := fun _ _ _ => false
  ow := fun _ => false
  gh := fun _ _ => []
  gf := fun _ => []
  ln := fun _ => false
  srt := srtT
theorem okPa {f a Q} (h : stepCall (SX Tryz.prog calmT) cxPa calmT f a Q) : CallOK Tryz.prog f a Q := okOf (cx := cxPa) rfl progOK h
def prAt (l : List Pr) (i : Nat) : Int :=
  if prE (l.getD i EPr.d) = 0 then (if 0 < i ∧ (strLt (l.getD i EPr.d).n (l.getD (i - 1) EPr.d).n || decide ((l.getD i EPr.d).n = (l.getD (i - 1) EPr.d).n)) = true then 12 else 0) else prE (l.getD i EPr.d)
def prAllE (l : List Pr) : Int := if 32 < l.length then 8 else firstE (prAt l) l.length 0
theorem prAll (l : List Pr) (hl : l.length ≤ 1073741824) : CallOK Tryz.prog 78 [EPr.L l] (fun r => r = .int .i64 (prAllE l)) := by
  refine okPa ?_
  by_cases hlong : 32 < l.length
  · rw [prAllE, if_pos hlong]
    conv => whnf
    repeat' ((first | with_reducible refine bT rfl ?_ | with_reducible refine bF rfl ?_ | ((first | refine sN ?_ | refine sS ?_ | refine sA ?_ | refine sM ?_ | refine sC ?_); (conv => whnf); refine bT (by first | rfl | exact iR8 _ | exact uNN _ | exact iR (by omega) | exact iR (by rw [hw]; omega) | exact nBlt (by omega) | exact nBle (by omega) | exact roomL (by omega) rfl | exact mkOK (by omega) (by omega) (by omega) rfl | (simp; omega)) ?_) | refine bDt (by omega) ?_ | refine bDf (by omega) ?_ | refine bNt (by omega) ?_ | refine bNf (by omega) ?_ | refine bD (fun _ => ?_) (fun _ => ?_) | refine bN (fun _ => ?_) (fun _ => ?_)) <;> conv => whnf)
    all_goals rfl
  rw [prAllE, if_neg hlong]
  conv => whnf
  repeat' ((first | with_reducible refine bT rfl ?_ | with_reducible refine bF rfl ?_ | ((first | refine sN ?_ | refine sS ?_ | refine sA ?_ | refine sM ?_ | refine sC ?_); (conv => whnf); refine bT (by first | rfl | exact iR8 _ | exact uNN _ | exact iR (by omega) | exact iR (by rw [hw]; omega) | exact nBlt (by omega) | exact nBle (by omega) | exact roomL (by omega) rfl | exact mkOK (by omega) (by omega) (by omega) rfl | (simp; omega)) ?_) | refine bDt (by omega) ?_ | refine bDf (by omega) ?_ | refine bNt (by omega) ?_ | refine bNf (by omega) ?_ | refine bD (fun _ => ?_) (fun _ => ?_) | refine bN (fun _ => ?_) (fun _ => ?_)) <;> conv => whnf)
  refine loop_by (cx := cxPa) rfl progOK (ι := {i : Nat // i ≤ l.length ∧ firstE (prAt l) (l.length - i) i = firstE (prAt l) l.length 0}) (fun i => l.length - i.1) (fun i => ⟨[(0, EPr.L l), (9, EPr.L l), (10, .int .i64 l.length), (11, .int .i64 i.1)], [], [], none⟩) ?_ ⟨0, Nat.zero_le _, rfl⟩
  rintro ⟨i, hi, hf⟩ ih
  dsimp only
  by_cases hlt : i < l.length
  · rw [firstE_at hlt] at hf
    have hw0 : 0 < i → IntKind.i64.wrap ((i : Int) - 1) = ((i - 1 : Nat) : Int) := fun h => by rw [wrap64 (by omega)]; omega
    by_cases h0 : prE (l.getD i EPr.d) = 0
    rotate_left
    · rw [prAt, if_neg h0, if_neg h0] at hf
      rw [← hf]
      conv => whnf
      repeat' ((first | with_reducible refine bT rfl ?_ | with_reducible refine bF rfl ?_ | ((first | refine sN ?_ | refine sS ?_ | refine sA ?_ | refine sM ?_ | refine sC ?_); (conv => whnf); refine bT (by first | rfl | exact iR8 _ | exact uNN _ | exact iR (by omega) | exact iR (by rw [hw]; omega) | exact nBlt (by omega) | exact nBle (by omega) | exact roomL (by omega) rfl | exact mkOK (by omega) (by omega) (by omega) rfl | (simp; omega)) ?_) | refine bDt (by omega) ?_ | refine bDf (by omega) ?_ | refine bNt (by omega) ?_ | refine bNf (by omega) ?_ | refine call_is (prCheck (l.getD i EPr.d)) ?_ | refine bNt h0 ?_ | refine bD (fun _ => ?_) (fun _ => ?_) | refine bN (fun _ => ?_) (fun _ => ?_)) <;> conv => whnf)
      all_goals rfl
    by_cases hc : 0 < i ∧ (strLt (l.getD i EPr.d).n (l.getD (i - 1) EPr.d).n || decide ((l.getD i EPr.d).n = (l.getD (i - 1) EPr.d).n)) = true
    · have hw := hw0 hc.1
      rw [prAt, if_pos h0, if_pos hc, if_neg (by decide)] at hf
      rw [← hf]
      conv => whnf
      repeat' ((first | with_reducible refine bT rfl ?_ | with_reducible refine bF rfl ?_ | ((first | refine sN ?_ | refine sS ?_ | refine sA ?_ | refine sM ?_ | refine sC ?_); (conv => whnf); refine bT (by first | rfl | exact iR8 _ | exact uNN _ | exact iR (by omega) | exact iR (by rw [hw]; omega) | exact nBlt (by omega) | exact nBle (by omega) | exact roomL (by omega) rfl | exact mkOK (by omega) (by omega) (by omega) rfl | (simp; omega)) ?_) | refine bDt (by omega) ?_ | refine bDf (by omega) ?_ | refine bNt (by omega) ?_ | refine bNf (by omega) ?_ | refine call_is (prCheck (l.getD i EPr.d)) ?_ | refine bNf h0 ?_ | refine bT (by rw [hw]; exact hc.2) ?_ | refine bD (fun _ => ?_) (fun _ => ?_) | refine bN (fun _ => ?_) (fun _ => ?_)) <;> conv => whnf)
      all_goals rfl
    · rw [prAt, if_pos h0, if_neg hc, if_pos rfl] at hf
      rcases Nat.eq_zero_or_pos i with hz | hz
      · conv => whnf
        repeat' ((first | with_reducible refine bT rfl ?_ | with_reducible refine bF rfl ?_ | ((first | refine sN ?_ | refine sS ?_ | refine sA ?_ | refine sM ?_ | refine sC ?_); (conv => whnf); refine bT (by first | rfl | exact iR8 _ | exact uNN _ | exact iR (by omega) | exact iR (by rw [hw]; omega) | exact nBlt (by omega) | exact nBle (by omega) | exact roomL (by omega) rfl | exact mkOK (by omega) (by omega) (by omega) rfl | (simp; omega)) ?_) | refine bDt (by omega) ?_ | refine bDf (by omega) ?_ | refine bNt (by omega) ?_ | refine bNf (by omega) ?_ | refine call_is (prCheck (l.getD i EPr.d)) ?_ | refine bNf h0 ?_ | refine loop_to ih ⟨i + 1, hlt, hf⟩ (show l.length - (i+1) < l.length - i by omega) ?_ | refine bD (fun _ => ?_) (fun _ => ?_) | refine bN (fun _ => ?_) (fun _ => ?_)) <;> conv => whnf)
        all_goals (rw [next_i hlt (by omega)]; rfl)
      · have hw := hw0 hz
        have hc2 : (strLt (l.getD i EPr.d).n (l.getD (i - 1) EPr.d).n || decide ((l.getD i EPr.d).n = (l.getD (i - 1) EPr.d).n)) = false := by
          cases hh : (strLt (l.getD i EPr.d).n (l.getD (i - 1) EPr.d).n || decide ((l.getD i EPr.d).n = (l.getD (i - 1) EPr.d).n)) with
          | false => rfl
          | true => exact absurd ⟨hz, hh⟩ hc
        conv => whnf
        repeat' ((first | with_reducible refine bT rfl ?_ | with_reducible refine bF rfl ?_ | ((first | refine sN ?_ | refine sS ?_ | refine sA ?_ | refine sM ?_ | refine sC ?_); (conv => whnf); refine bT (by first | rfl | exact iR8 _ | exact uNN _ | exact iR (by omega) | exact iR (by rw [hw]; omega) | exact nBlt (by omega) | exact nBle (by omega) | exact roomL (by omega) rfl | exact mkOK (by omega) (by omega) (by omega) rfl | (simp; omega)) ?_) | refine bDt (by omega) ?_ | refine bDf (by omega) ?_ | refine bNt (by omega) ?_ | refine bNf (by omega) ?_ | refine call_is (prCheck (l.getD i EPr.d)) ?_ | refine bNf h0 ?_ | refine bF (by rw [hw]; exact hc2) ?_ | refine loop_to ih ⟨i + 1, hlt, hf⟩ (show l.length - (i+1) < l.length - i by omega) ?_ | refine bD (fun _ => ?_) (fun _ => ?_) | refine bN (fun _ => ?_) (fun _ => ?_)) <;> conv => whnf)
        all_goals (rw [next_i hlt (by omega)]; rfl)
  · obtain rfl : i = l.length := by omega
    rw [Nat.sub_self, firstE] at hf
    rw [← hf]
    conv => whnf
    repeat' ((first | with_reducible refine bT rfl ?_ | with_reducible refine bF rfl ?_ | ((first | refine sN ?_ | refine sS ?_ | refine sA ?_ | refine sM ?_ | refine sC ?_); (conv => whnf); refine bT (by first | rfl | exact iR8 _ | exact uNN _ | exact iR (by omega) | exact iR (by rw [hw]; omega) | exact nBlt (by omega) | exact nBle (by omega) | exact roomL (by omega) rfl | exact mkOK (by omega) (by omega) (by omega) rfl | (simp; omega)) ?_) | refine bDt (by omega) ?_ | refine bDf (by omega) ?_ | refine bNt (by omega) ?_ | refine bNf (by omega) ?_ | refine bD (fun _ => ?_) (fun _ => ?_) | refine bN (fun _ => ?_) (fun _ => ?_)) <;> conv => whnf)
    all_goals rfl
theorem refPrAll (l : List Pr) (hl : l.length ≤ 1073741824) (hs : ∀ p ∈ l, p.n.size ≤ 9223372036854775807) : CallOK Tryz.prog 93 [EPr.L l] (fun r => r = .int .i64 (prAllE l)) := by
  refine okPa ?_
  by_cases hlong : 32 < l.length
  · rw [prAllE, if_pos hlong]
    conv => whnf
    repeat' ((first | with_reducible refine bT rfl ?_ | with_reducible refine bF rfl ?_ | ((first | refine sN ?_ | refine sS ?_ | refine sA ?_ | refine sM ?_ | refine sC ?_); (conv => whnf); refine bT (by first | rfl | exact iR8 _ | exact uNN _ | exact iR (by omega) | exact iR (by rw [hw]; omega) | exact nBlt (by omega) | exact nBle (by omega) | exact roomL (by omega) rfl | exact mkOK (by omega) (by omega) (by omega) rfl | (simp; omega)) ?_) | refine bDt (by omega) ?_ | refine bDf (by omega) ?_ | refine bNt (by omega) ?_ | refine bNf (by omega) ?_ | refine bD (fun _ => ?_) (fun _ => ?_) | refine bN (fun _ => ?_) (fun _ => ?_)) <;> conv => whnf)
    all_goals rfl
  rw [prAllE, if_neg hlong]
  conv => whnf
  repeat' ((first | with_reducible refine bT rfl ?_ | with_reducible refine bF rfl ?_ | ((first | refine sN ?_ | refine sS ?_ | refine sA ?_ | refine sM ?_ | refine sC ?_); (conv => whnf); refine bT (by first | rfl | exact iR8 _ | exact uNN _ | exact iR (by omega) | exact iR (by rw [hw]; omega) | exact nBlt (by omega) | exact nBle (by omega) | exact roomL (by omega) rfl | exact mkOK (by omega) (by omega) (by omega) rfl | (simp; omega)) ?_) | refine bDt (by omega) ?_ | refine bDf (by omega) ?_ | refine bNt (by omega) ?_ | refine bNf (by omega) ?_ | refine bD (fun _ => ?_) (fun _ => ?_) | refine bN (fun _ => ?_) (fun _ => ?_)) <;> conv => whnf)
  refine loop_by (cx := cxPa) rfl progOK (ι := {i : Nat // i ≤ l.length ∧ firstE (prAt l) (l.length - i) i = firstE (prAt l) l.length 0}) (fun i => l.length - i.1) (fun i => ⟨[(0, EPr.L l), (3, .int .i64 i.1)], [], [], none⟩) ?_ ⟨0, Nat.zero_le _, rfl⟩
  rintro ⟨i, hi, hf⟩ ih
  dsimp only
  by_cases hlt : i < l.length
  · rw [firstE_at hlt] at hf
    have hw0 : 0 < i → IntKind.i64.wrap ((i : Int) - 1) = ((i - 1 : Nat) : Int) := fun h => by rw [wrap64 (by omega)]; omega
    have hsi := hs _ (EPr.get_mem hlt)
    by_cases h0 : prE (l.getD i EPr.d) = 0
    rotate_left
    · rw [prAt, if_neg h0, if_neg h0] at hf
      rw [← hf]
      conv => whnf
      repeat' ((first | with_reducible refine bT rfl ?_ | with_reducible refine bF rfl ?_ | ((first | refine sN ?_ | refine sS ?_ | refine sA ?_ | refine sM ?_ | refine sC ?_); (conv => whnf); refine bT (by first | rfl | exact iR8 _ | exact uNN _ | exact iR (by omega) | exact iR (by rw [hw]; omega) | exact nBlt (by omega) | exact nBle (by omega) | exact roomL (by omega) rfl | exact mkOK (by omega) (by omega) (by omega) rfl | (simp; omega)) ?_) | refine bDt (by omega) ?_ | refine bDf (by omega) ?_ | refine bNt (by omega) ?_ | refine bNf (by omega) ?_ | refine call_is (refPrCheck (l.getD i EPr.d) hsi) ?_ | refine bNt h0 ?_ | refine bD (fun _ => ?_) (fun _ => ?_) | refine bN (fun _ => ?_) (fun _ => ?_)) <;> conv => whnf)
      all_goals rfl
    by_cases hc : 0 < i ∧ (strLt (l.getD i EPr.d).n (l.getD (i - 1) EPr.d).n || decide ((l.getD i EPr.d).n = (l.getD (i - 1) EPr.d).n)) = true
    · have hw := hw0 hc.1
      rw [prAt, if_pos h0, if_pos hc, if_neg (by decide)] at hf
      rw [← hf]
      conv => whnf
      repeat' ((first | with_reducible refine bT rfl ?_ | with_reducible refine bF rfl ?_ | ((first | refine sN ?_ | refine sS ?_ | refine sA ?_ | refine sM ?_ | refine sC ?_); (conv => whnf); refine bT (by first | rfl | exact iR8 _ | exact uNN _ | exact iR (by omega) | exact iR (by rw [hw]; omega) | exact nBlt (by omega) | exact nBle (by omega) | exact roomL (by omega) rfl | exact mkOK (by omega) (by omega) (by omega) rfl | (simp; omega)) ?_) | refine bDt (by omega) ?_ | refine bDf (by omega) ?_ | refine bNt (by omega) ?_ | refine bNf (by omega) ?_ | refine call_is (refPrCheck (l.getD i EPr.d) hsi) ?_ | refine bNf h0 ?_ | refine bT (by rw [hw]; exact hc.2) ?_ | refine bD (fun _ => ?_) (fun _ => ?_) | refine bN (fun _ => ?_) (fun _ => ?_)) <;> conv => whnf)
      all_goals rfl
    · rw [prAt, if_pos h0, if_neg hc, if_pos rfl] at hf
      rcases Nat.eq_zero_or_pos i with hz | hz
      · conv => whnf
        repeat' ((first | with_reducible refine bT rfl ?_ | with_reducible refine bF rfl ?_ | ((first | refine sN ?_ | refine sS ?_ | refine sA ?_ | refine sM ?_ | refine sC ?_); (conv => whnf); refine bT (by first | rfl | exact iR8 _ | exact uNN _ | exact iR (by omega) | exact iR (by rw [hw]; omega) | exact nBlt (by omega) | exact nBle (by omega) | exact roomL (by omega) rfl | exact mkOK (by omega) (by omega) (by omega) rfl | (simp; omega)) ?_) | refine bDt (by omega) ?_ | refine bDf (by omega) ?_ | refine bNt (by omega) ?_ | refine bNf (by omega) ?_ | refine call_is (refPrCheck (l.getD i EPr.d) hsi) ?_ | refine bNf h0 ?_ | refine loop_to ih ⟨i + 1, hlt, hf⟩ (show l.length - (i+1) < l.length - i by omega) ?_ | refine bD (fun _ => ?_) (fun _ => ?_) | refine bN (fun _ => ?_) (fun _ => ?_)) <;> conv => whnf)
        all_goals (rw [next_i hlt (by omega)]; rfl)
      · have hw := hw0 hz
        have hc2 : (strLt (l.getD i EPr.d).n (l.getD (i - 1) EPr.d).n || decide ((l.getD i EPr.d).n = (l.getD (i - 1) EPr.d).n)) = false := by
          cases hh : (strLt (l.getD i EPr.d).n (l.getD (i - 1) EPr.d).n || decide ((l.getD i EPr.d).n = (l.getD (i - 1) EPr.d).n)) with
          | false => rfl
          | true => exact absurd ⟨hz, hh⟩ hc
        conv => whnf
        repeat' ((first | with_reducible refine bT rfl ?_ | with_reducible refine bF rfl ?_ | ((first | refine sN ?_ | refine sS ?_ | refine sA ?_ | refine sM ?_ | refine sC ?_); (conv => whnf); refine bT (by first | rfl | exact iR8 _ | exact uNN _ | exact iR (by omega) | exact iR (by rw [hw]; omega) | exact nBlt (by omega) | exact nBle (by omega) | exact roomL (by omega) rfl | exact mkOK (by omega) (by omega) (by omega) rfl | (simp; omega)) ?_) | refine bDt (by omega) ?_ | refine bDf (by omega) ?_ | refine bNt (by omega) ?_ | refine bNf (by omega) ?_ | refine call_is (refPrCheck (l.getD i EPr.d) hsi) ?_ | refine bNf h0 ?_ | refine bF (by rw [hw]; exact hc2) ?_ | refine loop_to ih ⟨i + 1, hlt, hf⟩ (show l.length - (i+1) < l.length - i by omega) ?_ | refine bD (fun _ => ?_) (fun _ => ?_) | refine bN (fun _ => ?_) (fun _ => ?_)) <;> conv => whnf)
        all_goals (rw [next_i hlt (by omega)]; rfl)
  · obtain rfl : i = l.length := by omega
    rw [Nat.sub_self, firstE] at hf
    rw [← hf]
    conv => whnf
    repeat' ((first | with_reducible refine bT rfl ?_ | with_reducible refine bF rfl ?_ | ((first | refine sN ?_ | refine sS ?_ | refine sA ?_ | refine sM ?_ | refine sC ?_); (conv => whnf); refine bT (by first | rfl | exact iR8 _ | exact uNN _ | exact iR (by omega) | exact iR (by rw [hw]; omega) | exact nBlt (by omega) | exact nBle (by omega) | exact roomL (by omega) rfl | exact mkOK (by omega) (by omega) (by omega) rfl | (simp; omega)) ?_) | refine bDt (by omega) ?_ | refine bDf (by omega) ?_ | refine bNt (by omega) ?_ | refine bNf (by omega) ?_ | refine bD (fun _ => ?_) (fun _ => ?_) | refine bN (fun _ => ?_) (fun _ => ?_)) <;> conv => whnf)
    all_goals rfl
def findP (s : ByteArray) : List Pr → Pr × Bool
  | [] => (EPr.d, false)
  | x :: r => if x.n = s then (x, true) else findP s r
def tupPr (p : Pr × Bool) : AV := .tup [encPr p.1, .bool p.2]
theorem refPrFind (l : List Pr) (s : ByteArray) (hl : l.length ≤ 1073741824) : CallOK Tryz.prog 183 [EPr.L l, .str s] (fun r => r = tupPr (findP s l)) := by
  refine okPa ?_
  conv => whnf
  repeat' ((first | with_reducible refine bT rfl ?_ | with_reducible refine bF rfl ?_ | ((first | refine sN ?_ | refine sS ?_ | refine sA ?_ | refine sM ?_ | refine sC ?_); (conv => whnf); refine bT (by first | rfl | exact iR8 _ | exact uNN _ | exact iR (by omega) | exact iR (by rw [hw]; omega) | exact nBlt (by omega) | exact nBle (by omega) | exact roomL (by omega) rfl | exact mkOK (by omega) (by omega) (by omega) rfl | (simp; omega)) ?_) | refine bDt (by omega) ?_ | refine bDf (by omega) ?_ | refine bNt (by omega) ?_ | refine bNf (by omega) ?_ | refine bD (fun _ => ?_) (fun _ => ?_) | refine bN (fun _ => ?_) (fun _ => ?_)) <;> conv => whnf)
  refine loop_by (cx := cxPa) rfl progOK (ι := {i : Nat // i ≤ l.length ∧ findP s (l.drop i) = findP s l}) (fun i => l.length - i.1) (fun i => ⟨[(0, EPr.L l), (0 + 1, .str s), (4, .ptr 0 0), (6, .int .i64 i.1)], [.cells [.str ⟨#[]⟩, .int .i64 0, .int .i64 0, .int .i64 0, .int .i64 0, .int .i64 0, .bool false]], [], none⟩) ?_ ⟨0, Nat.zero_le _, rfl⟩
  rintro ⟨i, hi, hf⟩ ih
  dsimp only
  by_cases hlt : i < l.length
  · rw [Enc.drop_cons (E := EPr) hlt, findP] at hf
    by_cases hx : (l.getD i EPr.d).n = s
    · rw [if_pos hx] at hf
      conv => whnf
      repeat' ((first | with_reducible refine bT rfl ?_ | with_reducible refine bF rfl ?_ | ((first | refine sN ?_ | refine sS ?_ | refine sA ?_ | refine sM ?_ | refine sC ?_); (conv => whnf); refine bT (by first | rfl | exact iR8 _ | exact uNN _ | exact iR (by omega) | exact iR (by rw [hw]; omega) | exact nBlt (by omega) | exact nBle (by omega) | exact roomL (by omega) rfl | exact mkOK (by omega) (by omega) (by omega) rfl | (simp; omega)) ?_) | refine bDt (by omega) ?_ | refine bDf (by omega) ?_ | refine bNt (by omega) ?_ | refine bNf (by omega) ?_ | refine bDt hx ?_ | refine bD (fun _ => ?_) (fun _ => ?_) | refine bN (fun _ => ?_) (fun _ => ?_)) <;> conv => whnf)
      rw [← hf]; rfl
    · rw [if_neg hx] at hf
      conv => whnf
      repeat' ((first | with_reducible refine bT rfl ?_ | with_reducible refine bF rfl ?_ | ((first | refine sN ?_ | refine sS ?_ | refine sA ?_ | refine sM ?_ | refine sC ?_); (conv => whnf); refine bT (by first | rfl | exact iR8 _ | exact uNN _ | exact iR (by omega) | exact iR (by rw [hw]; omega) | exact nBlt (by omega) | exact nBle (by omega) | exact roomL (by omega) rfl | exact mkOK (by omega) (by omega) (by omega) rfl | (simp; omega)) ?_) | refine bDt (by omega) ?_ | refine bDf (by omega) ?_ | refine bNt (by omega) ?_ | refine bNf (by omega) ?_ | refine bDf hx ?_ | refine loop_to ih ⟨i + 1, hlt, hf⟩ (show l.length - (i+1) < l.length - i by omega) ?_ | refine bD (fun _ => ?_) (fun _ => ?_) | refine bN (fun _ => ?_) (fun _ => ?_)) <;> conv => whnf)
      rw [next_i hlt (by omega)]; rfl
  · obtain rfl : i = l.length := by omega
    rw [List.drop_length, findP] at hf
    rw [← hf]
    conv => whnf
    repeat' ((first | with_reducible refine bT rfl ?_ | with_reducible refine bF rfl ?_ | ((first | refine sN ?_ | refine sS ?_ | refine sA ?_ | refine sM ?_ | refine sC ?_); (conv => whnf); refine bT (by first | rfl | exact iR8 _ | exact uNN _ | exact iR (by omega) | exact iR (by rw [hw]; omega) | exact nBlt (by omega) | exact nBle (by omega) | exact roomL (by omega) rfl | exact mkOK (by omega) (by omega) (by omega) rfl | (simp; omega)) ?_) | refine bDt (by omega) ?_ | refine bDf (by omega) ?_ | refine bNt (by omega) ?_ | refine bNf (by omega) ?_ | refine bD (fun _ => ?_) (fun _ => ?_) | refine bN (fun _ => ?_) (fun _ => ?_)) <;> conv => whnf)
    all_goals rfl
theorem prFind (l : List Pr) (s : ByteArray) (hl : l.length ≤ 1073741824) : CallOK Tryz.prog 158 [EPr.L l, .str s] (fun r => r = tupPr (findP s l)) := by
  refine okPa ?_
  conv => whnf
  repeat' ((first | with_reducible refine bT rfl ?_ | with_reducible refine bF rfl ?_ | ((first | refine sN ?_ | refine sS ?_ | refine sA ?_ | refine sM ?_ | refine sC ?_); (conv => whnf); refine bT (by first | rfl | exact iR8 _ | exact uNN _ | exact iR (by omega) | exact iR (by rw [hw]; omega) | exact nBlt (by omega) | exact nBle (by omega) | exact roomL (by omega) rfl | exact mkOK (by omega) (by omega) (by omega) rfl | (simp; omega)) ?_) | refine bDt (by omega) ?_ | refine bDf (by omega) ?_ | refine bNt (by omega) ?_ | refine bNf (by omega) ?_ | refine bD (fun _ => ?_) (fun _ => ?_) | refine bN (fun _ => ?_) (fun _ => ?_)) <;> conv => whnf)
  refine loop_by (cx := cxPa) rfl progOK (ι := {i : Nat // i ≤ l.length ∧ findP s (l.drop i) = findP s l}) (fun i => l.length - i.1) (fun i => ⟨[(0 + 1, .fn 247 [] [.ptr (0 + 1) 0]), (4, .ptr (0 + 1 + 1) 0), (9, EPr.L l), (10, .int .i64 l.length), (11, .int .i64 i.1)], [.cells [.str ⟨#[]⟩, .int .i64 0, .int .i64 0, .int .i64 0, .int .i64 0, .int .i64 0, .bool false], .cells [.str s], .cells [.str ⟨#[]⟩, .int .i64 0, .int .i64 0, .int .i64 0, .int .i64 0, .int .i64 0, .bool false]], [], none⟩) ?_ ⟨0, Nat.zero_le _, rfl⟩
  rintro ⟨i, hi, hf⟩ ih
  dsimp only
  by_cases hlt : i < l.length
  · rw [Enc.drop_cons (E := EPr) hlt, findP] at hf
    by_cases hx : (l.getD i EPr.d).n = s
    · rw [if_pos hx] at hf
      conv => whnf
      repeat' ((first | with_reducible refine bT rfl ?_ | with_reducible refine bF rfl ?_ | ((first | refine sN ?_ | refine sS ?_ | refine sA ?_ | refine sM ?_ | refine sC ?_); (conv => whnf); refine bT (by first | rfl | exact iR8 _ | exact uNN _ | exact iR (by omega) | exact iR (by rw [hw]; omega) | exact nBlt (by omega) | exact nBle (by omega) | exact roomL (by omega) rfl | exact mkOK (by omega) (by omega) (by omega) rfl | (simp; omega)) ?_) | refine bDt (by omega) ?_ | refine bDf (by omega) ?_ | refine bNt (by omega) ?_ | refine bNf (by omega) ?_ | refine bDt hx ?_ | refine bD (fun _ => ?_) (fun _ => ?_) | refine bN (fun _ => ?_) (fun _ => ?_)) <;> conv => whnf)
      rw [← hf]; rfl
    · rw [if_neg hx] at hf
      conv => whnf
      repeat' ((first | with_reducible refine bT rfl ?_ | with_reducible refine bF rfl ?_ | ((first | refine sN ?_ | refine sS ?_ | refine sA ?_ | refine sM ?_ | refine sC ?_); (conv => whnf); refine bT (by first | rfl | exact iR8 _ | exact uNN _ | exact iR (by omega) | exact iR (by rw [hw]; omega) | exact nBlt (by omega) | exact nBle (by omega) | exact roomL (by omega) rfl | exact mkOK (by omega) (by omega) (by omega) rfl | (simp; omega)) ?_) | refine bDt (by omega) ?_ | refine bDf (by omega) ?_ | refine bNt (by omega) ?_ | refine bNf (by omega) ?_ | refine bDf hx ?_ | refine loop_to ih ⟨i + 1, hlt, hf⟩ (show l.length - (i+1) < l.length - i by omega) ?_ | refine bD (fun _ => ?_) (fun _ => ?_) | refine bN (fun _ => ?_) (fun _ => ?_)) <;> conv => whnf)
      rw [next_i hlt (by omega)]; rfl
  · obtain rfl : i = l.length := by omega
    rw [List.drop_length, findP] at hf
    rw [← hf]
    conv => whnf
    repeat' ((first | with_reducible refine bT rfl ?_ | with_reducible refine bF rfl ?_ | ((first | refine sN ?_ | refine sS ?_ | refine sA ?_ | refine sM ?_ | refine sC ?_); (conv => whnf); refine bT (by first | rfl | exact iR8 _ | exact uNN _ | exact iR (by omega) | exact iR (by rw [hw]; omega) | exact nBlt (by omega) | exact nBle (by omega) | exact roomL (by omega) rfl | exact mkOK (by omega) (by omega) (by omega) rfl | (simp; omega)) ?_) | refine bDt (by omega) ?_ | refine bDf (by omega) ?_ | refine bNt (by omega) ?_ | refine bNf (by omega) ?_ | refine bD (fun _ => ?_) (fun _ => ?_) | refine bN (fun _ => ?_) (fun _ => ?_)) <;> conv => whnf)
    all_goals rfl
end Go.Proofs

namespace Go.Proofs
open Ax Go
set_option maxRecDepth 10000
def keepHi (f r : Nat) : Option (List Nat) := match f, r with
  | 345, 2 => some [0, 1, 7, 8]
  | 180, 4 => some [0, 1, 5]
  | 180, 9 => some [0, 38, 39, 40]
  | 196, 9 => some [1, 2, 3, 6, 8, 35, 36, 37]
  | 196, 18 => some [3, 6, 13, 57, 58, 59]
  | 196, 23 => some [3, 6, 13, 16, 17, 57, 58, 59, 70, 71]
  | 197, 6 => some [1, 4, 7, 20, 21, 22]
  | 187, 4 => some [0, 1, 5]
  | 187, 9 => some [0, 1, 6]
  | 187, 14 => some [0, 1, 6, 7]
  | 290, 9 => some [0, 1, 2, 9, 10]
  | 290, 17 => some [0, 2, 9, 13, 14]
  | 290, 21 => some [0, 2, 9, 13, 14, 15, 16]
  | 370, 3 => some [0, 3, 4]
  | 370, 7 => some [0, 3, 4, 5]
  | 369, 6 => some [0, 5]
  | 291, 7 => some [1, 7, 8, 9, 10]
  | 368, 2 => some [0, 3, 6]
  | 99, 4 => some [0, 8, 9, 10]
  | 41, 4 => some [0, 3]
  | _, _ => none
def keepXHi (f r : Nat) : Option (List Nat) := match f, r with
  | 345, 2 => some [4]
  | 180, 4 => some [0, 1, 4]
  | 180, 9 => some [4]
  | 196, 9 => some [2, 3, 6, 7, 8]
  | 196, 18 => some [6, 7]
  | 196, 23 => some [3, 6, 13, 17, 57, 58, 59]
  | 197, 6 => some [1, 4, 7]
  | 187, 4 => some [0, 1, 4]
  | 187, 9 => some [4]
  | 187, 14 => some [0, 1, 4, 6]
  | 290, 9 => some [0, 2, 6, 7, 9]
  | 290, 17 => some [6, 7, 13]
  | 290, 21 => some [0, 2, 9, 13, 14, 15]
  | 370, 3 => some [3]
  | 370, 7 => some [0, 3, 4]
  | 369, 6 => some [4]
  | 291, 7 => some [1, 8, 9]
  | 368, 2 => some [4, 5]
  | 99, 4 => some [2]
  | 41, 4 => some [2]
  | _, _ => none
noncomputable def cxHi : Ctx where
  P := Tryz.prog
  inl := fun f => memN f [259, 258, 345, 274, 275]
  keep := keepHi
  keepX := keepXHi
  xf := fun _ _ _ => false
  ow := fun _ => false
  gh := fun _ _ => []
  gf := fun _ => []
  ln := fun _ => false
  srt := srtT
theorem okHi {f a Q} (h : stepCall (SX Tryz.prog calmT) cxHi calmT f a Q) : CallOK Tryz.prog f a Q := okOf (cx := cxHi) rfl progOK h
def serAt (s : List Sr) (i : Nat) : Int := if 0 ≤ cmpR (s.getD (i - 1) ER.d) (s.getD i ER.d) then 19 else 0
def farP (x : Int) : Prop := x < -68719476736 ∨ 68719476736 < x
instance (x : Int) : Decidable (farP x) := inferInstanceAs (Decidable (_ ∨ _))
def dayAt (s : List Sr) (m : List (List Int)) (i : Nat) : Int := if (m.getD i EM.d).length = s.length then (if ∀ x ∈ m.getD i EM.d, ¬ farP x then 0 else 3) else 27
def chkE (s : List Sr) (m : List (List Int)) : Int :=
  if 128 < s.length ∨ m.length < 1 ∨ 512 < m.length then 8 else if firstE (serAt s) (s.length - 1) 1 = 0 then firstE (dayAt s m) m.length 0 else 19
theorem serLoop (s : List Sr) (hs : s.length ≤ 1073741824) {i : Nat} (h0 : 1 ≤ i) (hlt : i < s.length) : firstE (serAt s) (s.length - i) i = if 0 ≤ cmpR (s.getD (i - 1) ER.d) (s.getD i ER.d) then 19 else firstE (serAt s) (s.length - (i + 1)) (i + 1) := by
  rw [firstE_at hlt]
  unfold serAt
  split <;> rename_i h <;> split <;> simp_all
set_option maxHeartbeats 4000000 in
theorem check (s : List Sr) (m : List (List Int)) (hs : s.length ≤ 1073741824) (hm : m.length ≤ 9223372036854775807) (hl : ∀ d ∈ m, d.length ≤ 9223372036854775807) : CallOK Tryz.prog 180 [ER.L s, EM.L m] (fun r => r = .int .i64 (chkE s m)) := by
  refine okHi ?_
  by_cases h8 : 128 < s.length ∨ m.length < 1 ∨ 512 < m.length
  · rw [chkE, if_pos h8]
    conv => whnf
    repeat' ((first | with_reducible refine bT rfl ?_ | with_reducible refine bF rfl ?_ | ((first | refine sN ?_ | refine sS ?_ | refine sA ?_ | refine sM ?_ | refine sC ?_); (conv => whnf); refine bT (by first | rfl | exact iR8 _ | exact uNN _ | exact iR (by omega) | exact iR (by rw [hw]; omega) | exact nBlt (by omega) | exact nBle (by omega) | exact roomL (by omega) rfl | exact mkOK (by omega) (by omega) (by omega) rfl | (simp; omega)) ?_) | refine bDt (by omega) ?_ | refine bDf (by omega) ?_ | refine bNt (by omega) ?_ | refine bNf (by omega) ?_ | refine bD (fun _ => ?_) (fun _ => ?_) | refine bN (fun _ => ?_) (fun _ => ?_)) <;> conv => whnf)
    all_goals first | rfl | (exfalso; omega)
  rw [chkE, if_neg h8]
  conv => whnf
  repeat' ((first | with_reducible refine bT rfl ?_ | with_reducible refine bF rfl ?_ | ((first | refine sN ?_ | refine sS ?_ | refine sA ?_ | refine sM ?_ | refine sC ?_); (conv => whnf); refine bT (by first | rfl | exact iR8 _ | exact uNN _ | exact iR (by omega) | exact iR (by rw [hw]; omega) | exact nBlt (by omega) | exact nBle (by omega) | exact roomL (by omega) rfl | exact mkOK (by omega) (by omega) (by omega) rfl | (simp; omega)) ?_) | refine bDt (by omega) ?_ | refine bDf (by omega) ?_ | refine bNt (by omega) ?_ | refine bNf (by omega) ?_ | refine bD (fun _ => ?_) (fun _ => ?_) | refine bN (fun _ => ?_) (fun _ => ?_)) <;> conv => whnf)
  refine loop_by (cx := cxHi) rfl progOK (ι := {i : Nat // 1 ≤ i ∧ (i ≤ s.length ∨ i = 1) ∧ firstE (serAt s) (s.length - i) i = firstE (serAt s) (s.length - 1) 1}) (fun i => s.length - i.1) (fun i => ⟨[(0, ER.L s), (1, EM.L m), (5, .int .i64 i.1)], [], [], none⟩) ?_ ⟨1, Nat.le_refl _, .inr rfl, rfl⟩
  rintro ⟨i, h1, hi, hf⟩ ih
  dsimp only
  have hw : IntKind.i64.wrap ((i : Int) - 1) = ((i - 1 : Nat) : Int) := by rw [wrap64 (by omega)]; omega
  by_cases hlt : i < s.length
  · rw [serLoop s hs h1 hlt] at hf
    by_cases hc : 0 ≤ cmpR (s.getD (i - 1) ER.d) (s.getD i ER.d)
    · rw [if_pos hc] at hf
      rw [← hf, if_neg (by decide)]
      conv => whnf
      repeat' ((first | with_reducible refine bT rfl ?_ | with_reducible refine bF rfl ?_ | ((first | refine sN ?_ | refine sS ?_ | refine sA ?_ | refine sM ?_ | refine sC ?_); (conv => whnf); refine bT (by first | rfl | exact iR8 _ | exact uNN _ | exact iR (by omega) | exact iR (by rw [hw]; omega) | exact nBlt (by omega) | exact nBle (by omega) | exact roomL (by omega) rfl | exact mkOK (by omega) (by omega) (by omega) rfl | (simp; omega)) ?_) | refine bDt (by omega) ?_ | refine bDf (by omega) ?_ | refine bNt (by omega) ?_ | refine bNf (by omega) ?_ | refine call_is (compare _ _) ?_ | refine bDt (by rw [hw]; exact hc) ?_ | refine bD (fun _ => ?_) (fun _ => ?_) | refine bN (fun _ => ?_) (fun _ => ?_)) <;> conv => whnf)
      all_goals rfl
    · rw [if_neg hc] at hf
      conv => whnf
      repeat' ((first | with_reducible refine bT rfl ?_ | with_reducible refine bF rfl ?_ | ((first | refine sN ?_ | refine sS ?_ | refine sA ?_ | refine sM ?_ | refine sC ?_); (conv => whnf); refine bT (by first | rfl | exact iR8 _ | exact uNN _ | exact iR (by omega) | exact iR (by rw [hw]; omega) | exact nBlt (by omega) | exact nBle (by omega) | exact roomL (by omega) rfl | exact mkOK (by omega) (by omega) (by omega) rfl | (simp; omega)) ?_) | refine bDt (by omega) ?_ | refine bDf (by omega) ?_ | refine bNt (by omega) ?_ | refine bNf (by omega) ?_ | refine call_is (compare _ _) ?_ | refine bDf (by rw [hw]; exact hc) ?_ | refine loop_to ih ⟨i + 1, by omega, by omega, hf⟩ (show s.length - (i+1) < s.length - i by omega) ?_ | refine bD (fun _ => ?_) (fun _ => ?_) | refine bN (fun _ => ?_) (fun _ => ?_)) <;> conv => whnf)
      rw [next_i hlt (by omega)]; rfl
  · have h0 : firstE (serAt s) (s.length - 1) 1 = 0 := by rw [← hf, show s.length - i = 0 by omega]; rfl
    rw [if_pos h0]
    conv => whnf
    repeat' ((first | with_reducible refine bT rfl ?_ | with_reducible refine bF rfl ?_ | ((first | refine sN ?_ | refine sS ?_ | refine sA ?_ | refine sM ?_ | refine sC ?_); (conv => whnf); refine bT (by first | rfl | exact iR8 _ | exact uNN _ | exact iR (by omega) | exact iR (by rw [hw]; omega) | exact nBlt (by omega) | exact nBle (by omega) | exact roomL (by omega) rfl | exact mkOK (by omega) (by omega) (by omega) rfl | (simp; omega)) ?_) | refine bDt (by omega) ?_ | refine bDf (by omega) ?_ | refine bNt (by omega) ?_ | refine bNf (by omega) ?_ | refine bD (fun _ => ?_) (fun _ => ?_) | refine bN (fun _ => ?_) (fun _ => ?_)) <;> conv => whnf)
    clear ih hf h0 hw h1 hi hlt
    refine loop_by (cx := cxHi) rfl progOK (ι := {i : Nat // i ≤ m.length ∧ firstE (dayAt s m) (m.length - i) i = firstE (dayAt s m) m.length 0}) (fun i => m.length - i.1) (fun i => ⟨[(0, ER.L s), (38, EM.L m), (39, .int .i64 m.length), (40, .int .i64 i.1)], [], [], none⟩) ?_ ⟨0, Nat.zero_le _, rfl⟩
    rintro ⟨i, hi, hf⟩ ih
    dsimp only
    by_cases hlt : i < m.length
    · rw [firstE_at hlt] at hf
      have hdl := hl (m.getD i EM.d) (Enc.get_mem (E := EM) hlt)
      by_cases he : (m.getD i EM.d).length = s.length
      · have he' := he
        rw [← Int.toNat_natCast i] at he'
        rw [dayAt, if_pos he] at hf
        conv => whnf
        repeat' ((first | with_reducible refine bT rfl ?_ | with_reducible refine bF rfl ?_ | ((first | refine sN ?_ | refine sS ?_ | refine sA ?_ | refine sM ?_ | refine sC ?_); (conv => whnf); refine bT (by first | rfl | exact iR8 _ | exact uNN _ | exact iR (by omega) | exact iR (by rw [hw]; omega) | exact nBlt (by omega) | exact nBle (by omega) | exact roomL (by omega) rfl | exact mkOK (by omega) (by omega) (by omega) rfl | (simp; omega)) ?_) | refine bDt (by omega) ?_ | refine bDf (by omega) ?_ | refine bNt (by omega) ?_ | refine bNf (by omega) ?_ | refine bD (fun _ => ?_) (fun _ => ?_) | refine bN (fun _ => ?_) (fun _ => ?_)) <;> conv => whnf)
        have ih' := fun h => ih ⟨i + 1, hlt, h⟩ (show m.length - (i+1) < m.length - i by omega)
        clear ih
        refine loop_by (cx := cxHi) rfl progOK (ι := {j : Nat // j ≤ (m.getD i EM.d).length ∧ ∀ x ∈ (m.getD i EM.d).take j, ¬ farP x}) (fun j => (m.getD i EM.d).length - j.1) (fun j => ⟨[(0, EI.L (m.getD i EM.d)), (1, .fn 259 [] []), (7, .int .i64 (m.getD i EM.d).length), (8, .int .i64 j.1)], [], [], none⟩) ?_ ⟨0, Nat.zero_le _, by simp⟩
        rintro ⟨j, hj, hn⟩ ih
        dsimp only
        by_cases hjl : j < (m.getD i EM.d).length
        · by_cases hx : farP ((m.getD i EM.d).getD j EI.d)
          · have hx2 : _ < (-68719476736 : Int) ∨ (68719476736 : Int) < _ := hx
            have hx2' := hx2
            rw [← Int.toNat_natCast j] at hx2'
            have hx2'' := hx2'
            rw [← Int.toNat_natCast i] at hx2''
            have h3 : (if ∀ x ∈ m.getD i EM.d, ¬ farP x then (0 : Int) else 3) = 3 := if_neg (fun h => h _ (Enc.get_mem (E := EI) hjl) hx)
            rw [h3, if_neg (by decide)] at hf
            rw [← hf]
            conv => whnf
            repeat' ((first | with_reducible refine bT rfl ?_ | with_reducible refine bF rfl ?_ | ((first | refine sN ?_ | refine sS ?_ | refine sA ?_ | refine sM ?_ | refine sC ?_); (conv => whnf); refine bT (by first | rfl | exact iR8 _ | exact uNN _ | exact iR (by omega) | exact iR (by rw [hw]; omega) | exact nBlt (by omega) | exact nBle (by omega) | exact roomL (by omega) rfl | exact mkOK (by omega) (by omega) (by omega) rfl | (simp; omega)) ?_) | refine bDt (by omega) ?_ | refine bDf (by omega) ?_ | refine bNt (by omega) ?_ | refine bNf (by omega) ?_ | refine bD (fun _ => ?_) (fun _ => ?_) | refine bN (fun _ => ?_) (fun _ => ?_)) <;> conv => whnf)
            all_goals rfl
          · have hx2 : ¬ (_ < (-68719476736 : Int) ∨ (68719476736 : Int) < _) := hx
            have hx2' := hx2
            rw [← Int.toNat_natCast j] at hx2'
            have hx2'' := hx2'
            rw [← Int.toNat_natCast i] at hx2''
            have hn2 : ∀ x ∈ (m.getD i EM.d).take (j + 1), ¬ farP x := by
              rw [Enc.take_succ (E := EI) hjl]
              intro x hm
              rcases List.mem_append.1 hm with h | h
              · exact hn x h
              · rw [List.mem_singleton.1 h]; exact hx
            conv => whnf
            repeat' ((first | with_reducible refine bT rfl ?_ | with_reducible refine bF rfl ?_ | ((first | refine sN ?_ | refine sS ?_ | refine sA ?_ | refine sM ?_ | refine sC ?_); (conv => whnf); refine bT (by first | rfl | exact iR8 _ | exact uNN _ | exact iR (by omega) | exact iR (by rw [hw]; omega) | exact nBlt (by omega) | exact nBle (by omega) | exact roomL (by omega) rfl | exact mkOK (by omega) (by omega) (by omega) rfl | (simp; omega)) ?_) | refine bDt (by omega) ?_ | refine bDf (by omega) ?_ | refine bNt (by omega) ?_ | refine bNf (by omega) ?_ | refine loop_to ih ⟨j + 1, hjl, hn2⟩ (show (m.getD i EM.d).length - (j + 1) < (m.getD i EM.d).length - j by omega) ?_ | refine bD (fun _ => ?_) (fun _ => ?_) | refine bN (fun _ => ?_) (fun _ => ?_)) <;> conv => whnf)
            all_goals (rw [next_i hjl (by omega)]; rfl)
        · obtain rfl : j = (m.getD i EM.d).length := by omega
          rw [List.take_length] at hn
          have h3 : (if ∀ x ∈ m.getD i EM.d, ¬ farP x then (0 : Int) else 3) = 0 := if_pos hn
          rw [h3, if_pos rfl] at hf
          have ih2 := ih' hf
          conv => whnf
          repeat' ((first | with_reducible refine bT rfl ?_ | with_reducible refine bF rfl ?_ | ((first | refine sN ?_ | refine sS ?_ | refine sA ?_ | refine sM ?_ | refine sC ?_); (conv => whnf); refine bT (by first | rfl | exact iR8 _ | exact uNN _ | exact iR (by omega) | exact iR (by rw [hw]; omega) | exact nBlt (by omega) | exact nBle (by omega) | exact roomL (by omega) rfl | exact mkOK (by omega) (by omega) (by omega) rfl | (simp; omega)) ?_) | refine bDt (by omega) ?_ | refine bDf (by omega) ?_ | refine bNt (by omega) ?_ | refine bNf (by omega) ?_ | refine loop_start ?_ ih2 | refine bD (fun _ => ?_) (fun _ => ?_) | refine bN (fun _ => ?_) (fun _ => ?_)) <;> conv => whnf)
          all_goals (rw [next_i hlt (by omega)]; rfl)
      · have he' := he
        rw [← Int.toNat_natCast i] at he'
        rw [dayAt, if_neg he, if_neg (by decide)] at hf
        rw [← hf]
        conv => whnf
        repeat' ((first | with_reducible refine bT rfl ?_ | with_reducible refine bF rfl ?_ | ((first | refine sN ?_ | refine sS ?_ | refine sA ?_ | refine sM ?_ | refine sC ?_); (conv => whnf); refine bT (by first | rfl | exact iR8 _ | exact uNN _ | exact iR (by omega) | exact iR (by rw [hw]; omega) | exact nBlt (by omega) | exact nBle (by omega) | exact roomL (by omega) rfl | exact mkOK (by omega) (by omega) (by omega) rfl | (simp; omega)) ?_) | refine bDt (by omega) ?_ | refine bDf (by omega) ?_ | refine bNt (by omega) ?_ | refine bNf (by omega) ?_ | refine bD (fun _ => ?_) (fun _ => ?_) | refine bN (fun _ => ?_) (fun _ => ?_)) <;> conv => whnf)
        all_goals first | rfl | (exfalso; omega)
    · obtain rfl : i = m.length := by omega
      rw [Nat.sub_self, firstE] at hf
      rw [← hf]
      conv => whnf
      repeat' ((first | with_reducible refine bT rfl ?_ | with_reducible refine bF rfl ?_ | ((first | refine sN ?_ | refine sS ?_ | refine sA ?_ | refine sM ?_ | refine sC ?_); (conv => whnf); refine bT (by first | rfl | exact iR8 _ | exact uNN _ | exact iR (by omega) | exact iR (by rw [hw]; omega) | exact nBlt (by omega) | exact nBle (by omega) | exact roomL (by omega) rfl | exact mkOK (by omega) (by omega) (by omega) rfl | (simp; omega)) ?_) | refine bDt (by omega) ?_ | refine bDf (by omega) ?_ | refine bNt (by omega) ?_ | refine bNf (by omega) ?_ | refine bD (fun _ => ?_) (fun _ => ?_) | refine bN (fun _ => ?_) (fun _ => ?_)) <;> conv => whnf)
      all_goals rfl
set_option maxHeartbeats 4000000 in
theorem refCheck (s : List Sr) (m : List (List Int)) (hs : s.length ≤ 1073741824) (hm : m.length ≤ 9223372036854775807) (hl : ∀ d ∈ m, d.length ≤ 9223372036854775807) : CallOK Tryz.prog 187 [ER.L s, EM.L m] (fun r => r = .int .i64 (chkE s m)) := by
  refine okHi ?_
  by_cases h8 : 128 < s.length ∨ m.length < 1 ∨ 512 < m.length
  · rw [chkE, if_pos h8]
    conv => whnf
    repeat' ((first | with_reducible refine bT rfl ?_ | with_reducible refine bF rfl ?_ | ((first | refine sN ?_ | refine sS ?_ | refine sA ?_ | refine sM ?_ | refine sC ?_); (conv => whnf); refine bT (by first | rfl | exact iR8 _ | exact uNN _ | exact iR (by omega) | exact iR (by rw [hw]; omega) | exact nBlt (by omega) | exact nBle (by omega) | exact roomL (by omega) rfl | exact mkOK (by omega) (by omega) (by omega) rfl | (simp; omega)) ?_) | refine bDt (by omega) ?_ | refine bDf (by omega) ?_ | refine bNt (by omega) ?_ | refine bNf (by omega) ?_ | refine bD (fun _ => ?_) (fun _ => ?_) | refine bN (fun _ => ?_) (fun _ => ?_)) <;> conv => whnf)
    all_goals first | rfl | (exfalso; omega)
  rw [chkE, if_neg h8]
  conv => whnf
  repeat' ((first | with_reducible refine bT rfl ?_ | with_reducible refine bF rfl ?_ | ((first | refine sN ?_ | refine sS ?_ | refine sA ?_ | refine sM ?_ | refine sC ?_); (conv => whnf); refine bT (by first | rfl | exact iR8 _ | exact uNN _ | exact iR (by omega) | exact iR (by rw [hw]; omega) | exact nBlt (by omega) | exact nBle (by omega) | exact roomL (by omega) rfl | exact mkOK (by omega) (by omega) (by omega) rfl | (simp; omega)) ?_) | refine bDt (by omega) ?_ | refine bDf (by omega) ?_ | refine bNt (by omega) ?_ | refine bNf (by omega) ?_ | refine bD (fun _ => ?_) (fun _ => ?_) | refine bN (fun _ => ?_) (fun _ => ?_)) <;> conv => whnf)
  refine loop_by (cx := cxHi) rfl progOK (ι := {i : Nat // 1 ≤ i ∧ (i ≤ s.length ∨ i = 1) ∧ firstE (serAt s) (s.length - i) i = firstE (serAt s) (s.length - 1) 1}) (fun i => s.length - i.1) (fun i => ⟨[(0, ER.L s), (1, EM.L m), (5, .int .i64 i.1)], [], [], none⟩) ?_ ⟨1, Nat.le_refl _, .inr rfl, rfl⟩
  rintro ⟨i, h1, hi, hf⟩ ih
  dsimp only
  have hw : IntKind.i64.wrap ((i : Int) - 1) = ((i - 1 : Nat) : Int) := by rw [wrap64 (by omega)]; omega
  by_cases hlt : i < s.length
  · rw [serLoop s hs h1 hlt] at hf
    by_cases hc : 0 ≤ cmpR (s.getD (i - 1) ER.d) (s.getD i ER.d)
    · rw [if_pos hc] at hf
      rw [← hf, if_neg (by decide)]
      conv => whnf
      repeat' ((first | with_reducible refine bT rfl ?_ | with_reducible refine bF rfl ?_ | ((first | refine sN ?_ | refine sS ?_ | refine sA ?_ | refine sM ?_ | refine sC ?_); (conv => whnf); refine bT (by first | rfl | exact iR8 _ | exact uNN _ | exact iR (by omega) | exact iR (by rw [hw]; omega) | exact nBlt (by omega) | exact nBle (by omega) | exact roomL (by omega) rfl | exact mkOK (by omega) (by omega) (by omega) rfl | (simp; omega)) ?_) | refine bDt (by omega) ?_ | refine bDf (by omega) ?_ | refine bNt (by omega) ?_ | refine bNf (by omega) ?_ | refine call_is (refCompare _ _) ?_ | refine bDt (by rw [hw]; exact hc) ?_ | refine bD (fun _ => ?_) (fun _ => ?_) | refine bN (fun _ => ?_) (fun _ => ?_)) <;> conv => whnf)
      all_goals rfl
    · rw [if_neg hc] at hf
      conv => whnf
      repeat' ((first | with_reducible refine bT rfl ?_ | with_reducible refine bF rfl ?_ | ((first | refine sN ?_ | refine sS ?_ | refine sA ?_ | refine sM ?_ | refine sC ?_); (conv => whnf); refine bT (by first | rfl | exact iR8 _ | exact uNN _ | exact iR (by omega) | exact iR (by rw [hw]; omega) | exact nBlt (by omega) | exact nBle (by omega) | exact roomL (by omega) rfl | exact mkOK (by omega) (by omega) (by omega) rfl | (simp; omega)) ?_) | refine bDt (by omega) ?_ | refine bDf (by omega) ?_ | refine bNt (by omega) ?_ | refine bNf (by omega) ?_ | refine call_is (refCompare _ _) ?_ | refine bDf (by rw [hw]; exact hc) ?_ | refine loop_to ih ⟨i + 1, by omega, by omega, hf⟩ (show s.length - (i+1) < s.length - i by omega) ?_ | refine bD (fun _ => ?_) (fun _ => ?_) | refine bN (fun _ => ?_) (fun _ => ?_)) <;> conv => whnf)
      rw [next_i hlt (by omega)]; rfl
  · have h0 : firstE (serAt s) (s.length - 1) 1 = 0 := by rw [← hf, show s.length - i = 0 by omega]; rfl
    rw [if_pos h0]
    conv => whnf
    repeat' ((first | with_reducible refine bT rfl ?_ | with_reducible refine bF rfl ?_ | ((first | refine sN ?_ | refine sS ?_ | refine sA ?_ | refine sM ?_ | refine sC ?_); (conv => whnf); refine bT (by first | rfl | exact iR8 _ | exact uNN _ | exact iR (by omega) | exact iR (by rw [hw]; omega) | exact nBlt (by omega) | exact nBle (by omega) | exact roomL (by omega) rfl | exact mkOK (by omega) (by omega) (by omega) rfl | (simp; omega)) ?_) | refine bDt (by omega) ?_ | refine bDf (by omega) ?_ | refine bNt (by omega) ?_ | refine bNf (by omega) ?_ | refine bD (fun _ => ?_) (fun _ => ?_) | refine bN (fun _ => ?_) (fun _ => ?_)) <;> conv => whnf)
    clear ih hf h0 hw h1 hi hlt
    refine loop_by (cx := cxHi) rfl progOK (ι := {i : Nat // i ≤ m.length ∧ firstE (dayAt s m) (m.length - i) i = firstE (dayAt s m) m.length 0}) (fun i => m.length - i.1) (fun i => ⟨[(0, ER.L s), (1, EM.L m), (6, .int .i64 i.1)], [], [], none⟩) ?_ ⟨0, Nat.zero_le _, rfl⟩
    rintro ⟨i, hi, hf⟩ ih
    dsimp only
    by_cases hlt : i < m.length
    · rw [firstE_at hlt] at hf
      have hdl := hl (m.getD i EM.d) (Enc.get_mem (E := EM) hlt)
      by_cases he : (m.getD i EM.d).length = s.length
      · have he' := he
        rw [← Int.toNat_natCast i] at he'
        rw [dayAt, if_pos he] at hf
        conv => whnf
        repeat' ((first | with_reducible refine bT rfl ?_ | with_reducible refine bF rfl ?_ | ((first | refine sN ?_ | refine sS ?_ | refine sA ?_ | refine sM ?_ | refine sC ?_); (conv => whnf); refine bT (by first | rfl | exact iR8 _ | exact uNN _ | exact iR (by omega) | exact iR (by rw [hw]; omega) | exact nBlt (by omega) | exact nBle (by omega) | exact roomL (by omega) rfl | exact mkOK (by omega) (by omega) (by omega) rfl | (simp; omega)) ?_) | refine bDt (by omega) ?_ | refine bDf (by omega) ?_ | refine bNt (by omega) ?_ | refine bNf (by omega) ?_ | refine bD (fun _ => ?_) (fun _ => ?_) | refine bN (fun _ => ?_) (fun _ => ?_)) <;> conv => whnf)
        have ih' := fun h => ih ⟨i + 1, hlt, h⟩ (show m.length - (i+1) < m.length - i by omega)
        clear ih
        refine loop_by (cx := cxHi) rfl progOK (ι := {j : Nat // j ≤ (m.getD i EM.d).length ∧ ∀ x ∈ (m.getD i EM.d).take j, ¬ farP x}) (fun j => (m.getD i EM.d).length - j.1) (fun j => ⟨[(0, ER.L s), (1, EM.L m), (6, .int .i64 i), (7, .int .i64 j.1)], [], [], none⟩) ?_ ⟨0, Nat.zero_le _, by simp⟩
        rintro ⟨j, hj, hn⟩ ih
        dsimp only
        by_cases hjl : j < (m.getD i EM.d).length
        · by_cases hx : farP ((m.getD i EM.d).getD j EI.d)
          · have hx2 : _ < (-68719476736 : Int) ∨ (68719476736 : Int) < _ := hx
            have hx2' := hx2
            rw [← Int.toNat_natCast j] at hx2'
            have hx2'' := hx2'
            rw [← Int.toNat_natCast i] at hx2''
            have h3 : (if ∀ x ∈ m.getD i EM.d, ¬ farP x then (0 : Int) else 3) = 3 := if_neg (fun h => h _ (Enc.get_mem (E := EI) hjl) hx)
            rw [h3, if_neg (by decide)] at hf
            rw [← hf]
            conv => whnf
            repeat' ((first | with_reducible refine bT rfl ?_ | with_reducible refine bF rfl ?_ | ((first | refine sN ?_ | refine sS ?_ | refine sA ?_ | refine sM ?_ | refine sC ?_); (conv => whnf); refine bT (by first | rfl | exact iR8 _ | exact uNN _ | exact iR (by omega) | exact iR (by rw [hw]; omega) | exact nBlt (by omega) | exact nBle (by omega) | exact roomL (by omega) rfl | exact mkOK (by omega) (by omega) (by omega) rfl | (simp; omega)) ?_) | refine bDt (by omega) ?_ | refine bDf (by omega) ?_ | refine bNt (by omega) ?_ | refine bNf (by omega) ?_ | refine bD (fun _ => ?_) (fun _ => ?_) | refine bN (fun _ => ?_) (fun _ => ?_)) <;> conv => whnf)
            all_goals rfl
          · have hx2 : ¬ (_ < (-68719476736 : Int) ∨ (68719476736 : Int) < _) := hx
            have hx2' := hx2
            rw [← Int.toNat_natCast j] at hx2'
            have hx2'' := hx2'
            rw [← Int.toNat_natCast i] at hx2''
            have hn2 : ∀ x ∈ (m.getD i EM.d).take (j + 1), ¬ farP x := by
              rw [Enc.take_succ (E := EI) hjl]
              intro x hm
              rcases List.mem_append.1 hm with h | h
              · exact hn x h
              · rw [List.mem_singleton.1 h]; exact hx
            conv => whnf
            repeat' ((first | with_reducible refine bT rfl ?_ | with_reducible refine bF rfl ?_ | ((first | refine sN ?_ | refine sS ?_ | refine sA ?_ | refine sM ?_ | refine sC ?_); (conv => whnf); refine bT (by first | rfl | exact iR8 _ | exact uNN _ | exact iR (by omega) | exact iR (by rw [hw]; omega) | exact nBlt (by omega) | exact nBle (by omega) | exact roomL (by omega) rfl | exact mkOK (by omega) (by omega) (by omega) rfl | (simp; omega)) ?_) | refine bDt (by omega) ?_ | refine bDf (by omega) ?_ | refine bNt (by omega) ?_ | refine bNf (by omega) ?_ | refine loop_to ih ⟨j + 1, hjl, hn2⟩ (show (m.getD i EM.d).length - (j + 1) < (m.getD i EM.d).length - j by omega) ?_ | refine bD (fun _ => ?_) (fun _ => ?_) | refine bN (fun _ => ?_) (fun _ => ?_)) <;> conv => whnf)
            all_goals (rw [next_i hjl (by omega)]; rfl)
        · obtain rfl : j = (m.getD i EM.d).length := by omega
          rw [List.take_length] at hn
          have h3 : (if ∀ x ∈ m.getD i EM.d, ¬ farP x then (0 : Int) else 3) = 0 := if_pos hn
          rw [h3, if_pos rfl] at hf
          have ih2 := ih' hf
          conv => whnf
          repeat' ((first | with_reducible refine bT rfl ?_ | with_reducible refine bF rfl ?_ | ((first | refine sN ?_ | refine sS ?_ | refine sA ?_ | refine sM ?_ | refine sC ?_); (conv => whnf); refine bT (by first | rfl | exact iR8 _ | exact uNN _ | exact iR (by omega) | exact iR (by rw [hw]; omega) | exact nBlt (by omega) | exact nBle (by omega) | exact roomL (by omega) rfl | exact mkOK (by omega) (by omega) (by omega) rfl | (simp; omega)) ?_) | refine bDt (by omega) ?_ | refine bDf (by omega) ?_ | refine bNt (by omega) ?_ | refine bNf (by omega) ?_ | refine loop_start ?_ ih2 | refine bD (fun _ => ?_) (fun _ => ?_) | refine bN (fun _ => ?_) (fun _ => ?_)) <;> conv => whnf)
          all_goals (rw [next_i hlt (by omega)]; rfl)
      · have he' := he
        rw [← Int.toNat_natCast i] at he'
        rw [dayAt, if_neg he, if_neg (by decide)] at hf
        rw [← hf]
        conv => whnf
        repeat' ((first | with_reducible refine bT rfl ?_ | with_reducible refine bF rfl ?_ | ((first | refine sN ?_ | refine sS ?_ | refine sA ?_ | refine sM ?_ | refine sC ?_); (conv => whnf); refine bT (by first | rfl | exact iR8 _ | exact uNN _ | exact iR (by omega) | exact iR (by rw [hw]; omega) | exact nBlt (by omega) | exact nBle (by omega) | exact roomL (by omega) rfl | exact mkOK (by omega) (by omega) (by omega) rfl | (simp; omega)) ?_) | refine bDt (by omega) ?_ | refine bDf (by omega) ?_ | refine bNt (by omega) ?_ | refine bNf (by omega) ?_ | refine bD (fun _ => ?_) (fun _ => ?_) | refine bN (fun _ => ?_) (fun _ => ?_)) <;> conv => whnf)
        all_goals first | rfl | (exfalso; omega)
    · obtain rfl : i = m.length := by omega
      rw [Nat.sub_self, firstE] at hf
      rw [← hf]
      conv => whnf
      repeat' ((first | with_reducible refine bT rfl ?_ | with_reducible refine bF rfl ?_ | ((first | refine sN ?_ | refine sS ?_ | refine sA ?_ | refine sM ?_ | refine sC ?_); (conv => whnf); refine bT (by first | rfl | exact iR8 _ | exact uNN _ | exact iR (by omega) | exact iR (by rw [hw]; omega) | exact nBlt (by omega) | exact nBle (by omega) | exact roomL (by omega) rfl | exact mkOK (by omega) (by omega) (by omega) rfl | (simp; omega)) ?_) | refine bDt (by omega) ?_ | refine bDf (by omega) ?_ | refine bNt (by omega) ?_ | refine bNf (by omega) ?_ | refine bD (fun _ => ?_) (fun _ => ?_) | refine bN (fun _ => ?_) (fun _ => ?_)) <;> conv => whnf)
      all_goals rfl
end Go.Proofs
