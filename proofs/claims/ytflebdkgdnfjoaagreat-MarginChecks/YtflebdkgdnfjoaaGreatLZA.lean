import Derived.Test.YtflebdkgdnfjoaaGreatMzRun29
import Derived.Test.YtflebdkgdnfjoaaGreatAxEnc3
import Derived.Test.YtflebdkgdnfjoaaGreatLW
import Derived.Test.YtflebdkgdnfjoaaGreatLS
import Derived.Test.YtflebdkgdnfjoaaGreatAxEnc2
import Derived.Test.YtflebdkgdnfjoaaGreatLU
set_option linter.unusedVariables false
set_option linter.unusedSimpArgs false
namespace Go.Proofs
open Ax Go
set_option maxRecDepth 100000
noncomputable def cxGe : Ctx where
  P := Tryz.prog
  inl := fun _ => false
  keep := fun _ _ => none
  keepX := fun _ _ => none
  xf := fun _ _ _ => false
  ow := fun _ => false
  gh := fun _ _ => []
  gf := fun _ => []
  ln := fun _ => false
  srt := srtT
theorem okGe {f a Q} (h : stepCall (SX Tryz.prog calmT) cxGe calmT f a Q) : CallOK Tryz.prog f a Q := okOf (cx := cxGe) rfl progOK h
theorem all1 {k : Nat → Prop} (h0 : k 0) : ∀ i, i < 1 → k i := fun i hi => by obtain rfl : i = 0 := by omega
                                                                              exact h0
theorem all2 {k : Nat → Prop} (h0 : k 0) (h1 : k 1) : ∀ i, i < 2 → k i := fun i hi => by
  rcases (show i = 0 ∨ i = 1 by omega) with rfl | rfl <;> assumption
theorem all3 {k : Nat → Prop} (h0 : k 0) (h1 : k 1) (h2 : k 2) : ∀ i, i < 3 → k i := fun i hi => by
  rcases (show i = 0 ∨ i = 1 ∨ i = 2 by omega) with rfl | rfl | rfl <;> assumption
theorem all4 {k : Nat → Prop} (h0 : k 0) (h1 : k 1) (h2 : k 2) (h3 : k 3) : ∀ i, i < 4 → k i := fun i hi => by
  rcases (show i = 0 ∨ i = 1 ∨ i = 2 ∨ i = 3 by omega) with rfl | rfl | rfl | rfl <;> assumption
theorem few9 : fewRu ru9 := by
  refine ⟨by decide, by decide, by decide, by decide, by decide, by decide, ?_, ?_, ?_⟩ <;> (intro a h; simp [ru9] at h; try (subst h; decide))
def sr9 : Sr := ⟨oil9, 1, 9576, 0⟩
set_option maxHeartbeats 8000000 in
theorem page : CallOK Tryz.prog 76 [] (fun r => r = .tup [encSr sr9, EPr.L ps9, encRu ru9]) := by
  refine okGe ?_
  conv => whnf
  repeat' ((first | with_reducible refine bT rfl ?_ | with_reducible refine bF rfl ?_ | ((first | refine sN ?_ | refine sS ?_ | refine sA ?_ | refine sM ?_ | refine sC ?_); (conv => whnf); refine bT (by first | rfl | exact iR8 _ | exact uNN _ | exact iR (by omega) | exact iR (by rw [hw]; omega) | exact nBlt (by omega) | exact nBle (by omega) | exact roomL (by omega) rfl | exact mkOK (by omega) (by omega) (by omega) rfl | (simp; omega)) ?_) | refine bDt (by omega) ?_ | refine bDf (by omega) ?_ | refine bNt (by omega) ?_ | refine bNf (by omega) ?_ | refine all4 ?_ ?_ ?_ ?_ | refine all3 ?_ ?_ ?_ | refine all2 ?_ ?_ | refine all1 ?_ | refine bD (fun _ => ?_) (fun _ => ?_) | refine bN (fun _ => ?_) (fun _ => ?_)) <;> conv => whnf)
  all_goals refine congrArg AV.tup (cl_cons rfl (cl_cons (vlist_av (E := EPr) rfl rfl rfl rfl) (cl_cons (congrArg AV.agg (cl_cons (vlist_av (E := EAr) rfl rfl (cl_cons (congrArg (fun q => AV.agg [.str oil9, .int .i64 1, .int .i64 9576, .int .i64 0, q, .int .i64 1000]) (vlist_av (E := EI) rfl rfl rfl rfl)) rfl) rfl) (cl_cons (Enc.nil_av (E := ETi) rfl rfl rfl) (cl_cons (Enc.nil_av (E := ECr) rfl rfl rfl) (cl_cons rfl (cl_cons rfl (cl_cons rfl (cl_cons (vlist_av (E := ESk) rfl rfl rfl rfl) (cl_cons (Enc.nil_av (E := ER) rfl rfl rfl) (cl_cons (Enc.nil_av (E := EM) rfl rfl rfl) rfl)))))))))) rfl)))
theorem po_eq {a b c d e e' : AV} (h : e = e') : [a, b, c, d, e] = [a, b, c, d, e'] := by rw [h]
set_option maxHeartbeats 8000000 in
theorem goes29 : CallOK Tryz.prog 23 [] (fun r => r = .bool true) := by
  refine okGe ?_
  conv => whnf
  repeat' ((first | with_reducible refine bT rfl ?_ | with_reducible refine bF rfl ?_ | ((first | refine sN ?_ | refine sS ?_ | refine sA ?_ | refine sM ?_ | refine sC ?_); (conv => whnf); refine bT (by first | rfl | exact iR8 _ | exact uNN _ | exact iR (by omega) | exact iR (by rw [hw]; omega) | exact nBlt (by omega) | exact nBle (by omega) | exact roomL (by omega) rfl | exact mkOK (by omega) (by omega) (by omega) rfl | (simp; omega)) ?_) | refine bDt (by omega) ?_ | refine bDf (by omega) ?_ | refine bNt (by omega) ?_ | refine bNf (by omega) ?_ | refine call_is page ?_ | refine call_is (program ru9 few9) ?_ | refine call_eq (po_eq (vlist_av (E := EP) (L := [⟨⟨oil9, 1, 9576, 0⟩, 3, 0⟩]) rfl rfl rfl rfl)) (call_is run91 ?_) | refine call_eq (po_eq (vlist_av (E := EP) (L := [⟨⟨oil9, 1, 9576, 0⟩, 1, 1⟩]) rfl rfl rfl rfl)) (call_is run92 ?_) | refine st_bin rfl rfl rfl (eqNd nd9 nd9) ?_ | refine st_bin rfl rfl rfl (eqNd nd90 nd90) ?_ | refine bDt rfl ?_ | refine all4 ?_ ?_ ?_ ?_ | refine all3 ?_ ?_ ?_ | refine all2 ?_ ?_ | refine all1 ?_ | refine bD (fun _ => ?_) (fun _ => ?_) | refine bN (fun _ => ?_) (fun _ => ?_)) <;> conv => whnf)
  all_goals rfl
end Go.Proofs

namespace Go.Proofs
open Ax Go
set_option maxRecDepth 10000
set_option maxHeartbeats 8000000
def keepFw (f r : Nat) : Option (List Nat) := match f, r with
  | 22, 3 => some [1, 3, 9, 10]
  | 22, 8 => some [1, 3, 26, 27]
  | 22, 13 => some [1, 3, 43, 44]
  | _, _ => none
def keepXFw (f r : Nat) : Option (List Nat) := match f, r with
  | 22, 3 => some [1, 3]
  | 22, 8 => some [1, 3]
  | 22, 13 => some [1, 3]
  | _, _ => none
noncomputable def cxFw : Ctx where
  P := Tryz.prog
  inl := fun _ => false
  keep := keepFw
  keepX := keepXFw
  xf := fun _ _ _ => false
  ow := fun _ => false
  gh := fun _ _ => []
  gf := fun _ => []
  ln := fun _ => false
  srt := srtT
theorem okFw {f a Q} (h : stepCall (SX Tryz.prog calmT) cxFw calmT f a Q) : CallOK Tryz.prog f a Q := okOf (cx := cxFw) rfl progOK h
def lensP (x : Ru) : Prop := x.ar.length ≤ 150 ∧ x.ti.length ≤ 50 ∧ x.cr.length ≤ 200 ∧ x.st.length ≤ 200 ∧ x.se.length ≤ 150 ∧ x.mo.length ≤ 600
theorem few29 (x : Ru) (h1 : x.ar.length ≤ 9223372036854775807) (h2 : x.ti.length ≤ 9223372036854775807) (h3 : x.mo.length ≤ 9223372036854775807) : CallOK Tryz.prog 22 [encRu x] (fun r => ∃ b, r = .bool b ∧ (b = true → lensP x)) := by
  refine okFw ?_
  conv => whnf
  repeat' ((first | with_reducible refine bT rfl ?_ | with_reducible refine bF rfl ?_ | ((first | refine sN ?_ | refine sS ?_ | refine sA ?_ | refine sM ?_ | refine sC ?_); (conv => whnf); refine bT (by first | rfl | exact iR8 _ | exact uNN _ | exact iR (by omega) | exact iR (by rw [hw]; omega) | exact nBlt (by omega) | exact nBle (by omega) | exact roomL (by omega) rfl | exact mkOK (by omega) (by omega) (by omega) rfl | (simp; omega)) ?_) | refine bDt (by omega) ?_ | refine bDf (by omega) ?_ | refine bNt (by omega) ?_ | refine bNf (by omega) ?_ | refine bD (fun _ => ?_) (fun _ => ?_) | refine bN (fun _ => ?_) (fun _ => ?_)) <;> conv => whnf)
  refine loop_by (cx := cxFw) rfl progOK (ι := {p : Nat × Int // p.1 ≤ x.ar.length}) (fun p => x.ar.length - p.1.1) (fun p => ⟨[(1, .ptr 0 0), (3, .int .i64 p.1.2), (9, .int .i64 x.ar.length), (10, .int .i64 p.1.1)], [.cells (cellsRu x)], [], none⟩) ?_ ⟨(0, 0), Nat.zero_le _⟩
  rintro ⟨⟨i, s⟩, hi⟩ ih
  dsimp only at hi ⊢
  by_cases hlt : i < x.ar.length
  · conv => whnf
    repeat' ((first | with_reducible refine bT rfl ?_ | with_reducible refine bF rfl ?_ | ((first | refine sN ?_ | refine sS ?_ | refine sA ?_ | refine sM ?_ | refine sC ?_); (conv => whnf); refine bT (by first | rfl | exact iR8 _ | exact uNN _ | exact iR (by omega) | exact iR (by rw [hw]; omega) | exact nBlt (by omega) | exact nBle (by omega) | exact roomL (by omega) rfl | exact mkOK (by omega) (by omega) (by omega) rfl | (simp; omega)) ?_) | refine bDt (by omega) ?_ | refine bDf (by omega) ?_ | refine bNt (by omega) ?_ | refine bNf (by omega) ?_ | refine loop_to ih ⟨(i + 1, IntKind.i64.wrap (s + if (1000 : Int) < ((x.ar.getD (i : Int).toNat EAr.d).l.length : Int) then 1000 else ((x.ar.getD (i : Int).toNat EAr.d).l.length : Int))), hlt⟩ (show x.ar.length - (i + 1) < x.ar.length - i by omega) ?_ | refine bD (fun _ => ?_) (fun _ => ?_) | refine bN (fun _ => ?_) (fun _ => ?_)) <;> conv => whnf)
    all_goals (rw [next_i hlt (by omega)]; rfl)
  obtain rfl : i = x.ar.length := by omega
  clear ih hlt
  conv => whnf
  repeat' ((first | with_reducible refine bT rfl ?_ | with_reducible refine bF rfl ?_ | ((first | refine sN ?_ | refine sS ?_ | refine sA ?_ | refine sM ?_ | refine sC ?_); (conv => whnf); refine bT (by first | rfl | exact iR8 _ | exact uNN _ | exact iR (by omega) | exact iR (by rw [hw]; omega) | exact nBlt (by omega) | exact nBle (by omega) | exact roomL (by omega) rfl | exact mkOK (by omega) (by omega) (by omega) rfl | (simp; omega)) ?_) | refine bDt (by omega) ?_ | refine bDf (by omega) ?_ | refine bNt (by omega) ?_ | refine bNf (by omega) ?_ | refine bD (fun _ => ?_) (fun _ => ?_) | refine bN (fun _ => ?_) (fun _ => ?_)) <;> conv => whnf)
  refine loop_by (cx := cxFw) rfl progOK (ι := {p : Nat × Int // p.1 ≤ x.ti.length}) (fun p => x.ti.length - p.1.1) (fun p => ⟨[(1, .ptr 0 0), (3, .int .i64 p.1.2), (26, .int .i64 x.ti.length), (27, .int .i64 p.1.1)], [.cells (cellsRu x)], [], none⟩) ?_ ⟨(0, s), Nat.zero_le _⟩
  rintro ⟨⟨i, s⟩, hi⟩ ih
  dsimp only at hi ⊢
  by_cases hlt : i < x.ti.length
  · conv => whnf
    repeat' ((first | with_reducible refine bT rfl ?_ | with_reducible refine bF rfl ?_ | ((first | refine sN ?_ | refine sS ?_ | refine sA ?_ | refine sM ?_ | refine sC ?_); (conv => whnf); refine bT (by first | rfl | exact iR8 _ | exact uNN _ | exact iR (by omega) | exact iR (by rw [hw]; omega) | exact nBlt (by omega) | exact nBle (by omega) | exact roomL (by omega) rfl | exact mkOK (by omega) (by omega) (by omega) rfl | (simp; omega)) ?_) | refine bDt (by omega) ?_ | refine bDf (by omega) ?_ | refine bNt (by omega) ?_ | refine bNf (by omega) ?_ | refine loop_to ih ⟨(i + 1, IntKind.i64.wrap (s + if (1000 : Int) < ((x.ti.getD (i : Int).toNat ETi.d).l.length : Int) then 1000 else ((x.ti.getD (i : Int).toNat ETi.d).l.length : Int))), hlt⟩ (show x.ti.length - (i + 1) < x.ti.length - i by omega) ?_ | refine bD (fun _ => ?_) (fun _ => ?_) | refine bN (fun _ => ?_) (fun _ => ?_)) <;> conv => whnf)
    all_goals (rw [next_i hlt (by omega)]; rfl)
  obtain rfl : i = x.ti.length := by omega
  clear ih hlt
  conv => whnf
  repeat' ((first | with_reducible refine bT rfl ?_ | with_reducible refine bF rfl ?_ | ((first | refine sN ?_ | refine sS ?_ | refine sA ?_ | refine sM ?_ | refine sC ?_); (conv => whnf); refine bT (by first | rfl | exact iR8 _ | exact uNN _ | exact iR (by omega) | exact iR (by rw [hw]; omega) | exact nBlt (by omega) | exact nBle (by omega) | exact roomL (by omega) rfl | exact mkOK (by omega) (by omega) (by omega) rfl | (simp; omega)) ?_) | refine bDt (by omega) ?_ | refine bDf (by omega) ?_ | refine bNt (by omega) ?_ | refine bNf (by omega) ?_ | refine bD (fun _ => ?_) (fun _ => ?_) | refine bN (fun _ => ?_) (fun _ => ?_)) <;> conv => whnf)
  refine loop_by (cx := cxFw) rfl progOK (ι := {p : Nat × Int // p.1 ≤ x.mo.length}) (fun p => x.mo.length - p.1.1) (fun p => ⟨[(1, .ptr 0 0), (3, .int .i64 p.1.2), (43, .int .i64 x.mo.length), (44, .int .i64 p.1.1)], [.cells (cellsRu x)], [], none⟩) ?_ ⟨(0, s), Nat.zero_le _⟩
  rintro ⟨⟨i, s⟩, hi⟩ ih
  dsimp only at hi ⊢
  by_cases hlt : i < x.mo.length
  · conv => whnf
    repeat' ((first | with_reducible refine bT rfl ?_ | with_reducible refine bF rfl ?_ | ((first | refine sN ?_ | refine sS ?_ | refine sA ?_ | refine sM ?_ | refine sC ?_); (conv => whnf); refine bT (by first | rfl | exact iR8 _ | exact uNN _ | exact iR (by omega) | exact iR (by rw [hw]; omega) | exact nBlt (by omega) | exact nBle (by omega) | exact roomL (by omega) rfl | exact mkOK (by omega) (by omega) (by omega) rfl | (simp; omega)) ?_) | refine bDt (by omega) ?_ | refine bDf (by omega) ?_ | refine bNt (by omega) ?_ | refine bNf (by omega) ?_ | refine loop_to ih ⟨(i + 1, IntKind.i64.wrap (s + if (1000 : Int) < ((x.mo.getD (i : Int).toNat EM.d).length : Int) then 1000 else ((x.mo.getD (i : Int).toNat EM.d).length : Int))), hlt⟩ (show x.mo.length - (i + 1) < x.mo.length - i by omega) ?_ | refine bD (fun _ => ?_) (fun _ => ?_) | refine bN (fun _ => ?_) (fun _ => ?_)) <;> conv => whnf)
    all_goals (rw [next_i hlt (by omega)]; rfl)
  obtain rfl : i = x.mo.length := by omega
  clear ih hlt
  conv => whnf
  repeat' ((first | with_reducible refine bT rfl ?_ | with_reducible refine bF rfl ?_ | ((first | refine sN ?_ | refine sS ?_ | refine sA ?_ | refine sM ?_ | refine sC ?_); (conv => whnf); refine bT (by first | rfl | exact iR8 _ | exact uNN _ | exact iR (by omega) | exact iR (by rw [hw]; omega) | exact nBlt (by omega) | exact nBle (by omega) | exact roomL (by omega) rfl | exact mkOK (by omega) (by omega) (by omega) rfl | (simp; omega)) ?_) | refine bDt (by omega) ?_ | refine bDf (by omega) ?_ | refine bNt (by omega) ?_ | refine bNf (by omega) ?_ | refine bD (fun _ => ?_) (fun _ => ?_) | refine bN (fun _ => ?_) (fun _ => ?_)) <;> conv => whnf)
  all_goals first
    | exact ⟨false, rfl, fun h => by cases h⟩
    | (refine ⟨_, rfl, fun h => ?_⟩
       have h := of_decide_eq_true h
       unfold lensP
       omega)
end Go.Proofs

namespace Go.Proofs
open Ax Go
set_option maxRecDepth 10000
def keepNa (f r : Nat) : Option (List Nat) := match f, r with
  | 122, 4 => some [0, 18, 19]
  | 185, 2 => some [0, 3]
  | _, _ => none
def keepXNa (f r : Nat) : Option (List Nat) := match f, r with
  | 122, 4 => some [2]
  | 185, 2 => some [0, 2]
  | _, _ => none
noncomputable def cxNa : Ctx where
  P := Tryz.prog
  inl := fun _ => false
  keep := keepNa
  keepX := keepXNa
  xf := fun _ _ _ => false
  ow := fun _ => false
  gh := fun _ _ => []
  gf := fun _ => []
  ln := fun _ => false
  srt := srtT
theorem okNa {f a Q} (h : stepCall (SX Tryz.prog calmT) cxNa calmT f a Q) : CallOK Tryz.prog f a Q := okOf (cx := cxNa) rfl progOK h
def byteAt (s : ByteArray) (i : Nat) : Int := ((s.data.getD i 0).toNat : Int)
def lowP (c : Int) : Prop := 97 ≤ c ∧ c ≤ 122
def digP (c : Int) : Prop := 48 ≤ c ∧ c ≤ 57
instance (c : Int) : Decidable (lowP c) := inferInstanceAs (Decidable (_ ∧ _))
instance (c : Int) : Decidable (digP c) := inferInstanceAs (Decidable (_ ∧ _))
def nameP (s : ByteArray) : Prop := s ≠ ByteArray.empty ∧ s.size ≤ 12 ∧ lowP (byteAt s 0) ∧ ∀ i, i < s.size → lowP (byteAt s i) ∨ digP (byteAt s i)
theorem letter (c : Int) : CallOK Tryz.prog 219 [.int .u8 c] (fun r => r = .bool (decide (lowP c))) := by
  refine okNa ?_
  conv => whnf
  repeat' ((first | with_reducible refine bT rfl ?_ | with_reducible refine bF rfl ?_ | ((first | refine sN ?_ | refine sS ?_ | refine sA ?_ | refine sM ?_ | refine sC ?_); (conv => whnf); refine bT (by first | rfl | exact iR8 _ | exact uNN _ | exact iR (by omega) | exact iR (by rw [hw]; omega) | exact nBlt (by omega) | exact nBle (by omega) | exact roomL (by omega) rfl | exact mkOK (by omega) (by omega) (by omega) rfl | (simp; omega)) ?_) | refine bDt (by omega) ?_ | refine bDf (by omega) ?_ | refine bNt (by omega) ?_ | refine bNf (by omega) ?_ | refine bD (fun _ => ?_) (fun _ => ?_) | refine bN (fun _ => ?_) (fun _ => ?_)) <;> conv => whnf)
  · exact congrArg AV.bool (decide_eq_decide.2 (by unfold lowP; omega))
  · exact congrArg AV.bool (decide_eq_false (by unfold lowP; omega)).symm
theorem digit (c : Int) : CallOK Tryz.prog 220 [.int .u8 c] (fun r => r = .bool (decide (digP c))) := by
  refine okNa ?_
  conv => whnf
  repeat' ((first | with_reducible refine bT rfl ?_ | with_reducible refine bF rfl ?_ | ((first | refine sN ?_ | refine sS ?_ | refine sA ?_ | refine sM ?_ | refine sC ?_); (conv => whnf); refine bT (by first | rfl | exact iR8 _ | exact uNN _ | exact iR (by omega) | exact iR (by rw [hw]; omega) | exact nBlt (by omega) | exact nBle (by omega) | exact roomL (by omega) rfl | exact mkOK (by omega) (by omega) (by omega) rfl | (simp; omega)) ?_) | refine bDt (by omega) ?_ | refine bDf (by omega) ?_ | refine bNt (by omega) ?_ | refine bNf (by omega) ?_ | refine bD (fun _ => ?_) (fun _ => ?_) | refine bN (fun _ => ?_) (fun _ => ?_)) <;> conv => whnf)
  · exact congrArg AV.bool (decide_eq_decide.2 (by unfold digP; omega))
  · exact congrArg AV.bool (decide_eq_false (by unfold digP; omega)).symm
theorem size0 {s : ByteArray} (h1 : s ≠ ByteArray.empty) : 0 < s.size := by
  rcases Nat.eq_zero_or_pos s.size with h | h
  · refine absurd ?_ h1
    cases s with | mk d => simp [ByteArray.size] at h; subst h; rfl
  · exact h
theorem name (s : ByteArray) : CallOK Tryz.prog 122 [.str s] (fun r => ∃ b, r = .bool b ∧ (b = true ↔ nameP s)) := by
  have no : ¬ nameP s → ∃ b, AV.bool false = .bool b ∧ (b = true ↔ nameP s) := fun h => ⟨false, rfl, Iff.intro (fun q => absurd q (by decide)) (fun q => absurd q h)⟩
  refine okNa ?_
  by_cases h1 : s = ByteArray.empty
  · conv => whnf
    repeat' ((first | with_reducible refine bT rfl ?_ | with_reducible refine bF rfl ?_ | ((first | refine sN ?_ | refine sS ?_ | refine sA ?_ | refine sM ?_ | refine sC ?_); (conv => whnf); refine bT (by first | rfl | exact iR8 _ | exact uNN _ | exact iR (by omega) | exact iR (by rw [hw]; omega) | exact nBlt (by omega) | exact nBle (by omega) | exact roomL (by omega) rfl | exact mkOK (by omega) (by omega) (by omega) rfl | (simp; omega)) ?_) | refine bDt (by omega) ?_ | refine bDf (by omega) ?_ | refine bNt (by omega) ?_ | refine bNf (by omega) ?_ | refine bDt h1 ?_ | refine bD (fun _ => ?_) (fun _ => ?_) | refine bN (fun _ => ?_) (fun _ => ?_)) <;> conv => whnf)
    exact no fun h => h.1 h1
  by_cases h2 : 12 < s.size
  · conv => whnf
    repeat' ((first | with_reducible refine bT rfl ?_ | with_reducible refine bF rfl ?_ | ((first | refine sN ?_ | refine sS ?_ | refine sA ?_ | refine sM ?_ | refine sC ?_); (conv => whnf); refine bT (by first | rfl | exact iR8 _ | exact uNN _ | exact iR (by omega) | exact iR (by rw [hw]; omega) | exact nBlt (by omega) | exact nBle (by omega) | exact roomL (by omega) rfl | exact mkOK (by omega) (by omega) (by omega) rfl | (simp; omega)) ?_) | refine bDt (by omega) ?_ | refine bDf (by omega) ?_ | refine bNt (by omega) ?_ | refine bNf (by omega) ?_ | refine bDf h1 ?_ | refine bD (fun _ => ?_) (fun _ => ?_) | refine bN (fun _ => ?_) (fun _ => ?_)) <;> conv => whnf)
    exact no fun h => by have := h.2.1; omega
  have h0 := size0 h1
  by_cases h3 : lowP (byteAt s 0)
  rotate_left
  · conv => whnf
    repeat' ((first | with_reducible refine bT rfl ?_ | with_reducible refine bF rfl ?_ | ((first | refine sN ?_ | refine sS ?_ | refine sA ?_ | refine sM ?_ | refine sC ?_); (conv => whnf); refine bT (by first | rfl | exact iR8 _ | exact uNN _ | exact iR (by omega) | exact iR (by rw [hw]; omega) | exact nBlt (by omega) | exact nBle (by omega) | exact roomL (by omega) rfl | exact mkOK (by omega) (by omega) (by omega) rfl | (simp; omega)) ?_) | refine bDt (by omega) ?_ | refine bDf (by omega) ?_ | refine bNt (by omega) ?_ | refine bNf (by omega) ?_ | refine call_is (letter _) ?_ | refine bDf h1 ?_ | refine bNt h3 ?_ | refine bDf h3 ?_ | refine bD (fun _ => ?_) (fun _ => ?_) | refine bN (fun _ => ?_) (fun _ => ?_)) <;> conv => whnf)
    exact no fun h => h3 h.2.2.1
  conv => whnf
  repeat' ((first | with_reducible refine bT rfl ?_ | with_reducible refine bF rfl ?_ | ((first | refine sN ?_ | refine sS ?_ | refine sA ?_ | refine sM ?_ | refine sC ?_); (conv => whnf); refine bT (by first | rfl | exact iR8 _ | exact uNN _ | exact iR (by omega) | exact iR (by rw [hw]; omega) | exact nBlt (by omega) | exact nBle (by omega) | exact roomL (by omega) rfl | exact mkOK (by omega) (by omega) (by omega) rfl | (simp; omega)) ?_) | refine bDt (by omega) ?_ | refine bDf (by omega) ?_ | refine bNt (by omega) ?_ | refine bNf (by omega) ?_ | refine call_is (letter _) ?_ | refine bDf h1 ?_ | refine bNf h3 ?_ | refine bDt h3 ?_ | refine bD (fun _ => ?_) (fun _ => ?_) | refine bN (fun _ => ?_) (fun _ => ?_)) <;> conv => whnf)
  refine loop_by (cx := cxNa) rfl progOK (ι := {i : Nat // i ≤ s.size ∧ ∀ j, j < i → lowP (byteAt s j) ∨ digP (byteAt s j)}) (fun i => s.size - i.1) (fun i => ⟨[(0, .str s), (18, .int .i64 s.size), (19, .int .i64 i.1)], [], [], none⟩) ?_ ⟨0, Nat.zero_le _, fun j hj => absurd hj (by omega)⟩
  rintro ⟨i, hi, hf⟩ ih
  dsimp only
  by_cases hlt : i < s.size
  · have nxt : lowP (byteAt s i) ∨ digP (byteAt s i) → ∀ j, j < i + 1 → lowP (byteAt s j) ∨ digP (byteAt s j) := fun h j hj => by
      rcases Nat.lt_or_ge j i with h' | h'
      · exact hf j h'
      · rw [show j = i by omega]; exact h
    by_cases hx : lowP (byteAt s i)
    · conv => whnf
      repeat' ((first | with_reducible refine bT rfl ?_ | with_reducible refine bF rfl ?_ | ((first | refine sN ?_ | refine sS ?_ | refine sA ?_ | refine sM ?_ | refine sC ?_); (conv => whnf); refine bT (by first | rfl | exact iR8 _ | exact uNN _ | exact iR (by omega) | exact iR (by rw [hw]; omega) | exact nBlt (by omega) | exact nBle (by omega) | exact roomL (by omega) rfl | exact mkOK (by omega) (by omega) (by omega) rfl | (simp; omega)) ?_) | refine bDt (by omega) ?_ | refine bDf (by omega) ?_ | refine bNt (by omega) ?_ | refine bNf (by omega) ?_ | refine call_is (letter _) ?_ | refine call_is (digit _) ?_ | refine bNf hx ?_ | refine bDt hx ?_ | refine loop_to ih ⟨i + 1, hlt, nxt (.inl hx)⟩ (show s.size - (i+1) < s.size - i by omega) ?_ | refine bD (fun _ => ?_) (fun _ => ?_) | refine bN (fun _ => ?_) (fun _ => ?_)) <;> conv => whnf)
      all_goals rw [next_i hlt (by omega)]
    · by_cases hy : digP (byteAt s i)
      · conv => whnf
        repeat' ((first | with_reducible refine bT rfl ?_ | with_reducible refine bF rfl ?_ | ((first | refine sN ?_ | refine sS ?_ | refine sA ?_ | refine sM ?_ | refine sC ?_); (conv => whnf); refine bT (by first | rfl | exact iR8 _ | exact uNN _ | exact iR (by omega) | exact iR (by rw [hw]; omega) | exact nBlt (by omega) | exact nBle (by omega) | exact roomL (by omega) rfl | exact mkOK (by omega) (by omega) (by omega) rfl | (simp; omega)) ?_) | refine bDt (by omega) ?_ | refine bDf (by omega) ?_ | refine bNt (by omega) ?_ | refine bNf (by omega) ?_ | refine call_is (letter _) ?_ | refine call_is (digit _) ?_ | refine bNt hx ?_ | refine bDf hx ?_ | refine bNf hy ?_ | refine bDt hy ?_ | refine loop_to ih ⟨i + 1, hlt, nxt (.inr hy)⟩ (show s.size - (i+1) < s.size - i by omega) ?_ | refine bD (fun _ => ?_) (fun _ => ?_) | refine bN (fun _ => ?_) (fun _ => ?_)) <;> conv => whnf)
        all_goals rw [next_i hlt (by omega)]
      · conv => whnf
        repeat' ((first | with_reducible refine bT rfl ?_ | with_reducible refine bF rfl ?_ | ((first | refine sN ?_ | refine sS ?_ | refine sA ?_ | refine sM ?_ | refine sC ?_); (conv => whnf); refine bT (by first | rfl | exact iR8 _ | exact uNN _ | exact iR (by omega) | exact iR (by rw [hw]; omega) | exact nBlt (by omega) | exact nBle (by omega) | exact roomL (by omega) rfl | exact mkOK (by omega) (by omega) (by omega) rfl | (simp; omega)) ?_) | refine bDt (by omega) ?_ | refine bDf (by omega) ?_ | refine bNt (by omega) ?_ | refine bNf (by omega) ?_ | refine call_is (letter _) ?_ | refine call_is (digit _) ?_ | refine bNt hx ?_ | refine bDf hx ?_ | refine bNt hy ?_ | refine bDf hy ?_ | refine bD (fun _ => ?_) (fun _ => ?_) | refine bN (fun _ => ?_) (fun _ => ?_)) <;> conv => whnf)
        exact no fun h => (h.2.2.2 i hlt).elim hx hy
  · obtain rfl : i = s.size := by omega
    conv => whnf
    repeat' ((first | with_reducible refine bT rfl ?_ | with_reducible refine bF rfl ?_ | ((first | refine sN ?_ | refine sS ?_ | refine sA ?_ | refine sM ?_ | refine sC ?_); (conv => whnf); refine bT (by first | rfl | exact iR8 _ | exact uNN _ | exact iR (by omega) | exact iR (by rw [hw]; omega) | exact nBlt (by omega) | exact nBle (by omega) | exact roomL (by omega) rfl | exact mkOK (by omega) (by omega) (by omega) rfl | (simp; omega)) ?_) | refine bDt (by omega) ?_ | refine bDf (by omega) ?_ | refine bNt (by omega) ?_ | refine bNf (by omega) ?_ | refine bD (fun _ => ?_) (fun _ => ?_) | refine bN (fun _ => ?_) (fun _ => ?_)) <;> conv => whnf)
    exact ⟨true, rfl, ⟨fun _ => ⟨h1, by omega, h3, hf⟩, fun _ => rfl⟩⟩
theorem refName (s : ByteArray) (hs : s.size ≤ 9223372036854775807) : CallOK Tryz.prog 185 [.str s] (fun r => ∃ b, r = .bool b ∧ (b = true ↔ nameP s)) := by
  have no : ¬ nameP s → ∃ b, AV.bool false = .bool b ∧ (b = true ↔ nameP s) := fun h => ⟨false, rfl, Iff.intro (fun q => absurd q (by decide)) (fun q => absurd q h)⟩
  refine okNa ?_
  conv => whnf
  repeat' ((first | with_reducible refine bT rfl ?_ | with_reducible refine bF rfl ?_ | ((first | refine sN ?_ | refine sS ?_ | refine sA ?_ | refine sM ?_ | refine sC ?_); (conv => whnf); refine bT (by first | rfl | exact iR8 _ | exact uNN _ | exact iR (by omega) | exact iR (by rw [hw]; omega) | exact nBlt (by omega) | exact nBle (by omega) | exact roomL (by omega) rfl | exact mkOK (by omega) (by omega) (by omega) rfl | (simp; omega)) ?_) | refine bDt (by omega) ?_ | refine bDf (by omega) ?_ | refine bNt (by omega) ?_ | refine bNf (by omega) ?_ | refine bD (fun _ => ?_) (fun _ => ?_) | refine bN (fun _ => ?_) (fun _ => ?_)) <;> conv => whnf)
  refine loop_by (cx := cxNa) rfl progOK (ι := {i : Nat // i ≤ s.size ∧ ∀ j, j < i → lowP (byteAt s j) ∨ (0 < j ∧ digP (byteAt s j))}) (fun i => s.size - i.1) (fun i => ⟨[(0, .str s), (3, .int .i64 i.1)], [], [], none⟩) ?_ ⟨0, Nat.zero_le _, fun j hj => absurd hj (by omega)⟩
  rintro ⟨i, hi, hf⟩ ih
  dsimp only
  by_cases hlt : i < s.size
  · have nxt : lowP (byteAt s i) ∨ (0 < i ∧ digP (byteAt s i)) → ∀ j, j < i + 1 → lowP (byteAt s j) ∨ (0 < j ∧ digP (byteAt s j)) := fun h j hj => by
      rcases Nat.lt_or_ge j i with h' | h'
      · exact hf j h'
      · rw [show j = i by omega]; exact h
    by_cases hx : lowP (byteAt s i)
    · have hx2 : (97 : Int) ≤ ((s.data.getD ((i : Int)).toNat 0).toNat : Int) ∧ ((s.data.getD ((i : Int)).toNat 0).toNat : Int) ≤ 122 := hx
      conv => whnf
      repeat' ((first | with_reducible refine bT rfl ?_ | with_reducible refine bF rfl ?_ | ((first | refine sN ?_ | refine sS ?_ | refine sA ?_ | refine sM ?_ | refine sC ?_); (conv => whnf); refine bT (by first | rfl | exact iR8 _ | exact uNN _ | exact iR (by omega) | exact iR (by rw [hw]; omega) | exact nBlt (by omega) | exact nBle (by omega) | exact roomL (by omega) rfl | exact mkOK (by omega) (by omega) (by omega) rfl | (simp; omega)) ?_) | refine bDt (by omega) ?_ | refine bDf (by omega) ?_ | refine bNt (by omega) ?_ | refine bNf (by omega) ?_ | refine loop_to ih ⟨i + 1, hlt, nxt (.inl hx)⟩ (show s.size - (i+1) < s.size - i by omega) ?_ | refine bD (fun _ => ?_) (fun _ => ?_) | refine bN (fun _ => ?_) (fun _ => ?_)) <;> conv => whnf)
      all_goals rw [next_i hlt (by omega)]
    · have hx2 : ¬ ((97 : Int) ≤ ((s.data.getD ((i : Int)).toNat 0).toNat : Int) ∧ ((s.data.getD ((i : Int)).toNat 0).toNat : Int) ≤ 122) := hx
      by_cases hy : 0 < i ∧ digP (byteAt s i)
      · have hy2 : (48 : Int) ≤ ((s.data.getD ((i : Int)).toNat 0).toNat : Int) ∧ ((s.data.getD ((i : Int)).toNat 0).toNat : Int) ≤ 57 := hy.2
        have hy1 := hy.1
        conv => whnf
        repeat' ((first | with_reducible refine bT rfl ?_ | with_reducible refine bF rfl ?_ | ((first | refine sN ?_ | refine sS ?_ | refine sA ?_ | refine sM ?_ | refine sC ?_); (conv => whnf); refine bT (by first | rfl | exact iR8 _ | exact uNN _ | exact iR (by omega) | exact iR (by rw [hw]; omega) | exact nBlt (by omega) | exact nBle (by omega) | exact roomL (by omega) rfl | exact mkOK (by omega) (by omega) (by omega) rfl | (simp; omega)) ?_) | refine bDt (by omega) ?_ | refine bDf (by omega) ?_ | refine bNt (by omega) ?_ | refine bNf (by omega) ?_ | refine loop_to ih ⟨i + 1, hlt, nxt (.inr hy)⟩ (show s.size - (i+1) < s.size - i by omega) ?_ | refine bD (fun _ => ?_) (fun _ => ?_) | refine bN (fun _ => ?_) (fun _ => ?_) | refine bB (fun hb => ?_) (fun hb => ?_)) <;> conv => whnf)
        all_goals first | rw [next_i hlt (by omega)] | (exfalso; omega)
      · have hy2 : ¬ (0 < i ∧ (48 : Int) ≤ ((s.data.getD ((i : Int)).toNat 0).toNat : Int) ∧ ((s.data.getD ((i : Int)).toNat 0).toNat : Int) ≤ 57) := hy
        have nb : ¬ nameP s := fun h => by
          by_cases h0 : i = 0
          · subst h0; exact hx h.2.2.1
          · exact (h.2.2.2 i hlt).elim hx (fun q => hy ⟨by omega, q⟩)
        conv => whnf
        repeat' ((first | with_reducible refine bT rfl ?_ | with_reducible refine bF rfl ?_ | ((first | refine sN ?_ | refine sS ?_ | refine sA ?_ | refine sM ?_ | refine sC ?_); (conv => whnf); refine bT (by first | rfl | exact iR8 _ | exact uNN _ | exact iR (by omega) | exact iR (by rw [hw]; omega) | exact nBlt (by omega) | exact nBle (by omega) | exact roomL (by omega) rfl | exact mkOK (by omega) (by omega) (by omega) rfl | (simp; omega)) ?_) | refine bDt (by omega) ?_ | refine bDf (by omega) ?_ | refine bNt (by omega) ?_ | refine bNf (by omega) ?_ | refine bD (fun _ => ?_) (fun _ => ?_) | refine bN (fun _ => ?_) (fun _ => ?_)) <;> conv => whnf)
        all_goals first | exact no nb | (exfalso; omega)
  · obtain rfl : i = s.size := by omega
    clear ih
    have key : 0 < s.size → s.size ≤ 12 → nameP s := fun q1 q2 => ⟨fun h => by subst h; exact absurd q1 (by decide), q2, (hf 0 q1).elim id (fun h => absurd h.1 (by omega)), fun j hj => (hf j hj).elim .inl (fun h => .inr h.2)⟩
    conv => whnf
    repeat' ((first | with_reducible refine bT rfl ?_ | with_reducible refine bF rfl ?_ | ((first | refine sN ?_ | refine sS ?_ | refine sA ?_ | refine sM ?_ | refine sC ?_); (conv => whnf); refine bT (by first | rfl | exact iR8 _ | exact uNN _ | exact iR (by omega) | exact iR (by rw [hw]; omega) | exact nBlt (by omega) | exact nBle (by omega) | exact roomL (by omega) rfl | exact mkOK (by omega) (by omega) (by omega) rfl | (simp; omega)) ?_) | refine bDt (by omega) ?_ | refine bDf (by omega) ?_ | refine bNt (by omega) ?_ | refine bNf (by omega) ?_ | refine bD (fun _ => ?_) (fun _ => ?_) | refine bN (fun _ => ?_) (fun _ => ?_)) <;> conv => whnf)
    · exact ⟨decide ((s.size : Int) ≤ 12), rfl, Iff.intro (fun h => key (by omega) (by have := of_decide_eq_true h; omega)) (fun h => decide_eq_true (by have := h.2.1; omega))⟩
    · exact no fun h => by have := size0 h.1; omega
end Go.Proofs

namespace Go.Proofs
open Ax Go
set_option maxRecDepth 10000
def keepPr (f r : Nat) : Option (List Nat) := match f, r with
  | 78, 4 => some [0, 9, 10, 11]
  | 93, 4 => some [0, 3]
  | 246, 2 => some [1, 4, 9, 10, 11]
  | 183, 2 => some [0, 1, 4, 6]
  | _, _ => none
def keepXPr (f r : Nat) : Option (List Nat) := match f, r with
  | 78, 4 => some [2]
  | 93, 4 => some [2]
  | 246, 2 => some [4, 5]
  | 183, 2 => some [4, 5]
  | _, _ => none
noncomputable def cxPr : Ctx where
  P := Tryz.prog
  inl := fun f => memN f [246, 247]
  keep := keepPr
  keepX := keepXPr
  xf := fun _ _ _ => false
  ow := fun _ => false
  gh := fun _ _ => []
  gf := fun _ => []
  ln := fun _ => false
  srt := srtT
theorem okPr {f a Q} (h : stepCall (SX Tryz.prog calmT) cxPr calmT f a Q) : CallOK Tryz.prog f a Q := okOf (cx := cxPr) rfl progOK h
instance (s : ByteArray) : Decidable (nameP s) := inferInstanceAs (Decidable (_ ∧ _ ∧ _ ∧ _))
def prE (p : Pr) : Int :=
  if nameP p.n then (if 0 ≤ p.c ∧ p.c ≤ 7 then (if 1 ≤ p.m ∧ p.m ≤ 4096 then (if 1 ≤ p.t ∧ p.t ≤ 16777216 then
    (if (-16777216 ≤ p.lo ∧ p.lo ≤ 16777216) ∧ (-16777216 ≤ p.hi ∧ p.hi ≤ 16777216) ∧ p.lo ≤ p.hi ∧ p.lo.tmod p.t = 0 ∧ p.hi.tmod p.t = 0 then 0 else 17) else 16) else 2) else 25) else 10
theorem within (n m : Int) (hm : 0 ≤ m ∧ m ≤ 1073741824) : CallOK Tryz.prog 255 [.int .i64 n, .int .i64 m] (fun r => r = .bool (decide (-m ≤ n ∧ n ≤ m))) := by
  have e : IntKind.i64.wrap (0 - m) = -m := by rw [wrap64 (by omega)]; omega
  refine okPr ?_
  conv => whnf
  repeat' ((first | with_reducible refine bT rfl ?_ | with_reducible refine bF rfl ?_ | ((first | refine sN ?_ | refine sS ?_ | refine sA ?_ | refine sM ?_ | refine sC ?_); (conv => whnf); refine bT (by first | rfl | exact iR8 _ | exact uNN _ | exact iR (by omega) | exact iR (by rw [hw]; omega) | exact nBlt (by omega) | exact nBle (by omega) | exact roomL (by omega) rfl | exact mkOK (by omega) (by omega) (by omega) rfl | (simp; omega)) ?_) | refine bDt (by omega) ?_ | refine bDf (by omega) ?_ | refine bNt (by omega) ?_ | refine bNf (by omega) ?_ | refine bD (fun _ => ?_) (fun _ => ?_) | refine bN (fun _ => ?_) (fun _ => ?_)) <;> conv => whnf)
  all_goals rw [e] at *
  · exact congrArg AV.bool (decide_eq_decide.2 (by omega))
  · exact congrArg AV.bool (decide_eq_false (by omega)).symm
theorem refWithin (n a b : Int) : CallOK Tryz.prog 260 [.int .i64 n, .int .i64 a, .int .i64 b] (fun r => r = .bool (decide (a ≤ n ∧ n ≤ b))) := by
  refine okPr ?_
  conv => whnf
  repeat' ((first | with_reducible refine bT rfl ?_ | with_reducible refine bF rfl ?_ | ((first | refine sN ?_ | refine sS ?_ | refine sA ?_ | refine sM ?_ | refine sC ?_); (conv => whnf); refine bT (by first | rfl | exact iR8 _ | exact uNN _ | exact iR (by omega) | exact iR (by rw [hw]; omega) | exact nBlt (by omega) | exact nBle (by omega) | exact roomL (by omega) rfl | exact mkOK (by omega) (by omega) (by omega) rfl | (simp; omega)) ?_) | refine bDt (by omega) ?_ | refine bDf (by omega) ?_ | refine bNt (by omega) ?_ | refine bNf (by omega) ?_ | refine bD (fun _ => ?_) (fun _ => ?_) | refine bN (fun _ => ?_) (fun _ => ?_)) <;> conv => whnf)
  · exact congrArg AV.bool (decide_eq_decide.2 (by omega))
  · exact congrArg AV.bool (decide_eq_false (by omega)).symm
theorem nameD (s : ByteArray) : CallOK Tryz.prog 122 [.str s] (fun r => r = .bool (decide (nameP s))) :=
  callOK_mono (fun r ⟨b, hb, h⟩ => by rw [hb, Bool.eq_iff_iff.2 (h.trans decide_eq_true_iff.symm)]) (name s)
theorem refNameD (s : ByteArray) (hs : s.size ≤ 9223372036854775807) : CallOK Tryz.prog 185 [.str s] (fun r => r = .bool (decide (nameP s))) :=
  callOK_mono (fun r ⟨b, hb, h⟩ => by rw [hb, Bool.eq_iff_iff.2 (h.trans decide_eq_true_iff.symm)]) (refName s hs)
theorem refPrCheck (p : Pr) (hs : p.n.size ≤ 9223372036854775807) : CallOK Tryz.prog 181 [encPr p] (fun r => r = .int .i64 (prE p)) := by
  refine okPr ?_
  unfold prE
  by_cases h1 : nameP p.n
  rotate_left
  · rw [if_neg h1]
    conv => whnf
    repeat' ((first | with_reducible refine bT rfl ?_ | with_reducible refine bF rfl ?_ | ((first | refine sN ?_ | refine sS ?_ | refine sA ?_ | refine sM ?_ | refine sC ?_); (conv => whnf); refine bT (by first | rfl | exact iR8 _ | exact uNN _ | exact iR (by omega) | exact iR (by rw [hw]; omega) | exact nBlt (by omega) | exact nBle (by omega) | exact roomL (by omega) rfl | exact mkOK (by omega) (by omega) (by omega) rfl | (simp; omega)) ?_) | refine bDt (by omega) ?_ | refine bDf (by omega) ?_ | refine bNt (by omega) ?_ | refine bNf (by omega) ?_ | refine call_is (refNameD _ hs) ?_ | refine bNt h1 ?_ | refine bDf h1 ?_ | refine bD (fun _ => ?_) (fun _ => ?_) | refine bN (fun _ => ?_) (fun _ => ?_)) <;> conv => whnf)
    all_goals rfl
  rw [if_pos h1]
  by_cases h2 : 0 ≤ p.c ∧ p.c ≤ 7
  rotate_left
  · rw [if_neg h2]
    conv => whnf
    repeat' ((first | with_reducible refine bT rfl ?_ | with_reducible refine bF rfl ?_ | ((first | refine sN ?_ | refine sS ?_ | refine sA ?_ | refine sM ?_ | refine sC ?_); (conv => whnf); refine bT (by first | rfl | exact iR8 _ | exact uNN _ | exact iR (by omega) | exact iR (by rw [hw]; omega) | exact nBlt (by omega) | exact nBle (by omega) | exact roomL (by omega) rfl | exact mkOK (by omega) (by omega) (by omega) rfl | (simp; omega)) ?_) | refine bDt (by omega) ?_ | refine bDf (by omega) ?_ | refine bNt (by omega) ?_ | refine bNf (by omega) ?_ | refine call_is (refNameD _ hs) ?_ | refine bNf h1 ?_ | refine bDt h1 ?_ | refine call_is (refWithin _ _ _) ?_ | refine bD (fun _ => ?_) (fun _ => ?_) | refine bN (fun _ => ?_) (fun _ => ?_)) <;> conv => whnf)
    all_goals rfl
  rw [if_pos h2]
  by_cases h3 : 1 ≤ p.m ∧ p.m ≤ 4096
  rotate_left
  · rw [if_neg h3]
    conv => whnf
    repeat' ((first | with_reducible refine bT rfl ?_ | with_reducible refine bF rfl ?_ | ((first | refine sN ?_ | refine sS ?_ | refine sA ?_ | refine sM ?_ | refine sC ?_); (conv => whnf); refine bT (by first | rfl | exact iR8 _ | exact uNN _ | exact iR (by omega) | exact iR (by rw [hw]; omega) | exact nBlt (by omega) | exact nBle (by omega) | exact roomL (by omega) rfl | exact mkOK (by omega) (by omega) (by omega) rfl | (simp; omega)) ?_) | refine bDt (by omega) ?_ | refine bDf (by omega) ?_ | refine bNt (by omega) ?_ | refine bNf (by omega) ?_ | refine call_is (refNameD _ hs) ?_ | refine bNf h1 ?_ | refine bDt h1 ?_ | refine call_is (refWithin _ _ _) ?_ | refine bD (fun _ => ?_) (fun _ => ?_) | refine bN (fun _ => ?_) (fun _ => ?_)) <;> conv => whnf)
    all_goals rfl
  rw [if_pos h3]
  by_cases h4 : 1 ≤ p.t ∧ p.t ≤ 16777216
  rotate_left
  · rw [if_neg h4]
    conv => whnf
    repeat' ((first | with_reducible refine bT rfl ?_ | with_reducible refine bF rfl ?_ | ((first | refine sN ?_ | refine sS ?_ | refine sA ?_ | refine sM ?_ | refine sC ?_); (conv => whnf); refine bT (by first | rfl | exact iR8 _ | exact uNN _ | exact iR (by omega) | exact iR (by rw [hw]; omega) | exact nBlt (by omega) | exact nBle (by omega) | exact roomL (by omega) rfl | exact mkOK (by omega) (by omega) (by omega) rfl | (simp; omega)) ?_) | refine bDt (by omega) ?_ | refine bDf (by omega) ?_ | refine bNt (by omega) ?_ | refine bNf (by omega) ?_ | refine call_is (refNameD _ hs) ?_ | refine bNf h1 ?_ | refine bDt h1 ?_ | refine call_is (refWithin _ _ _) ?_ | refine bD (fun _ => ?_) (fun _ => ?_) | refine bN (fun _ => ?_) (fun _ => ?_)) <;> conv => whnf)
    all_goals rfl
  rw [if_pos h4]
  conv => whnf
  repeat' ((first | with_reducible refine bT rfl ?_ | with_reducible refine bF rfl ?_ | ((first | refine sN ?_ | refine sS ?_ | refine sA ?_ | refine sM ?_ | refine sC ?_); (conv => whnf); refine bT (by first | rfl | exact iR8 _ | exact uNN _ | exact iR (by omega) | exact iR (by rw [hw]; omega) | exact nBlt (by omega) | exact nBle (by omega) | exact roomL (by omega) rfl | exact mkOK (by omega) (by omega) (by omega) rfl | (simp; omega)) ?_) | refine bDt (by omega) ?_ | refine bDf (by omega) ?_ | refine bNt (by omega) ?_ | refine bNf (by omega) ?_ | refine call_is (refNameD _ hs) ?_ | refine bNf h1 ?_ | refine bDt h1 ?_ | refine call_is (refWithin _ _ _) ?_ | refine bD (fun _ => ?_) (fun _ => ?_) | refine bN (fun _ => ?_) (fun _ => ?_) | refine bB (fun hb => ?_) (fun hb => ?_)) <;> conv => whnf)
  all_goals first | (rw [if_pos (by omega)]; done) | (rw [if_neg (by omega)]; done) | (rw [if_neg (by omega)]; rfl)
theorem eqPr0 (p : Pr) : ∃ b, binAV Tryz.prog .eql 138 (encPr p) (encPr ⟨ByteArray.empty, 0, 0, 0, 0, 0, false⟩) = some (.bool b) ∧ (b = true → p.n = ByteArray.empty) := by
  have h1 : Tryz.prog.eqGuardType Tryz.prog.depth 138 = false := by decide +kernel
  have h2 : Tryz.prog.stoodInHeld 138 = false := by decide +kernel
  have h3 : eqT Tryz.prog depth0 138 (encPr p) (encPr ⟨ByteArray.empty, 0, 0, 0, 0, 0, false⟩) = some (decide (p.n = ByteArray.empty) && (decide (p.c = 0) && (decide (p.m = 0) && (decide (p.t = 0) && (decide (p.lo = 0) && (decide (p.hi = 0) && ((p.ph == false) && true))))))) := by
    show (bif Tryz.prog.stoodInHeld 138 then none else _) = _
    rw [h2]; rfl
  have h4 : eqAV Tryz.prog 138 (encPr p) (encPr ⟨ByteArray.empty, 0, 0, 0, 0, 0, false⟩) = eqT Tryz.prog depth0 138 (encPr p) (encPr ⟨ByteArray.empty, 0, 0, 0, 0, 0, false⟩) := by
    show (bif Tryz.prog.eqGuardType Tryz.prog.depth 138 then none else _) = _
    rw [h1]; rfl
  refine ⟨decide (p.n = ByteArray.empty) && (decide (p.c = 0) && (decide (p.m = 0) && (decide (p.t = 0) && (decide (p.lo = 0) && (decide (p.hi = 0) && ((p.ph == false) && true)))))), ?_, fun h => ?_⟩
  rotate_left
  · rw [Bool.and_eq_true] at h; exact of_decide_eq_true h.1
  show (eqAV Tryz.prog 138 _ _).map AV.bool = _
  rw [h4, h3, Option.map_some]
set_option maxHeartbeats 4000000 in
theorem prCheck (p : Pr) : CallOK Tryz.prog 176 [encPr p] (fun r => r = .int .i64 (prE p)) := by
  refine okPr ?_
  unfold prE
  obtain ⟨b, hb, hb2⟩ := eqPr0 p
  by_cases h1 : nameP p.n
  rotate_left
  · rw [if_neg h1]
    cases b
    · conv => whnf
      repeat' ((first | with_reducible refine bT rfl ?_ | with_reducible refine bF rfl ?_ | ((first | refine sN ?_ | refine sS ?_ | refine sA ?_ | refine sM ?_ | refine sC ?_); (conv => whnf); refine bT (by first | rfl | exact iR8 _ | exact uNN _ | exact iR (by omega) | exact iR (by rw [hw]; omega) | exact nBlt (by omega) | exact nBle (by omega) | exact roomL (by omega) rfl | exact mkOK (by omega) (by omega) (by omega) rfl | (simp; omega)) ?_) | refine bDt (by omega) ?_ | refine bDf (by omega) ?_ | refine bNt (by omega) ?_ | refine bNf (by omega) ?_ | refine st_bin rfl rfl rfl hb ?_ | refine call_is (nameD _) ?_ | refine bNt h1 ?_ | refine bDf h1 ?_ | refine bD (fun _ => ?_) (fun _ => ?_) | refine bN (fun _ => ?_) (fun _ => ?_)) <;> conv => whnf)
      all_goals rfl
    · conv => whnf
      repeat' ((first | with_reducible refine bT rfl ?_ | with_reducible refine bF rfl ?_ | ((first | refine sN ?_ | refine sS ?_ | refine sA ?_ | refine sM ?_ | refine sC ?_); (conv => whnf); refine bT (by first | rfl | exact iR8 _ | exact uNN _ | exact iR (by omega) | exact iR (by rw [hw]; omega) | exact nBlt (by omega) | exact nBle (by omega) | exact roomL (by omega) rfl | exact mkOK (by omega) (by omega) (by omega) rfl | (simp; omega)) ?_) | refine bDt (by omega) ?_ | refine bDf (by omega) ?_ | refine bNt (by omega) ?_ | refine bNf (by omega) ?_ | refine st_bin rfl rfl rfl hb ?_ | refine call_is (nameD _) ?_ | refine bNt h1 ?_ | refine bDf h1 ?_ | refine bD (fun _ => ?_) (fun _ => ?_) | refine bN (fun _ => ?_) (fun _ => ?_)) <;> conv => whnf)
      all_goals rfl
  obtain rfl : b = false := by cases b with | false => rfl | true => exact absurd (hb2 rfl) h1.1
  rw [if_pos h1]
  by_cases h2 : 0 ≤ p.c ∧ p.c ≤ 7
  rotate_left
  · rw [if_neg h2]
    conv => whnf
    repeat' ((first | with_reducible refine bT rfl ?_ | with_reducible refine bF rfl ?_ | ((first | refine sN ?_ | refine sS ?_ | refine sA ?_ | refine sM ?_ | refine sC ?_); (conv => whnf); refine bT (by first | rfl | exact iR8 _ | exact uNN _ | exact iR (by omega) | exact iR (by rw [hw]; omega) | exact nBlt (by omega) | exact nBle (by omega) | exact roomL (by omega) rfl | exact mkOK (by omega) (by omega) (by omega) rfl | (simp; omega)) ?_) | refine bDt (by omega) ?_ | refine bDf (by omega) ?_ | refine bNt (by omega) ?_ | refine bNf (by omega) ?_ | refine st_bin rfl rfl rfl hb ?_ | refine call_is (nameD _) ?_ | refine bNf h1 ?_ | refine bDt h1 ?_ | refine bD (fun _ => ?_) (fun _ => ?_) | refine bN (fun _ => ?_) (fun _ => ?_)) <;> conv => whnf)
    all_goals first | rfl | (exfalso; omega)
  rw [if_pos h2]
  by_cases h3 : 1 ≤ p.m ∧ p.m ≤ 4096
  rotate_left
  · rw [if_neg h3]
    conv => whnf
    repeat' ((first | with_reducible refine bT rfl ?_ | with_reducible refine bF rfl ?_ | ((first | refine sN ?_ | refine sS ?_ | refine sA ?_ | refine sM ?_ | refine sC ?_); (conv => whnf); refine bT (by first | rfl | exact iR8 _ | exact uNN _ | exact iR (by omega) | exact iR (by rw [hw]; omega) | exact nBlt (by omega) | exact nBle (by omega) | exact roomL (by omega) rfl | exact mkOK (by omega) (by omega) (by omega) rfl | (simp; omega)) ?_) | refine bDt (by omega) ?_ | refine bDf (by omega) ?_ | refine bNt (by omega) ?_ | refine bNf (by omega) ?_ | refine st_bin rfl rfl rfl hb ?_ | refine call_is (nameD _) ?_ | refine bNf h1 ?_ | refine bDt h1 ?_ | refine bD (fun _ => ?_) (fun _ => ?_) | refine bN (fun _ => ?_) (fun _ => ?_)) <;> conv => whnf)
    all_goals first | rfl | (exfalso; omega)
  rw [if_pos h3]
  by_cases h4 : 1 ≤ p.t ∧ p.t ≤ 16777216
  rotate_left
  · rw [if_neg h4]
    conv => whnf
    repeat' ((first | with_reducible refine bT rfl ?_ | with_reducible refine bF rfl ?_ | ((first | refine sN ?_ | refine sS ?_ | refine sA ?_ | refine sM ?_ | refine sC ?_); (conv => whnf); refine bT (by first | rfl | exact iR8 _ | exact uNN _ | exact iR (by omega) | exact iR (by rw [hw]; omega) | exact nBlt (by omega) | exact nBle (by omega) | exact roomL (by omega) rfl | exact mkOK (by omega) (by omega) (by omega) rfl | (simp; omega)) ?_) | refine bDt (by omega) ?_ | refine bDf (by omega) ?_ | refine bNt (by omega) ?_ | refine bNf (by omega) ?_ | refine st_bin rfl rfl rfl hb ?_ | refine call_is (nameD _) ?_ | refine bNf h1 ?_ | refine bDt h1 ?_ | refine bD (fun _ => ?_) (fun _ => ?_) | refine bN (fun _ => ?_) (fun _ => ?_)) <;> conv => whnf)
    all_goals first | rfl | (exfalso; omega)
  rw [if_pos h4]
  conv => whnf
  repeat' ((first | with_reducible refine bT rfl ?_ | with_reducible refine bF rfl ?_ | ((first | refine sN ?_ | refine sS ?_ | refine sA ?_ | refine sM ?_ | refine sC ?_); (conv => whnf); refine bT (by first | rfl | exact iR8 _ | exact uNN _ | exact iR (by omega) | exact iR (by rw [hw]; omega) | exact nBlt (by omega) | exact nBle (by omega) | exact roomL (by omega) rfl | exact mkOK (by omega) (by omega) (by omega) rfl | (simp; omega)) ?_) | refine bDt (by omega) ?_ | refine bDf (by omega) ?_ | refine bNt (by omega) ?_ | refine bNf (by omega) ?_ | refine st_bin rfl rfl rfl hb ?_ | refine call_is (nameD _) ?_ | refine bNf h1 ?_ | refine bDt h1 ?_ | refine call_is (within _ _ (by decide)) ?_ | refine bD (fun _ => ?_) (fun _ => ?_) | refine bN (fun _ => ?_) (fun _ => ?_) | refine bB (fun hb => ?_) (fun hb => ?_)) <;> conv => whnf)
  all_goals first | (rw [if_pos (by omega)]; done) | (rw [if_neg (by omega)]; done) | (rw [if_neg (by omega)]; rfl)
def valE (p : Pr) (x q : Int) : Int × Int := if prE p = 0 then (if -33554432 ≤ x ∧ x ≤ 33554432 then (if -1048576 ≤ q ∧ q ≤ 1048576 then (IntKind.i64.wrap (IntKind.i64.wrap (x * p.m) * q), 0) else (0, 18)) else (0, 17)) else (0, prE p)
theorem value (p : Pr) (x q : Int) : CallOK Tryz.prog 242 [encPr p, .int .i64 x, .int .i64 q] (fun r => r = tup2 (valE p x q)) := by
  refine okPr ?_
  have k := prCheck p
  unfold valE
  by_cases h1 : prE p = 0
  rotate_left
  · rw [if_neg h1]
    conv => whnf
    repeat' ((first | with_reducible refine bT rfl ?_ | with_reducible refine bF rfl ?_ | ((first | refine sN ?_ | refine sS ?_ | refine sA ?_ | refine sM ?_ | refine sC ?_); (conv => whnf); refine bT (by first | rfl | exact iR8 _ | exact uNN _ | exact iR (by omega) | exact iR (by rw [hw]; omega) | exact nBlt (by omega) | exact nBle (by omega) | exact roomL (by omega) rfl | exact mkOK (by omega) (by omega) (by omega) rfl | (simp; omega)) ?_) | refine bDt (by omega) ?_ | refine bDf (by omega) ?_ | refine bNt (by omega) ?_ | refine bNf (by omega) ?_ | refine call_is k ?_ | refine bDf h1 ?_ | refine bNt h1 ?_ | refine bD (fun _ => ?_) (fun _ => ?_) | refine bN (fun _ => ?_) (fun _ => ?_)) <;> conv => whnf)
    all_goals rfl
  rw [if_pos h1]
  by_cases h2 : -33554432 ≤ x ∧ x ≤ 33554432
  rotate_left
  · rw [if_neg h2]
    conv => whnf
    repeat' ((first | with_reducible refine bT rfl ?_ | with_reducible refine bF rfl ?_ | ((first | refine sN ?_ | refine sS ?_ | refine sA ?_ | refine sM ?_ | refine sC ?_); (conv => whnf); refine bT (by first | rfl | exact iR8 _ | exact uNN _ | exact iR (by omega) | exact iR (by rw [hw]; omega) | exact nBlt (by omega) | exact nBle (by omega) | exact roomL (by omega) rfl | exact mkOK (by omega) (by omega) (by omega) rfl | (simp; omega)) ?_) | refine bDt (by omega) ?_ | refine bDf (by omega) ?_ | refine bNt (by omega) ?_ | refine bNf (by omega) ?_ | refine call_is k ?_ | refine bDt h1 ?_ | refine bNf h1 ?_ | refine call_is (within _ _ (by decide)) ?_ | refine bD (fun _ => ?_) (fun _ => ?_) | refine bN (fun _ => ?_) (fun _ => ?_)) <;> conv => whnf)
    all_goals rfl
  rw [if_pos h2]
  by_cases h3 : -1048576 ≤ q ∧ q ≤ 1048576
  · rw [if_pos h3]
    conv => whnf
    repeat' ((first | with_reducible refine bT rfl ?_ | with_reducible refine bF rfl ?_ | ((first | refine sN ?_ | refine sS ?_ | refine sA ?_ | refine sM ?_ | refine sC ?_); (conv => whnf); refine bT (by first | rfl | exact iR8 _ | exact uNN _ | exact iR (by omega) | exact iR (by rw [hw]; omega) | exact nBlt (by omega) | exact nBle (by omega) | exact roomL (by omega) rfl | exact mkOK (by omega) (by omega) (by omega) rfl | (simp; omega)) ?_) | refine bDt (by omega) ?_ | refine bDf (by omega) ?_ | refine bNt (by omega) ?_ | refine bNf (by omega) ?_ | refine call_is k ?_ | refine bDt h1 ?_ | refine bNf h1 ?_ | refine call_is (within _ _ (by decide)) ?_ | refine bD (fun _ => ?_) (fun _ => ?_) | refine bN (fun _ => ?_) (fun _ => ?_)) <;> conv => whnf)
    all_goals rfl
  · rw [if_neg h3]
    conv => whnf
    repeat' ((first | with_reducible refine bT rfl ?_ | with_reducible refine bF rfl ?_ | ((first | refine sN ?_ | refine sS ?_ | refine sA ?_ | refine sM ?_ | refine sC ?_); (conv => whnf); refine bT (by first | rfl | exact iR8 _ | exact uNN _ | exact iR (by omega) | exact iR (by rw [hw]; omega) | exact nBlt (by omega) | exact nBle (by omega) | exact roomL (by omega) rfl | exact mkOK (by omega) (by omega) (by omega) rfl | (simp; omega)) ?_) | refine bDt (by omega) ?_ | refine bDf (by omega) ?_ | refine bNt (by omega) ?_ | refine bNf (by omega) ?_ | refine call_is k ?_ | refine bDt h1 ?_ | refine bNf h1 ?_ | refine call_is (within _ _ (by decide)) ?_ | refine bD (fun _ => ?_) (fun _ => ?_) | refine bN (fun _ => ?_) (fun _ => ?_)) <;> conv => whnf)
    all_goals rfl
end Go.Proofs

namespace Go.Proofs
open Ax Go
set_option maxRecDepth 10000
set_option maxHeartbeats 4000000
def keepCk (f r : Nat) : Option (List Nat) := match f, r with
  | 178, 4 => some [8, 9, 10]
  | 184, 4 => some [0, 3]
  | 84, 4 => some [8, 9, 10]
  | 96, 4 => some [0, 3]
  | 88, 5 => some [3, 10, 11, 12]
  | 97, 5 => some [0, 3, 4]
  | 80, 4 => some [0, 10, 11, 12]
  | 80, 11 => some [0, 4, 10, 11, 12, 53, 54, 55]
  | 94, 4 => some [0, 3]
  | 182, 4 => some [2, 5]
  | 92, 2 => some [0, 3]
  | _, _ => none
def keepXCk (f r : Nat) : Option (List Nat) := match f, r with
  | 178, 4 => some [2]
  | 184, 4 => some [2]
  | 84, 4 => some [2]
  | 96, 4 => some [2]
  | 88, 5 => some [2]
  | 97, 5 => some [2]
  | 80, 4 => some [2]
  | 80, 11 => some [0, 2, 4, 10, 11, 12]
  | 94, 4 => some [2]
  | 182, 4 => some [2, 4]
  | 92, 2 => some [2]
  | _, _ => none
noncomputable def cxCk : Ctx where
  P := Tryz.prog
  inl := fun _ => false
  keep := keepCk
  keepX := keepXCk
  xf := fun _ _ _ => false
  ow := fun _ => false
  gh := fun _ _ => []
  gf := fun _ => []
  ln := fun _ => false
  srt := srtT
theorem okCk {f a Q} (h : stepCall (SX Tryz.prog calmT) cxCk calmT f a Q) : CallOK Tryz.prog f a Q := okOf (cx := cxCk) rfl progOK h
def spE1 (x : Sp) : Int := if (0 ≤ x.a ∧ x.a ≤ 73048) ∧ (0 ≤ x.b ∧ x.b ≤ 73048) ∧ ¬ x.a = x.b then (if 0 ≤ x.c ∧ x.c ≤ 68719476736 then 0 else 2) else 15
def spAt (l : List Sp) (i : Nat) : Int := spE1 (l.getD i ESp.d)
def spE (l : List Sp) : Int := if 1024 < l.length then 8 else firstE (spAt l) l.length 0
theorem tWithin (n a b : Int) : CallOK Tryz.prog 257 [.int .i64 n, .int .i64 a, .int .i64 b] (fun r => r = .bool (decide (a ≤ n ∧ n ≤ b))) := by
  refine okCk ?_
  conv => whnf
  repeat' ((first | with_reducible refine bT rfl ?_ | with_reducible refine bF rfl ?_ | ((first | refine sN ?_ | refine sS ?_ | refine sA ?_ | refine sM ?_ | refine sC ?_); (conv => whnf); refine bT (by first | rfl | exact iR8 _ | exact uNN _ | exact iR (by omega) | exact iR (by rw [hw]; omega) | exact nBlt (by omega) | exact nBle (by omega) | exact roomL (by omega) rfl | exact mkOK (by omega) (by omega) (by omega) rfl | (simp; omega)) ?_) | refine bDt (by omega) ?_ | refine bDf (by omega) ?_ | refine bNt (by omega) ?_ | refine bNf (by omega) ?_ | refine bD (fun _ => ?_) (fun _ => ?_) | refine bN (fun _ => ?_) (fun _ => ?_)) <;> conv => whnf)
  · exact congrArg AV.bool (decide_eq_decide.2 (by omega))
  · exact congrArg AV.bool (decide_eq_false (by omega)).symm
theorem spCheck (l : List Sp) (hl : l.length ≤ 9223372036854775807) : CallOK Tryz.prog 178 [ESp.L l] (fun r => r = .int .i64 (spE l)) := by
  refine okCk ?_
  by_cases hlong : 1024 < l.length
  · rw [spE, if_pos hlong]
    conv => whnf
    repeat' ((first | with_reducible refine bT rfl ?_ | with_reducible refine bF rfl ?_ | ((first | refine sN ?_ | refine sS ?_ | refine sA ?_ | refine sM ?_ | refine sC ?_); (conv => whnf); refine bT (by first | rfl | exact iR8 _ | exact uNN _ | exact iR (by omega) | exact iR (by rw [hw]; omega) | exact nBlt (by omega) | exact nBle (by omega) | exact roomL (by omega) rfl | exact mkOK (by omega) (by omega) (by omega) rfl | (simp; omega)) ?_) | refine bDt (by omega) ?_ | refine bDf (by omega) ?_ | refine bNt (by omega) ?_ | refine bNf (by omega) ?_ | refine bD (fun _ => ?_) (fun _ => ?_) | refine bN (fun _ => ?_) (fun _ => ?_)) <;> conv => whnf)
    all_goals rfl
  rw [spE, if_neg hlong]
  conv => whnf
  repeat' ((first | with_reducible refine bT rfl ?_ | with_reducible refine bF rfl ?_ | ((first | refine sN ?_ | refine sS ?_ | refine sA ?_ | refine sM ?_ | refine sC ?_); (conv => whnf); refine bT (by first | rfl | exact iR8 _ | exact uNN _ | exact iR (by omega) | exact iR (by rw [hw]; omega) | exact nBlt (by omega) | exact nBle (by omega) | exact roomL (by omega) rfl | exact mkOK (by omega) (by omega) (by omega) rfl | (simp; omega)) ?_) | refine bDt (by omega) ?_ | refine bDf (by omega) ?_ | refine bNt (by omega) ?_ | refine bNf (by omega) ?_ | refine bD (fun _ => ?_) (fun _ => ?_) | refine bN (fun _ => ?_) (fun _ => ?_)) <;> conv => whnf)
  refine loop_by (cx := cxCk) rfl progOK (ι := {i : Nat // i ≤ l.length ∧ firstE (spAt l) (l.length - i) i = firstE (spAt l) l.length 0}) (fun i => l.length - i.1) (fun i => ⟨[(8, ESp.L l), (9, .int .i64 l.length), (10, .int .i64 i.1)], [], [], none⟩) ?_ ⟨0, Nat.zero_le _, rfl⟩
  rintro ⟨i, hi, hf⟩ ih
  dsimp only at hi hf ⊢
  by_cases hlt : i < l.length
  · rw [firstE_at hlt] at hf
    rw [spAt, spE1] at hf
    by_cases h1 : (0 ≤ (l.getD i ESp.d).a ∧ (l.getD i ESp.d).a ≤ 73048) ∧ (0 ≤ (l.getD i ESp.d).b ∧ (l.getD i ESp.d).b ≤ 73048) ∧ ¬ (l.getD i ESp.d).a = (l.getD i ESp.d).b
    · rw [if_pos h1] at hf
      have h1' := h1
      rw [← Int.toNat_natCast i] at h1'
      by_cases h2 : 0 ≤ (l.getD i ESp.d).c ∧ (l.getD i ESp.d).c ≤ 68719476736
      · rw [if_pos h2, if_pos rfl] at hf
        have h2' := h2
        rw [← Int.toNat_natCast i] at h2'
        conv => whnf
        repeat' ((first | with_reducible refine bT rfl ?_ | with_reducible refine bF rfl ?_ | ((first | refine sN ?_ | refine sS ?_ | refine sA ?_ | refine sM ?_ | refine sC ?_); (conv => whnf); refine bT (by first | rfl | exact iR8 _ | exact uNN _ | exact iR (by omega) | exact iR (by rw [hw]; omega) | exact nBlt (by omega) | exact nBle (by omega) | exact roomL (by omega) rfl | exact mkOK (by omega) (by omega) (by omega) rfl | (simp; omega)) ?_) | refine bDt (by omega) ?_ | refine bDf (by omega) ?_ | refine bNt (by omega) ?_ | refine bNf (by omega) ?_ | refine call_is (tWithin _ _ _) ?_ | refine loop_to ih ⟨i + 1, hlt, hf⟩ (show l.length - (i+1) < l.length - i by omega) ?_ | refine bD (fun _ => ?_) (fun _ => ?_) | refine bN (fun _ => ?_) (fun _ => ?_)) <;> conv => whnf)
        all_goals (rw [next_i hlt (by omega)]; rfl)
      · rw [if_neg h2, if_neg (by decide)] at hf
        have h2' := h2
        rw [← Int.toNat_natCast i] at h2'
        rw [← hf]
        conv => whnf
        repeat' ((first | with_reducible refine bT rfl ?_ | with_reducible refine bF rfl ?_ | ((first | refine sN ?_ | refine sS ?_ | refine sA ?_ | refine sM ?_ | refine sC ?_); (conv => whnf); refine bT (by first | rfl | exact iR8 _ | exact uNN _ | exact iR (by omega) | exact iR (by rw [hw]; omega) | exact nBlt (by omega) | exact nBle (by omega) | exact roomL (by omega) rfl | exact mkOK (by omega) (by omega) (by omega) rfl | (simp; omega)) ?_) | refine bDt (by omega) ?_ | refine bDf (by omega) ?_ | refine bNt (by omega) ?_ | refine bNf (by omega) ?_ | refine call_is (tWithin _ _ _) ?_ | refine bD (fun _ => ?_) (fun _ => ?_) | refine bN (fun _ => ?_) (fun _ => ?_)) <;> conv => whnf)
        all_goals first | rfl | (exfalso; omega)
    · rw [if_neg h1, if_neg (by decide)] at hf
      have h1' := h1
      rw [← Int.toNat_natCast i] at h1'
      rw [← hf]
      clear ih
      conv => whnf
      repeat' ((first | with_reducible refine bT rfl ?_ | with_reducible refine bF rfl ?_ | ((first | refine sN ?_ | refine sS ?_ | refine sA ?_ | refine sM ?_ | refine sC ?_); (conv => whnf); refine bT (by first | rfl | exact iR8 _ | exact uNN _ | exact iR (by omega) | exact iR (by rw [hw]; omega) | exact nBlt (by omega) | exact nBle (by omega) | exact roomL (by omega) rfl | exact mkOK (by omega) (by omega) (by omega) rfl | (simp; omega)) ?_) | refine bDt (by omega) ?_ | refine bDf (by omega) ?_ | refine bNt (by omega) ?_ | refine bNf (by omega) ?_ | refine call_is (tWithin _ _ _) ?_ | refine bD (fun _ => ?_) (fun _ => ?_) | refine bN (fun _ => ?_) (fun _ => ?_)) <;> conv => whnf)
      all_goals first | rfl | (exfalso; omega)
  · obtain rfl : i = l.length := by omega
    rw [Nat.sub_self, firstE] at hf
    rw [← hf]
    conv => whnf
    repeat' ((first | with_reducible refine bT rfl ?_ | with_reducible refine bF rfl ?_ | ((first | refine sN ?_ | refine sS ?_ | refine sA ?_ | refine sM ?_ | refine sC ?_); (conv => whnf); refine bT (by first | rfl | exact iR8 _ | exact uNN _ | exact iR (by omega) | exact iR (by rw [hw]; omega) | exact nBlt (by omega) | exact nBle (by omega) | exact roomL (by omega) rfl | exact mkOK (by omega) (by omega) (by omega) rfl | (simp; omega)) ?_) | refine bDt (by omega) ?_ | refine bDf (by omega) ?_ | refine bNt (by omega) ?_ | refine bNf (by omega) ?_ | refine bD (fun _ => ?_) (fun _ => ?_) | refine bN (fun _ => ?_) (fun _ => ?_)) <;> conv => whnf)
    all_goals rfl
theorem refSpCheck (l : List Sp) (hl : l.length ≤ 9223372036854775807) : CallOK Tryz.prog 184 [ESp.L l] (fun r => r = .int .i64 (spE l)) := by
  refine okCk ?_
  by_cases hlong : 1024 < l.length
  · rw [spE, if_pos hlong]
    conv => whnf
    repeat' ((first | with_reducible refine bT rfl ?_ | with_reducible refine bF rfl ?_ | ((first | refine sN ?_ | refine sS ?_ | refine sA ?_ | refine sM ?_ | refine sC ?_); (conv => whnf); refine bT (by first | rfl | exact iR8 _ | exact uNN _ | exact iR (by omega) | exact iR (by rw [hw]; omega) | exact nBlt (by omega) | exact nBle (by omega) | exact roomL (by omega) rfl | exact mkOK (by omega) (by omega) (by omega) rfl | (simp; omega)) ?_) | refine bDt (by omega) ?_ | refine bDf (by omega) ?_ | refine bNt (by omega) ?_ | refine bNf (by omega) ?_ | refine bD (fun _ => ?_) (fun _ => ?_) | refine bN (fun _ => ?_) (fun _ => ?_)) <;> conv => whnf)
    all_goals rfl
  rw [spE, if_neg hlong]
  conv => whnf
  repeat' ((first | with_reducible refine bT rfl ?_ | with_reducible refine bF rfl ?_ | ((first | refine sN ?_ | refine sS ?_ | refine sA ?_ | refine sM ?_ | refine sC ?_); (conv => whnf); refine bT (by first | rfl | exact iR8 _ | exact uNN _ | exact iR (by omega) | exact iR (by rw [hw]; omega) | exact nBlt (by omega) | exact nBle (by omega) | exact roomL (by omega) rfl | exact mkOK (by omega) (by omega) (by omega) rfl | (simp; omega)) ?_) | refine bDt (by omega) ?_ | refine bDf (by omega) ?_ | refine bNt (by omega) ?_ | refine bNf (by omega) ?_ | refine bD (fun _ => ?_) (fun _ => ?_) | refine bN (fun _ => ?_) (fun _ => ?_)) <;> conv => whnf)
  refine loop_by (cx := cxCk) rfl progOK (ι := {i : Nat // i ≤ l.length ∧ firstE (spAt l) (l.length - i) i = firstE (spAt l) l.length 0}) (fun i => l.length - i.1) (fun i => ⟨[(0, ESp.L l), (3, .int .i64 i.1)], [], [], none⟩) ?_ ⟨0, Nat.zero_le _, rfl⟩
  rintro ⟨i, hi, hf⟩ ih
  dsimp only at hi hf ⊢
  by_cases hlt : i < l.length
  · rw [firstE_at hlt] at hf
    rw [spAt, spE1] at hf
    by_cases h1 : (0 ≤ (l.getD i ESp.d).a ∧ (l.getD i ESp.d).a ≤ 73048) ∧ (0 ≤ (l.getD i ESp.d).b ∧ (l.getD i ESp.d).b ≤ 73048) ∧ ¬ (l.getD i ESp.d).a = (l.getD i ESp.d).b
    · rw [if_pos h1] at hf
      have h1' := h1
      rw [← Int.toNat_natCast i] at h1'
      by_cases h2 : 0 ≤ (l.getD i ESp.d).c ∧ (l.getD i ESp.d).c ≤ 68719476736
      · rw [if_pos h2, if_pos rfl] at hf
        have h2' := h2
        rw [← Int.toNat_natCast i] at h2'
        conv => whnf
        repeat' ((first | with_reducible refine bT rfl ?_ | with_reducible refine bF rfl ?_ | ((first | refine sN ?_ | refine sS ?_ | refine sA ?_ | refine sM ?_ | refine sC ?_); (conv => whnf); refine bT (by first | rfl | exact iR8 _ | exact uNN _ | exact iR (by omega) | exact iR (by rw [hw]; omega) | exact nBlt (by omega) | exact nBle (by omega) | exact roomL (by omega) rfl | exact mkOK (by omega) (by omega) (by omega) rfl | (simp; omega)) ?_) | refine bDt (by omega) ?_ | refine bDf (by omega) ?_ | refine bNt (by omega) ?_ | refine bNf (by omega) ?_ | refine loop_to ih ⟨i + 1, hlt, hf⟩ (show l.length - (i+1) < l.length - i by omega) ?_ | refine bD (fun _ => ?_) (fun _ => ?_) | refine bN (fun _ => ?_) (fun _ => ?_)) <;> conv => whnf)
        all_goals (rw [next_i hlt (by omega)]; rfl)
      · rw [if_neg h2, if_neg (by decide)] at hf
        have h2' := h2
        rw [← Int.toNat_natCast i] at h2'
        rw [← hf]
        clear ih
        conv => whnf
        repeat' ((first | with_reducible refine bT rfl ?_ | with_reducible refine bF rfl ?_ | ((first | refine sN ?_ | refine sS ?_ | refine sA ?_ | refine sM ?_ | refine sC ?_); (conv => whnf); refine bT (by first | rfl | exact iR8 _ | exact uNN _ | exact iR (by omega) | exact iR (by rw [hw]; omega) | exact nBlt (by omega) | exact nBle (by omega) | exact roomL (by omega) rfl | exact mkOK (by omega) (by omega) (by omega) rfl | (simp; omega)) ?_) | refine bDt (by omega) ?_ | refine bDf (by omega) ?_ | refine bNt (by omega) ?_ | refine bNf (by omega) ?_ | refine bD (fun _ => ?_) (fun _ => ?_) | refine bN (fun _ => ?_) (fun _ => ?_)) <;> conv => whnf)
        all_goals first | rfl | (exfalso; omega)
    · rw [if_neg h1, if_neg (by decide)] at hf
      have h1' := h1
      rw [← Int.toNat_natCast i] at h1'
      rw [← hf]
      clear ih
      conv => whnf
      repeat' ((first | with_reducible refine bT rfl ?_ | with_reducible refine bF rfl ?_ | ((first | refine sN ?_ | refine sS ?_ | refine sA ?_ | refine sM ?_ | refine sC ?_); (conv => whnf); refine bT (by first | rfl | exact iR8 _ | exact uNN _ | exact iR (by omega) | exact iR (by rw [hw]; omega) | exact nBlt (by omega) | exact nBle (by omega) | exact roomL (by omega) rfl | exact mkOK (by omega) (by omega) (by omega) rfl | (simp; omega)) ?_) | refine bDt (by omega) ?_ | refine bDf (by omega) ?_ | refine bNt (by omega) ?_ | refine bNf (by omega) ?_ | refine bD (fun _ => ?_) (fun _ => ?_) | refine bN (fun _ => ?_) (fun _ => ?_)) <;> conv => whnf)
      all_goals first | rfl | (exfalso; omega)
  · obtain rfl : i = l.length := by omega
    rw [Nat.sub_self, firstE] at hf
    rw [← hf]
    conv => whnf
    repeat' ((first | with_reducible refine bT rfl ?_ | with_reducible refine bF rfl ?_ | ((first | refine sN ?_ | refine sS ?_ | refine sA ?_ | refine sM ?_ | refine sC ?_); (conv => whnf); refine bT (by first | rfl | exact iR8 _ | exact uNN _ | exact iR (by omega) | exact iR (by rw [hw]; omega) | exact nBlt (by omega) | exact nBle (by omega) | exact roomL (by omega) rfl | exact mkOK (by omega) (by omega) (by omega) rfl | (simp; omega)) ?_) | refine bDt (by omega) ?_ | refine bDf (by omega) ?_ | refine bNt (by omega) ?_ | refine bNf (by omega) ?_ | refine bD (fun _ => ?_) (fun _ => ?_) | refine bN (fun _ => ?_) (fun _ => ?_)) <;> conv => whnf)
    all_goals rfl
def crE1 (x : Cr) : Int := if nameP x.a ∧ nameP x.b ∧ ¬ x.a = x.b then (if (1 ≤ x.la ∧ x.la ≤ 1000) ∧ (1 ≤ x.lb ∧ x.lb ≤ 1000) ∧ (0 ≤ x.th ∧ x.th ≤ 1000) then 0 else 2) else 10
def crAt (l : List Cr) (i : Nat) : Int := crE1 (l.getD i ECr.d)
def crE (l : List Cr) : Int := if 1024 < l.length then 8 else firstE (crAt l) l.length 0
theorem iLegs (n : Int) : CallOK Tryz.prog 179 [.int .i64 n] (fun r => r = .bool (decide (1 ≤ n ∧ n ≤ 1000))) := by
  refine okCk ?_
  conv => whnf
  repeat' ((first | with_reducible refine bT rfl ?_ | with_reducible refine bF rfl ?_ | ((first | refine sN ?_ | refine sS ?_ | refine sA ?_ | refine sM ?_ | refine sC ?_); (conv => whnf); refine bT (by first | rfl | exact iR8 _ | exact uNN _ | exact iR (by omega) | exact iR (by rw [hw]; omega) | exact nBlt (by omega) | exact nBle (by omega) | exact roomL (by omega) rfl | exact mkOK (by omega) (by omega) (by omega) rfl | (simp; omega)) ?_) | refine bDt (by omega) ?_ | refine bDf (by omega) ?_ | refine bNt (by omega) ?_ | refine bNf (by omega) ?_ | refine bD (fun _ => ?_) (fun _ => ?_) | refine bN (fun _ => ?_) (fun _ => ?_)) <;> conv => whnf)
  · exact congrArg AV.bool (decide_eq_decide.2 (by omega))
  · exact congrArg AV.bool (decide_eq_false (by omega)).symm
theorem cWithin (n a b : Int) : CallOK Tryz.prog 186 [.int .i64 n, .int .i64 a, .int .i64 b] (fun r => r = .bool (decide (a ≤ n ∧ n ≤ b))) := by
  refine okCk ?_
  conv => whnf
  repeat' ((first | with_reducible refine bT rfl ?_ | with_reducible refine bF rfl ?_ | ((first | refine sN ?_ | refine sS ?_ | refine sA ?_ | refine sM ?_ | refine sC ?_); (conv => whnf); refine bT (by first | rfl | exact iR8 _ | exact uNN _ | exact iR (by omega) | exact iR (by rw [hw]; omega) | exact nBlt (by omega) | exact nBle (by omega) | exact roomL (by omega) rfl | exact mkOK (by omega) (by omega) (by omega) rfl | (simp; omega)) ?_) | refine bDt (by omega) ?_ | refine bDf (by omega) ?_ | refine bNt (by omega) ?_ | refine bNf (by omega) ?_ | refine bD (fun _ => ?_) (fun _ => ?_) | refine bN (fun _ => ?_) (fun _ => ?_)) <;> conv => whnf)
  · exact congrArg AV.bool (decide_eq_decide.2 (by omega))
  · exact congrArg AV.bool (decide_eq_false (by omega)).symm
theorem crCheck (l : List Cr) (hl : l.length ≤ 9223372036854775807) : CallOK Tryz.prog 84 [ECr.L l] (fun r => r = .int .i64 (crE l)) := by
  refine okCk ?_
  by_cases hlong : 1024 < l.length
  · rw [crE, if_pos hlong]
    conv => whnf
    repeat' ((first | with_reducible refine bT rfl ?_ | with_reducible refine bF rfl ?_ | ((first | refine sN ?_ | refine sS ?_ | refine sA ?_ | refine sM ?_ | refine sC ?_); (conv => whnf); refine bT (by first | rfl | exact iR8 _ | exact uNN _ | exact iR (by omega) | exact iR (by rw [hw]; omega) | exact nBlt (by omega) | exact nBle (by omega) | exact roomL (by omega) rfl | exact mkOK (by omega) (by omega) (by omega) rfl | (simp; omega)) ?_) | refine bDt (by omega) ?_ | refine bDf (by omega) ?_ | refine bNt (by omega) ?_ | refine bNf (by omega) ?_ | refine bD (fun _ => ?_) (fun _ => ?_) | refine bN (fun _ => ?_) (fun _ => ?_)) <;> conv => whnf)
    all_goals rfl
  rw [crE, if_neg hlong]
  conv => whnf
  repeat' ((first | with_reducible refine bT rfl ?_ | with_reducible refine bF rfl ?_ | ((first | refine sN ?_ | refine sS ?_ | refine sA ?_ | refine sM ?_ | refine sC ?_); (conv => whnf); refine bT (by first | rfl | exact iR8 _ | exact uNN _ | exact iR (by omega) | exact iR (by rw [hw]; omega) | exact nBlt (by omega) | exact nBle (by omega) | exact roomL (by omega) rfl | exact mkOK (by omega) (by omega) (by omega) rfl | (simp; omega)) ?_) | refine bDt (by omega) ?_ | refine bDf (by omega) ?_ | refine bNt (by omega) ?_ | refine bNf (by omega) ?_ | refine bD (fun _ => ?_) (fun _ => ?_) | refine bN (fun _ => ?_) (fun _ => ?_)) <;> conv => whnf)
  refine loop_by (cx := cxCk) rfl progOK (ι := {i : Nat // i ≤ l.length ∧ firstE (crAt l) (l.length - i) i = firstE (crAt l) l.length 0}) (fun i => l.length - i.1) (fun i => ⟨[(8, ECr.L l), (9, .int .i64 l.length), (10, .int .i64 i.1)], [], [], none⟩) ?_ ⟨0, Nat.zero_le _, rfl⟩
  rintro ⟨i, hi, hf⟩ ih
  dsimp only at hi hf ⊢
  by_cases hlt : i < l.length
  · rw [firstE_at hlt] at hf
    rw [crAt, crE1] at hf
    by_cases h1 : nameP (l.getD i ECr.d).a ∧ nameP (l.getD i ECr.d).b ∧ ¬ (l.getD i ECr.d).a = (l.getD i ECr.d).b
    · rw [if_pos h1] at hf
      by_cases h2 : (1 ≤ (l.getD i ECr.d).la ∧ (l.getD i ECr.d).la ≤ 1000) ∧ (1 ≤ (l.getD i ECr.d).lb ∧ (l.getD i ECr.d).lb ≤ 1000) ∧ (0 ≤ (l.getD i ECr.d).th ∧ (l.getD i ECr.d).th ≤ 1000)
      · rw [if_pos h2, if_pos rfl] at hf
        have h2' := h2
        rw [← Int.toNat_natCast i] at h2'
        conv => whnf
        repeat' ((first | with_reducible refine bT rfl ?_ | with_reducible refine bF rfl ?_ | ((first | refine sN ?_ | refine sS ?_ | refine sA ?_ | refine sM ?_ | refine sC ?_); (conv => whnf); refine bT (by first | rfl | exact iR8 _ | exact uNN _ | exact iR (by omega) | exact iR (by rw [hw]; omega) | exact nBlt (by omega) | exact nBle (by omega) | exact roomL (by omega) rfl | exact mkOK (by omega) (by omega) (by omega) rfl | (simp; omega)) ?_) | refine bDt (by omega) ?_ | refine bDf (by omega) ?_ | refine bNt (by omega) ?_ | refine bNf (by omega) ?_ | refine call_is (nameD _) ?_ | refine call_is (iLegs _) ?_ | refine bNf h1.1 ?_ | refine bNf h1.2.1 ?_ | refine bDf h1.2.2 ?_ | refine loop_to ih ⟨i + 1, hlt, hf⟩ (show l.length - (i+1) < l.length - i by omega) ?_ | refine bD (fun _ => ?_) (fun _ => ?_) | refine bN (fun _ => ?_) (fun _ => ?_)) <;> conv => whnf)
        all_goals (rw [next_i hlt (by omega)]; rfl)
      · rw [if_neg h2, if_neg (by decide)] at hf
        have h2' := h2
        rw [← Int.toNat_natCast i] at h2'
        rw [← hf]
        clear ih
        conv => whnf
        repeat' ((first | with_reducible refine bT rfl ?_ | with_reducible refine bF rfl ?_ | ((first | refine sN ?_ | refine sS ?_ | refine sA ?_ | refine sM ?_ | refine sC ?_); (conv => whnf); refine bT (by first | rfl | exact iR8 _ | exact uNN _ | exact iR (by omega) | exact iR (by rw [hw]; omega) | exact nBlt (by omega) | exact nBle (by omega) | exact roomL (by omega) rfl | exact mkOK (by omega) (by omega) (by omega) rfl | (simp; omega)) ?_) | refine bDt (by omega) ?_ | refine bDf (by omega) ?_ | refine bNt (by omega) ?_ | refine bNf (by omega) ?_ | refine call_is (nameD _) ?_ | refine call_is (iLegs _) ?_ | refine bNf h1.1 ?_ | refine bNf h1.2.1 ?_ | refine bDf h1.2.2 ?_ | refine bD (fun _ => ?_) (fun _ => ?_) | refine bN (fun _ => ?_) (fun _ => ?_)) <;> conv => whnf)
        all_goals first | rfl | (exfalso; omega)
    · rw [if_neg h1, if_neg (by decide)] at hf
      rw [← hf]
      clear ih
      conv => whnf
      repeat' ((first | with_reducible refine bT rfl ?_ | with_reducible refine bF rfl ?_ | ((first | refine sN ?_ | refine sS ?_ | refine sA ?_ | refine sM ?_ | refine sC ?_); (conv => whnf); refine bT (by first | rfl | exact iR8 _ | exact uNN _ | exact iR (by omega) | exact iR (by rw [hw]; omega) | exact nBlt (by omega) | exact nBle (by omega) | exact roomL (by omega) rfl | exact mkOK (by omega) (by omega) (by omega) rfl | (simp; omega)) ?_) | refine bDt (by omega) ?_ | refine bDf (by omega) ?_ | refine bNt (by omega) ?_ | refine bNf (by omega) ?_ | refine call_is (nameD _) ?_ | refine bD (fun _ => ?_) (fun _ => ?_) | refine bN (fun _ => ?_) (fun _ => ?_)) <;> conv => whnf)
      all_goals first | rfl | (exfalso; exact h1 ⟨by assumption, by assumption, by assumption⟩)
  · obtain rfl : i = l.length := by omega
    rw [Nat.sub_self, firstE] at hf
    rw [← hf]
    conv => whnf
    repeat' ((first | with_reducible refine bT rfl ?_ | with_reducible refine bF rfl ?_ | ((first | refine sN ?_ | refine sS ?_ | refine sA ?_ | refine sM ?_ | refine sC ?_); (conv => whnf); refine bT (by first | rfl | exact iR8 _ | exact uNN _ | exact iR (by omega) | exact iR (by rw [hw]; omega) | exact nBlt (by omega) | exact nBle (by omega) | exact roomL (by omega) rfl | exact mkOK (by omega) (by omega) (by omega) rfl | (simp; omega)) ?_) | refine bDt (by omega) ?_ | refine bDf (by omega) ?_ | refine bNt (by omega) ?_ | refine bNf (by omega) ?_ | refine bD (fun _ => ?_) (fun _ => ?_) | refine bN (fun _ => ?_) (fun _ => ?_)) <;> conv => whnf)
    all_goals rfl
theorem refCrCheck (l : List Cr) (hl : l.length ≤ 9223372036854775807) (hs : ∀ x ∈ l, x.a.size ≤ 9223372036854775807 ∧ x.b.size ≤ 9223372036854775807) : CallOK Tryz.prog 96 [ECr.L l] (fun r => r = .int .i64 (crE l)) := by
  refine okCk ?_
  by_cases hlong : 1024 < l.length
  · rw [crE, if_pos hlong]
    conv => whnf
    repeat' ((first | with_reducible refine bT rfl ?_ | with_reducible refine bF rfl ?_ | ((first | refine sN ?_ | refine sS ?_ | refine sA ?_ | refine sM ?_ | refine sC ?_); (conv => whnf); refine bT (by first | rfl | exact iR8 _ | exact uNN _ | exact iR (by omega) | exact iR (by rw [hw]; omega) | exact nBlt (by omega) | exact nBle (by omega) | exact roomL (by omega) rfl | exact mkOK (by omega) (by omega) (by omega) rfl | (simp; omega)) ?_) | refine bDt (by omega) ?_ | refine bDf (by omega) ?_ | refine bNt (by omega) ?_ | refine bNf (by omega) ?_ | refine bD (fun _ => ?_) (fun _ => ?_) | refine bN (fun _ => ?_) (fun _ => ?_)) <;> conv => whnf)
    all_goals rfl
  rw [crE, if_neg hlong]
  conv => whnf
  repeat' ((first | with_reducible refine bT rfl ?_ | with_reducible refine bF rfl ?_ | ((first | refine sN ?_ | refine sS ?_ | refine sA ?_ | refine sM ?_ | refine sC ?_); (conv => whnf); refine bT (by first | rfl | exact iR8 _ | exact uNN _ | exact iR (by omega) | exact iR (by rw [hw]; omega) | exact nBlt (by omega) | exact nBle (by omega) | exact roomL (by omega) rfl | exact mkOK (by omega) (by omega) (by omega) rfl | (simp; omega)) ?_) | refine bDt (by omega) ?_ | refine bDf (by omega) ?_ | refine bNt (by omega) ?_ | refine bNf (by omega) ?_ | refine bD (fun _ => ?_) (fun _ => ?_) | refine bN (fun _ => ?_) (fun _ => ?_)) <;> conv => whnf)
  refine loop_by (cx := cxCk) rfl progOK (ι := {i : Nat // i ≤ l.length ∧ firstE (crAt l) (l.length - i) i = firstE (crAt l) l.length 0}) (fun i => l.length - i.1) (fun i => ⟨[(0, ECr.L l), (3, .int .i64 i.1)], [], [], none⟩) ?_ ⟨0, Nat.zero_le _, rfl⟩
  rintro ⟨i, hi, hf⟩ ih
  dsimp only at hi hf ⊢
  by_cases hlt : i < l.length
  · rw [firstE_at hlt] at hf
    have hsi := hs _ (Enc.get_mem (E := ECr) hlt)
    rw [crAt, crE1] at hf
    by_cases h1 : nameP (l.getD i ECr.d).a ∧ nameP (l.getD i ECr.d).b ∧ ¬ (l.getD i ECr.d).a = (l.getD i ECr.d).b
    · rw [if_pos h1] at hf
      by_cases h2 : (1 ≤ (l.getD i ECr.d).la ∧ (l.getD i ECr.d).la ≤ 1000) ∧ (1 ≤ (l.getD i ECr.d).lb ∧ (l.getD i ECr.d).lb ≤ 1000) ∧ (0 ≤ (l.getD i ECr.d).th ∧ (l.getD i ECr.d).th ≤ 1000)
      · rw [if_pos h2, if_pos rfl] at hf
        have h2' := h2
        rw [← Int.toNat_natCast i] at h2'
        conv => whnf
        repeat' ((first | with_reducible refine bT rfl ?_ | with_reducible refine bF rfl ?_ | ((first | refine sN ?_ | refine sS ?_ | refine sA ?_ | refine sM ?_ | refine sC ?_); (conv => whnf); refine bT (by first | rfl | exact iR8 _ | exact uNN _ | exact iR (by omega) | exact iR (by rw [hw]; omega) | exact nBlt (by omega) | exact nBle (by omega) | exact roomL (by omega) rfl | exact mkOK (by omega) (by omega) (by omega) rfl | (simp; omega)) ?_) | refine bDt (by omega) ?_ | refine bDf (by omega) ?_ | refine bNt (by omega) ?_ | refine bNf (by omega) ?_ | refine call_is (refNameD _ hsi.1) ?_ | refine call_is (refNameD _ hsi.2) ?_ | refine call_is (cWithin _ _ _) ?_ | refine bNf h1.1 ?_ | refine bNf h1.2.1 ?_ | refine bDf h1.2.2 ?_ | refine loop_to ih ⟨i + 1, hlt, hf⟩ (show l.length - (i+1) < l.length - i by omega) ?_ | refine bD (fun _ => ?_) (fun _ => ?_) | refine bN (fun _ => ?_) (fun _ => ?_)) <;> conv => whnf)
        all_goals (rw [next_i hlt (by omega)]; rfl)
      · rw [if_neg h2, if_neg (by decide)] at hf
        have h2' := h2
        rw [← Int.toNat_natCast i] at h2'
        rw [← hf]
        clear ih
        conv => whnf
        repeat' ((first | with_reducible refine bT rfl ?_ | with_reducible refine bF rfl ?_ | ((first | refine sN ?_ | refine sS ?_ | refine sA ?_ | refine sM ?_ | refine sC ?_); (conv => whnf); refine bT (by first | rfl | exact iR8 _ | exact uNN _ | exact iR (by omega) | exact iR (by rw [hw]; omega) | exact nBlt (by omega) | exact nBle (by omega) | exact roomL (by omega) rfl | exact mkOK (by omega) (by omega) (by omega) rfl | (simp; omega)) ?_) | refine bDt (by omega) ?_ | refine bDf (by omega) ?_ | refine bNt (by omega) ?_ | refine bNf (by omega) ?_ | refine call_is (refNameD _ hsi.1) ?_ | refine call_is (refNameD _ hsi.2) ?_ | refine call_is (cWithin _ _ _) ?_ | refine bNf h1.1 ?_ | refine bNf h1.2.1 ?_ | refine bDf h1.2.2 ?_ | refine bD (fun _ => ?_) (fun _ => ?_) | refine bN (fun _ => ?_) (fun _ => ?_)) <;> conv => whnf)
        all_goals first | rfl | (exfalso; omega)
    · rw [if_neg h1, if_neg (by decide)] at hf
      rw [← hf]
      clear ih
      conv => whnf
      repeat' ((first | with_reducible refine bT rfl ?_ | with_reducible refine bF rfl ?_ | ((first | refine sN ?_ | refine sS ?_ | refine sA ?_ | refine sM ?_ | refine sC ?_); (conv => whnf); refine bT (by first | rfl | exact iR8 _ | exact uNN _ | exact iR (by omega) | exact iR (by rw [hw]; omega) | exact nBlt (by omega) | exact nBle (by omega) | exact roomL (by omega) rfl | exact mkOK (by omega) (by omega) (by omega) rfl | (simp; omega)) ?_) | refine bDt (by omega) ?_ | refine bDf (by omega) ?_ | refine bNt (by omega) ?_ | refine bNf (by omega) ?_ | refine call_is (refNameD _ hsi.1) ?_ | refine call_is (refNameD _ hsi.2) ?_ | refine bD (fun _ => ?_) (fun _ => ?_) | refine bN (fun _ => ?_) (fun _ => ?_)) <;> conv => whnf)
      all_goals first | rfl | (exfalso; exact h1 ⟨by assumption, by assumption, by assumption⟩)
  · obtain rfl : i = l.length := by omega
    rw [Nat.sub_self, firstE] at hf
    rw [← hf]
    conv => whnf
    repeat' ((first | with_reducible refine bT rfl ?_ | with_reducible refine bF rfl ?_ | ((first | refine sN ?_ | refine sS ?_ | refine sA ?_ | refine sM ?_ | refine sC ?_); (conv => whnf); refine bT (by first | rfl | exact iR8 _ | exact uNN _ | exact iR (by omega) | exact iR (by rw [hw]; omega) | exact nBlt (by omega) | exact nBle (by omega) | exact roomL (by omega) rfl | exact mkOK (by omega) (by omega) (by omega) rfl | (simp; omega)) ?_) | refine bDt (by omega) ?_ | refine bDf (by omega) ?_ | refine bNt (by omega) ?_ | refine bNf (by omega) ?_ | refine bD (fun _ => ?_) (fun _ => ?_) | refine bN (fun _ => ?_) (fun _ => ?_)) <;> conv => whnf)
    all_goals rfl
def stG : Sk → List Sk → Int
  | _, [] => 0
  | b, s :: r => if b.u < s.u ∧ s.u ≤ 1152921504606846976 ∧ b.r ≤ s.r ∧ s.r ≤ 68719476736 then stG s r else 2
def stE (l : List Sk) : Int := if 1024 < l.length then 8 else stG ⟨0, 0⟩ l
theorem stCheck (l : List Sk) (hl : l.length ≤ 9223372036854775807) : CallOK Tryz.prog 88 [ESk.L l] (fun r => r = .int .i64 (stE l)) := by
  refine okCk ?_
  by_cases hlong : 1024 < l.length
  · rw [stE, if_pos hlong]
    conv => whnf
    repeat' ((first | with_reducible refine bT rfl ?_ | with_reducible refine bF rfl ?_ | ((first | refine sN ?_ | refine sS ?_ | refine sA ?_ | refine sM ?_ | refine sC ?_); (conv => whnf); refine bT (by first | rfl | exact iR8 _ | exact uNN _ | exact iR (by omega) | exact iR (by rw [hw]; omega) | exact nBlt (by omega) | exact nBle (by omega) | exact roomL (by omega) rfl | exact mkOK (by omega) (by omega) (by omega) rfl | (simp; omega)) ?_) | refine bDt (by omega) ?_ | refine bDf (by omega) ?_ | refine bNt (by omega) ?_ | refine bNf (by omega) ?_ | refine bD (fun _ => ?_) (fun _ => ?_) | refine bN (fun _ => ?_) (fun _ => ?_)) <;> conv => whnf)
    all_goals rfl
  rw [stE, if_neg hlong]
  conv => whnf
  repeat' ((first | with_reducible refine bT rfl ?_ | with_reducible refine bF rfl ?_ | ((first | refine sN ?_ | refine sS ?_ | refine sA ?_ | refine sM ?_ | refine sC ?_); (conv => whnf); refine bT (by first | rfl | exact iR8 _ | exact uNN _ | exact iR (by omega) | exact iR (by rw [hw]; omega) | exact nBlt (by omega) | exact nBle (by omega) | exact roomL (by omega) rfl | exact mkOK (by omega) (by omega) (by omega) rfl | (simp; omega)) ?_) | refine bDt (by omega) ?_ | refine bDf (by omega) ?_ | refine bNt (by omega) ?_ | refine bNf (by omega) ?_ | refine bD (fun _ => ?_) (fun _ => ?_) | refine bN (fun _ => ?_) (fun _ => ?_)) <;> conv => whnf)
  refine loop_by (cx := cxCk) rfl progOK (ι := {p : Nat × Sk // p.1 ≤ l.length ∧ stG p.2 (l.drop p.1) = stG ⟨0, 0⟩ l}) (fun p => l.length - p.1.1) (fun p => ⟨[(3, .ptr 0 0), (10, ESk.L l), (11, .int .i64 l.length), (12, .int .i64 p.1.1)], [.cells [.int .i64 p.1.2.u, .int .i64 p.1.2.r]], [], none⟩) ?_ ⟨(0, ⟨0, 0⟩), Nat.zero_le _, rfl⟩
  rintro ⟨⟨i, b⟩, hi, hf⟩ ih
  dsimp only at hi hf ⊢
  by_cases hlt : i < l.length
  · rw [Enc.drop_cons (E := ESk) hlt, stG] at hf
    by_cases h1 : b.u < (l.getD i ESk.d).u ∧ (l.getD i ESk.d).u ≤ 1152921504606846976 ∧ b.r ≤ (l.getD i ESk.d).r ∧ (l.getD i ESk.d).r ≤ 68719476736
    · rw [if_pos h1] at hf
      have h1' := h1
      rw [← Int.toNat_natCast i] at h1'
      conv => whnf
      repeat' ((first | with_reducible refine bT rfl ?_ | with_reducible refine bF rfl ?_ | ((first | refine sN ?_ | refine sS ?_ | refine sA ?_ | refine sM ?_ | refine sC ?_); (conv => whnf); refine bT (by first | rfl | exact iR8 _ | exact uNN _ | exact iR (by omega) | exact iR (by rw [hw]; omega) | exact nBlt (by omega) | exact nBle (by omega) | exact roomL (by omega) rfl | exact mkOK (by omega) (by omega) (by omega) rfl | (simp; omega)) ?_) | refine bDt (by omega) ?_ | refine bDf (by omega) ?_ | refine bNt (by omega) ?_ | refine bNf (by omega) ?_ | refine loop_to ih ⟨(i + 1, l.getD i ESk.d), hlt, hf⟩ (show l.length - (i+1) < l.length - i by omega) ?_ | refine bD (fun _ => ?_) (fun _ => ?_) | refine bN (fun _ => ?_) (fun _ => ?_)) <;> conv => whnf)
      all_goals (rw [next_i hlt (by omega)]; rfl)
    · rw [if_neg h1] at hf
      have h1' := h1
      rw [← Int.toNat_natCast i] at h1'
      rw [← hf]
      clear ih
      conv => whnf
      repeat' ((first | with_reducible refine bT rfl ?_ | with_reducible refine bF rfl ?_ | ((first | refine sN ?_ | refine sS ?_ | refine sA ?_ | refine sM ?_ | refine sC ?_); (conv => whnf); refine bT (by first | rfl | exact iR8 _ | exact uNN _ | exact iR (by omega) | exact iR (by rw [hw]; omega) | exact nBlt (by omega) | exact nBle (by omega) | exact roomL (by omega) rfl | exact mkOK (by omega) (by omega) (by omega) rfl | (simp; omega)) ?_) | refine bDt (by omega) ?_ | refine bDf (by omega) ?_ | refine bNt (by omega) ?_ | refine bNf (by omega) ?_ | refine bD (fun _ => ?_) (fun _ => ?_) | refine bN (fun _ => ?_) (fun _ => ?_)) <;> conv => whnf)
      all_goals first | rfl | (exfalso; omega)
  · obtain rfl : i = l.length := by omega
    rw [List.drop_length, stG] at hf
    rw [← hf]
    conv => whnf
    repeat' ((first | with_reducible refine bT rfl ?_ | with_reducible refine bF rfl ?_ | ((first | refine sN ?_ | refine sS ?_ | refine sA ?_ | refine sM ?_ | refine sC ?_); (conv => whnf); refine bT (by first | rfl | exact iR8 _ | exact uNN _ | exact iR (by omega) | exact iR (by rw [hw]; omega) | exact nBlt (by omega) | exact nBle (by omega) | exact roomL (by omega) rfl | exact mkOK (by omega) (by omega) (by omega) rfl | (simp; omega)) ?_) | refine bDt (by omega) ?_ | refine bDf (by omega) ?_ | refine bNt (by omega) ?_ | refine bNf (by omega) ?_ | refine bD (fun _ => ?_) (fun _ => ?_) | refine bN (fun _ => ?_) (fun _ => ?_)) <;> conv => whnf)
    all_goals rfl
theorem refStCheck (l : List Sk) (hl : l.length ≤ 9223372036854775807) : CallOK Tryz.prog 97 [ESk.L l] (fun r => r = .int .i64 (stE l)) := by
  refine okCk ?_
  by_cases hlong : 1024 < l.length
  · rw [stE, if_pos hlong]
    conv => whnf
    repeat' ((first | with_reducible refine bT rfl ?_ | with_reducible refine bF rfl ?_ | ((first | refine sN ?_ | refine sS ?_ | refine sA ?_ | refine sM ?_ | refine sC ?_); (conv => whnf); refine bT (by first | rfl | exact iR8 _ | exact uNN _ | exact iR (by omega) | exact iR (by rw [hw]; omega) | exact nBlt (by omega) | exact nBle (by omega) | exact roomL (by omega) rfl | exact mkOK (by omega) (by omega) (by omega) rfl | (simp; omega)) ?_) | refine bDt (by omega) ?_ | refine bDf (by omega) ?_ | refine bNt (by omega) ?_ | refine bNf (by omega) ?_ | refine bD (fun _ => ?_) (fun _ => ?_) | refine bN (fun _ => ?_) (fun _ => ?_)) <;> conv => whnf)
    all_goals rfl
  rw [stE, if_neg hlong]
  conv => whnf
  repeat' ((first | with_reducible refine bT rfl ?_ | with_reducible refine bF rfl ?_ | ((first | refine sN ?_ | refine sS ?_ | refine sA ?_ | refine sM ?_ | refine sC ?_); (conv => whnf); refine bT (by first | rfl | exact iR8 _ | exact uNN _ | exact iR (by omega) | exact iR (by rw [hw]; omega) | exact nBlt (by omega) | exact nBle (by omega) | exact roomL (by omega) rfl | exact mkOK (by omega) (by omega) (by omega) rfl | (simp; omega)) ?_) | refine bDt (by omega) ?_ | refine bDf (by omega) ?_ | refine bNt (by omega) ?_ | refine bNf (by omega) ?_ | refine bD (fun _ => ?_) (fun _ => ?_) | refine bN (fun _ => ?_) (fun _ => ?_)) <;> conv => whnf)
  refine loop_by (cx := cxCk) rfl progOK (ι := {p : Nat × Sk // p.1 ≤ l.length ∧ stG p.2 (l.drop p.1) = stG ⟨0, 0⟩ l}) (fun p => l.length - p.1.1) (fun p => ⟨[(0, ESk.L l), (3, .ptr 0 0), (4, .int .i64 p.1.1)], [.cells [.int .i64 p.1.2.u, .int .i64 p.1.2.r]], [], none⟩) ?_ ⟨(0, ⟨0, 0⟩), Nat.zero_le _, rfl⟩
  rintro ⟨⟨i, b⟩, hi, hf⟩ ih
  dsimp only at hi hf ⊢
  by_cases hlt : i < l.length
  · rw [Enc.drop_cons (E := ESk) hlt, stG] at hf
    by_cases h1 : b.u < (l.getD i ESk.d).u ∧ (l.getD i ESk.d).u ≤ 1152921504606846976 ∧ b.r ≤ (l.getD i ESk.d).r ∧ (l.getD i ESk.d).r ≤ 68719476736
    · rw [if_pos h1] at hf
      have h1' := h1
      rw [← Int.toNat_natCast i] at h1'
      conv => whnf
      repeat' ((first | with_reducible refine bT rfl ?_ | with_reducible refine bF rfl ?_ | ((first | refine sN ?_ | refine sS ?_ | refine sA ?_ | refine sM ?_ | refine sC ?_); (conv => whnf); refine bT (by first | rfl | exact iR8 _ | exact uNN _ | exact iR (by omega) | exact iR (by rw [hw]; omega) | exact nBlt (by omega) | exact nBle (by omega) | exact roomL (by omega) rfl | exact mkOK (by omega) (by omega) (by omega) rfl | (simp; omega)) ?_) | refine bDt (by omega) ?_ | refine bDf (by omega) ?_ | refine bNt (by omega) ?_ | refine bNf (by omega) ?_ | refine loop_to ih ⟨(i + 1, l.getD i ESk.d), hlt, hf⟩ (show l.length - (i+1) < l.length - i by omega) ?_ | refine bD (fun _ => ?_) (fun _ => ?_) | refine bN (fun _ => ?_) (fun _ => ?_)) <;> conv => whnf)
      all_goals (rw [next_i hlt (by omega)]; rfl)
    · rw [if_neg h1] at hf
      have h1' := h1
      rw [← Int.toNat_natCast i] at h1'
      rw [← hf]
      clear ih
      conv => whnf
      repeat' ((first | with_reducible refine bT rfl ?_ | with_reducible refine bF rfl ?_ | ((first | refine sN ?_ | refine sS ?_ | refine sA ?_ | refine sM ?_ | refine sC ?_); (conv => whnf); refine bT (by first | rfl | exact iR8 _ | exact uNN _ | exact iR (by omega) | exact iR (by rw [hw]; omega) | exact nBlt (by omega) | exact nBle (by omega) | exact roomL (by omega) rfl | exact mkOK (by omega) (by omega) (by omega) rfl | (simp; omega)) ?_) | refine bDt (by omega) ?_ | refine bDf (by omega) ?_ | refine bNt (by omega) ?_ | refine bNf (by omega) ?_ | refine bD (fun _ => ?_) (fun _ => ?_) | refine bN (fun _ => ?_) (fun _ => ?_)) <;> conv => whnf)
      all_goals first | rfl | (exfalso; omega)
  · obtain rfl : i = l.length := by omega
    rw [List.drop_length, stG] at hf
    rw [← hf]
    conv => whnf
    repeat' ((first | with_reducible refine bT rfl ?_ | with_reducible refine bF rfl ?_ | ((first | refine sN ?_ | refine sS ?_ | refine sA ?_ | refine sM ?_ | refine sC ?_); (conv => whnf); refine bT (by first | rfl | exact iR8 _ | exact uNN _ | exact iR (by omega) | exact iR (by rw [hw]; omega) | exact nBlt (by omega) | exact nBle (by omega) | exact roomL (by omega) rfl | exact mkOK (by omega) (by omega) (by omega) rfl | (simp; omega)) ?_) | refine bDt (by omega) ?_ | refine bDf (by omega) ?_ | refine bNt (by omega) ?_ | refine bNf (by omega) ?_ | refine bD (fun _ => ?_) (fun _ => ?_) | refine bN (fun _ => ?_) (fun _ => ?_)) <;> conv => whnf)
    all_goals rfl
end Go.Proofs
