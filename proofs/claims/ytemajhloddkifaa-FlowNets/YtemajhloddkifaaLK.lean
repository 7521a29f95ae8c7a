import Derived.Shelf.SlSortCmp.WholeK
import Derived.Ground.SlsfProg
import Derived.Test.YtemajhloddkifaaProg
import Derived.Test.YtemajhloddkifaaMJ
/- The sort's layings at this dump, in plain words (written by the kit's lay-plain). -/
namespace Go.Proofs
open Go.Shelf
def Try.sortKeys_ren : Go.Shelf.Ren := ⟨fun | 6 => 31 | 15 => 49 | 14 => 48 | 28 => 63 | 29 => 64 | 20 => 55 | 21 => 56 | 22 => 57 | 23 => 58 | 24 => 59 | 25 => 60 | 26 => 61 | 27 => 62 | 46 => 65 | 47 => 66 | 48 => 67 | 49 => 68 | 50 => 69 | 57 => 70 | n => n, fun | 22 => 52 | 24 => 54 | 25 => 59 | 3 => 3 | 39 => 45 | 0 => 0 | 53 => 83 | 55 => 85 | 4 => 4 | 46 => 77 | 45 => 76 | 50 => 63 | 5 => 5 | 9 => 9 | 66 => 86 | 70 => 90 | 76 => 92 | 77 => 40 | n => n, fun | n => n⟩
theorem Try.sortKeys : Go.Proofs.SlLaysF0.n6 Try.prog Try.sortKeys_ren := {
  mixed := by kernel_rfl
  f6 := ⟨Try.f31.name, by decide, Try.func31.trans (congrArg some (by kernel_rfl))⟩
  f14 := ⟨Try.f48.name, by decide, Try.func48.trans (congrArg some (by kernel_rfl))⟩
  f15 := Try.func49.trans (congrArg some (by kernel_rfl))
  f20 := ⟨Try.f55.name, by decide, Try.func55.trans (congrArg some (by kernel_rfl))⟩
  f21 := ⟨Try.f56.name, by decide, Try.func56.trans (congrArg some (by kernel_rfl))⟩
  f22 := ⟨Try.f57.name, by decide, Try.func57.trans (congrArg some (by kernel_rfl))⟩
  f23 := ⟨Try.f58.name, by decide, Try.func58.trans (congrArg some (by kernel_rfl))⟩
  f24 := ⟨Try.f59.name, by decide, Try.func59.trans (congrArg some (by kernel_rfl))⟩
  f25 := ⟨Try.f60.name, by decide, Try.func60.trans (congrArg some (by kernel_rfl))⟩
  f26 := ⟨Try.f61.name, by decide, Try.func61.trans (congrArg some (by kernel_rfl))⟩
  f27 := ⟨Try.f62.name, by decide, Try.func62.trans (congrArg some (by kernel_rfl))⟩
  f28 := Try.func63.trans (congrArg some (by kernel_rfl))
  f29 := Try.func64.trans (congrArg some (by kernel_rfl))
  f46 := ⟨Try.f65.name, by decide, Try.func65.trans (congrArg some (by kernel_rfl))⟩
  f47 := Try.func66.trans (congrArg some (by kernel_rfl))
  f48 := Try.func67.trans (congrArg some (by kernel_rfl))
  f49 := ⟨Try.f68.name, by decide, Try.func68.trans (congrArg some (by kernel_rfl))⟩
  f50 := ⟨Try.f69.name, by decide, Try.func69.trans (congrArg some (by kernel_rfl))⟩
  f57 := ⟨Try.f70.name, by decide, Try.func70.trans (congrArg some (by kernel_rfl))⟩
  t0 := Try.underlying0
  a0 := Try.isAgg0
  z0 := Try.sizeOf0
  v0 := Try.zeroValue0
  t3 := Try.underlying3
  a3 := Try.isAgg3
  z3 := Try.sizeOf3
  v3 := Try.zeroValue3
  t4 := Try.underlying4
  a4 := Try.isAgg4
  z4 := Try.sizeOf4
  v4 := Try.zeroValue4
  t5 := Try.underlying5
  a5 := Try.isAgg5
  z5 := Try.sizeOf5
  v5 := Try.zeroValue5
  t9 := Try.underlying9
  a9 := Try.isAgg9
  z9 := Try.sizeOf9
  v9 := Try.zeroValue9
  t22 := Try.underlying52
  a22 := Try.isAgg52
  z22 := Try.sizeOf52
  v22 := Try.zeroValue52
  t25 := Try.underlying59
  a25 := Try.isAgg59
  z25 := Try.sizeOf59
  v25 := Try.zeroValue59
  t39 := Try.underlying45
  a39 := Try.isAgg45
  z39 := Try.sizeOf45
  v39 := Try.zeroValue45
  t45 := Try.underlying76
  a45 := Try.isAgg76
  z45 := Try.sizeOf76
  v45 := Try.zeroValue76
  t46 := Try.underlying77
  a46 := Try.isAgg77
  z46 := Try.sizeOf77
  v46 := Try.zeroValue77
  t50 := Try.underlying63
  a50 := Try.isAgg63
  z50 := Try.sizeOf63
  v50 := Try.zeroValue63
  t53 := Try.underlying83
  a53 := Try.isAgg83
  z53 := Try.sizeOf83
  v53 := Try.zeroValue83
  t55 := Try.underlying85
  a55 := Try.isAgg85
  z55 := Try.sizeOf85
  v55 := Try.zeroValue85
  t66 := Try.underlying86
  a66 := Try.isAgg86
  z66 := Try.sizeOf86
  v66 := Try.zeroValue86
  t70 := Try.underlying90
  a70 := Try.isAgg90
  z70 := Try.sizeOf90
  v70 := Try.zeroValue90
  t76 := Try.underlying92
  a76 := Try.isAgg92
  z76 := Try.sizeOf92
  v76 := Try.zeroValue92
  t77 := Try.underlying40
  a77 := Try.isAgg40
  z77 := Try.sizeOf40
  v77 := Try.zeroValue40 }
end Go.Proofs

namespace Go.Proofs
open Go.Shelf Go.RowKit Go.Lib Go.Sort Ax
def srtT (f : Nat) : Nat := match f with | 31 => 2 | _ => 0
def okFn (fn : Func) : Bool := match fn.body with
  | some c => !(fn.name == "runtime.NumGoroutine") && codeCalm yesCalm c
  | none => true
set_option maxRecDepth 100000
theorem okAll : Try.prog.funcs.toList.all okFn = true := by decide +kernel
theorem mixed : Try.prog.follows .mixedOrders = true := by decide +kernel
theorem prim31 : SortPrim Try.prog 31 2 := by
  have hN : NameOK Try.prog := by
    intro f fn hf hb
    have := List.all_eq_true.1 okAll fn (by rw [Array.mem_toList_iff]; exact Array.mem_of_getElem? hf)
    unfold okFn at this
    split at this
    · simp at this; simpa using this.1
    · rename_i hn; rw [hn] at hb; simp at hb
  exact sortPrim_of Try.sortKeys hN (by omega) (fun w => by rfl) (fun w => by rfl) ⟨Try.f31, Try.func31, by kernel_rfl⟩
theorem progOK : ProgOK Try.prog yesCalm srtT where
  name := by
    intro f fn hf hb
    have := List.all_eq_true.1 okAll fn (by rw [Array.mem_toList_iff]; exact Array.mem_of_getElem? hf)
    unfold okFn at this
    split at this
    · simp at this; simpa using this.1
    · rename_i hn; rw [hn] at hb; simp at hb
  mixed := mixed
  prim f h := by
    unfold srtT at h ⊢
    split at h
    · exact prim31
    · omega
  calm f fn c hf hc := by
    have := List.all_eq_true.1 okAll fn (by rw [Array.mem_toList_iff]; exact Array.mem_of_getElem? hf)
    unfold okFn at this
    rw [hc] at this
    simp at this
    exact this.2
#print axioms progOK
end Go.Proofs

namespace Go.Proofs
open Ax Go
def keepT (f r : Nat) : Option (List Nat) := match f, r with
  | 39, 4 => some [0, 18, 19]
  | 35, 3 => some [0, 4, 5, 9, 10]
  | 14, 4 => some [8, 9, 10]
  | 42, 4 => some [0, 3]
  | 15, 4 => some [0, 3]
  | 38, 3 => some [0, 1, 2, 3, 9, 10]
  | 37, 4 => some [0, 4, 5, 6]
  | 44, 8 => some [1, 2, 8, 19, 20, 21]
  | 22, 2 => some [0, 6]
  | 23, 2 => some [0, 3]
  | _, _ => none
def keepXT (f r : Nat) : Option (List Nat) := match f, r with
  | 39, 4 => some [0, 2]
  | 35, 3 => some [2, 3, 4, 5]
  | 14, 4 => some [2]
  | 42, 4 => some [2]
  | 15, 4 => some [2]
  | 38, 3 => some [9]
  | 37, 4 => some [2, 3, 4, 5]
  | 44, 8 => some [6, 7, 8]
  | 22, 2 => some [2]
  | 23, 2 => some [2]
  | _, _ => none
noncomputable def cxP : Ctx where
  P := Try.prog
  inl := fun _ => false
  keep := keepT
  keepX := keepXT
  xf := fun _ _ _ => false
  ow := fun _ => true
  gh := fun _ _ => []
  gf := fun _ => []
  ln := fun f => Nat.beq f 44
  srt := srtT
theorem okP {f a Q} (h : stepCall (SX Try.prog yesCalm) cxP yesCalm f a Q) : CallOK Try.prog f a Q := okOf (cx := cxP) rfl progOK h
set_option maxRecDepth 10000
end Go.Proofs


namespace Go.Proofs
open Ax Go
set_option maxRecDepth 10000
theorem letter (c : Int) : CallOK Try.prog 53 [.int .u8 c] (fun r => r = .bool (decide (97 ≤ c) && decide (c ≤ 122))) := by
  refine okP ?_
  conv => whnf
  repeat ((first | with_reducible refine branch_true rfl ?_ | with_reducible refine branch_false rfl ?_); conv => whnf)
  refine branch_of (fun h => ?_) (fun h => ?_)
  · conv => whnf
    repeat ((first | with_reducible refine branch_true rfl ?_ | with_reducible refine branch_false rfl ?_); conv => whnf)
    simp [h]
  · conv => whnf
    repeat ((first | with_reducible refine branch_true rfl ?_ | with_reducible refine branch_false rfl ?_); conv => whnf)
    simp [h]
theorem digit (c : Int) : CallOK Try.prog 54 [.int .u8 c] (fun r => r = .bool (decide (48 ≤ c) && decide (c ≤ 57))) := by
  refine okP ?_
  conv => whnf
  repeat ((first | with_reducible refine branch_true rfl ?_ | with_reducible refine branch_false rfl ?_); conv => whnf)
  refine branch_of (fun h => ?_) (fun h => ?_)
  · conv => whnf
    repeat ((first | with_reducible refine branch_true rfl ?_ | with_reducible refine branch_false rfl ?_); conv => whnf)
    simp [h]
  · conv => whnf
    repeat ((first | with_reducible refine branch_true rfl ?_ | with_reducible refine branch_false rfl ?_); conv => whnf)
    simp [h]
theorem fits (n : Int) : CallOK Try.prog 41 [.int .i64 n] (fun r => r = .bool (decide (-1152921504606846976 ≤ n) && decide (n ≤ 1152921504606846976))) := by
  refine okP ?_
  conv => whnf
  repeat ((first | with_reducible refine branch_true rfl ?_ | with_reducible refine branch_false rfl ?_); conv => whnf)
  refine branch_of (fun h => ?_) (fun h => ?_)
  · conv => whnf
    repeat ((first | with_reducible refine branch_true rfl ?_ | with_reducible refine branch_false rfl ?_); conv => whnf)
    simp [h]
  · conv => whnf
    repeat ((first | with_reducible refine branch_true rfl ?_ | with_reducible refine branch_false rfl ?_); conv => whnf)
    simp [h]
def fitsI (n : Int) : Bool := decide (-1152921504606846976 ≤ n) && decide (n ≤ 1152921504606846976)
theorem fitting (n : Int) : CallOK Try.prog 52 [.int .i64 n] (fun r => r = bif fitsI n then .tup [.int .i64 n, .int .i64 0] else .tup [.int .i64 0, .int .i64 3]) := by
  refine okP ?_
  conv => whnf
  repeat ((first | with_reducible refine branch_true rfl ?_ | with_reducible refine branch_false rfl ?_); conv => whnf)
  refine call_is (v := .bool (fitsI n)) (fits n) ?_
  conv => whnf
  repeat ((first | with_reducible refine branch_true rfl ?_ | with_reducible refine branch_false rfl ?_); conv => whnf)
  refine branch_of (fun h => ?_) (fun h => ?_)
  · conv => whnf
    repeat ((first | with_reducible refine branch_true rfl ?_ | with_reducible refine branch_false rfl ?_); conv => whnf)
    simp_all
  · conv => whnf
    repeat ((first | with_reducible refine branch_true rfl ?_ | with_reducible refine branch_false rfl ?_); conv => whnf)
    simp_all
def isLow (c : Int) : Bool := decide (97 ≤ c) && decide (c ≤ 122)
def isDig (c : Int) : Bool := decide (48 ≤ c) && decide (c ≤ 57)
def byteAt (s : ByteArray) (i : Nat) : Int := ((s.data.getD i 0).toNat : Int)
def nameOK (s : ByteArray) : Bool := !(decide (s = ByteArray.empty)) && decide (s.size ≤ 12) && isLow (byteAt s 0) && (List.range s.size).all fun i => isLow (byteAt s i) || isDig (byteAt s i)
theorem name (s : ByteArray) : CallOK Try.prog 39 [.str s] (fun r => r = .bool (nameOK s)) := by
  have hbad : nameOK s = false → AV.bool false = AV.bool (nameOK s) := fun h => by rw [h]
  refine okP ?_
  conv => whnf
  repeat ((first | with_reducible refine branch_true rfl ?_ | with_reducible refine branch_false rfl ?_); conv => whnf)
  refine branch_of (fun h1 => ?_) (fun h1 => ?_)
  · conv => whnf
    repeat ((first | with_reducible refine branch_true rfl ?_ | with_reducible refine branch_false rfl ?_); conv => whnf)
    refine hbad ?_
    have h1 : s = ByteArray.empty := of_decide_eq_true h1
    subst h1; rfl
  · have h1 : s ≠ ByteArray.empty := of_decide_eq_false h1
    conv => whnf
    repeat ((first | with_reducible refine branch_true rfl ?_ | with_reducible refine branch_false rfl ?_); conv => whnf)
    refine branch_of (fun h2 => ?_) (fun h2 => ?_)
    · conv => whnf
      repeat ((first | with_reducible refine branch_true rfl ?_ | with_reducible refine branch_false rfl ?_); conv => whnf)
      refine hbad ?_
      have h2 : 12 < s.size := by simp at h2; omega
      simp [nameOK, show ¬ s.size ≤ 12 by omega]
    · conv => whnf
      repeat ((first | with_reducible refine branch_true rfl ?_ | with_reducible refine branch_false rfl ?_); conv => whnf)
      have h2 : s.size ≤ 12 := by simp at h2; omega
      have h0 : 0 < s.size := by
        rcases Nat.eq_zero_or_pos s.size with h | h
        · refine absurd ?_ h1
          cases s with | mk d => simp [ByteArray.size] at h; subst h; rfl
        · exact h
      refine st_index (s := s) (n := 0) rfl rfl rfl rfl (by simp [inRange, h0]) ?_
      conv => whnf
      repeat ((first | with_reducible refine branch_true rfl ?_ | with_reducible refine branch_false rfl ?_); conv => whnf)
      refine call_is (v := .bool (isLow (byteAt s 0))) (letter _) ?_
      conv => whnf
      repeat ((first | with_reducible refine branch_true rfl ?_ | with_reducible refine branch_false rfl ?_); conv => whnf)
      refine branch_of (fun h3 => ?_) (fun h3 => ?_)
      · conv => whnf
        repeat ((first | with_reducible refine branch_true rfl ?_ | with_reducible refine branch_false rfl ?_); conv => whnf)
        refine hbad ?_
        have h3 : isLow (byteAt s 0) = false := by simpa using h3
        simp [nameOK, h3]
      · have h3 : isLow (byteAt s 0) = true := by simpa using h3
        conv => whnf
        repeat ((first | with_reducible refine branch_true rfl ?_ | with_reducible refine branch_false rfl ?_); conv => whnf)
        refine loop_by (cx := cxP) rfl progOK (ι := {i : Nat // i ≤ s.size ∧ ∀ j, j < i → (isLow (byteAt s j) || isDig (byteAt s j)) = true}) (fun i => s.size - i.1) (fun i => ⟨[(0, .str s), (18, .int .i64 s.size), (19, .int .i64 i.1)], [], [], none⟩) ?_ ⟨0, Nat.zero_le _, fun j hj => absurd hj (by omega)⟩
        rintro ⟨i, hi, hj⟩ ih
        conv => whnf
        repeat ((first | with_reducible refine branch_true rfl ?_ | with_reducible refine branch_false rfl ?_); conv => whnf)
        refine branch_of (fun g1 => ?_) (fun g1 => ?_)
        · conv => whnf
          repeat ((first | with_reducible refine branch_true rfl ?_ | with_reducible refine branch_false rfl ?_); conv => whnf)
          have g2 : i < s.size := by simpa using g1
          have next : (isLow (byteAt s i) || isDig (byteAt s i)) = true → ∀ j, j < i + 1 → (isLow (byteAt s j) || isDig (byteAt s j)) = true := fun h j hj' => by
            rcases Nat.lt_or_ge j i with h' | h'
            · exact hj j h'
            · rw [show j = i by omega]; exact h
          have hw : IntKind.i64.wrap ((i : Int) + 1) = ((i + 1 : Nat) : Int) := by rw [wrap64 (by omega)]; omega
          refine st_index (s := s) (n := i) rfl rfl rfl rfl (in_range g2) ?_
          conv => whnf
          repeat ((first | with_reducible refine branch_true rfl ?_ | with_reducible refine branch_false rfl ?_); conv => whnf)
          refine call_is (v := .bool (isLow (byteAt s i))) (letter _) ?_
          conv => whnf
          repeat ((first | with_reducible refine branch_true rfl ?_ | with_reducible refine branch_false rfl ?_); conv => whnf)
          refine branch_of (fun g3 => ?_) (fun g3 => ?_)
          · have g3 : isLow (byteAt s i) = false := by simpa using g3
            conv => whnf
            repeat ((first | with_reducible refine branch_true rfl ?_ | with_reducible refine branch_false rfl ?_); conv => whnf)
            refine st_index (s := s) (n := i) rfl rfl rfl rfl (in_range g2) ?_
            conv => whnf
            repeat ((first | with_reducible refine branch_true rfl ?_ | with_reducible refine branch_false rfl ?_); conv => whnf)
            refine call_is (v := .bool (isDig (byteAt s i))) (digit _) ?_
            conv => whnf
            repeat ((first | with_reducible refine branch_true rfl ?_ | with_reducible refine branch_false rfl ?_); conv => whnf)
            refine branch_of (fun g4 => ?_) (fun g4 => ?_)
            · have g4 : isDig (byteAt s i) = false := by simpa using g4
              conv => whnf
              repeat ((first | with_reducible refine branch_true rfl ?_ | with_reducible refine branch_false rfl ?_); conv => whnf)
              refine hbad ?_
              have : ((List.range s.size).all fun i => isLow (byteAt s i) || isDig (byteAt s i)) = false := by
                rw [List.all_eq_false]; exact ⟨i, List.mem_range.2 g2, by simp [g3, g4]⟩
              simp [nameOK, this]
            · have g4 : isDig (byteAt s i) = true := by simpa using g4
              conv => whnf
              repeat ((first | with_reducible refine branch_true rfl ?_ | with_reducible refine branch_false rfl ?_); conv => whnf)
              refine loop_to ih ⟨i + 1, g2, next (by rw [g4, Bool.or_true])⟩ (show s.size - (i + 1) < s.size - i by omega) ?_
              simp only [hw]
          · have g3 : isLow (byteAt s i) = true := by simpa using g3
            conv => whnf
            repeat ((first | with_reducible refine branch_true rfl ?_ | with_reducible refine branch_false rfl ?_); conv => whnf)
            refine loop_to ih ⟨i + 1, g2, next (by rw [g3, Bool.true_or])⟩ (show s.size - (i + 1) < s.size - i by omega) ?_
            simp only [hw]
        · conv => whnf
          repeat ((first | with_reducible refine branch_true rfl ?_ | with_reducible refine branch_false rfl ?_); conv => whnf)
          have g2 : s.size ≤ i := by simpa using g1
          have : ((List.range s.size).all fun i => isLow (byteAt s i) || isDig (byteAt s i)) = true := by
            rw [List.all_eq_true]; exact fun j hj' => hj j (by have := List.mem_range.1 hj'; omega)
          have h1' : decide (s = ByteArray.empty) = false := decide_eq_false h1
          simp only [nameOK, h1', h3, this, decide_eq_true h2, Bool.not_false, Bool.and_self]
end Go.Proofs


namespace Go.Proofs
open Ax Go
set_option maxRecDepth 10000
def curOK (c : Int) : Bool := decide (0 ≤ c) && decide (c < 8)
theorem currency (c : Int) : CallOK Try.prog 40 [.int .i64 c] (fun r => r = .bool (curOK c)) := by
  refine okP ?_
  conv => whnf
  repeat ((first | with_reducible refine branch_true rfl ?_ | with_reducible refine branch_false rfl ?_); conv => whnf)
  refine branch_of (fun h => ?_) (fun h => ?_)
  · conv => whnf
    repeat ((first | with_reducible refine branch_true rfl ?_ | with_reducible refine branch_false rfl ?_); conv => whnf)
    simp [curOK, h]
  · conv => whnf
    repeat ((first | with_reducible refine branch_true rfl ?_ | with_reducible refine branch_false rfl ?_); conv => whnf)
    simp [curOK, h]
structure Fl where
  m : ByteArray
  c : Int
  n : Int
  w : Int
def encF (f : Fl) : AV := .agg [.str f.m, .int .i64 f.c, .int .i64 f.n, .int .i64 f.w]
def encL (fl : Nat → Fl) (n : Nat) : AV := .vec 4 n fun i => encF (fl i)
def chk (f : Fl) : Int := bif nameOK f.m then (bif curOK f.c then (bif fitsI f.n then 0 else 2) else 25) else 10
def firstE (fl : Nat → Fl) : Nat → Int
  | 0 => 0
  | n + 1 => if firstE fl n = 0 then chk (fl n) else firstE fl n
def checkE (fl : Nat → Fl) (n : Nat) : Int := if 1024 < n then 8 else firstE fl n
theorem firstE_zero {fl : Nat → Fl} {n : Nat} (h : ∀ j, j < n → chk (fl j) = 0) : firstE fl n = 0 := by
  induction n with
  | zero => rfl
  | succ n ih =>
    rw [firstE, if_pos (ih fun j hj => h j (by omega))]
    exact h n (by omega)
theorem firstE_at {fl : Nat → Fl} {i n : Nat} (hi : i < n) (h : ∀ j, j < i → chk (fl j) = 0) (hn : chk (fl i) ≠ 0) : firstE fl n = chk (fl i) := by
  induction n with
  | zero => omega
  | succ n ih =>
    rw [firstE]
    by_cases e : i = n
    · subst e; rw [if_pos (firstE_zero h)]
    · rw [ih (by omega), if_neg hn]
theorem all_next {p : Nat → Prop} {i : Nat} (hj : ∀ j, j < i → p j) (h : p i) : ∀ j, j < i + 1 → p j := fun j hj' => by
  rcases Nat.lt_or_ge j i with h' | h'
  · exact hj j h'
  · rw [show j = i by omega]; exact h
theorem check (fl : Nat → Fl) (n : Nat) : CallOK Try.prog 14 [encL fl n] (fun r => r = .int .i64 (checkE fl n)) := by
  refine okP ?_
  conv => whnf
  repeat ((first | with_reducible refine branch_true rfl ?_ | with_reducible refine branch_false rfl ?_); conv => whnf)
  refine branch_of (fun h1 => ?_) (fun h1 => ?_)
  · conv => whnf
    repeat ((first | with_reducible refine branch_true rfl ?_ | with_reducible refine branch_false rfl ?_); conv => whnf)
    have h1 : 1024 < n := by simp at h1; omega
    rw [checkE, if_pos h1]
  · conv => whnf
    repeat ((first | with_reducible refine branch_true rfl ?_ | with_reducible refine branch_false rfl ?_); conv => whnf)
    have h1 : n ≤ 1024 := by simp at h1; omega
    refine loop_by (cx := cxP) rfl progOK (ι := {i : Nat // i ≤ n ∧ ∀ j, j < i → chk (fl j) = 0}) (fun i => n - i.1) (fun i => ⟨[(8, encL fl n), (9, .int .i64 n), (10, .int .i64 i.1)], [], [], none⟩) ?_ ⟨0, Nat.zero_le _, fun j hj => absurd hj (by omega)⟩
    rintro ⟨i, hi, hj⟩ ih
    have bad : i < n → chk (fl i) ≠ 0 → firstE fl n = chk (fl i) := fun h => firstE_at h hj
    conv => whnf
    repeat ((first | with_reducible refine branch_true rfl ?_ | with_reducible refine branch_false rfl ?_); conv => whnf)
    refine branch_of (fun g1 => ?_) (fun g1 => ?_)
    · conv => whnf
      repeat ((first | with_reducible refine branch_true rfl ?_ | with_reducible refine branch_false rfl ?_); conv => whnf)
      have g2 : i < n := by simpa using g1
      have hw : IntKind.i64.wrap ((i : Int) + 1) = ((i + 1 : Nat) : Int) := by rw [wrap64 (by omega)]; omega
      refine st_addr (sz := 4) (len := n) (n := i) (u := 34) (g := fun i => encF (fl i)) rfl rfl rfl rfl rfl (in_range g2) ?_
      conv => whnf
      repeat ((first | with_reducible refine branch_true rfl ?_ | with_reducible refine branch_false rfl ?_); conv => whnf)
      refine call_is (name _) ?_
      conv => whnf
      repeat ((first | with_reducible refine branch_true rfl ?_ | with_reducible refine branch_false rfl ?_); conv => whnf)
      refine branch_of (fun g3 => ?_) (fun g3 => ?_)
      · conv => whnf
        repeat ((first | with_reducible refine branch_true rfl ?_ | with_reducible refine branch_false rfl ?_); conv => whnf)
        have e : chk (fl i) = 10 := by unfold chk; simp at g3; simp [g3]
        rw [checkE, if_neg (by omega), bad g2 (by omega), e]
      · conv => whnf
        repeat ((first | with_reducible refine branch_true rfl ?_ | with_reducible refine branch_false rfl ?_); conv => whnf)
        refine call_is (currency _) ?_
        conv => whnf
        repeat ((first | with_reducible refine branch_true rfl ?_ | with_reducible refine branch_false rfl ?_); conv => whnf)
        refine branch_of (fun g4 => ?_) (fun g4 => ?_)
        · conv => whnf
          repeat ((first | with_reducible refine branch_true rfl ?_ | with_reducible refine branch_false rfl ?_); conv => whnf)
          have e : chk (fl i) = 25 := by unfold chk; simp at g3 g4; simp [g3, g4]
          rw [checkE, if_neg (by omega), bad g2 (by omega), e]
        · conv => whnf
          repeat ((first | with_reducible refine branch_true rfl ?_ | with_reducible refine branch_false rfl ?_); conv => whnf)
          refine call_is (v := .bool (fitsI (fl i).n)) (fits _) ?_
          conv => whnf
          repeat ((first | with_reducible refine branch_true rfl ?_ | with_reducible refine branch_false rfl ?_); conv => whnf)
          refine branch_of (fun g5 => ?_) (fun g5 => ?_)
          · conv => whnf
            repeat ((first | with_reducible refine branch_true rfl ?_ | with_reducible refine branch_false rfl ?_); conv => whnf)
            have e : chk (fl i) = 2 := by unfold chk; simp at g3 g4 g5; simp [g3, g4, g5]
            rw [checkE, if_neg (by omega), bad g2 (by omega), e]
          · conv => whnf
            repeat ((first | with_reducible refine branch_true rfl ?_ | with_reducible refine branch_false rfl ?_); conv => whnf)
            have e : chk (fl i) = 0 := by unfold chk; simp at g3 g4 g5; simp [g3, g4, g5]
            refine loop_to ih ⟨i + 1, g2, all_next hj e⟩ (show n - (i + 1) < n - i by omega) ?_
            simp only [hw] <;> rfl
    · conv => whnf
      repeat ((first | with_reducible refine branch_true rfl ?_ | with_reducible refine branch_false rfl ?_); conv => whnf)
      have g2 : i = n := by simp at g1; omega
      subst g2
      rw [checkE, if_neg (by omega), firstE_zero hj]
end Go.Proofs


namespace Go.Proofs
open Ax Go
theorem mask32 (x : Int) : IntKind.i64.wrap ((BitVec.ofInt 64 x &&& BitVec.ofInt 64 4294967295).toNat : Int) = x % 4294967296 := by
  have e : (BitVec.ofInt 64 x &&& BitVec.ofInt 64 4294967295).toNat = (x % 18446744073709551616).toNat % 4294967296 := by
    rw [BitVec.toNat_and, BitVec.toNat_ofInt, BitVec.toNat_ofInt]
    exact Nat.and_two_pow_sub_one_eq_mod _ 32
  rw [e]
  have h : 0 ≤ x % 18446744073709551616 := Int.emod_nonneg _ (by decide)
  simp [IntKind.wrap, IntKind.signed, IntKind.bits]
  omega
def sumZ (z : Nat → Int) : Nat → Int
  | 0 => 0
  | n + 1 => sumZ z n + z n
def highF (z : Nat → Int) : Nat → Int
  | 0 => 0
  | n + 1 => highF z n + z n / 4294967296
def lowF (z : Nat → Int) : Nat → Int
  | 0 => 0
  | n + 1 => lowF z n + z n % 4294967296
theorem parts (z : Nat → Int) (n : Nat) : sumZ z n = highF z n * 4294967296 + lowF z n := by
  induction n with
  | zero => rfl
  | succ n ih => simp only [sumZ, highF, lowF]; omega
theorem highF_b (z : Nat → Int) (n : Nat) (h : ∀ i, i < n → -1152921504606846976 ≤ z i ∧ z i ≤ 1152921504606846976) : -268435456 * (n : Int) ≤ highF z n ∧ highF z n ≤ 268435456 * (n : Int) := by
  induction n with
  | zero => simp [highF]
  | succ n ih =>
    have h1 := ih fun i hi => h i (by omega)
    have h2 := h n (by omega)
    simp only [highF]
    omega
theorem lowF_b (z : Nat → Int) (n : Nat) : 0 ≤ lowF z n ∧ lowF z n ≤ 4294967295 * (n : Int) := by
  induction n with
  | zero => simp [lowF]
  | succ n ih => simp only [lowF]; omega
def highR (z : Nat → Int) : Nat → Int
  | 0 => 0
  | n + 1 => highR z n + z n / 1073741824
def lowR (z : Nat → Int) : Nat → Int
  | 0 => 0
  | n + 1 => lowR z n + z n % 1073741824
theorem partsR (z : Nat → Int) (n : Nat) : sumZ z n = highR z n * 1073741824 + lowR z n := by
  induction n with
  | zero => rfl
  | succ n ih => simp only [sumZ, highR, lowR]; omega
theorem highR_b (z : Nat → Int) (n : Nat) (h : ∀ i, i < n → -1152921504606846976 ≤ z i ∧ z i ≤ 1152921504606846976) : -1073741824 * (n : Int) ≤ highR z n ∧ highR z n ≤ 1073741824 * (n : Int) := by
  induction n with
  | zero => simp [highR]
  | succ n ih =>
    have h1 := ih fun i hi => h i (by omega)
    have h2 := h n (by omega)
    simp only [highR]
    omega
theorem lowR_b (z : Nat → Int) (n : Nat) : 0 ≤ lowR z n ∧ lowR z n ≤ 1073741823 * (n : Int) := by
  induction n with
  | zero => simp [lowR]
  | succ n ih => simp only [lowR]; omega
set_option maxRecDepth 10000
def sumR (s : Int) : AV := bif fitsI s then .tup [.int .i64 s, .int .i64 0] else .tup [.int .i64 0, .int .i64 3]
theorem fitsI_iff {n : Int} : fitsI n = true ↔ -1152921504606846976 ≤ n ∧ n ≤ 1152921504606846976 := by simp [fitsI]
theorem fitsI_not {n : Int} : fitsI n = false ↔ n < -1152921504606846976 ∨ 1152921504606846976 < n := by simp [fitsI]; omega
theorem st5 {v w : AV} {a a' b b' c c' : Int} (h1 : a = a') (h2 : b = b') (h3 : c = c') : St.mk [(0, v), (4, .int .i64 a), (5, .int .i64 b), (9, w), (10, .int .i64 c)] [] [] none = St.mk [(0, v), (4, .int .i64 a'), (5, .int .i64 b'), (9, w), (10, .int .i64 c')] [] [] none := by
  subst h1; subst h2; subst h3; rfl
theorem shr32 (x : Int) : x.fdiv (2 ^ min (Int.toNat 32) IntKind.i64.bits) = x / 4294967296 := Int.fdiv_eq_ediv_of_nonneg x (by decide)
theorem centsSum (z : Nat → Int) (n : Nat) (hn : n ≤ 1024) (hz : ∀ i, i < n → fitsI (z i) = true) : CallOK Try.prog 35 [.vec 1 n fun i => .int .i64 (z i)] (fun r => r = sumR (sumZ z n)) := by
  have hzb : ∀ i, i < n → -1152921504606846976 ≤ z i ∧ z i ≤ 1152921504606846976 := fun i hi => fitsI_iff.1 (hz i hi)
  refine okP ?_
  conv => whnf
  repeat ((first | with_reducible refine branch_true rfl ?_ | with_reducible refine branch_false rfl ?_); conv => whnf)
  refine loop_by (cx := cxP) rfl progOK (ι := {i : Nat // i ≤ n}) (fun i => n - i.1) (fun i => ⟨[(0, .vec 1 n fun i => .int .i64 (z i)), (4, .int .i64 (highF z i.1)), (5, .int .i64 (lowF z i.1)), (9, .int .i64 n), (10, .int .i64 i.1)], [], [], none⟩) ?_ ⟨0, Nat.zero_le _⟩
  rintro ⟨i, hi⟩ ih
  have hb1 := highF_b z i (fun j hj => hzb j (by omega))
  have hb2 := lowF_b z i
  conv => whnf
  repeat ((first | with_reducible refine branch_true rfl ?_ | with_reducible refine branch_false rfl ?_); conv => whnf)
  refine branch_of (fun g1 => ?_) (fun g1 => ?_)
  · have g2 : i < n := by simpa using g1
    have hw : IntKind.i64.wrap ((i : Int) + 1) = ((i + 1 : Nat) : Int) := by rw [wrap64 (by omega)]; omega
    have hzi := hzb i g2
    have e1 : IntKind.i64.wrap (highF z i + (z i).fdiv (2 ^ min (Int.toNat 32) IntKind.i64.bits)) = highF z (i + 1) := by
      rw [shr32, wrap64 (by omega)]; rfl
    have e2 : IntKind.i64.wrap (lowF z i + IntKind.i64.wrap ((BitVec.ofInt 64 (z i) &&& BitVec.ofInt 64 4294967295).toNat : Int)) = lowF z (i + 1) := by
      rw [mask32, wrap64 (by omega)]; rfl
    conv => whnf
    repeat ((first | with_reducible refine branch_true rfl ?_ | with_reducible refine branch_false rfl ?_); conv => whnf)
    refine st_addr (sz := 1) (len := n) (n := i) (u := 3) (g := fun i => .int .i64 (z i)) rfl rfl rfl rfl rfl (in_range g2) ?_
    conv => whnf
    repeat ((first | with_reducible refine branch_true rfl ?_ | with_reducible refine branch_false rfl ?_); conv => whnf)
    refine call_is (v := .bool (fitsI (z i))) (fits _) ?_
    conv => whnf
    repeat ((first | with_reducible refine branch_true rfl ?_ | with_reducible refine branch_false rfl ?_); conv => whnf)
    refine branch_false (by rw [hz i g2]; rfl) ?_
    conv => whnf
    repeat ((first | with_reducible refine branch_true rfl ?_ | with_reducible refine branch_false rfl ?_); conv => whnf)
    refine st_addr (sz := 1) (len := n) (n := i) (u := 3) (g := fun i => .int .i64 (z i)) rfl rfl rfl rfl rfl (in_range g2) ?_
    conv => whnf
    repeat ((first | with_reducible refine branch_true rfl ?_ | with_reducible refine branch_false rfl ?_); conv => whnf)
    refine st_addr (sz := 1) (len := n) (n := i) (u := 3) (g := fun i => .int .i64 (z i)) rfl rfl rfl rfl rfl (in_range g2) ?_
    conv => whnf
    repeat ((first | with_reducible refine branch_true rfl ?_ | with_reducible refine branch_false rfl ?_); conv => whnf)
    exact loop_to ih ⟨i + 1, g2⟩ (show n - (i + 1) < n - i by omega) (st5 e1 e2 hw)
  · have g2 : i = n := by simp at g1; omega
    subst g2
    have hs := parts z i
    have e1 : IntKind.i64.wrap (highF z i + (lowF z i).fdiv (2 ^ min (Int.toNat 32) IntKind.i64.bits)) = highF z i + lowF z i / 4294967296 := by
      rw [shr32, wrap64 (by omega)]
    have e0 : IntKind.i64.wrap (0 - 268435456) = -268435456 := by rw [wrap64 (by omega)]; omega
    conv => whnf
    repeat ((first | with_reducible refine branch_true rfl ?_ | with_reducible refine branch_false rfl ?_); conv => whnf)
    refine branch_of (fun g3 => ?_) (fun g3 => ?_)
    · have g3 : highF z i + lowF z i / 4294967296 < -268435456 := by
        have := of_decide_eq_true g3
        rw [← e1, ← e0]; exact this
      conv => whnf
      repeat ((first | with_reducible refine branch_true rfl ?_ | with_reducible refine branch_false rfl ?_); conv => whnf)
      have : fitsI (sumZ z i) = false := fitsI_not.2 (.inl (by omega))
      rw [sumR, this]; rfl
    · have g3 : ¬ highF z i + lowF z i / 4294967296 < -268435456 := by
        have := of_decide_eq_false g3
        rw [← e1, ← e0]; exact this
      conv => whnf
      repeat ((first | with_reducible refine branch_true rfl ?_ | with_reducible refine branch_false rfl ?_); conv => whnf)
      refine branch_of (fun g4 => ?_) (fun g4 => ?_)
      · have g4 : 268435456 < highF z i + lowF z i / 4294967296 := by
          have : decide (268435456 < IntKind.i64.wrap (highF z i + (lowF z i).fdiv (2 ^ min (Int.toNat 32) IntKind.i64.bits))) = true := g4
          rw [e1] at this
          exact of_decide_eq_true this
        conv => whnf
        repeat ((first | with_reducible refine branch_true rfl ?_ | with_reducible refine branch_false rfl ?_); conv => whnf)
        have : fitsI (sumZ z i) = false := fitsI_not.2 (.inr (by omega))
        rw [sumR, this]; rfl
      · have g4 : ¬ 268435456 < highF z i + lowF z i / 4294967296 := by
          have : decide (268435456 < IntKind.i64.wrap (highF z i + (lowF z i).fdiv (2 ^ min (Int.toNat 32) IntKind.i64.bits))) = false := g4
          rw [e1] at this
          exact of_decide_eq_false this
        conv => whnf
        repeat ((first | with_reducible refine branch_true rfl ?_ | with_reducible refine branch_false rfl ?_); conv => whnf)
        have e3 : IntKind.i64.wrap (IntKind.i64.wrap (IntKind.i64.wrap (highF z i + (lowF z i).fdiv (2 ^ min (Int.toNat 32) IntKind.i64.bits)) * 2 ^ min (Int.toNat 32) IntKind.i64.bits) + IntKind.i64.wrap ((BitVec.ofInt 64 (lowF z i) &&& BitVec.ofInt 64 4294967295).toNat : Int)) = sumZ z i := by
          rw [e1, mask32, show ((2 : Int) ^ min (Int.toNat 32) IntKind.i64.bits) = 4294967296 by decide, wrap64 (x := _ * _) (by omega), wrap64 (by omega)]
          omega
        have hc := fitting (sumZ z i)
        rw [← e3] at hc
        cases hf : fitsI (sumZ z i) with
        | false =>
          rw [e3, hf] at hc
          rw [← e3] at hc
          refine call_is (v := .tup [.int .i64 0, .int .i64 3]) hc ?_
          conv => whnf
          repeat ((first | with_reducible refine branch_true rfl ?_ | with_reducible refine branch_false rfl ?_); conv => whnf)
          rw [sumR, hf]; rfl
        | true =>
          rw [e3, hf] at hc
          refine call_is (v := .tup [.int .i64 (sumZ z i), .int .i64 0]) (e3 ▸ hc) ?_
          conv => whnf
          repeat ((first | with_reducible refine branch_true rfl ?_ | with_reducible refine branch_false rfl ?_); conv => whnf)
          rw [sumR, hf]; rfl
end Go.Proofs


namespace Go.Proofs
open Ax Go
set_option maxRecDepth 10000

def selP (all : Bool) (m : ByteArray) (c : Int) (f : Fl) : Bool := decide (f.c = c) && (all || decide (f.m = m))
def sel (p : Fl → Bool) (fl : Nat → Fl) : Nat → List Int
  | 0 => []
  | n + 1 => if p (fl n) then sel p fl n ++ [(fl n).n] else sel p fl n
theorem sel_at {p : Fl → Bool} {fl : Nat → Fl} {i : Nat} (h : p (fl i) = true) : sel p fl (i + 1) = sel p fl i ++ [(fl i).n] := by rw [sel, if_pos h]
theorem sel_not {p : Fl → Bool} {fl : Nat → Fl} {i : Nat} (h : p (fl i) = false) : sel p fl (i + 1) = sel p fl i := by rw [sel, if_neg (by rw [h]; simp)]
theorem sel_len (p : Fl → Bool) (fl : Nat → Fl) (i : Nat) : (sel p fl i).length ≤ i := by
  induction i with
  | zero => simp [sel]
  | succ i ih => rw [sel]; split <;> (try simp) <;> omega
theorem having (fl : Nat → Fl) (n : Nat) (hn : n ≤ 1024) (all : Bool) (m : ByteArray) (c : Int) : CallOK Try.prog 38 [encL fl n, .bool all, .str m, .int .i64 c] (fun r => ∃ g, r = .vec 1 (sel (selP all m c) fl n).length g ∧ ∀ i, i < (sel (selP all m c) fl n).length → g i = .int .i64 ((sel (selP all m c) fl n).getD i 0)) := by
  refine okP ?_
  conv => whnf
  repeat ((first | with_reducible refine branch_true rfl ?_ | with_reducible refine branch_false rfl ?_); conv => whnf)
  refine loop_by (cx := cxP) rfl progOK (ι := {x : Nat × Nat × (Nat → AV) // x.1 ≤ n ∧ x.2.1 = (sel (selP all m c) fl x.1).length ∧ ∀ i, i < (sel (selP all m c) fl x.1).length → x.2.2 i = .int .i64 ((sel (selP all m c) fl x.1).getD i 0)}) (fun i => n - i.1.1) (fun x => ⟨[(0, encL fl n), (1, .bool all), (2, .str m), (3, .int .i64 c), (9, .own (.vec 1 x.1.2.1 x.1.2.2)), (10, .int .i64 x.1.1)], [], [], none⟩) ?_ ⟨⟨0, 0, _⟩, Nat.zero_le _, rfl, fun j hj => absurd hj (by simp [sel])⟩
  rintro ⟨⟨i, len, g⟩, hi, hl, hj⟩ ih
  have hi : i ≤ n := hi
  have hl : len = (sel (selP all m c) fl i).length := hl
  have hj : ∀ j, j < (sel (selP all m c) fl i).length → g j = .int .i64 ((sel (selP all m c) fl i).getD j 0) := hj
  have hlen := sel_len (selP all m c) fl i
  conv => whnf
  repeat ((first | with_reducible refine branch_true rfl ?_ | with_reducible refine branch_false rfl ?_); conv => whnf)
  refine branch_of (fun g1 => ?_) (fun g1 => ?_)
  · have g2 : i < n := by simpa using g1
    have hw : IntKind.i64.wrap ((i : Int) + 1) = ((i + 1 : Nat) : Int) := by rw [wrap64 (by omega)]; omega
    have skip : selP all m c (fl i) = false → ∀ K : St → Prop, (∀ j : {x : Nat × Nat × (Nat → AV) // x.1 ≤ n ∧ x.2.1 = (sel (selP all m c) fl x.1).length ∧ ∀ i, i < (sel (selP all m c) fl x.1).length → x.2.2 i = .int .i64 ((sel (selP all m c) fl x.1).getD i 0)}, n - j.1.1 < n - i → K (St.mk [(0, encL fl n), (1, .bool all), (2, .str m), (3, .int .i64 c), (9, .own (.vec 1 j.1.2.1 j.1.2.2)), (10, .int .i64 j.1.1)] [] [] none)) → K (St.mk [(0, encL fl n), (1, .bool all), (2, .str m), (3, .int .i64 c), (9, .own (.vec 1 len g)), (10, .int .i64 (IntKind.i64.wrap ((i : Int) + 1)))] [] [] none) := by
      intro h K hK
      rw [hw]
      exact hK ⟨(i + 1, len, g), g2, by rw [sel_not h]; exact hl, by rw [sel_not h]; exact hj⟩ (show n - (i + 1) < n - i by omega)
    have take : selP all m c (fl i) = true → ∀ K : St → Prop, (∀ j : {x : Nat × Nat × (Nat → AV) // x.1 ≤ n ∧ x.2.1 = (sel (selP all m c) fl x.1).length ∧ ∀ i, i < (sel (selP all m c) fl x.1).length → x.2.2 i = .int .i64 ((sel (selP all m c) fl x.1).getD i 0)}, n - j.1.1 < n - i → K (St.mk [(0, encL fl n), (1, .bool all), (2, .str m), (3, .int .i64 c), (9, .own (.vec 1 j.1.2.1 j.1.2.2)), (10, .int .i64 j.1.1)] [] [] none)) → K (St.mk [(0, encL fl n), (1, .bool all), (2, .str m), (3, .int .i64 c), (9, .own (.vec 1 (len + 1) (vapp (zeroElem Try.prog 3) g len (vlist (zeroElem Try.prog 3) [.int .i64 (fl i).n]) 1))), (10, .int .i64 (IntKind.i64.wrap ((i : Int) + 1)))] [] [] none) := by
      intro h K hK
      rw [hw]
      exact hK ⟨(i + 1, len + 1, vapp (zeroElem Try.prog 3) g len (vlist (zeroElem Try.prog 3) [.int .i64 (fl i).n]) 1), g2, by rw [sel_at h, List.length_append]; show len + 1 = _; rw [hl]; rfl, by rw [sel_at h]; exact vapp_at (a := .undef) hj hl rfl⟩ (show n - (i + 1) < n - i by omega)
    conv => whnf
    repeat ((first | with_reducible refine branch_true rfl ?_ | with_reducible refine branch_false rfl ?_); conv => whnf)
    refine st_addr (sz := 4) (len := n) (n := i) (u := 34) (g := fun i => encF (fl i)) rfl rfl rfl rfl rfl (in_range g2) ?_
    conv => whnf
    repeat ((first | with_reducible refine branch_true rfl ?_ | with_reducible refine branch_false rfl ?_); conv => whnf)
    refine branch_of (fun g3 => ?_) (fun g3 => ?_)
    · conv => whnf
      repeat ((first | with_reducible refine branch_true rfl ?_ | with_reducible refine branch_false rfl ?_); conv => whnf)
      refine branch_of (fun g4 => ?_) (fun g4 => ?_)
      · conv => whnf
        repeat ((first | with_reducible refine branch_true rfl ?_ | with_reducible refine branch_false rfl ?_); conv => whnf)
        refine st_addr (sz := 4) (len := n) (n := i) (u := 34) (g := fun i => encF (fl i)) rfl rfl rfl rfl rfl (in_range g2) ?_
        conv => whnf
        repeat ((first | with_reducible refine branch_true rfl ?_ | with_reducible refine branch_false rfl ?_); conv => whnf)
        refine st_append (sz := 1) (len := len) (g := g) (u := 3) (m := 1) (gg := vlist (zeroElem Try.prog 3) [.int .i64 (fl i).n]) rfl rfl rfl rfl rfl (room8 (by omega)) ?_
        conv => whnf
        repeat ((first | with_reducible refine branch_true rfl ?_ | with_reducible refine branch_false rfl ?_); conv => whnf)
        exact take (by simp [selP]; exact ⟨of_decide_eq_true g3, .inl g4⟩) (fun s => SLoop _ _ _ _ _ _ s _) ih
      · conv => whnf
        repeat ((first | with_reducible refine branch_true rfl ?_ | with_reducible refine branch_false rfl ?_); conv => whnf)
        refine st_addr (sz := 4) (len := n) (n := i) (u := 34) (g := fun i => encF (fl i)) rfl rfl rfl rfl rfl (in_range g2) ?_
        conv => whnf
        repeat ((first | with_reducible refine branch_true rfl ?_ | with_reducible refine branch_false rfl ?_); conv => whnf)
        refine branch_of (fun g5 => ?_) (fun g5 => ?_)
        · conv => whnf
          repeat ((first | with_reducible refine branch_true rfl ?_ | with_reducible refine branch_false rfl ?_); conv => whnf)
          refine st_addr (sz := 4) (len := n) (n := i) (u := 34) (g := fun i => encF (fl i)) rfl rfl rfl rfl rfl (in_range g2) ?_
          conv => whnf
          repeat ((first | with_reducible refine branch_true rfl ?_ | with_reducible refine branch_false rfl ?_); conv => whnf)
          refine st_append (sz := 1) (len := len) (g := g) (u := 3) (m := 1) (gg := vlist (zeroElem Try.prog 3) [.int .i64 (fl i).n]) rfl rfl rfl rfl rfl (room8 (by omega)) ?_
          conv => whnf
          repeat ((first | with_reducible refine branch_true rfl ?_ | with_reducible refine branch_false rfl ?_); conv => whnf)
          exact take (by simp [selP]; exact ⟨of_decide_eq_true g3, .inr (of_decide_eq_true g5)⟩) (fun s => SLoop _ _ _ _ _ _ s _) ih
        · conv => whnf
          repeat ((first | with_reducible refine branch_true rfl ?_ | with_reducible refine branch_false rfl ?_); conv => whnf)
          exact skip (by simp [selP]; exact fun _ => ⟨g4, of_decide_eq_false g5⟩) (fun s => SLoop _ _ _ _ _ _ s _) ih
    · conv => whnf
      repeat ((first | with_reducible refine branch_true rfl ?_ | with_reducible refine branch_false rfl ?_); conv => whnf)
      exact skip (by simp [selP]; exact fun h => absurd h (of_decide_eq_false g3)) (fun s => SLoop _ _ _ _ _ _ s _) ih
  · conv => whnf
    repeat ((first | with_reducible refine branch_true rfl ?_ | with_reducible refine branch_false rfl ?_); conv => whnf)
    have g2 : i = n := by simp at g1; omega
    subst g2
    exact ⟨g, congrArg (fun q => AV.vec 1 q g) hl, hj⟩
end Go.Proofs


namespace Go.Proofs
open Ax Go
set_option maxRecDepth 10000
theorem refFits (n : Int) : CallOK Try.prog 43 [.int .i64 n] (fun r => r = .bool (fitsI n)) := by
  refine okP ?_
  conv => whnf
  repeat ((first | with_reducible refine branch_true rfl ?_ | with_reducible refine branch_false rfl ?_); conv => whnf)
  refine branch_of (fun h => ?_) (fun h => ?_)
  · conv => whnf
    repeat ((first | with_reducible refine branch_true rfl ?_ | with_reducible refine branch_false rfl ?_); conv => whnf)
    simp [fitsI, h]
  · conv => whnf
    repeat ((first | with_reducible refine branch_true rfl ?_ | with_reducible refine branch_false rfl ?_); conv => whnf)
    simp [fitsI, h]
theorem isLow_of {c : Int} (h1 : 97 ≤ c) (h2 : c ≤ 122) : isLow c = true := by simp [isLow]; omega
theorem not_low {c : Int} (h : c < 97 ∨ 122 < c) : isLow c = false := by simp [isLow]; omega
theorem isDig_of {c : Int} (h1 : 48 ≤ c) (h2 : c ≤ 57) : isDig c = true := by simp [isDig]; omega
theorem not_dig {c : Int} (h : c < 48 ∨ 57 < c) : isDig c = false := by simp [isDig]; omega
theorem refName (s : ByteArray) : CallOK Try.prog 42 [.str s] (fun r => r = .bool (nameOK s)) := by
  have hbad : nameOK s = false → AV.bool false = AV.bool (nameOK s) := fun h => by rw [h]
  refine okP ?_
  conv => whnf
  repeat ((first | with_reducible refine branch_true rfl ?_ | with_reducible refine branch_false rfl ?_); conv => whnf)
  refine branch_of (fun h1 => ?_) (fun h1 => ?_)
  · conv => whnf
    repeat ((first | with_reducible refine branch_true rfl ?_ | with_reducible refine branch_false rfl ?_); conv => whnf)
    refine hbad ?_
    have h1 : s = ByteArray.empty := of_decide_eq_true h1
    subst h1; rfl
  · have h1 : s ≠ ByteArray.empty := of_decide_eq_false h1
    conv => whnf
    repeat ((first | with_reducible refine branch_true rfl ?_ | with_reducible refine branch_false rfl ?_); conv => whnf)
    refine branch_of (fun h2 => ?_) (fun h2 => ?_)
    · conv => whnf
      repeat ((first | with_reducible refine branch_true rfl ?_ | with_reducible refine branch_false rfl ?_); conv => whnf)
      refine hbad ?_
      have h2 : 12 < s.size := by simp at h2; omega
      simp [nameOK, show ¬ s.size ≤ 12 by omega]
    · have h2 : s.size ≤ 12 := by simp at h2; omega
      conv => whnf
      repeat ((first | with_reducible refine branch_true rfl ?_ | with_reducible refine branch_false rfl ?_); conv => whnf)
      have h0 : 0 < s.size := by
        rcases Nat.eq_zero_or_pos s.size with h | h
        · refine absurd ?_ h1
          cases s with | mk d => simp [ByteArray.size] at h; subst h; rfl
        · exact h
      refine st_index (s := s) (n := 0) rfl rfl rfl rfl (by simp [inRange, h0]) ?_
      conv => whnf
      repeat ((first | with_reducible refine branch_true rfl ?_ | with_reducible refine branch_false rfl ?_); conv => whnf)
      refine branch_of (fun h3 => ?_) (fun h3 => ?_)
      · have h3 : byteAt s 0 < 97 := of_decide_eq_true h3
        conv => whnf
        repeat ((first | with_reducible refine branch_true rfl ?_ | with_reducible refine branch_false rfl ?_); conv => whnf)
        refine hbad ?_
        simp [nameOK, not_low (.inl h3)]
      · have h3 : ¬ byteAt s 0 < 97 := of_decide_eq_false h3
        conv => whnf
        repeat ((first | with_reducible refine branch_true rfl ?_ | with_reducible refine branch_false rfl ?_); conv => whnf)
        refine st_index (s := s) (n := 0) rfl rfl rfl rfl (by simp [inRange, h0]) ?_
        conv => whnf
        repeat ((first | with_reducible refine branch_true rfl ?_ | with_reducible refine branch_false rfl ?_); conv => whnf)
        refine branch_of (fun h4 => ?_) (fun h4 => ?_)
        · have h4 : 122 < byteAt s 0 := of_decide_eq_true h4
          conv => whnf
          repeat ((first | with_reducible refine branch_true rfl ?_ | with_reducible refine branch_false rfl ?_); conv => whnf)
          refine hbad ?_
          simp [nameOK, not_low (.inr h4)]
        · have h4 : ¬ 122 < byteAt s 0 := of_decide_eq_false h4
          have h5 := isLow_of (c := byteAt s 0) (by omega) (by omega)
          conv => whnf
          repeat ((first | with_reducible refine branch_true rfl ?_ | with_reducible refine branch_false rfl ?_); conv => whnf)
          refine loop_by (cx := cxP) rfl progOK (ι := {i : Nat // i ≤ s.size ∧ ∀ j, j < i → (isLow (byteAt s j) || isDig (byteAt s j)) = true}) (fun i => s.size - i.1) (fun i => ⟨[(0, .str s), (3, .int .i64 i.1)], [], [], none⟩) ?_ ⟨0, Nat.zero_le _, fun j hj => absurd hj (by omega)⟩
          rintro ⟨i, hi, hj⟩ ih
          conv => whnf
          repeat ((first | with_reducible refine branch_true rfl ?_ | with_reducible refine branch_false rfl ?_); conv => whnf)
          refine branch_of (fun g1 => ?_) (fun g1 => ?_)
          · have g2 : i < s.size := by simpa using g1
            have next : (isLow (byteAt s i) || isDig (byteAt s i)) = true → ∀ K : St → Prop, (∀ j : {i : Nat // i ≤ s.size ∧ ∀ j, j < i → (isLow (byteAt s j) || isDig (byteAt s j)) = true}, s.size - j.1 < s.size - i → K (St.mk [(0, .str s), (3, .int .i64 j.1)] [] [] none)) → K (St.mk [(0, .str s), (3, .int .i64 (IntKind.i64.wrap ((i : Int) + 1)))] [] [] none) := by
              intro h K hK
              rw [wrap64 (by omega)]
              exact hK ⟨i + 1, g2, all_next hj h⟩ (show s.size - (i + 1) < s.size - i by omega)
            have stop : isLow (byteAt s i) = false → isDig (byteAt s i) = false → AV.bool false = AV.bool (nameOK s) := fun q1 q2 => by
              refine hbad ?_
              have : ((List.range s.size).all fun i => isLow (byteAt s i) || isDig (byteAt s i)) = false := by
                rw [List.all_eq_false]; exact ⟨i, List.mem_range.2 g2, by simp [q1, q2]⟩
              simp [nameOK, this]
            conv => whnf
            repeat ((first | with_reducible refine branch_true rfl ?_ | with_reducible refine branch_false rfl ?_); conv => whnf)
            refine st_index (s := s) (n := i) rfl rfl rfl rfl (in_range g2) ?_
            conv => whnf
            repeat ((first | with_reducible refine branch_true rfl ?_ | with_reducible refine branch_false rfl ?_); conv => whnf)
            refine branch_of (fun g3 => ?_) (fun g3 => ?_)
            · have g3 : byteAt s i < 97 := of_decide_eq_true g3
              have low := not_low (.inl g3)
              conv => whnf
              repeat ((first | with_reducible refine branch_true rfl ?_ | with_reducible refine branch_false rfl ?_); conv => whnf)
              refine branch_of (fun g4 => ?_) (fun g4 => ?_)
              · have g4 : byteAt s i < 48 := of_decide_eq_true g4
                conv => whnf
                repeat ((first | with_reducible refine branch_true rfl ?_ | with_reducible refine branch_false rfl ?_); conv => whnf)
                exact stop low (not_dig (.inl g4))
              · have g4 : ¬ byteAt s i < 48 := of_decide_eq_false g4
                conv => whnf
                repeat ((first | with_reducible refine branch_true rfl ?_ | with_reducible refine branch_false rfl ?_); conv => whnf)
                refine branch_of (fun g5 => ?_) (fun g5 => ?_)
                · have g5 : 57 < byteAt s i := of_decide_eq_true g5
                  conv => whnf
                  repeat ((first | with_reducible refine branch_true rfl ?_ | with_reducible refine branch_false rfl ?_); conv => whnf)
                  exact stop low (not_dig (.inr g5))
                · have g5 : ¬ 57 < byteAt s i := of_decide_eq_false g5
                  conv => whnf
                  repeat ((first | with_reducible refine branch_true rfl ?_ | with_reducible refine branch_false rfl ?_); conv => whnf)
                  exact next (by rw [isDig_of (by omega) (by omega), Bool.or_true]) (fun s => SLoop _ _ _ _ _ _ s _) ih
            · have g3 : ¬ byteAt s i < 97 := of_decide_eq_false g3
              conv => whnf
              repeat ((first | with_reducible refine branch_true rfl ?_ | with_reducible refine branch_false rfl ?_); conv => whnf)
              refine branch_of (fun g6 => ?_) (fun g6 => ?_)
              · have g6 : 122 < byteAt s i := of_decide_eq_true g6
                have low := not_low (.inr g6)
                conv => whnf
                repeat ((first | with_reducible refine branch_true rfl ?_ | with_reducible refine branch_false rfl ?_); conv => whnf)
                refine branch_of (fun g4 => ?_) (fun g4 => ?_)
                · have g4 : byteAt s i < 48 := of_decide_eq_true g4
                  conv => whnf
                  repeat ((first | with_reducible refine branch_true rfl ?_ | with_reducible refine branch_false rfl ?_); conv => whnf)
                  exact stop low (not_dig (.inl g4))
                · have g4 : ¬ byteAt s i < 48 := of_decide_eq_false g4
                  conv => whnf
                  repeat ((first | with_reducible refine branch_true rfl ?_ | with_reducible refine branch_false rfl ?_); conv => whnf)
                  refine branch_of (fun g5 => ?_) (fun g5 => ?_)
                  · have g5 : 57 < byteAt s i := of_decide_eq_true g5
                    conv => whnf
                    repeat ((first | with_reducible refine branch_true rfl ?_ | with_reducible refine branch_false rfl ?_); conv => whnf)
                    exact stop low (not_dig (.inr g5))
                  · have g5 : ¬ 57 < byteAt s i := of_decide_eq_false g5
                    conv => whnf
                    repeat ((first | with_reducible refine branch_true rfl ?_ | with_reducible refine branch_false rfl ?_); conv => whnf)
                    exact next (by rw [isDig_of (by omega) (by omega), Bool.or_true]) (fun s => SLoop _ _ _ _ _ _ s _) ih
              · have g6 : ¬ 122 < byteAt s i := of_decide_eq_false g6
                conv => whnf
                repeat ((first | with_reducible refine branch_true rfl ?_ | with_reducible refine branch_false rfl ?_); conv => whnf)
                exact next (by rw [isLow_of (by omega) (by omega), Bool.true_or]) (fun s => SLoop _ _ _ _ _ _ s _) ih
          · conv => whnf
            repeat ((first | with_reducible refine branch_true rfl ?_ | with_reducible refine branch_false rfl ?_); conv => whnf)
            have g2 : s.size ≤ i := by simpa using g1
            have : ((List.range s.size).all fun i => isLow (byteAt s i) || isDig (byteAt s i)) = true := by
              rw [List.all_eq_true]; exact fun j hj' => hj j (by have := List.mem_range.1 hj'; omega)
            have h1' : decide (s = ByteArray.empty) = false := decide_eq_false h1
            simp only [nameOK, h1', h5, this, decide_eq_true h2, Bool.not_false, Bool.and_self]
end Go.Proofs


namespace Go.Proofs
open Ax Go
set_option maxRecDepth 10000
theorem refCheck (fl : Nat → Fl) (n : Nat) : CallOK Try.prog 15 [encL fl n] (fun r => r = .int .i64 (checkE fl n)) := by
  refine okP ?_
  conv => whnf
  repeat ((first | with_reducible refine branch_true rfl ?_ | with_reducible refine branch_false rfl ?_); conv => whnf)
  refine branch_of (fun h1 => ?_) (fun h1 => ?_)
  · conv => whnf
    repeat ((first | with_reducible refine branch_true rfl ?_ | with_reducible refine branch_false rfl ?_); conv => whnf)
    have h1 : 1024 < n := by simp at h1; omega
    rw [checkE, if_pos h1]
  · conv => whnf
    repeat ((first | with_reducible refine branch_true rfl ?_ | with_reducible refine branch_false rfl ?_); conv => whnf)
    have h1 : n ≤ 1024 := by simp at h1; omega
    refine loop_by (cx := cxP) rfl progOK (ι := {i : Nat // i ≤ n ∧ ∀ j, j < i → chk (fl j) = 0}) (fun i => n - i.1) (fun i => ⟨[(0, encL fl n), (3, .int .i64 i.1)], [], [], none⟩) ?_ ⟨0, Nat.zero_le _, fun j hj => absurd hj (by omega)⟩
    rintro ⟨i, hi, hj⟩ ih
    have bad : ∀ e : Int, i < n → chk (fl i) = e → e ≠ 0 → AV.int .i64 e = .int .i64 (checkE fl n) := fun e h h2 h3 => by
      rw [checkE, if_neg (by omega), firstE_at h hj (by omega), h2]
    conv => whnf
    repeat ((first | with_reducible refine branch_true rfl ?_ | with_reducible refine branch_false rfl ?_); conv => whnf)
    refine branch_of (fun g1 => ?_) (fun g1 => ?_)
    · conv => whnf
      repeat ((first | with_reducible refine branch_true rfl ?_ | with_reducible refine branch_false rfl ?_); conv => whnf)
      have g2 : i < n := by simpa using g1
      refine st_addr (sz := 4) (len := n) (n := i) (u := 34) (g := fun i => encF (fl i)) rfl rfl rfl rfl rfl (in_range g2) ?_
      conv => whnf
      repeat ((first | with_reducible refine branch_true rfl ?_ | with_reducible refine branch_false rfl ?_); conv => whnf)
      refine call_is (v := .bool (nameOK (fl i).m)) (refName _) ?_
      conv => whnf
      repeat ((first | with_reducible refine branch_true rfl ?_ | with_reducible refine branch_false rfl ?_); conv => whnf)
      refine branch_of (fun g3 => ?_) (fun g3 => ?_)
      · have g3 : nameOK (fl i).m = false := by simpa using g3
        conv => whnf
        repeat ((first | with_reducible refine branch_true rfl ?_ | with_reducible refine branch_false rfl ?_); conv => whnf)
        exact bad 10 g2 (by simp [chk, g3]) (by omega)
      · have g3 : nameOK (fl i).m = true := by simpa using g3
        conv => whnf
        repeat ((first | with_reducible refine branch_true rfl ?_ | with_reducible refine branch_false rfl ?_); conv => whnf)
        refine st_addr (sz := 4) (len := n) (n := i) (u := 34) (g := fun i => encF (fl i)) rfl rfl rfl rfl rfl (in_range g2) ?_
        conv => whnf
        repeat ((first | with_reducible refine branch_true rfl ?_ | with_reducible refine branch_false rfl ?_); conv => whnf)
        refine branch_of (fun g4 => ?_) (fun g4 => ?_)
        · have g4 : (fl i).c < 0 := of_decide_eq_true g4
          have g6 : curOK (fl i).c = false := by simp [curOK]; omega
          conv => whnf
          repeat ((first | with_reducible refine branch_true rfl ?_ | with_reducible refine branch_false rfl ?_); conv => whnf)
          exact bad 25 g2 (by simp [chk, g3, g6]) (by omega)
        · have g4 : ¬ (fl i).c < 0 := of_decide_eq_false g4
          conv => whnf
          repeat ((first | with_reducible refine branch_true rfl ?_ | with_reducible refine branch_false rfl ?_); conv => whnf)
          refine st_addr (sz := 4) (len := n) (n := i) (u := 34) (g := fun i => encF (fl i)) rfl rfl rfl rfl rfl (in_range g2) ?_
          conv => whnf
          repeat ((first | with_reducible refine branch_true rfl ?_ | with_reducible refine branch_false rfl ?_); conv => whnf)
          refine branch_of (fun g5 => ?_) (fun g5 => ?_)
          · have g5 : 8 ≤ (fl i).c := of_decide_eq_true g5
            have g6 : curOK (fl i).c = false := by simp [curOK]; omega
            conv => whnf
            repeat ((first | with_reducible refine branch_true rfl ?_ | with_reducible refine branch_false rfl ?_); conv => whnf)
            exact bad 25 g2 (by simp [chk, g3, g6]) (by omega)
          · have g5 : ¬ 8 ≤ (fl i).c := of_decide_eq_false g5
            have g6 : curOK (fl i).c = true := by simp [curOK]; omega
            conv => whnf
            repeat ((first | with_reducible refine branch_true rfl ?_ | with_reducible refine branch_false rfl ?_); conv => whnf)
            refine st_addr (sz := 4) (len := n) (n := i) (u := 34) (g := fun i => encF (fl i)) rfl rfl rfl rfl rfl (in_range g2) ?_
            conv => whnf
            repeat ((first | with_reducible refine branch_true rfl ?_ | with_reducible refine branch_false rfl ?_); conv => whnf)
            refine call_is (v := .bool (fitsI (fl i).n)) (refFits _) ?_
            conv => whnf
            repeat ((first | with_reducible refine branch_true rfl ?_ | with_reducible refine branch_false rfl ?_); conv => whnf)
            refine branch_of (fun g7 => ?_) (fun g7 => ?_)
            · have g7 : fitsI (fl i).n = false := by simpa using g7
              conv => whnf
              repeat ((first | with_reducible refine branch_true rfl ?_ | with_reducible refine branch_false rfl ?_); conv => whnf)
              exact bad 2 g2 (by simp [chk, g3, g6, g7]) (by omega)
            · have g7 : fitsI (fl i).n = true := by simpa using g7
              have e : chk (fl i) = 0 := by simp [chk, g3, g6, g7]
              have next : ∀ K : St → Prop, (∀ j : {i : Nat // i ≤ n ∧ ∀ j, j < i → chk (fl j) = 0}, n - j.1 < n - i → K (St.mk [(0, encL fl n), (3, .int .i64 j.1)] [] [] none)) → K (St.mk [(0, encL fl n), (3, .int .i64 (IntKind.i64.wrap ((i : Int) + 1)))] [] [] none) := by
                intro K hK
                rw [wrap64 (by omega)]
                exact hK ⟨i + 1, g2, all_next hj e⟩ (show n - (i + 1) < n - i by omega)
              conv => whnf
              repeat ((first | with_reducible refine branch_true rfl ?_ | with_reducible refine branch_false rfl ?_); conv => whnf)
              exact next (fun s => SLoop _ _ _ _ _ _ s _) ih
    · conv => whnf
      repeat ((first | with_reducible refine branch_true rfl ?_ | with_reducible refine branch_false rfl ?_); conv => whnf)
      have g2 : i = n := by simp at g1; omega
      subst g2
      rw [checkE, if_neg (by omega), firstE_zero hj]
theorem rem_neg {z : Int} (h : z.tmod 1073741824 < 0) : z.tmod 1073741824 + 1073741824 = z % 1073741824 := by
  rw [Int.tmod_eq_emod] at h ⊢
  by_cases h1 : 0 ≤ z ∨ (1073741824 : Int) ∣ z
  · simp only [if_pos h1] at h ⊢; omega
  · simp only [if_neg h1] at h ⊢; omega
theorem rem_pos {z : Int} (h : ¬ z.tmod 1073741824 < 0) : z.tmod 1073741824 = z % 1073741824 := by
  rw [Int.tmod_eq_emod] at h ⊢
  by_cases h1 : 0 ≤ z ∨ (1073741824 : Int) ∣ z
  · simp only [if_pos h1] at h ⊢; omega
  · simp only [if_neg h1] at h ⊢; omega
theorem quo_ex (z : Int) : (z - z % 1073741824).tdiv 1073741824 = z / 1073741824 := by
  have e : z - z % 1073741824 = 1073741824 * (z / 1073741824) := by omega
  rw [e, Int.mul_tdiv_cancel_left _ (by decide)]
theorem quo_low {z : Int} (h : 0 ≤ z) : z.tdiv 1073741824 = z / 1073741824 := Int.tdiv_eq_ediv_of_nonneg h
theorem rem_low {z : Int} (h : 0 ≤ z) : z.tmod 1073741824 = z % 1073741824 := Int.tmod_eq_emod_of_nonneg h
def refSumR (s : Int) : AV := bif fitsI s then .tup [.int .i64 s, .bool true] else .tup [.int .i64 0, .bool false]
theorem st4 {v : AV} {a a' b b' c c' : Int} (h1 : a = a') (h2 : b = b') (h3 : c = c') : St.mk [(0, v), (4, .int .i64 a), (5, .int .i64 b), (6, .int .i64 c)] [] [] none = St.mk [(0, v), (4, .int .i64 a'), (5, .int .i64 b'), (6, .int .i64 c')] [] [] none := by
  subst h1; subst h2; subst h3; rfl
theorem refSum (z : Nat → Int) (n : Nat) (hn : n ≤ 1024) (hz : ∀ i, i < n → fitsI (z i) = true) : CallOK Try.prog 37 [.vec 1 n fun i => .int .i64 (z i)] (fun r => r = refSumR (sumZ z n)) := by
  have hzb : ∀ i, i < n → -1152921504606846976 ≤ z i ∧ z i ≤ 1152921504606846976 := fun i hi => fitsI_iff.1 (hz i hi)
  refine okP ?_
  conv => whnf
  repeat ((first | with_reducible refine branch_true rfl ?_ | with_reducible refine branch_false rfl ?_); conv => whnf)
  refine loop_by (cx := cxP) rfl progOK (ι := {i : Nat // i ≤ n}) (fun i => n - i.1) (fun i => ⟨[(0, .vec 1 n fun i => .int .i64 (z i)), (4, .int .i64 (highR z i.1)), (5, .int .i64 (lowR z i.1)), (6, .int .i64 i.1)], [], [], none⟩) ?_ ⟨0, Nat.zero_le _⟩
  rintro ⟨i, hi⟩ ih
  have hb1 := highR_b z i (fun j hj => hzb j (by omega))
  have hb2 := lowR_b z i
  conv => whnf
  repeat ((first | with_reducible refine branch_true rfl ?_ | with_reducible refine branch_false rfl ?_); conv => whnf)
  refine branch_of (fun g1 => ?_) (fun g1 => ?_)
  · have g2 : i < n := by simpa using g1
    have hw : IntKind.i64.wrap ((i : Int) + 1) = ((i + 1 : Nat) : Int) := by rw [wrap64 (by omega)]; omega
    have hzi := hzb i g2
    have e2 : IntKind.i64.wrap (lowR z i + z i % 1073741824) = lowR z (i + 1) := by
      rw [wrap64 (by omega)]; rfl
    have e1 : IntKind.i64.wrap (highR z i + IntKind.i64.wrap ((IntKind.i64.wrap (z i - z i % 1073741824)).tdiv 1073741824)) = highR z (i + 1) := by
      rw [wrap64 (x := z i - z i % 1073741824) (by omega), quo_ex, wrap64 (x := z i / 1073741824) (by omega), wrap64 (by omega)]; rfl
    conv => whnf
    repeat ((first | with_reducible refine branch_true rfl ?_ | with_reducible refine branch_false rfl ?_); conv => whnf)
    refine st_addr (sz := 1) (len := n) (n := i) (u := 3) (g := fun i => .int .i64 (z i)) rfl rfl rfl rfl rfl (in_range g2) ?_
    conv => whnf
    repeat ((first | with_reducible refine branch_true rfl ?_ | with_reducible refine branch_false rfl ?_); conv => whnf)
    refine branch_of (fun g3 => ?_) (fun g3 => ?_)
    · have g3 : (z i).tmod 1073741824 < 0 := of_decide_eq_true g3
      have e3 : IntKind.i64.wrap ((z i).tmod 1073741824 + 1073741824) = z i % 1073741824 := by rw [rem_neg g3, wrap64 (by omega)]
      conv => whnf
      repeat ((first | with_reducible refine branch_true rfl ?_ | with_reducible refine branch_false rfl ?_); conv => whnf)
      refine st_addr (sz := 1) (len := n) (n := i) (u := 3) (g := fun i => .int .i64 (z i)) rfl rfl rfl rfl rfl (in_range g2) ?_
      conv => whnf
      repeat ((first | with_reducible refine branch_true rfl ?_ | with_reducible refine branch_false rfl ?_); conv => whnf)
      exact loop_to ih ⟨i + 1, g2⟩ (show n - (i + 1) < n - i by omega) (st4 (by rw [← e3] at e1; exact e1) (by rw [← e3] at e2; exact e2) hw)
    · have g3 : ¬ (z i).tmod 1073741824 < 0 := of_decide_eq_false g3
      have e3 := rem_pos g3
      conv => whnf
      repeat ((first | with_reducible refine branch_true rfl ?_ | with_reducible refine branch_false rfl ?_); conv => whnf)
      refine st_addr (sz := 1) (len := n) (n := i) (u := 3) (g := fun i => .int .i64 (z i)) rfl rfl rfl rfl rfl (in_range g2) ?_
      conv => whnf
      repeat ((first | with_reducible refine branch_true rfl ?_ | with_reducible refine branch_false rfl ?_); conv => whnf)
      exact loop_to ih ⟨i + 1, g2⟩ (show n - (i + 1) < n - i by omega) (st4 (by rw [← e3] at e1; exact e1) (by rw [← e3] at e2; exact e2) hw)
  · have g2 : i = n := by simp at g1; omega
    subst g2
    have hs := partsR z i
    have e1 : IntKind.i64.wrap (highR z i + IntKind.i64.wrap ((lowR z i).tdiv 1073741824)) = highR z i + lowR z i / 1073741824 := by
      rw [quo_low hb2.1, wrap64 (x := lowR z i / 1073741824) (by omega), wrap64 (by omega)]
    have e2 := rem_low hb2.1
    generalize hH : highR z i + lowR z i / 1073741824 = hh at e1
    generalize hL : lowR z i % 1073741824 = ll at e2
    have hll : 0 ≤ ll ∧ ll < 1073741824 := by omega
    have hsum : sumZ z i = hh * 1073741824 + ll := by omega
    have big : (1073741824 < hh ∨ hh < -1073741824 ∨ hh = 1073741824 ∧ 0 < ll) → AV.tup [.int .i64 0, .bool false] = refSumR (sumZ z i) := fun h => by
      have : fitsI (sumZ z i) = false := fitsI_not.2 (by omega)
      rw [refSumR, this]; rfl
    have okk : ¬ 1073741824 < hh → ¬ hh < -1073741824 → (hh = 1073741824 → ¬ 0 < ll) → AV.tup [.int .i64 (IntKind.i64.wrap (IntKind.i64.wrap (hh * 1073741824) + ll)), .bool true] = refSumR (sumZ z i) := fun q1 q2 q3 => by
      have : fitsI (sumZ z i) = true := fitsI_iff.2 (by omega)
      rw [refSumR, this, wrap64 (x := hh * 1073741824) (by omega), wrap64 (by omega), hsum]; rfl
    rw [← e1] at big okk
    rw [← e2] at big okk
    conv => whnf
    repeat ((first | with_reducible refine branch_true rfl ?_ | with_reducible refine branch_false rfl ?_); conv => whnf)
    refine branch_of (fun g3 => ?_) (fun g3 => ?_)
    · have g3 := of_decide_eq_true g3
      conv => whnf
      repeat ((first | with_reducible refine branch_true rfl ?_ | with_reducible refine branch_false rfl ?_); conv => whnf)
      exact big (.inl g3)
    · have g3 := of_decide_eq_false g3
      conv => whnf
      repeat ((first | with_reducible refine branch_true rfl ?_ | with_reducible refine branch_false rfl ?_); conv => whnf)
      refine branch_of (fun g4 => ?_) (fun g4 => ?_)
      · have g4 := of_decide_eq_true g4
        conv => whnf
        repeat ((first | with_reducible refine branch_true rfl ?_ | with_reducible refine branch_false rfl ?_); conv => whnf)
        exact big (.inr (.inl g4))
      · have g4 := of_decide_eq_false g4
        conv => whnf
        repeat ((first | with_reducible refine branch_true rfl ?_ | with_reducible refine branch_false rfl ?_); conv => whnf)
        refine branch_of (fun g5 => ?_) (fun g5 => ?_)
        · have g5 := of_decide_eq_true g5
          conv => whnf
          repeat ((first | with_reducible refine branch_true rfl ?_ | with_reducible refine branch_false rfl ?_); conv => whnf)
          refine branch_of (fun g6 => ?_) (fun g6 => ?_)
          · have g6 := of_decide_eq_true g6
            conv => whnf
            repeat ((first | with_reducible refine branch_true rfl ?_ | with_reducible refine branch_false rfl ?_); conv => whnf)
            exact big (.inr (.inr ⟨g5, g6⟩))
          · have g6 := of_decide_eq_false g6
            conv => whnf
            repeat ((first | with_reducible refine branch_true rfl ?_ | with_reducible refine branch_false rfl ?_); conv => whnf)
            exact okk g3 g4 (fun _ => g6)
        · have g5 := of_decide_eq_false g5
          conv => whnf
          repeat ((first | with_reducible refine branch_true rfl ?_ | with_reducible refine branch_false rfl ?_); conv => whnf)
          exact okk g3 g4 (fun h => absurd h g5)
end Go.Proofs


namespace Go.Proofs
open Ax Go
set_option maxRecDepth 10000
theorem firstE_all {fl : Nat → Fl} {n : Nat} (h : firstE fl n = 0) : ∀ j, j < n → chk (fl j) = 0 := by
  induction n with
  | zero => intro j hj; omega
  | succ n ih =>
    rw [firstE] at h
    by_cases h1 : firstE fl n = 0
    · rw [if_pos h1] at h
      exact all_next (ih h1) h
    · rw [if_neg h1] at h; exact absurd h h1
theorem chk_fits {f : Fl} (h : chk f = 0) : fitsI f.n = true := by
  unfold chk at h
  cases h1 : nameOK f.m <;> cases h2 : curOK f.c <;> cases h3 : fitsI f.n <;> simp [h1, h2, h3] at h ⊢
theorem sel_fits {p : Fl → Bool} {fl : Nat → Fl} {n : Nat} (h : ∀ j, j < n → chk (fl j) = 0) : ∀ i, i < (sel p fl n).length → fitsI ((sel p fl n).getD i 0) = true := by
  have : ∀ x ∈ sel p fl n, fitsI x = true := by
    induction n with
    | zero => simp [sel]
    | succ n ih =>
      rw [sel]
      split
      · intro x hx
        rcases List.mem_append.1 hx with hx | hx
        · exact ih (fun j hj => h j (by omega)) x hx
        · simp at hx; subst hx; exact chk_fits (h n (by omega))
      · exact ih (fun j hj => h j (by omega))
  intro i hi
  rw [List.getD, List.getElem?_eq_getElem hi]
  exact this _ (List.getElem_mem hi)
def tot (p : Fl → Bool) (fl : Nat → Fl) (n : Nat) : Int := sumZ (fun i => (sel p fl n).getD i 0) (sel p fl n).length
def totV (all : Bool) (m : ByteArray) (c : Int) (fl : Nat → Fl) (n : Nat) : Int × Int :=
  if checkE fl n ≠ 0 then (0, checkE fl n) else bif curOK c then (bif fitsI (tot (selP all m c) fl n) then (tot (selP all m c) fl n, 0) else (0, 3)) else (0, 25)
def pairV (v : Int × Int) : AV := .tup [.int .i64 v.1, .int .i64 v.2]
theorem check_ok {fl : Nat → Fl} {n : Nat} (h : checkE fl n = 0) : n ≤ 1024 ∧ ∀ j, j < n → chk (fl j) = 0 := by
  unfold checkE at h
  split at h
  · omega
  · exact ⟨by omega, firstE_all h⟩
theorem refSummed (fl : Nat → Fl) (n : Nat) (all : Bool) (m : ByteArray) (c : Int) : CallOK Try.prog 46 [encL fl n, .bool all, .str m, .int .i64 c] (fun r => r = pairV (totV all m c fl n)) := by
  refine okP ?_
  conv => whnf
  repeat ((first | with_reducible refine branch_true rfl ?_ | with_reducible refine branch_false rfl ?_); conv => whnf)
  refine call_is (refCheck fl n) ?_
  conv => whnf
  repeat ((first | with_reducible refine branch_true rfl ?_ | with_reducible refine branch_false rfl ?_); conv => whnf)
  refine branch_of (fun h1 => ?_) (fun h1 => ?_)
  · have h1 : checkE fl n ≠ 0 := by simpa using h1
    conv => whnf
    repeat ((first | with_reducible refine branch_true rfl ?_ | with_reducible refine branch_false rfl ?_); conv => whnf)
    rw [totV, if_pos h1]; rfl
  · have h1 : checkE fl n = 0 := by simpa using h1
    obtain ⟨hn, hall⟩ := check_ok h1
    have hf := sel_fits (p := selP all m c) hall
    have hlen := sel_len (selP all m c) fl n
    conv => whnf
    repeat ((first | with_reducible refine branch_true rfl ?_ | with_reducible refine branch_false rfl ?_); conv => whnf)
    refine branch_of (fun h2 => ?_) (fun h2 => ?_)
    · have h2 : c < 0 := of_decide_eq_true h2
      have h3 : curOK c = false := by simp [curOK]; omega
      conv => whnf
      repeat ((first | with_reducible refine branch_true rfl ?_ | with_reducible refine branch_false rfl ?_); conv => whnf)
      rw [totV, if_neg (by simp [h1]), h3]; rfl
    · have h2 : ¬ c < 0 := of_decide_eq_false h2
      conv => whnf
      repeat ((first | with_reducible refine branch_true rfl ?_ | with_reducible refine branch_false rfl ?_); conv => whnf)
      refine branch_of (fun h3 => ?_) (fun h3 => ?_)
      · have h3 : 8 ≤ c := of_decide_eq_true h3
        have h4 : curOK c = false := by simp [curOK]; omega
        conv => whnf
        repeat ((first | with_reducible refine branch_true rfl ?_ | with_reducible refine branch_false rfl ?_); conv => whnf)
        rw [totV, if_neg (by simp [h1]), h4]; rfl
      · have h3 : ¬ 8 ≤ c := of_decide_eq_false h3
        have h4 : curOK c = true := by simp [curOK]; omega
        conv => whnf
        repeat ((first | with_reducible refine branch_true rfl ?_ | with_reducible refine branch_false rfl ?_); conv => whnf)
        refine call_by (having fl n hn all m c) ⟨_, _, rfl, fun i hi => rfl⟩ ?_
        rintro r ⟨g, rfl, hg⟩
        conv => whnf
        repeat ((first | with_reducible refine branch_true rfl ?_ | with_reducible refine branch_false rfl ?_); conv => whnf)
        have hS := ok_same (.cons (.vec hg) .nil) (refSum (fun i => (sel (selP all m c) fl n).getD i 0) _ (by omega) hf)
        cases hfit : fitsI (tot (selP all m c) fl n) with
        | true =>
          rw [show sumZ _ _ = tot (selP all m c) fl n from rfl, refSumR, hfit] at hS
          refine call_is (v := .tup [.int .i64 (tot (selP all m c) fl n), .bool true]) hS ?_
          conv => whnf
          repeat ((first | with_reducible refine branch_true rfl ?_ | with_reducible refine branch_false rfl ?_); conv => whnf)
          rw [totV, if_neg (by simp [h1]), h4, hfit]; rfl
        | false =>
          rw [show sumZ _ _ = tot (selP all m c) fl n from rfl, refSumR, hfit] at hS
          refine call_is (v := .tup [.int .i64 0, .bool false]) hS ?_
          conv => whnf
          repeat ((first | with_reducible refine branch_true rfl ?_ | with_reducible refine branch_false rfl ?_); conv => whnf)
          rw [totV, if_neg (by simp [h1]), h4, hfit]; rfl
theorem refTotal (fl : Nat → Fl) (n : Nat) (c : Int) : CallOK Try.prog 19 [encL fl n, .int .i64 c] (fun r => r = pairV (totV true ByteArray.empty c fl n)) := by
  refine okP ?_
  conv => whnf
  repeat ((first | with_reducible refine branch_true rfl ?_ | with_reducible refine branch_false rfl ?_); conv => whnf)
  refine call_is (v := pairV (totV true ByteArray.empty c fl n)) (refSummed fl n true ByteArray.empty c) ?_
  conv => whnf
  repeat ((first | with_reducible refine branch_true rfl ?_ | with_reducible refine branch_false rfl ?_); conv => whnf)
  rfl
theorem refOf (fl : Nat → Fl) (n : Nat) (m : ByteArray) (c : Int) : CallOK Try.prog 21 [encL fl n, .str m, .int .i64 c] (fun r => r = pairV (totV false m c fl n)) := by
  refine okP ?_
  conv => whnf
  repeat ((first | with_reducible refine branch_true rfl ?_ | with_reducible refine branch_false rfl ?_); conv => whnf)
  refine call_is (v := pairV (totV false m c fl n)) (refSummed fl n false m c) ?_
  conv => whnf
  repeat ((first | with_reducible refine branch_true rfl ?_ | with_reducible refine branch_false rfl ?_); conv => whnf)
  rfl
def zeroV (fl : Nat → Fl) (n : Nat) : Bool := (List.range 8).all fun c => decide ((totV true ByteArray.empty (c : Int) fl n).2 = 0) && decide ((totV true ByteArray.empty (c : Int) fl n).1 = 0)
theorem zero_bad {fl : Nat → Fl} {n c : Nat} (h : c < 8) (hb : (totV true ByteArray.empty (c : Int) fl n).2 ≠ 0 ∨ (totV true ByteArray.empty (c : Int) fl n).1 ≠ 0) : zeroV fl n = false := by
  unfold zeroV
  rw [List.all_eq_false]
  refine ⟨c, List.mem_range.2 h, ?_⟩
  rcases hb with hb | hb <;> simp [hb]
theorem zero_good {fl : Nat → Fl} {n : Nat} (h : ∀ c : Nat, c < 8 → (totV true ByteArray.empty (c : Int) fl n).2 = 0 ∧ (totV true ByteArray.empty (c : Int) fl n).1 = 0) : zeroV fl n = true := by
  unfold zeroV
  rw [List.all_eq_true]
  intro c hc
  obtain ⟨h1, h2⟩ := h c (List.mem_range.1 hc)
  simp [h1, h2]
theorem refZero (fl : Nat → Fl) (n : Nat) : CallOK Try.prog 23 [encL fl n] (fun r => r = .bool (zeroV fl n)) := by
  refine okP ?_
  conv => whnf
  repeat ((first | with_reducible refine branch_true rfl ?_ | with_reducible refine branch_false rfl ?_); conv => whnf)
  refine loop_by (cx := cxP) rfl progOK (ι := {c : Nat // c ≤ 8 ∧ ∀ j, j < c → (totV true ByteArray.empty (j : Int) fl n).2 = 0 ∧ (totV true ByteArray.empty (j : Int) fl n).1 = 0}) (fun i => 8 - i.1) (fun i => ⟨[(0, encL fl n), (3, .int .i64 i.1)], [], [], none⟩) ?_ ⟨0, by omega, fun j hj => absurd hj (by omega)⟩
  rintro ⟨c, hc, hj⟩ ih
  conv => whnf
  repeat ((first | with_reducible refine branch_true rfl ?_ | with_reducible refine branch_false rfl ?_); conv => whnf)
  refine branch_of (fun g1 => ?_) (fun g1 => ?_)
  · have g2 : c < 8 := by have := of_decide_eq_true g1; simp at this; omega
    have bad : ((totV true ByteArray.empty (c : Int) fl n).2 ≠ 0 ∨ (totV true ByteArray.empty (c : Int) fl n).1 ≠ 0) → AV.bool false = .bool (zeroV fl n) := fun h => by rw [zero_bad g2 h]
    conv => whnf
    repeat ((first | with_reducible refine branch_true rfl ?_ | with_reducible refine branch_false rfl ?_); conv => whnf)
    refine call_is (v := pairV (totV true ByteArray.empty (c : Int) fl n)) (refTotal fl n _) ?_
    conv => whnf
    repeat ((first | with_reducible refine branch_true rfl ?_ | with_reducible refine branch_false rfl ?_); conv => whnf)
    refine branch_of (fun g3 => ?_) (fun g3 => ?_)
    · have g3 : (totV true ByteArray.empty (c : Int) fl n).2 ≠ 0 := by simpa using g3
      conv => whnf
      repeat ((first | with_reducible refine branch_true rfl ?_ | with_reducible refine branch_false rfl ?_); conv => whnf)
      exact bad (.inl g3)
    · have g3 : (totV true ByteArray.empty (c : Int) fl n).2 = 0 := by simpa using g3
      conv => whnf
      repeat ((first | with_reducible refine branch_true rfl ?_ | with_reducible refine branch_false rfl ?_); conv => whnf)
      refine branch_of (fun g4 => ?_) (fun g4 => ?_)
      · have g4 : (totV true ByteArray.empty (c : Int) fl n).1 ≠ 0 := by simpa using g4
        conv => whnf
        repeat ((first | with_reducible refine branch_true rfl ?_ | with_reducible refine branch_false rfl ?_); conv => whnf)
        exact bad (.inr g4)
      · have g4 : (totV true ByteArray.empty (c : Int) fl n).1 = 0 := by simpa using g4
        have next : ∀ K : St → Prop, (∀ j : {c : Nat // c ≤ 8 ∧ ∀ j, j < c → (totV true ByteArray.empty (j : Int) fl n).2 = 0 ∧ (totV true ByteArray.empty (j : Int) fl n).1 = 0}, 8 - j.1 < 8 - c → K (St.mk [(0, encL fl n), (3, .int .i64 j.1)] [] [] none)) → K (St.mk [(0, encL fl n), (3, .int .i64 (IntKind.i64.wrap ((c : Int) + 1)))] [] [] none) := by
          intro K hK
          rw [wrap64 (by omega)]
          exact hK ⟨c + 1, g2, all_next hj ⟨g3, g4⟩⟩ (show 8 - (c + 1) < 8 - c by omega)
        conv => whnf
        repeat ((first | with_reducible refine branch_true rfl ?_ | with_reducible refine branch_false rfl ?_); conv => whnf)
        exact next (fun s => SLoop _ _ _ _ _ _ s _) ih
  · have g2 : c = 8 := by have := of_decide_eq_false g1; simp at this; omega
    subst g2
    conv => whnf
    repeat ((first | with_reducible refine branch_true rfl ?_ | with_reducible refine branch_false rfl ?_); conv => whnf)
    rw [zero_good hj]
end Go.Proofs

