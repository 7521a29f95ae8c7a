import Derived.Shelf.SlSortCmp.WholeK
import Derived.Ground.SlsfProg
import Derived.Test.YthjpknhibboboaaProg
import Derived.Test.YthjpknhibboboaaMK
import Derived.Test.YthjpknhibboboaaAxSort
import Derived.Test.YthjpknhibboboaaLwKey
/- The sort's layings at this dump, in plain words (written by the kit's lay-plain). -/
namespace Go.Proofs
open Go.Shelf
def Try.sortKeys_ren : Go.Shelf.Ren := ⟨fun | 6 => 28 | 15 => 41 | 14 => 40 | 28 => 56 | 29 => 57 | 20 => 48 | 21 => 49 | 22 => 50 | 23 => 51 | 24 => 52 | 25 => 53 | 26 => 54 | 27 => 55 | 46 => 59 | 47 => 60 | 48 => 61 | 49 => 62 | 50 => 63 | 57 => 64 | n => n, fun | 22 => 27 | 24 => 52 | 25 => 65 | 3 => 3 | 39 => 76 | 0 => 0 | 53 => 88 | 55 => 90 | 4 => 4 | 46 => 81 | 45 => 80 | 50 => 85 | 5 => 5 | 9 => 9 | 66 => 92 | 70 => 96 | 76 => 98 | 77 => 43 | n => n, fun | n => n⟩
theorem Try.sortKeys : Go.Proofs.SlLaysF0.n6 Try.prog Try.sortKeys_ren := {
  mixed := by kernel_rfl
  f6 := ⟨Try.f28.name, by decide, Try.func28.trans (congrArg some (by kernel_rfl))⟩
  f14 := ⟨Try.f40.name, by decide, Try.func40.trans (congrArg some (by kernel_rfl))⟩
  f15 := Try.func41.trans (congrArg some (by kernel_rfl))
  f20 := ⟨Try.f48.name, by decide, Try.func48.trans (congrArg some (by kernel_rfl))⟩
  f21 := ⟨Try.f49.name, by decide, Try.func49.trans (congrArg some (by kernel_rfl))⟩
  f22 := ⟨Try.f50.name, by decide, Try.func50.trans (congrArg some (by kernel_rfl))⟩
  f23 := ⟨Try.f51.name, by decide, Try.func51.trans (congrArg some (by kernel_rfl))⟩
  f24 := ⟨Try.f52.name, by decide, Try.func52.trans (congrArg some (by kernel_rfl))⟩
  f25 := ⟨Try.f53.name, by decide, Try.func53.trans (congrArg some (by kernel_rfl))⟩
  f26 := ⟨Try.f54.name, by decide, Try.func54.trans (congrArg some (by kernel_rfl))⟩
  f27 := ⟨Try.f55.name, by decide, Try.func55.trans (congrArg some (by kernel_rfl))⟩
  f28 := Try.func56.trans (congrArg some (by kernel_rfl))
  f29 := Try.func57.trans (congrArg some (by kernel_rfl))
  f46 := ⟨Try.f59.name, by decide, Try.func59.trans (congrArg some (by kernel_rfl))⟩
  f47 := Try.func60.trans (congrArg some (by kernel_rfl))
  f48 := Try.func61.trans (congrArg some (by kernel_rfl))
  f49 := ⟨Try.f62.name, by decide, Try.func62.trans (congrArg some (by kernel_rfl))⟩
  f50 := ⟨Try.f63.name, by decide, Try.func63.trans (congrArg some (by kernel_rfl))⟩
  f57 := ⟨Try.f64.name, by decide, Try.func64.trans (congrArg some (by kernel_rfl))⟩
  t0 := Try.underlying0
  a0 := Try.isAgg0
  z0 := Try.sizeOf0
  v0 := Try.zeroValue0
  t3 := Try.underlying3
  a3 := Try.isAgg3
  z3 := Try.sizeOf3
  v3 := Try.zeroValue3
  t4 := Try.underlying4
  a4 := Try.isAgg4
  z4 := Try.sizeOf4
  v4 := Try.zeroValue4
  t5 := Try.underlying5
  a5 := Try.isAgg5
  z5 := Try.sizeOf5
  v5 := Try.zeroValue5
  t9 := Try.underlying9
  a9 := Try.isAgg9
  z9 := Try.sizeOf9
  v9 := Try.zeroValue9
  t22 := Try.underlying27
  a22 := Try.isAgg27
  z22 := Try.sizeOf27
  v22 := Try.zeroValue27
  t25 := Try.underlying65
  a25 := Try.isAgg65
  z25 := Try.sizeOf65
  v25 := Try.zeroValue65
  t39 := Try.underlying76
  a39 := Try.isAgg76
  z39 := Try.sizeOf76
  v39 := Try.zeroValue76
  t45 := Try.underlying80
  a45 := Try.isAgg80
  z45 := Try.sizeOf80
  v45 := Try.zeroValue80
  t46 := Try.underlying81
  a46 := Try.isAgg81
  z46 := Try.sizeOf81
  v46 := Try.zeroValue81
  t50 := Try.underlying85
  a50 := Try.isAgg85
  z50 := Try.sizeOf85
  v50 := Try.zeroValue85
  t53 := Try.underlying88
  a53 := Try.isAgg88
  z53 := Try.sizeOf88
  v53 := Try.zeroValue88
  t55 := Try.underlying90
  a55 := Try.isAgg90
  z55 := Try.sizeOf90
  v55 := Try.zeroValue90
  t66 := Try.underlying92
  a66 := Try.isAgg92
  z66 := Try.sizeOf92
  v66 := Try.zeroValue92
  t70 := Try.underlying96
  a70 := Try.isAgg96
  z70 := Try.sizeOf96
  v70 := Try.zeroValue96
  t76 := Try.underlying98
  a76 := Try.isAgg98
  z76 := Try.sizeOf98
  v76 := Try.zeroValue98
  t77 := Try.underlying43
  a77 := Try.isAgg43
  z77 := Try.sizeOf43
  v77 := Try.zeroValue43 }
end Go.Proofs

namespace Go.Proofs
open Go.Shelf Go.RowKit Go.Lib Go.Sort Ax
def srtT (f : Nat) : Nat := match f with | 28 => 6 | _ => 0
def okFn (fn : Func) : Bool := match fn.body with
  | some c => !(fn.name == "runtime.NumGoroutine") && codeCalm yesCalm c
  | none => true
set_option maxRecDepth 100000
theorem okAll : Try.prog.funcs.toList.all okFn = true := by decide +kernel
theorem mixed : Try.prog.follows .mixedOrders = true := by decide +kernel
theorem prim28 : SortPrim Try.prog 28 6 := by
  have hN : NameOK Try.prog := by
    intro f fn hf hb
    have := List.all_eq_true.1 okAll fn (by rw [Array.mem_toList_iff]; exact Array.mem_of_getElem? hf)
    unfold okFn at this
    split at this
    · simp at this; simpa using this.1
    · rename_i hn; rw [hn] at hb; simp at hb
  exact sortPrim_of Try.sortKeys hN (by omega) (fun w => by rfl) (fun w => by rfl) ⟨Try.f28, Try.func28, by kernel_rfl⟩
theorem progOK : ProgOK Try.prog yesCalm srtT where
  name := by
    intro f fn hf hb
    have := List.all_eq_true.1 okAll fn (by rw [Array.mem_toList_iff]; exact Array.mem_of_getElem? hf)
    unfold okFn at this
    split at this
    · simp at this; simpa using this.1
    · rename_i hn; rw [hn] at hb; simp at hb
  mixed := mixed
  prim f h := by
    unfold srtT at h ⊢
    split at h
    · exact prim28
    · omega
  calm f fn c hf hc := by
    have := List.all_eq_true.1 okAll fn (by rw [Array.mem_toList_iff]; exact Array.mem_of_getElem? hf)
    unfold okFn at this
    rw [hc] at this
    simp at this
    exact this.2
#print axioms progOK
end Go.Proofs

set_option linter.unusedVariables false
namespace Go.Proofs
open Ax Go
def keepT (f r : Nat) : Option (List Nat) := match f, r with
  | 38, 4 => some [0, 18, 19]
  | 39, 2 => some [0, 3]
  | 32, 3 => some [0, 4, 5, 9, 10]
  | 33, 3 => some [0, 4, 5, 6]
  | 13, 5 => some [3, 9, 10, 11]
  | 14, 5 => some [0, 3, 4]
  | 12, 4 => some [0, 1, 5]
  | 10, 3 => some [0, 3, 4]
  | 17, 6 => some [3, 6, 14, 15, 16]
  | 15, 8 => some [0, 2, 4, 9, 27, 28, 29]
  | 15, 17 => some [2, 6, 52, 53, 54]
  | 30, 2 => some [0, 3, 6, 7, 8]
  | 31, 3 => some [0, 3, 5, 6]
  | 16, 8 => some [2, 4, 10]
  | 58, 2 => some [0, 1, 6, 7, 8]
  | 45, 5 => some [0, 1, 5, 6]
  | _, _ => none
def keepXT (f r : Nat) : Option (List Nat) := match f, r with
  | 38, 4 => some [0, 2]
  | 39, 2 => some [0, 2]
  | 32, 3 => some [2, 3, 4, 5]
  | 33, 3 => some [2, 3, 4, 5]
  | 13, 5 => some [2]
  | 14, 5 => some [2]
  | 12, 4 => some [4]
  | 10, 3 => some [3]
  | 17, 6 => some [6]
  | 15, 8 => some [0, 2, 9]
  | 15, 17 => some [2, 6]
  | 30, 2 => some [4]
  | 31, 3 => some [5]
  | 16, 8 => some [2, 10]
  | 58, 2 => some [4]
  | 45, 5 => some [0, 5]
  | _, _ => none
noncomputable def cxP : Ctx where
  P := Try.prog
  inl := fun _ => false
  keep := keepT
  keepX := keepXT
  xf := fun _ _ _ => false
  ow := fun f => Nat.beq f 24
  gh := fun _ _ => []
  gf := fun _ => []
  ln := fun _ => false
  srt := srtT
theorem okP {f a Q} (h : stepCall (SX Try.prog yesCalm) cxP yesCalm f a Q) : CallOK Try.prog f a Q := okOf (cx := cxP) rfl progOK h
set_option maxRecDepth 10000
end Go.Proofs


namespace Go.Proofs
open Ax Go
set_option maxRecDepth 10000
theorem letter (c : Int) : CallOK Try.prog 46 [.int .u8 c] (fun r => r = .bool (decide (97 ≤ c) && decide (c ≤ 122))) := by
  refine okP ?_
  conv => whnf
  repeat ((first | with_reducible refine branch_true rfl ?_ | with_reducible refine branch_false rfl ?_); conv => whnf)
  refine branch_of (fun h => ?_) (fun h => ?_)
  · conv => whnf
    repeat ((first | with_reducible refine branch_true rfl ?_ | with_reducible refine branch_false rfl ?_); conv => whnf)
    simp [h]
  · conv => whnf
    repeat ((first | with_reducible refine branch_true rfl ?_ | with_reducible refine branch_false rfl ?_); conv => whnf)
    simp [h]
theorem digit (c : Int) : CallOK Try.prog 47 [.int .u8 c] (fun r => r = .bool (decide (48 ≤ c) && decide (c ≤ 57))) := by
  refine okP ?_
  conv => whnf
  repeat ((first | with_reducible refine branch_true rfl ?_ | with_reducible refine branch_false rfl ?_); conv => whnf)
  refine branch_of (fun h => ?_) (fun h => ?_)
  · conv => whnf
    repeat ((first | with_reducible refine branch_true rfl ?_ | with_reducible refine branch_false rfl ?_); conv => whnf)
    simp [h]
  · conv => whnf
    repeat ((first | with_reducible refine branch_true rfl ?_ | with_reducible refine branch_false rfl ?_); conv => whnf)
    simp [h]
theorem fits (n : Int) : CallOK Try.prog 42 [.int .i64 n] (fun r => r = .bool (decide (-1152921504606846976 ≤ n) && decide (n ≤ 1152921504606846976))) := by
  refine okP ?_
  conv => whnf
  repeat ((first | with_reducible refine branch_true rfl ?_ | with_reducible refine branch_false rfl ?_); conv => whnf)
  refine branch_of (fun h => ?_) (fun h => ?_)
  · conv => whnf
    repeat ((first | with_reducible refine branch_true rfl ?_ | with_reducible refine branch_false rfl ?_); conv => whnf)
    simp [h]
  · conv => whnf
    repeat ((first | with_reducible refine branch_true rfl ?_ | with_reducible refine branch_false rfl ?_); conv => whnf)
    simp [h]
def fitsI (n : Int) : Bool := decide (-1152921504606846976 ≤ n) && decide (n ≤ 1152921504606846976)
theorem fitting (n : Int) : CallOK Try.prog 43 [.int .i64 n] (fun r => r = bif fitsI n then .tup [.int .i64 n, .int .i64 0] else .tup [.int .i64 0, .int .i64 3]) := by
  refine okP ?_
  conv => whnf
  repeat ((first | with_reducible refine branch_true rfl ?_ | with_reducible refine branch_false rfl ?_); conv => whnf)
  refine call_is (v := .bool (fitsI n)) (fits n) ?_
  conv => whnf
  repeat ((first | with_reducible refine branch_true rfl ?_ | with_reducible refine branch_false rfl ?_); conv => whnf)
  refine branch_of (fun h => ?_) (fun h => ?_)
  · conv => whnf
    repeat ((first | with_reducible refine branch_true rfl ?_ | with_reducible refine branch_false rfl ?_); conv => whnf)
    simp_all
  · conv => whnf
    repeat ((first | with_reducible refine branch_true rfl ?_ | with_reducible refine branch_false rfl ?_); conv => whnf)
    simp_all
def isLow (c : Int) : Bool := decide (97 ≤ c) && decide (c ≤ 122)
def isDig (c : Int) : Bool := decide (48 ≤ c) && decide (c ≤ 57)
def byteAt (s : ByteArray) (i : Nat) : Int := ((s.data.getD i 0).toNat : Int)
def nameOK (s : ByteArray) : Bool := !(decide (s = ByteArray.empty)) && decide (s.size ≤ 12) && isLow (byteAt s 0) && (List.range s.size).all fun i => isLow (byteAt s i) || isDig (byteAt s i)
theorem name (s : ByteArray) : CallOK Try.prog 38 [.str s] (fun r => r = .bool (nameOK s)) := by
  have hbad : nameOK s = false → AV.bool false = AV.bool (nameOK s) := fun h => by rw [h]
  refine okP ?_
  conv => whnf
  repeat ((first | with_reducible refine branch_true rfl ?_ | with_reducible refine branch_false rfl ?_); conv => whnf)
  refine branch_of (fun h1 => ?_) (fun h1 => ?_)
  · conv => whnf
    repeat ((first | with_reducible refine branch_true rfl ?_ | with_reducible refine branch_false rfl ?_); conv => whnf)
    refine hbad ?_
    have h1 : s = ByteArray.empty := of_decide_eq_true h1
    subst h1; rfl
  · have h1 : s ≠ ByteArray.empty := of_decide_eq_false h1
    conv => whnf
    repeat ((first | with_reducible refine branch_true rfl ?_ | with_reducible refine branch_false rfl ?_); conv => whnf)
    refine branch_of (fun h2 => ?_) (fun h2 => ?_)
    · conv => whnf
      repeat ((first | with_reducible refine branch_true rfl ?_ | with_reducible refine branch_false rfl ?_); conv => whnf)
      refine hbad ?_
      have h2 : 12 < s.size := by simp at h2; omega
      simp [nameOK, show ¬ s.size ≤ 12 by omega]
    · conv => whnf
      repeat ((first | with_reducible refine branch_true rfl ?_ | with_reducible refine branch_false rfl ?_); conv => whnf)
      have h2 : s.size ≤ 12 := by simp at h2; omega
      have h0 : 0 < s.size := by
        rcases Nat.eq_zero_or_pos s.size with h | h
        · refine absurd ?_ h1
          cases s with | mk d => simp [ByteArray.size] at h; subst h; rfl
        · exact h
      refine st_index (s := s) (n := 0) rfl rfl rfl rfl (by simp [inRange, h0]) ?_
      conv => whnf
      repeat ((first | with_reducible refine branch_true rfl ?_ | with_reducible refine branch_false rfl ?_); conv => whnf)
      refine call_is (v := .bool (isLow (byteAt s 0))) (letter _) ?_
      conv => whnf
      repeat ((first | with_reducible refine branch_true rfl ?_ | with_reducible refine branch_false rfl ?_); conv => whnf)
      refine branch_of (fun h3 => ?_) (fun h3 => ?_)
      · conv => whnf
        repeat ((first | with_reducible refine branch_true rfl ?_ | with_reducible refine branch_false rfl ?_); conv => whnf)
        refine hbad ?_
        have h3 : isLow (byteAt s 0) = false := by simpa using h3
        simp [nameOK, h3]
      · have h3 : isLow (byteAt s 0) = true := by simpa using h3
        conv => whnf
        repeat ((first | with_reducible refine branch_true rfl ?_ | with_reducible refine branch_false rfl ?_); conv => whnf)
        refine loop_by (cx := cxP) rfl progOK (ι := {i : Nat // i ≤ s.size ∧ ∀ j, j < i → (isLow (byteAt s j) || isDig (byteAt s j)) = true}) (fun i => s.size - i.1) (fun i => ⟨[(0, .str s), (18, .int .i64 s.size), (19, .int .i64 i.1)], [], [], none⟩) ?_ ⟨0, Nat.zero_le _, fun j hj => absurd hj (by omega)⟩
        rintro ⟨i, hi, hj⟩ ih
        conv => whnf
        repeat ((first | with_reducible refine branch_true rfl ?_ | with_reducible refine branch_false rfl ?_); conv => whnf)
        refine branch_of (fun g1 => ?_) (fun g1 => ?_)
        · conv => whnf
          repeat ((first | with_reducible refine branch_true rfl ?_ | with_reducible refine branch_false rfl ?_); conv => whnf)
          have g2 : i < s.size := by simpa using g1
          have next : (isLow (byteAt s i) || isDig (byteAt s i)) = true → ∀ j, j < i + 1 → (isLow (byteAt s j) || isDig (byteAt s j)) = true := fun h j hj' => by
            rcases Nat.lt_or_ge j i with h' | h'
            · exact hj j h'
            · rw [show j = i by omega]; exact h
          have hw : IntKind.i64.wrap ((i : Int) + 1) = ((i + 1 : Nat) : Int) := by rw [wrap64 (by omega)]; omega
          refine st_index (s := s) (n := i) rfl rfl rfl rfl (in_range g2) ?_
          conv => whnf
          repeat ((first | with_reducible refine branch_true rfl ?_ | with_reducible refine branch_false rfl ?_); conv => whnf)
          refine call_is (v := .bool (isLow (byteAt s i))) (letter _) ?_
          conv => whnf
          repeat ((first | with_reducible refine branch_true rfl ?_ | with_reducible refine branch_false rfl ?_); conv => whnf)
          refine branch_of (fun g3 => ?_) (fun g3 => ?_)
          · have g3 : isLow (byteAt s i) = false := by simpa using g3
            conv => whnf
            repeat ((first | with_reducible refine branch_true rfl ?_ | with_reducible refine branch_false rfl ?_); conv => whnf)
            refine st_index (s := s) (n := i) rfl rfl rfl rfl (in_range g2) ?_
            conv => whnf
            repeat ((first | with_reducible refine branch_true rfl ?_ | with_reducible refine branch_false rfl ?_); conv => whnf)
            refine call_is (v := .bool (isDig (byteAt s i))) (digit _) ?_
            conv => whnf
            repeat ((first | with_reducible refine branch_true rfl ?_ | with_reducible refine branch_false rfl ?_); conv => whnf)
            refine branch_of (fun g4 => ?_) (fun g4 => ?_)
            · have g4 : isDig (byteAt s i) = false := by simpa using g4
              conv => whnf
              repeat ((first | with_reducible refine branch_true rfl ?_ | with_reducible refine branch_false rfl ?_); conv => whnf)
              refine hbad ?_
              have : ((List.range s.size).all fun i => isLow (byteAt s i) || isDig (byteAt s i)) = false := by
                rw [List.all_eq_false]; exact ⟨i, List.mem_range.2 g2, by simp [g3, g4]⟩
              simp [nameOK, this]
            · have g4 : isDig (byteAt s i) = true := by simpa using g4
              conv => whnf
              repeat ((first | with_reducible refine branch_true rfl ?_ | with_reducible refine branch_false rfl ?_); conv => whnf)
              refine loop_to ih ⟨i + 1, g2, next (by rw [g4, Bool.or_true])⟩ (show s.size - (i + 1) < s.size - i by omega) ?_
              simp only [hw]
          · have g3 : isLow (byteAt s i) = true := by simpa using g3
            conv => whnf
            repeat ((first | with_reducible refine branch_true rfl ?_ | with_reducible refine branch_false rfl ?_); conv => whnf)
            refine loop_to ih ⟨i + 1, g2, next (by rw [g3, Bool.true_or])⟩ (show s.size - (i + 1) < s.size - i by omega) ?_
            simp only [hw]
        · conv => whnf
          repeat ((first | with_reducible refine branch_true rfl ?_ | with_reducible refine branch_false rfl ?_); conv => whnf)
          have g2 : s.size ≤ i := by simpa using g1
          have : ((List.range s.size).all fun i => isLow (byteAt s i) || isDig (byteAt s i)) = true := by
            rw [List.all_eq_true]; exact fun j hj' => hj j (by have := List.mem_range.1 hj'; omega)
          have h1' : decide (s = ByteArray.empty) = false := decide_eq_false h1
          simp only [nameOK, h1', h3, this, decide_eq_true h2, Bool.not_false, Bool.and_self]
end Go.Proofs


namespace Go.Proofs
open Ax Go
theorem mask32 (x : Int) : IntKind.i64.wrap ((BitVec.ofInt 64 x &&& BitVec.ofInt 64 4294967295).toNat : Int) = x % 4294967296 := by
  have e : (BitVec.ofInt 64 x &&& BitVec.ofInt 64 4294967295).toNat = (x % 18446744073709551616).toNat % 4294967296 := by
    rw [BitVec.toNat_and, BitVec.toNat_ofInt, BitVec.toNat_ofInt]
    exact Nat.and_two_pow_sub_one_eq_mod _ 32
  rw [e]
  have h : 0 ≤ x % 18446744073709551616 := Int.emod_nonneg _ (by decide)
  simp [IntKind.wrap, IntKind.signed, IntKind.bits]
  omega
def sumZ (z : Nat → Int) : Nat → Int
  | 0 => 0
  | n + 1 => sumZ z n + z n
def highF (z : Nat → Int) : Nat → Int
  | 0 => 0
  | n + 1 => highF z n + z n / 4294967296
def lowF (z : Nat → Int) : Nat → Int
  | 0 => 0
  | n + 1 => lowF z n + z n % 4294967296
theorem parts (z : Nat → Int) (n : Nat) : sumZ z n = highF z n * 4294967296 + lowF z n := by
  induction n with
  | zero => rfl
  | succ n ih => simp only [sumZ, highF, lowF]; omega
theorem highF_b (z : Nat → Int) (n : Nat) (h : ∀ i, i < n → -1152921504606846976 ≤ z i ∧ z i ≤ 1152921504606846976) : -268435456 * (n : Int) ≤ highF z n ∧ highF z n ≤ 268435456 * (n : Int) := by
  induction n with
  | zero => simp [highF]
  | succ n ih =>
    have h1 := ih fun i hi => h i (by omega)
    have h2 := h n (by omega)
    simp only [highF]
    omega
theorem lowF_b (z : Nat → Int) (n : Nat) : 0 ≤ lowF z n ∧ lowF z n ≤ 4294967295 * (n : Int) := by
  induction n with
  | zero => simp [lowF]
  | succ n ih => simp only [lowF]; omega
def highR (z : Nat → Int) : Nat → Int
  | 0 => 0
  | n + 1 => highR z n + z n / 1073741824
def lowR (z : Nat → Int) : Nat → Int
  | 0 => 0
  | n + 1 => lowR z n + z n % 1073741824
theorem partsR (z : Nat → Int) (n : Nat) : sumZ z n = highR z n * 1073741824 + lowR z n := by
  induction n with
  | zero => rfl
  | succ n ih => simp only [sumZ, highR, lowR]; omega
theorem highR_b (z : Nat → Int) (n : Nat) (h : ∀ i, i < n → -1152921504606846976 ≤ z i ∧ z i ≤ 1152921504606846976) : -1073741824 * (n : Int) ≤ highR z n ∧ highR z n ≤ 1073741824 * (n : Int) := by
  induction n with
  | zero => simp [highR]
  | succ n ih =>
    have h1 := ih fun i hi => h i (by omega)
    have h2 := h n (by omega)
    simp only [highR]
    omega
theorem lowR_b (z : Nat → Int) (n : Nat) : 0 ≤ lowR z n ∧ lowR z n ≤ 1073741823 * (n : Int) := by
  induction n with
  | zero => simp [lowR]
  | succ n ih => simp only [lowR]; omega
set_option maxRecDepth 10000
def sumR (s : Int) : AV := bif fitsI s then .tup [.int .i64 s, .int .i64 0] else .tup [.int .i64 0, .int .i64 3]
theorem fitsI_iff {n : Int} : fitsI n = true ↔ -1152921504606846976 ≤ n ∧ n ≤ 1152921504606846976 := by simp [fitsI]
theorem fitsI_not {n : Int} : fitsI n = false ↔ n < -1152921504606846976 ∨ 1152921504606846976 < n := by simp [fitsI]; omega
theorem st5 {v w : AV} {a a' b b' c c' : Int} (h1 : a = a') (h2 : b = b') (h3 : c = c') : St.mk [(0, v), (4, .int .i64 a), (5, .int .i64 b), (9, w), (10, .int .i64 c)] [] [] none = St.mk [(0, v), (4, .int .i64 a'), (5, .int .i64 b'), (9, w), (10, .int .i64 c')] [] [] none := by
  subst h1; subst h2; subst h3; rfl
theorem shr32 (x : Int) : x.fdiv (2 ^ min (Int.toNat 32) IntKind.i64.bits) = x / 4294967296 := Int.fdiv_eq_ediv_of_nonneg x (by decide)
theorem centsSum (z : Nat → Int) (n : Nat) (hn : n ≤ 1024) (hz : ∀ i, i < n → fitsI (z i) = true) : CallOK Try.prog 32 [.vec 1 n fun i => .int .i64 (z i)] (fun r => r = sumR (sumZ z n)) := by
  have hzb : ∀ i, i < n → -1152921504606846976 ≤ z i ∧ z i ≤ 1152921504606846976 := fun i hi => fitsI_iff.1 (hz i hi)
  refine okP ?_
  conv => whnf
  repeat ((first | with_reducible refine branch_true rfl ?_ | with_reducible refine branch_false rfl ?_); conv => whnf)
  refine loop_by (cx := cxP) rfl progOK (ι := {i : Nat // i ≤ n}) (fun i => n - i.1) (fun i => ⟨[(0, .vec 1 n fun i => .int .i64 (z i)), (4, .int .i64 (highF z i.1)), (5, .int .i64 (lowF z i.1)), (9, .int .i64 n), (10, .int .i64 i.1)], [], [], none⟩) ?_ ⟨0, Nat.zero_le _⟩
  rintro ⟨i, hi⟩ ih
  have hb1 := highF_b z i (fun j hj => hzb j (by omega))
  have hb2 := lowF_b z i
  conv => whnf
  repeat ((first | with_reducible refine branch_true rfl ?_ | with_reducible refine branch_false rfl ?_); conv => whnf)
  refine branch_of (fun g1 => ?_) (fun g1 => ?_)
  · have g2 : i < n := by simpa using g1
    have hw : IntKind.i64.wrap ((i : Int) + 1) = ((i + 1 : Nat) : Int) := by rw [wrap64 (by omega)]; omega
    have hzi := hzb i g2
    have e1 : IntKind.i64.wrap (highF z i + (z i).fdiv (2 ^ min (Int.toNat 32) IntKind.i64.bits)) = highF z (i + 1) := by
      rw [shr32, wrap64 (by omega)]; rfl
    have e2 : IntKind.i64.wrap (lowF z i + IntKind.i64.wrap ((BitVec.ofInt 64 (z i) &&& BitVec.ofInt 64 4294967295).toNat : Int)) = lowF z (i + 1) := by
      rw [mask32, wrap64 (by omega)]; rfl
    conv => whnf
    repeat ((first | with_reducible refine branch_true rfl ?_ | with_reducible refine branch_false rfl ?_); conv => whnf)
    refine st_addr (sz := 1) (len := n) (n := i) (u := 3) (g := fun i => .int .i64 (z i)) rfl rfl rfl rfl rfl (in_range g2) ?_
    conv => whnf
    repeat ((first | with_reducible refine branch_true rfl ?_ | with_reducible refine branch_false rfl ?_); conv => whnf)
    refine call_is (v := .bool (fitsI (z i))) (fits _) ?_
    conv => whnf
    repeat ((first | with_reducible refine branch_true rfl ?_ | with_reducible refine branch_false rfl ?_); conv => whnf)
    refine branch_false (by rw [hz i g2]; rfl) ?_
    conv => whnf
    repeat ((first | with_reducible refine branch_true rfl ?_ | with_reducible refine branch_false rfl ?_); conv => whnf)
    refine st_addr (sz := 1) (len := n) (n := i) (u := 3) (g := fun i => .int .i64 (z i)) rfl rfl rfl rfl rfl (in_range g2) ?_
    conv => whnf
    repeat ((first | with_reducible refine branch_true rfl ?_ | with_reducible refine branch_false rfl ?_); conv => whnf)
    refine st_addr (sz := 1) (len := n) (n := i) (u := 3) (g := fun i => .int .i64 (z i)) rfl rfl rfl rfl rfl (in_range g2) ?_
    conv => whnf
    repeat ((first | with_reducible refine branch_true rfl ?_ | with_reducible refine branch_false rfl ?_); conv => whnf)
    exact loop_to ih ⟨i + 1, g2⟩ (show n - (i + 1) < n - i by omega) (st5 e1 e2 hw)
  · have g2 : i = n := by simp at g1; omega
    subst g2
    have hs := parts z i
    have e1 : IntKind.i64.wrap (highF z i + (lowF z i).fdiv (2 ^ min (Int.toNat 32) IntKind.i64.bits)) = highF z i + lowF z i / 4294967296 := by
      rw [shr32, wrap64 (by omega)]
    have e0 : IntKind.i64.wrap (0 - 268435456) = -268435456 := by rw [wrap64 (by omega)]; omega
    conv => whnf
    repeat ((first | with_reducible refine branch_true rfl ?_ | with_reducible refine branch_false rfl ?_); conv => whnf)
    refine branch_of (fun g3 => ?_) (fun g3 => ?_)
    · have g3 : highF z i + lowF z i / 4294967296 < -268435456 := by
        have := of_decide_eq_true g3
        rw [← e1, ← e0]; exact this
      conv => whnf
      repeat ((first | with_reducible refine branch_true rfl ?_ | with_reducible refine branch_false rfl ?_); conv => whnf)
      have : fitsI (sumZ z i) = false := fitsI_not.2 (.inl (by omega))
      rw [sumR, this]; rfl
    · have g3 : ¬ highF z i + lowF z i / 4294967296 < -268435456 := by
        have := of_decide_eq_false g3
        rw [← e1, ← e0]; exact this
      conv => whnf
      repeat ((first | with_reducible refine branch_true rfl ?_ | with_reducible refine branch_false rfl ?_); conv => whnf)
      refine branch_of (fun g4 => ?_) (fun g4 => ?_)
      · have g4 : 268435456 < highF z i + lowF z i / 4294967296 := by
          have : decide (268435456 < IntKind.i64.wrap (highF z i + (lowF z i).fdiv (2 ^ min (Int.toNat 32) IntKind.i64.bits))) = true := g4
          rw [e1] at this
          exact of_decide_eq_true this
        conv => whnf
        repeat ((first | with_reducible refine branch_true rfl ?_ | with_reducible refine branch_false rfl ?_); conv => whnf)
        have : fitsI (sumZ z i) = false := fitsI_not.2 (.inr (by omega))
        rw [sumR, this]; rfl
      · have g4 : ¬ 268435456 < highF z i + lowF z i / 4294967296 := by
          have : decide (268435456 < IntKind.i64.wrap (highF z i + (lowF z i).fdiv (2 ^ min (Int.toNat 32) IntKind.i64.bits))) = false := g4
          rw [e1] at this
          exact of_decide_eq_false this
        conv => whnf
        repeat ((first | with_reducible refine branch_true rfl ?_ | with_reducible refine branch_false rfl ?_); conv => whnf)
        have e3 : IntKind.i64.wrap (IntKind.i64.wrap (IntKind.i64.wrap (highF z i + (lowF z i).fdiv (2 ^ min (Int.toNat 32) IntKind.i64.bits)) * 2 ^ min (Int.toNat 32) IntKind.i64.bits) + IntKind.i64.wrap ((BitVec.ofInt 64 (lowF z i) &&& BitVec.ofInt 64 4294967295).toNat : Int)) = sumZ z i := by
          rw [e1, mask32, show ((2 : Int) ^ min (Int.toNat 32) IntKind.i64.bits) = 4294967296 by decide, wrap64 (x := _ * _) (by omega), wrap64 (by omega)]
          omega
        have hc := fitting (sumZ z i)
        rw [← e3] at hc
        cases hf : fitsI (sumZ z i) with
        | false =>
          rw [e3, hf] at hc
          rw [← e3] at hc
          refine call_is (v := .tup [.int .i64 0, .int .i64 3]) hc ?_
          conv => whnf
          repeat ((first | with_reducible refine branch_true rfl ?_ | with_reducible refine branch_false rfl ?_); conv => whnf)
          rw [sumR, hf]; rfl
        | true =>
          rw [e3, hf] at hc
          refine call_is (v := .tup [.int .i64 (sumZ z i), .int .i64 0]) (e3 ▸ hc) ?_
          conv => whnf
          repeat ((first | with_reducible refine branch_true rfl ?_ | with_reducible refine branch_false rfl ?_); conv => whnf)
          rw [sumR, hf]; rfl
end Go.Proofs


set_option linter.unusedVariables false
namespace Go.Proofs
open Ax Go
set_option maxRecDepth 10000
abbrev big : Nat := 9223372036854775807
theorem refFits (n : Int) : CallOK Try.prog 44 [.int .i64 n] (fun r => r = .bool (fitsI n)) := by
  refine okP ?_
  conv => whnf
  repeat ((first | with_reducible refine branch_true rfl ?_ | with_reducible refine branch_false rfl ?_); conv => whnf)
  refine branch_of (fun h => ?_) (fun h => ?_)
  · conv => whnf
    repeat ((first | with_reducible refine branch_true rfl ?_ | with_reducible refine branch_false rfl ?_); conv => whnf)
    have h : -1152921504606846976 ≤ n := of_decide_eq_true h
    simp [fitsI, h]
  · conv => whnf
    repeat ((first | with_reducible refine branch_true rfl ?_ | with_reducible refine branch_false rfl ?_); conv => whnf)
    have h : ¬ -1152921504606846976 ≤ n := of_decide_eq_false h
    simp [fitsI, h]
theorem isLow_of {c : Int} (h1 : 97 ≤ c) (h2 : c ≤ 122) : isLow c = true := by simp [isLow]; omega
theorem not_low {c : Int} (h : c < 97 ∨ 122 < c) : isLow c = false := by simp [isLow]; omega
theorem isDig_of {c : Int} (h1 : 48 ≤ c) (h2 : c ≤ 57) : isDig c = true := by simp [isDig]; omega
theorem not_dig {c : Int} (h : c < 48 ∨ 57 < c) : isDig c = false := by simp [isDig]; omega
theorem all_next {p : Nat → Prop} {i : Nat} (hj : ∀ j, j < i → p j) (h : p i) : ∀ j, j < i + 1 → p j := fun j hj' => by
  rcases Nat.lt_or_ge j i with h' | h'
  · exact hj j h'
  · rw [show j = i by omega]; exact h
abbrev goodAt (s : ByteArray) (j : Nat) : Prop := (isLow (byteAt s j) || (decide (j ≠ 0) && isDig (byteAt s j))) = true
theorem refName (s : ByteArray) (hs : s.size ≤ big) : CallOK Try.prog 39 [.str s] (fun r => r = .bool (nameOK s)) := by
  have hs : s.size ≤ 9223372036854775807 := hs
  refine okP ?_
  conv => whnf
  repeat ((first | with_reducible refine branch_true rfl ?_ | with_reducible refine branch_false rfl ?_); conv => whnf)
  refine loop_by (cx := cxP) rfl progOK (ι := {i : Nat // i ≤ s.size ∧ ∀ j, j < i → goodAt s j}) (fun i => s.size - i.1) (fun i => ⟨[(0, .str s), (3, .int .i64 i.1)], [], [], none⟩) ?_ ⟨0, Nat.zero_le _, fun j hj => absurd hj (by omega)⟩
  rintro ⟨i, hi, hj⟩ ih
  conv => whnf
  repeat ((first | with_reducible refine branch_true rfl ?_ | with_reducible refine branch_false rfl ?_); conv => whnf)
  refine branch_of (fun g1 => ?_) (fun g1 => ?_)
  · have g2 : i < s.size := by simpa using g1
    have next : goodAt s i → ∀ K : St → Prop, (∀ j : {i : Nat // i ≤ s.size ∧ ∀ j, j < i → goodAt s j}, s.size - j.1 < s.size - i → K (St.mk [(0, .str s), (3, .int .i64 j.1)] [] [] none)) → K (St.mk [(0, .str s), (3, .int .i64 (IntKind.i64.wrap ((i : Int) + 1)))] [] [] none) := by
      intro h K hK
      rw [wrap64 (by omega)]
      exact hK ⟨i + 1, g2, all_next hj h⟩ (show s.size - (i + 1) < s.size - i by omega)
    have stop : isLow (byteAt s i) = false → isDig (byteAt s i) = false → AV.bool false = AV.bool (nameOK s) := fun q1 q2 => by
      have : ((List.range s.size).all fun i => isLow (byteAt s i) || isDig (byteAt s i)) = false := by
        rw [List.all_eq_false]; exact ⟨i, List.mem_range.2 g2, by simp [q1, q2]⟩
      simp [nameOK, this]
    have stop0 : isLow (byteAt s 0) = false → AV.bool false = AV.bool (nameOK s) := fun q1 => by
      simp [nameOK, q1]
    conv => whnf
    repeat ((first | with_reducible refine branch_true rfl ?_ | with_reducible refine branch_false rfl ?_); conv => whnf)
    refine st_index (s := s) (n := i) rfl rfl rfl rfl (in_range g2) ?_
    conv => whnf
    repeat ((first | with_reducible refine branch_true rfl ?_ | with_reducible refine branch_false rfl ?_); conv => whnf)
    refine branch_of (fun g3 => ?_) (fun g3 => ?_)
    · have g3 : 97 ≤ byteAt s i := of_decide_eq_true g3
      conv => whnf
      repeat ((first | with_reducible refine branch_true rfl ?_ | with_reducible refine branch_false rfl ?_); conv => whnf)
      refine st_index (s := s) (n := i) rfl rfl rfl rfl (in_range g2) ?_
      conv => whnf
      repeat ((first | with_reducible refine branch_true rfl ?_ | with_reducible refine branch_false rfl ?_); conv => whnf)
      refine branch_of (fun g4 => ?_) (fun g4 => ?_)
      · have g4 : ¬ byteAt s i ≤ 122 := by
          have : (!decide (byteAt s i ≤ 122)) = true := g4
          simpa using this
        have low := not_low (c := byteAt s i) (.inr (by omega))
        conv => whnf
        repeat ((first | with_reducible refine branch_true rfl ?_ | with_reducible refine branch_false rfl ?_); conv => whnf)
        refine branch_of (fun g5 => ?_) (fun g5 => ?_)
        · have g5 : i = 0 := by have : (i : Int) = 0 := of_decide_eq_true g5; omega
          subst g5
          conv => whnf
          repeat ((first | with_reducible refine branch_true rfl ?_ | with_reducible refine branch_false rfl ?_); conv => whnf)
          exact stop0 low
        · have g5 : i ≠ 0 := by have : ¬ (i : Int) = 0 := of_decide_eq_false g5; omega
          conv => whnf
          repeat ((first | with_reducible refine branch_true rfl ?_ | with_reducible refine branch_false rfl ?_); conv => whnf)
          refine st_index (s := s) (n := i) rfl rfl rfl rfl (in_range g2) ?_
          conv => whnf
          repeat ((first | with_reducible refine branch_true rfl ?_ | with_reducible refine branch_false rfl ?_); conv => whnf)
          refine branch_of (fun g6 => ?_) (fun g6 => ?_)
          · have g6 : byteAt s i < 48 := of_decide_eq_true g6
            conv => whnf
            repeat ((first | with_reducible refine branch_true rfl ?_ | with_reducible refine branch_false rfl ?_); conv => whnf)
            exact stop low (not_dig (.inl g6))
          · have g6 : ¬ byteAt s i < 48 := of_decide_eq_false g6
            conv => whnf
            repeat ((first | with_reducible refine branch_true rfl ?_ | with_reducible refine branch_false rfl ?_); conv => whnf)
            refine st_index (s := s) (n := i) rfl rfl rfl rfl (in_range g2) ?_
            conv => whnf
            repeat ((first | with_reducible refine branch_true rfl ?_ | with_reducible refine branch_false rfl ?_); conv => whnf)
            refine branch_of (fun g7 => ?_) (fun g7 => ?_)
            · have g7 : 57 < byteAt s i := of_decide_eq_true g7
              conv => whnf
              repeat ((first | with_reducible refine branch_true rfl ?_ | with_reducible refine branch_false rfl ?_); conv => whnf)
              exact stop low (not_dig (.inr g7))
            · have g7 : ¬ 57 < byteAt s i := of_decide_eq_false g7
              conv => whnf
              repeat ((first | with_reducible refine branch_true rfl ?_ | with_reducible refine branch_false rfl ?_); conv => whnf)
              exact next (by unfold goodAt; rw [isDig_of (by omega) (by omega)]; simp [g5]) (fun s => SLoop _ _ _ _ _ _ s _) ih
      · have g4 : byteAt s i ≤ 122 := by
          have : (!decide (byteAt s i ≤ 122)) = false := g4
          simpa using this
        conv => whnf
        repeat ((first | with_reducible refine branch_true rfl ?_ | with_reducible refine branch_false rfl ?_); conv => whnf)
        exact next (by rw [goodAt, isLow_of (by omega) (by omega), Bool.true_or]) (fun s => SLoop _ _ _ _ _ _ s _) ih
    · have g3 : ¬ 97 ≤ byteAt s i := of_decide_eq_false g3
      have low := not_low (c := byteAt s i) (.inl (by omega))
      conv => whnf
      repeat ((first | with_reducible refine branch_true rfl ?_ | with_reducible refine branch_false rfl ?_); conv => whnf)
      refine branch_of (fun g5 => ?_) (fun g5 => ?_)
      · have g5 : i = 0 := by have : (i : Int) = 0 := of_decide_eq_true g5; omega
        subst g5
        conv => whnf
        repeat ((first | with_reducible refine branch_true rfl ?_ | with_reducible refine branch_false rfl ?_); conv => whnf)
        exact stop0 low
      · have g5 : i ≠ 0 := by have : ¬ (i : Int) = 0 := of_decide_eq_false g5; omega
        conv => whnf
        repeat ((first | with_reducible refine branch_true rfl ?_ | with_reducible refine branch_false rfl ?_); conv => whnf)
        refine st_index (s := s) (n := i) rfl rfl rfl rfl (in_range g2) ?_
        conv => whnf
        repeat ((first | with_reducible refine branch_true rfl ?_ | with_reducible refine branch_false rfl ?_); conv => whnf)
        refine branch_of (fun g6 => ?_) (fun g6 => ?_)
        · have g6 : byteAt s i < 48 := of_decide_eq_true g6
          conv => whnf
          repeat ((first | with_reducible refine branch_true rfl ?_ | with_reducible refine branch_false rfl ?_); conv => whnf)
          exact stop low (not_dig (.inl g6))
        · have g6 : ¬ byteAt s i < 48 := of_decide_eq_false g6
          conv => whnf
          repeat ((first | with_reducible refine branch_true rfl ?_ | with_reducible refine branch_false rfl ?_); conv => whnf)
          refine st_index (s := s) (n := i) rfl rfl rfl rfl (in_range g2) ?_
          conv => whnf
          repeat ((first | with_reducible refine branch_true rfl ?_ | with_reducible refine branch_false rfl ?_); conv => whnf)
          refine branch_of (fun g7 => ?_) (fun g7 => ?_)
          · have g7 : 57 < byteAt s i := of_decide_eq_true g7
            conv => whnf
            repeat ((first | with_reducible refine branch_true rfl ?_ | with_reducible refine branch_false rfl ?_); conv => whnf)
            exact stop low (not_dig (.inr g7))
          · have g7 : ¬ 57 < byteAt s i := of_decide_eq_false g7
            conv => whnf
            repeat ((first | with_reducible refine branch_true rfl ?_ | with_reducible refine branch_false rfl ?_); conv => whnf)
            exact next (by unfold goodAt; rw [isDig_of (by omega) (by omega)]; simp [g5]) (fun s => SLoop _ _ _ _ _ _ s _) ih
  · have g2 : i = s.size := by
      have : ¬ i < s.size := by simpa using g1
      omega
    subst g2
    have hall : ((List.range s.size).all fun i => isLow (byteAt s i) || isDig (byteAt s i)) = true := by
      rw [List.all_eq_true]
      intro j hj2
      have := hj j (List.mem_range.1 hj2)
      unfold goodAt at this
      simp only [Bool.or_eq_true, Bool.and_eq_true] at this ⊢
      exact this.elim .inl fun h => .inr h.2
    have e0 : 0 < s.size → isLow (byteAt s 0) = true := fun h => by
      have := hj 0 h
      unfold goodAt at this
      simpa using this
    have he : decide (s = ByteArray.empty) = decide (s.size = 0) := by
      apply decide_eq_decide.2
      constructor
      · rintro rfl; rfl
      · intro h
        exact ByteArray.size_eq_zero_iff.1 h
    conv => whnf
    repeat ((first | with_reducible refine branch_true rfl ?_ | with_reducible refine branch_false rfl ?_); conv => whnf)
    refine branch_of (fun g3 => ?_) (fun g3 => ?_)
    · have g3 : 0 < s.size := by have := of_decide_eq_true g3; omega
      conv => whnf
      repeat ((first | with_reducible refine branch_true rfl ?_ | with_reducible refine branch_false rfl ?_); conv => whnf)
      simp only [nameOK, hall, e0 g3, he]
      simp [show ¬ s.size = 0 by omega]
      omega
    · have g3 : s.size = 0 := by have := of_decide_eq_false g3; omega
      conv => whnf
      repeat ((first | with_reducible refine branch_true rfl ?_ | with_reducible refine branch_false rfl ?_); conv => whnf)
      simp [nameOK, he, g3]
end Go.Proofs


set_option linter.unusedVariables false
namespace Go.Proofs
open Ax Go
set_option maxRecDepth 10000
structure Cl where
  id : Int
  m : ByteArray
  a : ByteArray
  n : Int
  d : Int
  t : Int
def encC (c : Cl) : AV := .agg [.int .i64 c.id, .str c.m, .str c.a, .int .i64 c.n, .int .i64 c.d, .int .i64 c.t]
def c0 : Cl := ⟨0, ByteArray.empty, ByteArray.empty, 0, 0, 0⟩
def atC (l : List Cl) (i : Nat) : Cl := l.getD i c0
abbrev encL (l : List Cl) : AV := .vec 6 l.length fun i => encC (atC l i)
def CallsAt (l : List Cl) (len : Nat) (g : Nat → AV) : Prop := len = l.length ∧ ∀ i, i < l.length → g i = encC (atC l i)
theorem callsAt_same {l : List Cl} {len : Nat} {g : Nat → AV} (h : CallsAt l len g) : Same (.vec 6 len g) (encL l) := by
  obtain ⟨rfl, h⟩ := h
  exact .vec h
theorem callsAt_self (l : List Cl) : CallsAt l l.length fun i => encC (atC l i) := ⟨rfl, fun i _ => rfl⟩
theorem drop_at {l : List Cl} {i : Nat} (h : i < l.length) : l.drop i = atC l i :: l.drop (i + 1) := by
  rw [List.drop_eq_getElem_cons h, atC, List.getD, List.getElem?_eq_getElem h]; rfl
def Sized (l : List Cl) : Prop := ∀ c ∈ l, c.m.size ≤ big ∧ c.a.size ≤ big
theorem sized_at {l : List Cl} {i : Nat} (h : Sized l) (hi : i < l.length) : (atC l i).m.size ≤ big ∧ (atC l i).a.size ≤ big := by
  rw [atC, List.getD, List.getElem?_eq_getElem hi]
  exact h _ (List.getElem_mem hi)
def dayOK (d : Int) : Bool := decide (0 ≤ d) && decide (d ≤ 73048)
def askE (m a : ByteArray) (n t d : Int) : Int := bif nameOK m && nameOK a then (bif decide (1 ≤ n) && decide (n ≤ 1152921504606846976) && decide (0 ≤ t) && decide (t ≤ n) then (bif dayOK d then 0 else 15) else 2) else 10
def chkC (last : Int) (c : Cl) : Int := bif decide (last < c.id) && decide (c.id ≤ 1152921504606846976) then askE c.m c.a c.n c.t c.d else 2
def checkFrom (last : Int) : List Cl → Int
  | [] => 0
  | c :: r => bif decide (chkC last c = 0) then checkFrom c.id r else chkC last c
def checkL (l : List Cl) : Int := bif decide (1024 < l.length) then 8 else checkFrom 0 l
theorem checkL_long {l : List Cl} (h : 1024 < l.length) : checkL l = 8 := by rw [checkL, decide_eq_true h]; rfl
theorem checkL_from {l : List Cl} (h : l.length ≤ 1024) : checkL l = checkFrom 0 l := by rw [checkL, decide_eq_false (by omega)]; rfl
theorem from_good {last : Int} {c : Cl} {r : List Cl} (h : chkC last c = 0) : checkFrom last (c :: r) = checkFrom c.id r := by rw [checkFrom, decide_eq_true h]; rfl
theorem from_bad {last : Int} {c : Cl} {r : List Cl} (h : chkC last c ≠ 0) : checkFrom last (c :: r) = chkC last c := by rw [checkFrom, decide_eq_false h]; rfl
theorem day (d : Int) : CallOK Try.prog 34 [.int .i64 d] (fun r => r = .bool (dayOK d)) := by
  refine okP ?_
  conv => whnf
  repeat ((first | with_reducible refine branch_true rfl ?_ | with_reducible refine branch_false rfl ?_); conv => whnf)
  refine branch_of (fun h => ?_) (fun h => ?_)
  · conv => whnf
    repeat ((first | with_reducible refine branch_true rfl ?_ | with_reducible refine branch_false rfl ?_); conv => whnf)
    have h : 0 ≤ d := of_decide_eq_true h
    simp [dayOK, h]
  · conv => whnf
    repeat ((first | with_reducible refine branch_true rfl ?_ | with_reducible refine branch_false rfl ?_); conv => whnf)
    have h : ¬ 0 ≤ d := of_decide_eq_false h
    simp [dayOK, h]
theorem asked (m a : ByteArray) (n t d : Int) : CallOK Try.prog 23 [.agg [.str m, .str a], .int .i64 n, .int .i64 t, .int .i64 d] (fun r => r = .int .i64 (askE m a n t d)) := by
  refine okP ?_
  conv => whnf
  repeat ((first | with_reducible refine branch_true rfl ?_ | with_reducible refine branch_false rfl ?_); conv => whnf)
  refine call_is (name m) ?_
  conv => whnf
  repeat ((first | with_reducible refine branch_true rfl ?_ | with_reducible refine branch_false rfl ?_); conv => whnf)
  cases h1 : nameOK m with
  | false =>
    conv => whnf
    repeat ((first | with_reducible refine branch_true rfl ?_ | with_reducible refine branch_false rfl ?_); conv => whnf)
    simp [askE, h1]
  | true =>
    conv => whnf
    repeat ((first | with_reducible refine branch_true rfl ?_ | with_reducible refine branch_false rfl ?_); conv => whnf)
    refine call_is (name a) ?_
    conv => whnf
    repeat ((first | with_reducible refine branch_true rfl ?_ | with_reducible refine branch_false rfl ?_); conv => whnf)
    cases h2 : nameOK a with
    | false =>
      conv => whnf
      repeat ((first | with_reducible refine branch_true rfl ?_ | with_reducible refine branch_false rfl ?_); conv => whnf)
      simp [askE, h1, h2]
    | true =>
      conv => whnf
      repeat ((first | with_reducible refine branch_true rfl ?_ | with_reducible refine branch_false rfl ?_); conv => whnf)
      refine branch_of (fun h3 => ?_) (fun h3 => ?_)
      · have h3 : n < 1 := of_decide_eq_true h3
        conv => whnf
        repeat ((first | with_reducible refine branch_true rfl ?_ | with_reducible refine branch_false rfl ?_); conv => whnf)
        simp [askE, h1, h2, show ¬ 1 ≤ n by omega]
      · have h3 : ¬ n < 1 := of_decide_eq_false h3
        conv => whnf
        repeat ((first | with_reducible refine branch_true rfl ?_ | with_reducible refine branch_false rfl ?_); conv => whnf)
        refine branch_of (fun h4 => ?_) (fun h4 => ?_)
        · have h4 : 1152921504606846976 < n := of_decide_eq_true h4
          conv => whnf
          repeat ((first | with_reducible refine branch_true rfl ?_ | with_reducible refine branch_false rfl ?_); conv => whnf)
          simp [askE, h1, h2, show ¬ n ≤ 1152921504606846976 by omega]
        · have h4 : ¬ 1152921504606846976 < n := of_decide_eq_false h4
          conv => whnf
          repeat ((first | with_reducible refine branch_true rfl ?_ | with_reducible refine branch_false rfl ?_); conv => whnf)
          refine branch_of (fun h5 => ?_) (fun h5 => ?_)
          · have h5 : t < 0 := of_decide_eq_true h5
            conv => whnf
            repeat ((first | with_reducible refine branch_true rfl ?_ | with_reducible refine branch_false rfl ?_); conv => whnf)
            simp [askE, h1, h2, show ¬ 0 ≤ t by omega]
          · have h5 : ¬ t < 0 := of_decide_eq_false h5
            conv => whnf
            repeat ((first | with_reducible refine branch_true rfl ?_ | with_reducible refine branch_false rfl ?_); conv => whnf)
            refine branch_of (fun h6 => ?_) (fun h6 => ?_)
            · have h6 : n < t := of_decide_eq_true h6
              conv => whnf
              repeat ((first | with_reducible refine branch_true rfl ?_ | with_reducible refine branch_false rfl ?_); conv => whnf)
              simp [askE, h1, h2, show ¬ t ≤ n by omega]
            · have h6 : ¬ n < t := of_decide_eq_false h6
              conv => whnf
              repeat ((first | with_reducible refine branch_true rfl ?_ | with_reducible refine branch_false rfl ?_); conv => whnf)
              refine call_is (day d) ?_
              conv => whnf
              repeat ((first | with_reducible refine branch_true rfl ?_ | with_reducible refine branch_false rfl ?_); conv => whnf)
              cases h7 : dayOK d with
              | false =>
                conv => whnf
                repeat ((first | with_reducible refine branch_true rfl ?_ | with_reducible refine branch_false rfl ?_); conv => whnf)
                simp [askE, h1, h2, h7, show 1 ≤ n by omega, show n ≤ 1152921504606846976 by omega, show 0 ≤ t by omega, show t ≤ n by omega]
              | true =>
                conv => whnf
                repeat ((first | with_reducible refine branch_true rfl ?_ | with_reducible refine branch_false rfl ?_); conv => whnf)
                simp [askE, h1, h2, h7, show 1 ≤ n by omega, show n ≤ 1152921504606846976 by omega, show 0 ≤ t by omega, show t ≤ n by omega]
/-- What stands at the head of a check. -/
structure ChkHd (l : List Cl) where
  i : Nat
  last : Int
  hi : i ≤ l.length
  hc : checkFrom 0 l = checkFrom last (l.drop i)
theorem check (l : List Cl) : CallOK Try.prog 13 [encL l] (fun r => r = .int .i64 (checkL l)) := by
  refine okP ?_
  conv => whnf
  repeat ((first | with_reducible refine branch_true rfl ?_ | with_reducible refine branch_false rfl ?_); conv => whnf)
  refine branch_of (fun g0 => ?_) (fun g0 => ?_)
  · have g0 : 1024 < l.length := by have := of_decide_eq_true g0; omega
    conv => whnf
    repeat ((first | with_reducible refine branch_true rfl ?_ | with_reducible refine branch_false rfl ?_); conv => whnf)
    rw [checkL_long g0]
  · have g0 : l.length ≤ 1024 := by have := of_decide_eq_false g0; omega
    rw [checkL_from g0]
    conv => whnf
    repeat ((first | with_reducible refine branch_true rfl ?_ | with_reducible refine branch_false rfl ?_); conv => whnf)
    refine loop_by (cx := cxP) rfl progOK (ι := ChkHd l) (fun x => l.length - x.i) (fun x => ⟨[(3, .int .i64 x.last), (9, encL l), (10, .int .i64 l.length), (11, .int .i64 x.i)], [], [], none⟩) ?_ ⟨0, 0, Nat.zero_le _, rfl⟩
    rintro ⟨i, last, hi, hc⟩ ih
    conv => whnf
    repeat ((first | with_reducible refine branch_true rfl ?_ | with_reducible refine branch_false rfl ?_); conv => whnf)
    refine branch_of (fun g1 => ?_) (fun g1 => ?_)
    · have g2 : i < l.length := by simpa using g1
      have hw : IntKind.i64.wrap ((i : Int) + 1) = ((i + 1 : Nat) : Int) := by rw [wrap64 (by omega)]; omega
      rw [drop_at g2] at hc
      conv => whnf
      repeat ((first | with_reducible refine branch_true rfl ?_ | with_reducible refine branch_false rfl ?_); conv => whnf)
      refine st_addr (sz := 6) (len := l.length) (n := i) (u := 52) (g := fun i => encC (atC l i)) rfl rfl rfl rfl rfl (in_range g2) ?_
      conv => whnf
      repeat ((first | with_reducible refine branch_true rfl ?_ | with_reducible refine branch_false rfl ?_); conv => whnf)
      refine branch_of (fun g3 => ?_) (fun g3 => ?_)
      · have g3 : (atC l i).id ≤ last := of_decide_eq_true g3
        conv => whnf
        repeat ((first | with_reducible refine branch_true rfl ?_ | with_reducible refine branch_false rfl ?_); conv => whnf)
        rw [hc, from_bad (by simp [chkC, show ¬ last < (atC l i).id by omega])]
        simp [chkC, show ¬ last < (atC l i).id by omega]
      · have g3 : ¬ (atC l i).id ≤ last := of_decide_eq_false g3
        conv => whnf
        repeat ((first | with_reducible refine branch_true rfl ?_ | with_reducible refine branch_false rfl ?_); conv => whnf)
        refine branch_of (fun g4 => ?_) (fun g4 => ?_)
        · have g4 : 1152921504606846976 < (atC l i).id := of_decide_eq_true g4
          conv => whnf
          repeat ((first | with_reducible refine branch_true rfl ?_ | with_reducible refine branch_false rfl ?_); conv => whnf)
          rw [hc, from_bad (by simp [chkC, show ¬ (atC l i).id ≤ 1152921504606846976 by omega])]
          simp [chkC, show ¬ (atC l i).id ≤ 1152921504606846976 by omega]
        · have g4 : ¬ 1152921504606846976 < (atC l i).id := of_decide_eq_false g4
          have hk : chkC last (atC l i) = askE (atC l i).m (atC l i).a (atC l i).n (atC l i).t (atC l i).d := by simp [chkC, show last < (atC l i).id by omega, show (atC l i).id ≤ 1152921504606846976 by omega]
          conv => whnf
          repeat ((first | with_reducible refine branch_true rfl ?_ | with_reducible refine branch_false rfl ?_); conv => whnf)
          refine call_is (v := .int .i64 (askE (atC l i).m (atC l i).a (atC l i).n (atC l i).t (atC l i).d)) (asked _ _ _ _ _) ?_
          conv => whnf
          repeat ((first | with_reducible refine branch_true rfl ?_ | with_reducible refine branch_false rfl ?_); conv => whnf)
          refine branch_of (fun g5 => ?_) (fun g5 => ?_)
          · have g5 : askE (atC l i).m (atC l i).a (atC l i).n (atC l i).t (atC l i).d ≠ 0 := by simpa using g5
            conv => whnf
            repeat ((first | with_reducible refine branch_true rfl ?_ | with_reducible refine branch_false rfl ?_); conv => whnf)
            rw [hc, from_bad (by rw [hk]; exact g5), hk]
          · have g5 : askE (atC l i).m (atC l i).a (atC l i).n (atC l i).t (atC l i).d = 0 := by simpa using g5
            conv => whnf
            repeat ((first | with_reducible refine branch_true rfl ?_ | with_reducible refine branch_false rfl ?_); conv => whnf)
            refine loop_to ih ⟨i + 1, (atC l i).id, g2, by rw [hc, from_good (by rw [hk]; exact g5)]⟩ (show l.length - (i + 1) < l.length - i by omega) (congrArg (fun q => St.mk [(3, .int .i64 (atC l i).id), (9, encL l), (10, .int .i64 l.length), (11, .int .i64 q)] [] [] none) hw)
    · have g2 : i = l.length := by simp at g1; omega
      subst g2
      conv => whnf
      repeat ((first | with_reducible refine branch_true rfl ?_ | with_reducible refine branch_false rfl ?_); conv => whnf)
      rw [hc, List.drop_length]; rfl
end Go.Proofs


set_option linter.unusedVariables false
namespace Go.Proofs
open Ax Go
set_option maxRecDepth 10000
theorem named (m a : ByteArray) (hm : m.size ≤ big) (ha : a.size ≤ big) : CallOK Try.prog 25 [.agg [.str m, .str a]] (fun r => r = .bool (nameOK m && nameOK a)) := by
  refine okP ?_
  conv => whnf
  repeat ((first | with_reducible refine branch_true rfl ?_ | with_reducible refine branch_false rfl ?_); conv => whnf)
  refine call_is (refName m hm) ?_
  conv => whnf
  repeat ((first | with_reducible refine branch_true rfl ?_ | with_reducible refine branch_false rfl ?_); conv => whnf)
  cases h1 : nameOK m with
  | false =>
    conv => whnf
    repeat ((first | with_reducible refine branch_true rfl ?_ | with_reducible refine branch_false rfl ?_); conv => whnf)
    rfl
  | true =>
    conv => whnf
    repeat ((first | with_reducible refine branch_true rfl ?_ | with_reducible refine branch_false rfl ?_); conv => whnf)
    refine call_is (refName a ha) ?_
    conv => whnf
    repeat ((first | with_reducible refine branch_true rfl ?_ | with_reducible refine branch_false rfl ?_); conv => whnf)
    cases nameOK a <;> rfl
theorem refCheck (l : List Cl) (hs : Sized l) : CallOK Try.prog 14 [encL l] (fun r => r = .int .i64 (checkL l)) := by
  refine okP ?_
  conv => whnf
  repeat ((first | with_reducible refine branch_true rfl ?_ | with_reducible refine branch_false rfl ?_); conv => whnf)
  refine branch_of (fun g0 => ?_) (fun g0 => ?_)
  · have g0 : 1024 < l.length := by have := of_decide_eq_true g0; omega
    conv => whnf
    repeat ((first | with_reducible refine branch_true rfl ?_ | with_reducible refine branch_false rfl ?_); conv => whnf)
    rw [checkL_long g0]
  · have g0 : l.length ≤ 1024 := by have := of_decide_eq_false g0; omega
    rw [checkL_from g0]
    conv => whnf
    repeat ((first | with_reducible refine branch_true rfl ?_ | with_reducible refine branch_false rfl ?_); conv => whnf)
    refine loop_by (cx := cxP) rfl progOK (ι := ChkHd l) (fun x => l.length - x.i) (fun x => ⟨[(0, encL l), (3, .int .i64 x.last), (4, .int .i64 x.i)], [], [], none⟩) ?_ ⟨0, 0, Nat.zero_le _, rfl⟩
    rintro ⟨i, last, hi, hc⟩ ih
    conv => whnf
    repeat ((first | with_reducible refine branch_true rfl ?_ | with_reducible refine branch_false rfl ?_); conv => whnf)
    refine branch_of (fun g1 => ?_) (fun g1 => ?_)
    · have g2 : i < l.length := by simpa using g1
      have hw : IntKind.i64.wrap ((i : Int) + 1) = ((i + 1 : Nat) : Int) := by rw [wrap64 (by omega)]; omega
      rw [drop_at g2] at hc
      obtain ⟨z1, z2⟩ := sized_at hs g2
      conv => whnf
      repeat ((first | with_reducible refine branch_true rfl ?_ | with_reducible refine branch_false rfl ?_); conv => whnf)
      refine st_addr (sz := 6) (len := l.length) (n := i) (u := 59) (g := fun i => encC (atC l i)) rfl rfl rfl rfl rfl (in_range g2) ?_
      conv => whnf
      repeat ((first | with_reducible refine branch_true rfl ?_ | with_reducible refine branch_false rfl ?_); conv => whnf)
      refine branch_of (fun g3 => ?_) (fun g3 => ?_)
      · have g3 : (atC l i).id ≤ last := of_decide_eq_true g3
        conv => whnf
        repeat ((first | with_reducible refine branch_true rfl ?_ | with_reducible refine branch_false rfl ?_); conv => whnf)
        have e : chkC last (atC l i) = 2 := by simp [chkC, show ¬ last < (atC l i).id by omega]
        rw [hc, from_bad (by rw [e]; decide), e]
      · have g3 : ¬ (atC l i).id ≤ last := of_decide_eq_false g3
        conv => whnf
        repeat ((first | with_reducible refine branch_true rfl ?_ | with_reducible refine branch_false rfl ?_); conv => whnf)
        refine st_addr (sz := 6) (len := l.length) (n := i) (u := 59) (g := fun i => encC (atC l i)) rfl rfl rfl rfl rfl (in_range g2) ?_
        conv => whnf
        repeat ((first | with_reducible refine branch_true rfl ?_ | with_reducible refine branch_false rfl ?_); conv => whnf)
        refine branch_of (fun g4 => ?_) (fun g4 => ?_)
        · have g4 : 1152921504606846976 < (atC l i).id := of_decide_eq_true g4
          conv => whnf
          repeat ((first | with_reducible refine branch_true rfl ?_ | with_reducible refine branch_false rfl ?_); conv => whnf)
          have e : chkC last (atC l i) = 2 := by simp [chkC, show ¬ (atC l i).id ≤ 1152921504606846976 by omega]
          rw [hc, from_bad (by rw [e]; decide), e]
        · have g4 : ¬ 1152921504606846976 < (atC l i).id := of_decide_eq_false g4
          have hk : chkC last (atC l i) = askE (atC l i).m (atC l i).a (atC l i).n (atC l i).t (atC l i).d := by simp [chkC, show last < (atC l i).id by omega, show (atC l i).id ≤ 1152921504606846976 by omega]
          have bad : ∀ e : Int, askE (atC l i).m (atC l i).a (atC l i).n (atC l i).t (atC l i).d = e → e ≠ 0 → AV.int .i64 e = .int .i64 (checkFrom 0 l) := fun e h he => by
            rw [hc, from_bad (by rw [hk, h]; exact he), hk, h]
          conv => whnf
          repeat ((first | with_reducible refine branch_true rfl ?_ | with_reducible refine branch_false rfl ?_); conv => whnf)
          refine st_addr (sz := 6) (len := l.length) (n := i) (u := 59) (g := fun i => encC (atC l i)) rfl rfl rfl rfl rfl (in_range g2) ?_
          conv => whnf
          repeat ((first | with_reducible refine branch_true rfl ?_ | with_reducible refine branch_false rfl ?_); conv => whnf)
          refine st_addr (sz := 6) (len := l.length) (n := i) (u := 59) (g := fun i => encC (atC l i)) rfl rfl rfl rfl rfl (in_range g2) ?_
          conv => whnf
          repeat ((first | with_reducible refine branch_true rfl ?_ | with_reducible refine branch_false rfl ?_); conv => whnf)
          refine call_is (v := .bool (nameOK (atC l i).m && nameOK (atC l i).a)) (named _ _ z1 z2) ?_
          cases h1 : (nameOK (atC l i).m && nameOK (atC l i).a) with
          | false =>
            conv => whnf
            repeat ((first | with_reducible refine branch_true rfl ?_ | with_reducible refine branch_false rfl ?_); conv => whnf)
            exact bad 10 (by simp only [askE, h1]; rfl) (by decide)
          | true =>
            conv => whnf
            repeat ((first | with_reducible refine branch_true rfl ?_ | with_reducible refine branch_false rfl ?_); conv => whnf)
            refine st_addr (sz := 6) (len := l.length) (n := i) (u := 59) (g := fun i => encC (atC l i)) rfl rfl rfl rfl rfl (in_range g2) ?_
            conv => whnf
            repeat ((first | with_reducible refine branch_true rfl ?_ | with_reducible refine branch_false rfl ?_); conv => whnf)
            refine branch_of (fun g5 => ?_) (fun g5 => ?_)
            · have g5 : (atC l i).n < 1 := of_decide_eq_true g5
              conv => whnf
              repeat ((first | with_reducible refine branch_true rfl ?_ | with_reducible refine branch_false rfl ?_); conv => whnf)
              exact bad 2 (by simp only [askE, h1]; simp [show ¬ 1 ≤ (atC l i).n by omega]) (by decide)
            · have g5 : ¬ (atC l i).n < 1 := of_decide_eq_false g5
              conv => whnf
              repeat ((first | with_reducible refine branch_true rfl ?_ | with_reducible refine branch_false rfl ?_); conv => whnf)
              refine st_addr (sz := 6) (len := l.length) (n := i) (u := 59) (g := fun i => encC (atC l i)) rfl rfl rfl rfl rfl (in_range g2) ?_
              conv => whnf
              repeat ((first | with_reducible refine branch_true rfl ?_ | with_reducible refine branch_false rfl ?_); conv => whnf)
              refine branch_of (fun g6 => ?_) (fun g6 => ?_)
              · have g6 : 1152921504606846976 < (atC l i).n := of_decide_eq_true g6
                conv => whnf
                repeat ((first | with_reducible refine branch_true rfl ?_ | with_reducible refine branch_false rfl ?_); conv => whnf)
                exact bad 2 (by simp only [askE, h1]; simp [show ¬ (atC l i).n ≤ 1152921504606846976 by omega]) (by decide)
              · have g6 : ¬ 1152921504606846976 < (atC l i).n := of_decide_eq_false g6
                conv => whnf
                repeat ((first | with_reducible refine branch_true rfl ?_ | with_reducible refine branch_false rfl ?_); conv => whnf)
                refine st_addr (sz := 6) (len := l.length) (n := i) (u := 59) (g := fun i => encC (atC l i)) rfl rfl rfl rfl rfl (in_range g2) ?_
                conv => whnf
                repeat ((first | with_reducible refine branch_true rfl ?_ | with_reducible refine branch_false rfl ?_); conv => whnf)
                refine branch_of (fun g7 => ?_) (fun g7 => ?_)
                · have g7 : (atC l i).t < 0 := of_decide_eq_true g7
                  conv => whnf
                  repeat ((first | with_reducible refine branch_true rfl ?_ | with_reducible refine branch_false rfl ?_); conv => whnf)
                  exact bad 2 (by simp only [askE, h1]; simp [show ¬ 0 ≤ (atC l i).t by omega]) (by decide)
                · have g7 : ¬ (atC l i).t < 0 := of_decide_eq_false g7
                  conv => whnf
                  repeat ((first | with_reducible refine branch_true rfl ?_ | with_reducible refine branch_false rfl ?_); conv => whnf)
                  refine st_addr (sz := 6) (len := l.length) (n := i) (u := 59) (g := fun i => encC (atC l i)) rfl rfl rfl rfl rfl (in_range g2) ?_
                  conv => whnf
                  repeat ((first | with_reducible refine branch_true rfl ?_ | with_reducible refine branch_false rfl ?_); conv => whnf)
                  refine st_addr (sz := 6) (len := l.length) (n := i) (u := 59) (g := fun i => encC (atC l i)) rfl rfl rfl rfl rfl (in_range g2) ?_
                  conv => whnf
                  repeat ((first | with_reducible refine branch_true rfl ?_ | with_reducible refine branch_false rfl ?_); conv => whnf)
                  refine branch_of (fun g8 => ?_) (fun g8 => ?_)
                  · have g8 : (atC l i).n < (atC l i).t := of_decide_eq_true g8
                    conv => whnf
                    repeat ((first | with_reducible refine branch_true rfl ?_ | with_reducible refine branch_false rfl ?_); conv => whnf)
                    exact bad 2 (by simp only [askE, h1]; simp [show ¬ (atC l i).t ≤ (atC l i).n by omega]) (by decide)
                  · have g8 : ¬ (atC l i).n < (atC l i).t := of_decide_eq_false g8
                    have hd : askE (atC l i).m (atC l i).a (atC l i).n (atC l i).t (atC l i).d = bif dayOK (atC l i).d then 0 else 15 := by
                      simp only [askE, h1]
                      simp [show 1 ≤ (atC l i).n by omega, show (atC l i).n ≤ 1152921504606846976 by omega, show 0 ≤ (atC l i).t by omega, show (atC l i).t ≤ (atC l i).n by omega]
                    conv => whnf
                    repeat ((first | with_reducible refine branch_true rfl ?_ | with_reducible refine branch_false rfl ?_); conv => whnf)
                    refine st_addr (sz := 6) (len := l.length) (n := i) (u := 59) (g := fun i => encC (atC l i)) rfl rfl rfl rfl rfl (in_range g2) ?_
                    conv => whnf
                    repeat ((first | with_reducible refine branch_true rfl ?_ | with_reducible refine branch_false rfl ?_); conv => whnf)
                    refine branch_of (fun g9 => ?_) (fun g9 => ?_)
                    · have g9 : (atC l i).d < 0 := of_decide_eq_true g9
                      conv => whnf
                      repeat ((first | with_reducible refine branch_true rfl ?_ | with_reducible refine branch_false rfl ?_); conv => whnf)
                      exact bad 15 (by rw [hd]; simp [dayOK, show ¬ 0 ≤ (atC l i).d by omega]) (by decide)
                    · have g9 : ¬ (atC l i).d < 0 := of_decide_eq_false g9
                      conv => whnf
                      repeat ((first | with_reducible refine branch_true rfl ?_ | with_reducible refine branch_false rfl ?_); conv => whnf)
                      refine st_addr (sz := 6) (len := l.length) (n := i) (u := 59) (g := fun i => encC (atC l i)) rfl rfl rfl rfl rfl (in_range g2) ?_
                      conv => whnf
                      repeat ((first | with_reducible refine branch_true rfl ?_ | with_reducible refine branch_false rfl ?_); conv => whnf)
                      refine branch_of (fun ga => ?_) (fun ga => ?_)
                      · have ga : 73048 < (atC l i).d := of_decide_eq_true ga
                        conv => whnf
                        repeat ((first | with_reducible refine branch_true rfl ?_ | with_reducible refine branch_false rfl ?_); conv => whnf)
                        exact bad 15 (by rw [hd]; simp [dayOK, show ¬ (atC l i).d ≤ 73048 by omega]) (by decide)
                      · have ga : ¬ 73048 < (atC l i).d := of_decide_eq_false ga
                        have hz : chkC last (atC l i) = 0 := by rw [hk, hd]; simp [dayOK, show 0 ≤ (atC l i).d by omega, show (atC l i).d ≤ 73048 by omega]
                        conv => whnf
                        repeat ((first | with_reducible refine branch_true rfl ?_ | with_reducible refine branch_false rfl ?_); conv => whnf)
                        exact loop_to ih ⟨i + 1, (atC l i).id, g2, by rw [hc, from_good hz]⟩ (show l.length - (i + 1) < l.length - i by omega) (congrArg (fun q => St.mk [(0, encL l), (3, .int .i64 (atC l i).id), (4, .int .i64 q)] [] [] none) hw)
    · have g2 : i = l.length := by simp at g1; omega
      subst g2
      conv => whnf
      repeat ((first | with_reducible refine branch_true rfl ?_ | with_reducible refine branch_false rfl ?_); conv => whnf)
      rw [hc, List.drop_length]; rfl
end Go.Proofs


set_option linter.unusedVariables false
namespace Go.Proofs
open Ax Go
set_option maxRecDepth 10000
theorem room64 {m : Nat} (h : m ≤ 1000000) : roomOK m 64 = true := by
  simp [roomOK]; omega
theorem vapp_two {z : AV} {g v F : Nat → AV} {i m : Nat} (h : ∀ j, j < i → g j = F j) (hv : ∀ j, j < m → v j = F (i + j)) : ∀ j, j < i + m → vapp z g i v m j = F j := by
  intro j hj
  unfold vapp
  by_cases h3 : j < i
  · rw [show Nat.blt j i = true by rw [Nat.blt_eq]; exact h3, cond_true, h j h3]
  · have e : Nat.blt j i = false := by rw [Bool.eq_false_iff, ne_eq, Nat.blt_eq]; omega
    rw [e, cond_false, show Nat.blt j (i + m) = true by rw [Nat.blt_eq]; omega, cond_true, hv _ (by omega), show i + (j - i) = j by omega]
theorem atC_left {l r : List Cl} {i : Nat} (h : i < l.length) : atC (l ++ r) i = atC l i := by
  unfold atC; rw [List.getD, List.getD, List.getElem?_append_left h]
theorem atC_right {l r : List Cl} {i : Nat} : atC (l ++ r) (l.length + i) = atC r i := by
  unfold atC; rw [List.getD, List.getD, List.getElem?_append_right (by omega), Nat.add_sub_cancel_left]
theorem callsAt_app {l r : List Cl} {len m : Nat} {g v : Nat → AV} {z : AV} (h : CallsAt l len g) (hr : CallsAt r m v) : CallsAt (l ++ r) (len + m) (vapp z g len v m) := by
  obtain ⟨rfl, h⟩ := h
  obtain ⟨rfl, hr⟩ := hr
  refine ⟨by simp, fun i hi => vapp_two (F := fun i => encC (atC (l ++ r) i)) (fun j hj => ?_) (fun j hj => ?_) i (by simpa using hi)⟩
  · rw [h j hj, atC_left hj]
  · rw [hr j hj, atC_right]
theorem callsAt_one {c : Cl} {v : Nat → AV} (h : v 0 = encC c) : CallsAt [c] 1 v := ⟨rfl, fun i hi => by
  obtain rfl : i = 0 := by simp at hi; omega
  exact h⟩
theorem callsAt_nil {g : Nat → AV} : CallsAt [] 0 g := ⟨rfl, fun i hi => by simp at hi⟩
theorem clone (l : List Cl) (hl : l.length ≤ 100000) : CallOK Try.prog 24 [encL l] (fun r => ∃ len g, r = .own (.vec 6 len g) ∧ CallsAt l len g) := by
  refine okP ?_
  conv => whnf
  repeat ((first | with_reducible refine branch_true rfl ?_ | with_reducible refine branch_false rfl ?_); conv => whnf)
  have key : ∀ z (g0 : Nat → AV), CallsAt l (0 + l.length) (vapp z g0 0 (fun i => encC (atC l i)) l.length) := fun z g0 => by
    exact callsAt_app (z := z) (callsAt_nil (g := g0)) (callsAt_self l)
  refine branch_of (fun h1 => ?_) (fun h1 => ?_)
  · have h1 : l = [] := by
      have : Nat.beq l.length 0 = true := h1
      rw [Nat.beq_eq] at this
      exact List.length_eq_zero_iff.1 this
    subst h1
    intro i hi
    rcases (by omega : i = 0 ∨ i = 1) with rfl | rfl
    · conv => whnf
      repeat ((first | with_reducible refine branch_true rfl ?_ | with_reducible refine branch_false rfl ?_); conv => whnf)
      exact ⟨0, _, rfl, callsAt_nil⟩
    · conv => whnf
      repeat ((first | with_reducible refine branch_true rfl ?_ | with_reducible refine branch_false rfl ?_); conv => whnf)
      exact ⟨0, _, rfl, callsAt_nil⟩
  · conv => whnf
    repeat ((first | with_reducible refine branch_true rfl ?_ | with_reducible refine branch_false rfl ?_); conv => whnf)
    refine st_append (sz := 6) (len := 0) (u := 52) (m := l.length) (gg := fun i => encC (atC l i)) rfl rfl rfl rfl rfl (room64 (by omega)) ?_
    conv => whnf
    repeat ((first | with_reducible refine branch_true rfl ?_ | with_reducible refine branch_false rfl ?_); conv => whnf)
    exact ⟨_, _, rfl, key _ _⟩
def lastId (l : List Cl) : Int := bif decide (0 < l.length) then (atC l (l.length - 1)).id else 0
def makeS (l : List Cl) (m a : ByteArray) (n d : Int) : List Cl × Int × Int :=
  bif decide (checkL l ≠ 0) then ([], 0, checkL l) else
  bif decide (askE m a n 0 d ≠ 0) then ([], 0, askE m a n 0 d) else
  bif decide (l.length = 1024) || decide (lastId l = 1152921504606846976) then ([], 0, 8) else
  (l ++ [⟨lastId l + 1, m, a, n, d, 0⟩], lastId l + 1, 0)
/-- Three answers, the first a list. -/
def Res3 (p : List Cl × Int × Int) (r : AV) : Prop := ∃ len g, r = .tup [.vec 6 len g, .int .i64 p.2.1, .int .i64 p.2.2] ∧ CallsAt p.1 len g
theorem res3_nil {p : List Cl × Int × Int} {e : Int} {g : Nat → AV} (h : p = ([], 0, e)) : Res3 p (.tup [.vec 6 0 g, .int .i64 0, .int .i64 e]) := by
  subst h; exact ⟨0, g, rfl, callsAt_nil⟩
theorem from_ids {l : List Cl} {last : Int} (h : checkFrom last l = 0) : (∀ c ∈ l, last < c.id ∧ c.id ≤ 1152921504606846976 ∧ askE c.m c.a c.n c.t c.d = 0) ∧ l.Pairwise fun a b => a.id < b.id := by
  induction l generalizing last with
  | nil => exact ⟨fun c hc => by simp at hc, List.Pairwise.nil⟩
  | cons c r ih =>
    by_cases hk : chkC last c = 0
    · rw [from_good hk] at h
      obtain ⟨h1, h2⟩ := ih h
      have h3 : last < c.id ∧ c.id ≤ 1152921504606846976 ∧ askE c.m c.a c.n c.t c.d = 0 := by
        unfold chkC at hk
        by_cases a1 : last < c.id <;> by_cases a2 : c.id ≤ 1152921504606846976 <;> simp [a1, a2] at hk
        exact ⟨a1, a2, hk⟩
      refine ⟨fun q hq => ?_, List.pairwise_cons.2 ⟨fun q hq => (h1 q hq).1, h2⟩⟩
      rcases List.mem_cons.1 hq with rfl | hq
      · exact h3
      · obtain ⟨b1, b2⟩ := h1 q hq
        exact ⟨by omega, b2⟩
    · rw [from_bad hk] at h; exact absurd h hk
theorem check_good {l : List Cl} (h : checkL l = 0) : l.length ≤ 1024 ∧ (∀ c ∈ l, 0 < c.id ∧ c.id ≤ 1152921504606846976 ∧ askE c.m c.a c.n c.t c.d = 0) ∧ l.Pairwise fun a b => a.id < b.id := by
  by_cases h1 : 1024 < l.length
  · rw [checkL_long h1] at h; cases h
  · rw [checkL_from (by omega)] at h
    obtain ⟨h2, h3⟩ := from_ids h
    exact ⟨by omega, fun c hc => h2 c hc, h3⟩
theorem atC_mem {l : List Cl} {i : Nat} (h : i < l.length) : atC l i ∈ l := by
  rw [atC, List.getD, List.getElem?_eq_getElem h]; exact List.getElem_mem h
theorem lastId_b {l : List Cl} (h : checkL l = 0) : 0 ≤ lastId l ∧ lastId l ≤ 1152921504606846976 := by
  unfold lastId
  by_cases h0 : 0 < l.length
  · rw [decide_eq_true h0, cond_true]
    have := (check_good h).2.1 _ (atC_mem (show l.length - 1 < l.length by omega))
    omega
  · rw [decide_eq_false h0, cond_false]; omega
theorem make (l : List Cl) (m a : ByteArray) (n d : Int) : CallOK Try.prog 9 [encL l, .agg [.str m, .str a], .int .i64 n, .int .i64 d] (Res3 (makeS l m a n d)) := by
  refine okP ?_
  conv => whnf
  repeat ((first | with_reducible refine branch_true rfl ?_ | with_reducible refine branch_false rfl ?_); conv => whnf)
  refine call_is (check l) ?_
  conv => whnf
  repeat ((first | with_reducible refine branch_true rfl ?_ | with_reducible refine branch_false rfl ?_); conv => whnf)
  refine branch_of (fun h1 => ?_) (fun h1 => ?_)
  · have h1 : checkL l ≠ 0 := by simpa using h1
    conv => whnf
    repeat ((first | with_reducible refine branch_true rfl ?_ | with_reducible refine branch_false rfl ?_); conv => whnf)
    exact res3_nil (by simp [makeS, h1])
  · have h1 : checkL l = 0 := by simpa using h1
    have hg := (check_good h1).1
    have hb := lastId_b h1
    conv => whnf
    repeat ((first | with_reducible refine branch_true rfl ?_ | with_reducible refine branch_false rfl ?_); conv => whnf)
    refine call_is (asked m a n 0 d) ?_
    conv => whnf
    repeat ((first | with_reducible refine branch_true rfl ?_ | with_reducible refine branch_false rfl ?_); conv => whnf)
    refine branch_of (fun h2 => ?_) (fun h2 => ?_)
    · have h2 : askE m a n 0 d ≠ 0 := by simpa using h2
      conv => whnf
      repeat ((first | with_reducible refine branch_true rfl ?_ | with_reducible refine branch_false rfl ?_); conv => whnf)
      exact res3_nil (by simp [makeS, h1, h2])
    · have h2 : askE m a n 0 d = 0 := by simpa using h2
      have fin : ∀ len g gg, CallsAt l len g → gg 0 = encC ⟨lastId l + 1, m, a, n, d, 0⟩ → l.length ≠ 1024 → lastId l ≠ 1152921504606846976 → Res3 (makeS l m a n d) (.tup [.vec 6 (len + 1) (vapp (zeroElem Try.prog 52) g len gg 1), .int .i64 (IntKind.i64.wrap (lastId l + 1)), .int .i64 0]) := fun len g gg k1 k2 k3 k4 => by
        rw [wrap64 (by omega)]
        have : makeS l m a n d = (l ++ [⟨lastId l + 1, m, a, n, d, 0⟩], lastId l + 1, 0) := by simp [makeS, h1, h2, k3, k4]
        rw [this]
        exact ⟨_, _, rfl, callsAt_app k1 (callsAt_one k2)⟩
      conv => whnf
      repeat ((first | with_reducible refine branch_true rfl ?_ | with_reducible refine branch_false rfl ?_); conv => whnf)
      refine branch_of (fun h3 => ?_) (fun h3 => ?_)
      · have h3 : 0 < l.length := by have := of_decide_eq_true h3; omega
        have e : lastId l = (atC l (l.length - 1)).id := by rw [lastId, decide_eq_true h3]; rfl
        have hw : IntKind.i64.wrap ((l.length : Int) - 1) = ((l.length - 1 : Nat) : Int) := by rw [wrap64 (by omega)]; omega
        conv => whnf
        repeat ((first | with_reducible refine branch_true rfl ?_ | with_reducible refine branch_false rfl ?_); conv => whnf)
        refine st_addr_v (sz := 6) (len := l.length) (n := IntKind.i64.wrap ((l.length : Int) - 1)) (u := 52) (v := encC (atC l (l.length - 1))) rfl rfl rfl rfl rfl (by rw [hw]; exact in_range (by omega)) (by rw [hw]; rfl) ?_
        conv => whnf
        repeat ((first | with_reducible refine branch_true rfl ?_ | with_reducible refine branch_false rfl ?_); conv => whnf)
        refine branch_of (fun h4 => ?_) (fun h4 => ?_)
        · have h4 : l.length = 1024 := by have := of_decide_eq_true h4; omega
          conv => whnf
          repeat ((first | with_reducible refine branch_true rfl ?_ | with_reducible refine branch_false rfl ?_); conv => whnf)
          exact res3_nil (by simp [makeS, h1, h2, h4])
        · have h4 : l.length ≠ 1024 := by have := of_decide_eq_false h4; omega
          conv => whnf
          repeat ((first | with_reducible refine branch_true rfl ?_ | with_reducible refine branch_false rfl ?_); conv => whnf)
          refine branch_of (fun h5 => ?_) (fun h5 => ?_)
          · have h5 : lastId l = 1152921504606846976 := by rw [e]; exact of_decide_eq_true h5
            conv => whnf
            repeat ((first | with_reducible refine branch_true rfl ?_ | with_reducible refine branch_false rfl ?_); conv => whnf)
            exact res3_nil (by simp [makeS, h1, h2, h5])
          · have h5 : lastId l ≠ 1152921504606846976 := by rw [e]; exact of_decide_eq_false h5
            conv => whnf
            repeat ((first | with_reducible refine branch_true rfl ?_ | with_reducible refine branch_false rfl ?_); conv => whnf)
            refine call_by (clone l (by omega)) ⟨_, _, _, rfl, callsAt_self l⟩ ?_
            rintro r ⟨len, g, rfl, hc⟩
            have hlen := hc.1
            conv => whnf
            repeat ((first | with_reducible refine branch_true rfl ?_ | with_reducible refine branch_false rfl ?_); conv => whnf)
            refine st_append (sz := 6) (len := len) (u := 52) (m := 1) (gg := vlist (zeroElem Try.prog 52) [encC ⟨IntKind.i64.wrap ((atC l (l.length - 1)).id + 1), m, a, n, d, 0⟩]) rfl rfl rfl rfl rfl (room64 (by omega)) ?_
            conv => whnf
            repeat ((first | with_reducible refine branch_true rfl ?_ | with_reducible refine branch_false rfl ?_); conv => whnf)
            rw [← e]
            exact fin len g _ hc (by rw [wrap64 (by omega)]; rfl) h4 h5
      · have h3 : l.length = 0 := by have := of_decide_eq_false h3; omega
        have e : lastId l = 0 := by rw [lastId, decide_eq_false (by omega)]; rfl
        conv => whnf
        repeat ((first | with_reducible refine branch_true rfl ?_ | with_reducible refine branch_false rfl ?_); conv => whnf)
        refine branch_of (fun h4 => ?_) (fun h4 => ?_)
        · have h4 : l.length = 1024 := by have := of_decide_eq_true h4; omega
          omega
        · conv => whnf
          repeat ((first | with_reducible refine branch_true rfl ?_ | with_reducible refine branch_false rfl ?_); conv => whnf)
          refine call_by (clone l (by omega)) ⟨_, _, _, rfl, callsAt_self l⟩ ?_
          rintro r ⟨len, g, rfl, hc⟩
          have hlen := hc.1
          conv => whnf
          repeat ((first | with_reducible refine branch_true rfl ?_ | with_reducible refine branch_false rfl ?_); conv => whnf)
          refine st_append (sz := 6) (len := len) (u := 52) (m := 1) (gg := vlist (zeroElem Try.prog 52) [encC ⟨1, m, a, n, d, 0⟩]) rfl rfl rfl rfl rfl (room64 (by omega)) ?_
          conv => whnf
          repeat ((first | with_reducible refine branch_true rfl ?_ | with_reducible refine branch_false rfl ?_); conv => whnf)
          have := fin len g (vlist (zeroElem Try.prog 52) [encC ⟨1, m, a, n, d, 0⟩]) hc (by rw [e]; rfl) (by omega) (by omega)
          rw [e] at this
          exact this
end Go.Proofs

