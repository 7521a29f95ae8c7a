import Derived.Shelf.SlSortCmp.WholeK
import Derived.Ground.SlsfProg
import Derived.Test.YtiadhiggmjiibaaProg
import Derived.Test.YtiadhiggmjiibaaMI
/- The sort's layings at this dump, in plain words (written by the kit's lay-plain). -/
namespace Go.Proofs
open Go.Shelf
def Try.sortKeys_ren : Go.Shelf.Ren := ⟨fun | 6 => 40 | 15 => 57 | 14 => 56 | 28 => 68 | 29 => 69 | 20 => 60 | 21 => 61 | 22 => 62 | 23 => 63 | 24 => 64 | 25 => 65 | 26 => 66 | 27 => 67 | 46 => 70 | 47 => 71 | 48 => 72 | 49 => 73 | 50 => 74 | 57 => 75 | n => n, fun | 22 => 76 | 24 => 78 | 25 => 82 | 3 => 3 | 39 => 36 | 0 => 0 | 53 => 102 | 55 => 104 | 4 => 4 | 46 => 96 | 45 => 95 | 50 => 85 | 5 => 5 | 9 => 9 | 66 => 105 | 70 => 109 | 76 => 111 | 77 => 72 | n => n, fun | n => n⟩
theorem Try.sortKeys : Go.Proofs.SlLaysF0.n6 Try.prog Try.sortKeys_ren := {
  mixed := by kernel_rfl
  f6 := ⟨Try.f40.name, by decide, Try.func40.trans (congrArg some (by kernel_rfl))⟩
  f14 := ⟨Try.f56.name, by decide, Try.func56.trans (congrArg some (by kernel_rfl))⟩
  f15 := Try.func57.trans (congrArg some (by kernel_rfl))
  f20 := ⟨Try.f60.name, by decide, Try.func60.trans (congrArg some (by kernel_rfl))⟩
  f21 := ⟨Try.f61.name, by decide, Try.func61.trans (congrArg some (by kernel_rfl))⟩
  f22 := ⟨Try.f62.name, by decide, Try.func62.trans (congrArg some (by kernel_rfl))⟩
  f23 := ⟨Try.f63.name, by decide, Try.func63.trans (congrArg some (by kernel_rfl))⟩
  f24 := ⟨Try.f64.name, by decide, Try.func64.trans (congrArg some (by kernel_rfl))⟩
  f25 := ⟨Try.f65.name, by decide, Try.func65.trans (congrArg some (by kernel_rfl))⟩
  f26 := ⟨Try.f66.name, by decide, Try.func66.trans (congrArg some (by kernel_rfl))⟩
  f27 := ⟨Try.f67.name, by decide, Try.func67.trans (congrArg some (by kernel_rfl))⟩
  f28 := Try.func68.trans (congrArg some (by kernel_rfl))
  f29 := Try.func69.trans (congrArg some (by kernel_rfl))
  f46 := ⟨Try.f70.name, by decide, Try.func70.trans (congrArg some (by kernel_rfl))⟩
  f47 := Try.func71.trans (congrArg some (by kernel_rfl))
  f48 := Try.func72.trans (congrArg some (by kernel_rfl))
  f49 := ⟨Try.f73.name, by decide, Try.func73.trans (congrArg some (by kernel_rfl))⟩
  f50 := ⟨Try.f74.name, by decide, Try.func74.trans (congrArg some (by kernel_rfl))⟩
  f57 := ⟨Try.f75.name, by decide, Try.func75.trans (congrArg some (by kernel_rfl))⟩
  t0 := Try.underlying0
  a0 := Try.isAgg0
  z0 := Try.sizeOf0
  v0 := Try.zeroValue0
  t3 := Try.underlying3
  a3 := Try.isAgg3
  z3 := Try.sizeOf3
  v3 := Try.zeroValue3
  t4 := Try.underlying4
  a4 := Try.isAgg4
  z4 := Try.sizeOf4
  v4 := Try.zeroValue4
  t5 := Try.underlying5
  a5 := Try.isAgg5
  z5 := Try.sizeOf5
  v5 := Try.zeroValue5
  t9 := Try.underlying9
  a9 := Try.isAgg9
  z9 := Try.sizeOf9
  v9 := Try.zeroValue9
  t22 := Try.underlying76
  a22 := Try.isAgg76
  z22 := Try.sizeOf76
  v22 := Try.zeroValue76
  t25 := Try.underlying82
  a25 := Try.isAgg82
  z25 := Try.sizeOf82
  v25 := Try.zeroValue82
  t39 := Try.underlying36
  a39 := Try.isAgg36
  z39 := Try.sizeOf36
  v39 := Try.zeroValue36
  t45 := Try.underlying95
  a45 := Try.isAgg95
  z45 := Try.sizeOf95
  v45 := Try.zeroValue95
  t46 := Try.underlying96
  a46 := Try.isAgg96
  z46 := Try.sizeOf96
  v46 := Try.zeroValue96
  t50 := Try.underlying85
  a50 := Try.isAgg85
  z50 := Try.sizeOf85
  v50 := Try.zeroValue85
  t53 := Try.underlying102
  a53 := Try.isAgg102
  z53 := Try.sizeOf102
  v53 := Try.zeroValue102
  t55 := Try.underlying104
  a55 := Try.isAgg104
  z55 := Try.sizeOf104
  v55 := Try.zeroValue104
  t66 := Try.underlying105
  a66 := Try.isAgg105
  z66 := Try.sizeOf105
  v66 := Try.zeroValue105
  t70 := Try.underlying109
  a70 := Try.isAgg109
  z70 := Try.sizeOf109
  v70 := Try.zeroValue109
  t76 := Try.underlying111
  a76 := Try.isAgg111
  z76 := Try.sizeOf111
  v76 := Try.zeroValue111
  t77 := Try.underlying72
  a77 := Try.isAgg72
  z77 := Try.sizeOf72
  v77 := Try.zeroValue72 }
end Go.Proofs

namespace Go.Proofs
open Go.Shelf Go.RowKit Go.Lib Go.Sort Ax
def srtT (f : Nat) : Nat := match f with | 40 => 2 | _ => 0
/-- Regions in a drawn order whose order matters are gone through order by order. -/
def calmT : List Oper → Bool
  | [{ op := .load _ _, .. }, { op := .store _ _ _, .. }, { op := .store _ _ _, .. }] => false
  | _ => true
def okFn (fn : Func) : Bool := match fn.body with
  | some c => !(fn.name == "runtime.NumGoroutine") && codeCalm calmT c
  | none => true
set_option maxRecDepth 100000
theorem okAll : Try.prog.funcs.toList.all okFn = true := by decide +kernel
theorem mixed : Try.prog.follows .mixedOrders = true := by decide +kernel
theorem prim40 : SortPrim Try.prog 40 2 := by
  have hN : NameOK Try.prog := by
    intro f fn hf hb
    have := List.all_eq_true.1 okAll fn (by rw [Array.mem_toList_iff]; exact Array.mem_of_getElem? hf)
    unfold okFn at this
    split at this
    · simp at this; simpa using this.1
    · rename_i hn; rw [hn] at hb; simp at hb
  exact sortPrim_of Try.sortKeys hN (by omega) (fun w => by rfl) (fun w => by rfl) ⟨Try.f40, Try.func40, by kernel_rfl⟩
theorem progOK : ProgOK Try.prog calmT srtT where
  name := by
    intro f fn hf hb
    have := List.all_eq_true.1 okAll fn (by rw [Array.mem_toList_iff]; exact Array.mem_of_getElem? hf)
    unfold okFn at this
    split at this
    · simp at this; simpa using this.1
    · rename_i hn; rw [hn] at hb; simp at hb
  mixed := mixed
  prim f h := by
    unfold srtT at h ⊢
    split at h
    · exact prim40
    · omega
  calm f fn c hf hc := by
    have := List.all_eq_true.1 okAll fn (by rw [Array.mem_toList_iff]; exact Array.mem_of_getElem? hf)
    unfold okFn at this
    rw [hc] at this
    simp at this
    exact this.2
#print axioms progOK
end Go.Proofs
