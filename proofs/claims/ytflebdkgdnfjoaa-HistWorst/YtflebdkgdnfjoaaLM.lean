import Derived.Shelf.SlSortCmp.WholeK
import Derived.Shelf.SlSortCmp.Whole1
import Derived.Ground.SlsfProg
import Derived.Test.YtflebdkgdnfjoaaProg
import Derived.Test.YtflebdkgdnfjoaaMK
import Derived.Test.YtflebdkgdnfjoaaML
/- The sort's layings at this dump, in plain words (written by the kit's lay-plain). -/
namespace Go.Proofs
open Go.Shelf
def Try.sortInts0_ren : Go.Shelf.Ren := ⟨fun | 6 => 119 | 15 => 136 | 14 => 140 | 28 => 153 | 29 => 154 | 20 => 164 | 21 => 165 | 22 => 166 | 23 => 167 | 24 => 168 | 25 => 169 | 26 => 170 | 27 => 171 | 46 => 180 | 47 => 173 | 48 => 174 | 49 => 181 | 50 => 182 | 57 => 185 | n => n, fun | 22 => 50 | 24 => 3 | 25 => 151 | 3 => 3 | 39 => 106 | 0 => 0 | 53 => 184 | 55 => 154 | 4 => 4 | 46 => 178 | 45 => 177 | 50 => 100 | 5 => 5 | 9 => 9 | 66 => 196 | 70 => 200 | 76 => 206 | 77 => 34 | n => n, fun | n => n⟩
theorem Try.sortInts0 : Go.Proofs.SlLaysF0.n6 Try.prog Try.sortInts0_ren := {
  mixed := by kernel_rfl
  f6 := ⟨Try.f119.name, by decide, Try.func119.trans (congrArg some (by kernel_rfl))⟩
  f14 := ⟨Try.f140.name, by decide, Try.func140.trans (congrArg some (by kernel_rfl))⟩
  f15 := Try.func136.trans (congrArg some (by kernel_rfl))
  f20 := ⟨Try.f164.name, by decide, Try.func164.trans (congrArg some (by kernel_rfl))⟩
  f21 := ⟨Try.f165.name, by decide, Try.func165.trans (congrArg some (by kernel_rfl))⟩
  f22 := ⟨Try.f166.name, by decide, Try.func166.trans (congrArg some (by kernel_rfl))⟩
  f23 := ⟨Try.f167.name, by decide, Try.func167.trans (congrArg some (by kernel_rfl))⟩
  f24 := ⟨Try.f168.name, by decide, Try.func168.trans (congrArg some (by kernel_rfl))⟩
  f25 := ⟨Try.f169.name, by decide, Try.func169.trans (congrArg some (by kernel_rfl))⟩
  f26 := ⟨Try.f170.name, by decide, Try.func170.trans (congrArg some (by kernel_rfl))⟩
  f27 := ⟨Try.f171.name, by decide, Try.func171.trans (congrArg some (by kernel_rfl))⟩
  f28 := Try.func153.trans (congrArg some (by kernel_rfl))
  f29 := Try.func154.trans (congrArg some (by kernel_rfl))
  f46 := ⟨Try.f180.name, by decide, Try.func180.trans (congrArg some (by kernel_rfl))⟩
  f47 := Try.func173.trans (congrArg some (by kernel_rfl))
  f48 := Try.func174.trans (congrArg some (by kernel_rfl))
  f49 := ⟨Try.f181.name, by decide, Try.func181.trans (congrArg some (by kernel_rfl))⟩
  f50 := ⟨Try.f182.name, by decide, Try.func182.trans (congrArg some (by kernel_rfl))⟩
  f57 := ⟨Try.f185.name, by decide, Try.func185.trans (congrArg some (by kernel_rfl))⟩
  t0 := Try.underlying0
  a0 := Try.isAgg0
  z0 := Try.sizeOf0
  v0 := Try.zeroValue0
  t3 := Try.underlying3
  a3 := Try.isAgg3
  z3 := Try.sizeOf3
  v3 := Try.zeroValue3
  t4 := Try.underlying4
  a4 := Try.isAgg4
  z4 := Try.sizeOf4
  v4 := Try.zeroValue4
  t5 := Try.underlying5
  a5 := Try.isAgg5
  z5 := Try.sizeOf5
  v5 := Try.zeroValue5
  t9 := Try.underlying9
  a9 := Try.isAgg9
  z9 := Try.sizeOf9
  v9 := Try.zeroValue9
  t22 := Try.underlying50
  a22 := Try.isAgg50
  z22 := Try.sizeOf50
  v22 := Try.zeroValue50
  t25 := Try.underlying151
  a25 := Try.isAgg151
  z25 := Try.sizeOf151
  v25 := Try.zeroValue151
  t39 := Try.underlying106
  a39 := Try.isAgg106
  z39 := Try.sizeOf106
  v39 := Try.zeroValue106
  t45 := Try.underlying177
  a45 := Try.isAgg177
  z45 := Try.sizeOf177
  v45 := Try.zeroValue177
  t46 := Try.underlying178
  a46 := Try.isAgg178
  z46 := Try.sizeOf178
  v46 := Try.zeroValue178
  t50 := Try.underlying100
  a50 := Try.isAgg100
  z50 := Try.sizeOf100
  v50 := Try.zeroValue100
  t53 := Try.underlying184
  a53 := Try.isAgg184
  z53 := Try.sizeOf184
  v53 := Try.zeroValue184
  t55 := Try.underlying154
  a55 := Try.isAgg154
  z55 := Try.sizeOf154
  v55 := Try.zeroValue154
  t66 := Try.underlying196
  a66 := Try.isAgg196
  z66 := Try.sizeOf196
  v66 := Try.zeroValue196
  t70 := Try.underlying200
  a70 := Try.isAgg200
  z70 := Try.sizeOf200
  v70 := Try.zeroValue200
  t76 := Try.underlying206
  a76 := Try.isAgg206
  z76 := Try.sizeOf206
  v76 := Try.zeroValue206
  t77 := Try.underlying34
  a77 := Try.isAgg34
  z77 := Try.sizeOf34
  v77 := Try.zeroValue34 }
def Try.sortInts_ren : Go.Shelf.Ren := ⟨fun | 6 => 119 | 15 => 136 | 14 => 140 | 28 => 153 | 29 => 154 | 20 => 164 | 21 => 165 | 22 => 166 | 23 => 167 | 24 => 168 | 25 => 169 | 26 => 170 | 27 => 171 | 46 => 180 | 47 => 173 | 48 => 174 | 49 => 181 | 50 => 182 | 57 => 185 | n => n, fun | 22 => 50 | 24 => 3 | 25 => 151 | 3 => 3 | 39 => 106 | 0 => 0 | 53 => 184 | 55 => 154 | 4 => 4 | 46 => 178 | 45 => 177 | 50 => 100 | 5 => 5 | 9 => 9 | 66 => 196 | 70 => 200 | 76 => 206 | 77 => 34 | n => n, fun | n => n⟩
theorem Try.sortInts : Go.Proofs.SlLaysF.n6 Try.prog Try.sortInts_ren := {
  mixed := by kernel_rfl
  f6 := ⟨Try.f119.name, by decide, Try.func119.trans (congrArg some (by kernel_rfl))⟩
  f14 := ⟨Try.f140.name, by decide, Try.func140.trans (congrArg some (by kernel_rfl))⟩
  f15 := Try.func136.trans (congrArg some (by kernel_rfl))
  f20 := ⟨Try.f164.name, by decide, Try.func164.trans (congrArg some (by kernel_rfl))⟩
  f21 := ⟨Try.f165.name, by decide, Try.func165.trans (congrArg some (by kernel_rfl))⟩
  f22 := ⟨Try.f166.name, by decide, Try.func166.trans (congrArg some (by kernel_rfl))⟩
  f23 := ⟨Try.f167.name, by decide, Try.func167.trans (congrArg some (by kernel_rfl))⟩
  f24 := ⟨Try.f168.name, by decide, Try.func168.trans (congrArg some (by kernel_rfl))⟩
  f25 := ⟨Try.f169.name, by decide, Try.func169.trans (congrArg some (by kernel_rfl))⟩
  f26 := ⟨Try.f170.name, by decide, Try.func170.trans (congrArg some (by kernel_rfl))⟩
  f27 := ⟨Try.f171.name, by decide, Try.func171.trans (congrArg some (by kernel_rfl))⟩
  f28 := Try.func153.trans (congrArg some (by kernel_rfl))
  f29 := Try.func154.trans (congrArg some (by kernel_rfl))
  f46 := ⟨Try.f180.name, by decide, Try.func180.trans (congrArg some (by kernel_rfl))⟩
  f47 := Try.func173.trans (congrArg some (by kernel_rfl))
  f48 := Try.func174.trans (congrArg some (by kernel_rfl))
  f49 := ⟨Try.f181.name, by decide, Try.func181.trans (congrArg some (by kernel_rfl))⟩
  f50 := ⟨Try.f182.name, by decide, Try.func182.trans (congrArg some (by kernel_rfl))⟩
  f57 := ⟨Try.f185.name, by decide, Try.func185.trans (congrArg some (by kernel_rfl))⟩
  t0 := Try.underlying0
  a0 := Try.isAgg0
  z0 := Try.sizeOf0
  v0 := Try.zeroValue0
  t3 := Try.underlying3
  a3 := Try.isAgg3
  z3 := Try.sizeOf3
  v3 := Try.zeroValue3
  t4 := Try.underlying4
  a4 := Try.isAgg4
  z4 := Try.sizeOf4
  v4 := Try.zeroValue4
  t5 := Try.underlying5
  a5 := Try.isAgg5
  z5 := Try.sizeOf5
  v5 := Try.zeroValue5
  t9 := Try.underlying9
  a9 := Try.isAgg9
  z9 := Try.sizeOf9
  v9 := Try.zeroValue9
  t22 := Try.underlying50
  a22 := Try.isAgg50
  z22 := Try.sizeOf50
  v22 := Try.zeroValue50
  a24 := Try.isAgg3
  z24 := Try.sizeOf3
  t25 := Try.underlying151
  a25 := Try.isAgg151
  z25 := Try.sizeOf151
  v25 := Try.zeroValue151
  t39 := Try.underlying106
  a39 := Try.isAgg106
  z39 := Try.sizeOf106
  v39 := Try.zeroValue106
  t45 := Try.underlying177
  a45 := Try.isAgg177
  z45 := Try.sizeOf177
  v45 := Try.zeroValue177
  t46 := Try.underlying178
  a46 := Try.isAgg178
  z46 := Try.sizeOf178
  v46 := Try.zeroValue178
  t50 := Try.underlying100
  a50 := Try.isAgg100
  z50 := Try.sizeOf100
  v50 := Try.zeroValue100
  t53 := Try.underlying184
  a53 := Try.isAgg184
  z53 := Try.sizeOf184
  v53 := Try.zeroValue184
  t55 := Try.underlying154
  a55 := Try.isAgg154
  z55 := Try.sizeOf154
  v55 := Try.zeroValue154
  t66 := Try.underlying196
  a66 := Try.isAgg196
  z66 := Try.sizeOf196
  v66 := Try.zeroValue196
  t70 := Try.underlying200
  a70 := Try.isAgg200
  z70 := Try.sizeOf200
  v70 := Try.zeroValue200
  t76 := Try.underlying206
  a76 := Try.isAgg206
  z76 := Try.sizeOf206
  v76 := Try.zeroValue206
  t77 := Try.underlying34
  a77 := Try.isAgg34
  z77 := Try.sizeOf34
  v77 := Try.zeroValue34 }
def Try.sortAccs_ren : Go.Shelf.Ren := ⟨fun | 6 => 106 | 15 => 136 | 14 => 135 | 28 => 153 | 29 => 154 | 20 => 145 | 21 => 146 | 22 => 147 | 23 => 148 | 24 => 149 | 25 => 150 | 26 => 151 | 27 => 152 | 46 => 172 | 47 => 173 | 48 => 174 | 49 => 175 | 50 => 176 | 57 => 183 | n => n, fun | 22 => 110 | 24 => 25 | 25 => 117 | 3 => 3 | 39 => 106 | 0 => 0 | 53 => 184 | 55 => 154 | 4 => 4 | 46 => 178 | 45 => 177 | 50 => 100 | 5 => 5 | 9 => 9 | 66 => 196 | 70 => 200 | 76 => 206 | 77 => 34 | n => n, fun | n => n⟩
theorem Try.sortAccs : Go.Proofs.SlLaysF0.n6 Try.prog Try.sortAccs_ren := {
  mixed := by kernel_rfl
  f6 := ⟨Try.f106.name, by decide, Try.func106.trans (congrArg some (by kernel_rfl))⟩
  f14 := ⟨Try.f135.name, by decide, Try.func135.trans (congrArg some (by kernel_rfl))⟩
  f15 := Try.func136.trans (congrArg some (by kernel_rfl))
  f20 := ⟨Try.f145.name, by decide, Try.func145.trans (congrArg some (by kernel_rfl))⟩
  f21 := ⟨Try.f146.name, by decide, Try.func146.trans (congrArg some (by kernel_rfl))⟩
  f22 := ⟨Try.f147.name, by decide, Try.func147.trans (congrArg some (by kernel_rfl))⟩
  f23 := ⟨Try.f148.name, by decide, Try.func148.trans (congrArg some (by kernel_rfl))⟩
  f24 := ⟨Try.f149.name, by decide, Try.func149.trans (congrArg some (by kernel_rfl))⟩
  f25 := ⟨Try.f150.name, by decide, Try.func150.trans (congrArg some (by kernel_rfl))⟩
  f26 := ⟨Try.f151.name, by decide, Try.func151.trans (congrArg some (by kernel_rfl))⟩
  f27 := ⟨Try.f152.name, by decide, Try.func152.trans (congrArg some (by kernel_rfl))⟩
  f28 := Try.func153.trans (congrArg some (by kernel_rfl))
  f29 := Try.func154.trans (congrArg some (by kernel_rfl))
  f46 := ⟨Try.f172.name, by decide, Try.func172.trans (congrArg some (by kernel_rfl))⟩
  f47 := Try.func173.trans (congrArg some (by kernel_rfl))
  f48 := Try.func174.trans (congrArg some (by kernel_rfl))
  f49 := ⟨Try.f175.name, by decide, Try.func175.trans (congrArg some (by kernel_rfl))⟩
  f50 := ⟨Try.f176.name, by decide, Try.func176.trans (congrArg some (by kernel_rfl))⟩
  f57 := ⟨Try.f183.name, by decide, Try.func183.trans (congrArg some (by kernel_rfl))⟩
  t0 := Try.underlying0
  a0 := Try.isAgg0
  z0 := Try.sizeOf0
  v0 := Try.zeroValue0
  t3 := Try.underlying3
  a3 := Try.isAgg3
  z3 := Try.sizeOf3
  v3 := Try.zeroValue3
  t4 := Try.underlying4
  a4 := Try.isAgg4
  z4 := Try.sizeOf4
  v4 := Try.zeroValue4
  t5 := Try.underlying5
  a5 := Try.isAgg5
  z5 := Try.sizeOf5
  v5 := Try.zeroValue5
  t9 := Try.underlying9
  a9 := Try.isAgg9
  z9 := Try.sizeOf9
  v9 := Try.zeroValue9
  t22 := Try.underlying110
  a22 := Try.isAgg110
  z22 := Try.sizeOf110
  v22 := Try.zeroValue110
  t25 := Try.underlying117
  a25 := Try.isAgg117
  z25 := Try.sizeOf117
  v25 := Try.zeroValue117
  t39 := Try.underlying106
  a39 := Try.isAgg106
  z39 := Try.sizeOf106
  v39 := Try.zeroValue106
  t45 := Try.underlying177
  a45 := Try.isAgg177
  z45 := Try.sizeOf177
  v45 := Try.zeroValue177
  t46 := Try.underlying178
  a46 := Try.isAgg178
  z46 := Try.sizeOf178
  v46 := Try.zeroValue178
  t50 := Try.underlying100
  a50 := Try.isAgg100
  z50 := Try.sizeOf100
  v50 := Try.zeroValue100
  t53 := Try.underlying184
  a53 := Try.isAgg184
  z53 := Try.sizeOf184
  v53 := Try.zeroValue184
  t55 := Try.underlying154
  a55 := Try.isAgg154
  z55 := Try.sizeOf154
  v55 := Try.zeroValue154
  t66 := Try.underlying196
  a66 := Try.isAgg196
  z66 := Try.sizeOf196
  v66 := Try.zeroValue196
  t70 := Try.underlying200
  a70 := Try.isAgg200
  z70 := Try.sizeOf200
  v70 := Try.zeroValue200
  t76 := Try.underlying206
  a76 := Try.isAgg206
  z76 := Try.sizeOf206
  v76 := Try.zeroValue206
  t77 := Try.underlying34
  a77 := Try.isAgg34
  z77 := Try.sizeOf34
  v77 := Try.zeroValue34 }
end Go.Proofs

namespace Go.Proofs
open Go.Shelf Go.RowKit Go.Lib Go.Sort Ax
def srtT (f : Nat) : Nat := match f with | 119 => 1 | 106 => 2 | _ => 0
/-- Regions in a drawn order whose order matters are gone through order by order. -/
def calmT : List Oper → Bool
  | [{ op := .load _ _, .. }, { op := .fieldAddr _ _ _, .. }, { op := .load _ _, .. }, { op := .unOp _ _ _, .. }, { op := .fieldAddr _ _ _, .. }, { op := .store _ _ _, .. }, { op := .fieldAddr _ _ _, .. }, { op := .store _ _ _, .. }] => false
  | { op := .load _ _, .. } :: { op := .fieldAddr _ _ _, .. } :: { op := .load _ _, .. } :: { op := .lookup _ _ _ _, .. } :: { op := .move _, .. } :: { op := .load _ _, .. } :: _ => false
  | _ => true
def okFn (fn : Func) : Bool := match fn.body with
  | some c => !(fn.name == "runtime.NumGoroutine") && codeCalm calmT c
  | none => true
set_option maxRecDepth 100000
theorem okAll : Try.prog.funcs.toList.all okFn = true := by decide +kernel
theorem mixed : Try.prog.follows .mixedOrders = true := by decide +kernel
theorem nameAll : NameOK Try.prog := by
  intro f fn hf hb
  have := List.all_eq_true.1 okAll fn (by rw [Array.mem_toList_iff]; exact Array.mem_of_getElem? hf)
  unfold okFn at this
  split at this
  · simp at this; simpa using this.1
  · rename_i hn; rw [hn] at hb; simp at hb
theorem primI : SortPrim Try.prog 119 1 := sortPrim1_of Try.sortInts Try.sortInts0 nameAll ⟨Try.f119, Try.func119, by kernel_rfl⟩
theorem primA : SortPrim Try.prog 106 2 := sortPrim_of Try.sortAccs nameAll (by omega) (fun w => by rfl) (fun w => by rfl) ⟨Try.f106, Try.func106, by kernel_rfl⟩
theorem progOK : ProgOK Try.prog calmT srtT where
  name := nameAll
  mixed := mixed
  prim f h := by
    unfold srtT at h ⊢
    split at h
    · exact primI
    · exact primA
    · omega
  calm f fn c hf hc := by
    have := List.all_eq_true.1 okAll fn (by rw [Array.mem_toList_iff]; exact Array.mem_of_getElem? hf)
    unfold okFn at this
    rw [hc] at this
    simp at this
    exact this.2
end Go.Proofs
