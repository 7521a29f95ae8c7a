import Derived.Shelf.SlSortCmp.WholeK
import Derived.Shelf.SlSortCmp.Whole1
import Derived.Shelf.Lays2
import Derived.Ground.SlsfProg
import Derived.Ground.Names2Prog
import Derived.Test.YtflebdkgdnfjoaaGreatProg
import Derived.Test.YtflebdkgdnfjoaaGreatMzCalm
import Derived.Test.YtflebdkgdnfjoaaGreatMN
set_option linter.unusedVariables false
set_option linter.unusedSimpArgs false
namespace Go.Proofs
open Go.Shelf
def Tryz.sortInts0_ren : Go.Shelf.Ren := ⟨fun | 6 => 357 | 15 => 239 | 14 => 388 | 28 => 319 | 29 => 320 | 20 => 400 | 21 => 401 | 22 => 402 | 23 => 403 | 24 => 404 | 25 => 405 | 26 => 406 | 27 => 407 | 46 => 408 | 47 => 377 | 48 => 378 | 49 => 409 | 50 => 410 | 57 => 411 | n => n, fun | 22 => 92 | 24 => 3 | 25 => 320 | 3 => 3 | 39 => 71 | 0 => 0 | 53 => 410 | 55 => 394 | 4 => 4 | 46 => 404 | 45 => 403 | 50 => 208 | 5 => 5 | 9 => 9 | 66 => 445 | 70 => 311 | 76 => 456 | 77 => 76 | n => n, fun | n => n⟩
theorem Tryz.sortInts0 : Go.Proofs.SlLaysF0.n6 Tryz.prog Tryz.sortInts0_ren := {
  mixed := by kernel_rfl
  f6 := ⟨Tryz.f357.name, by decide, Tryz.func357.trans (congrArg some (by kernel_rfl))⟩
  f14 := ⟨Tryz.f388.name, by decide, Tryz.func388.trans (congrArg some (by kernel_rfl))⟩
  f15 := Tryz.func239.trans (congrArg some (by kernel_rfl))
  f20 := ⟨Tryz.f400.name, by decide, Tryz.func400.trans (congrArg some (by kernel_rfl))⟩
  f21 := ⟨Tryz.f401.name, by decide, Tryz.func401.trans (congrArg some (by kernel_rfl))⟩
  f22 := ⟨Tryz.f402.name, by decide, Tryz.func402.trans (congrArg some (by kernel_rfl))⟩
  f23 := ⟨Tryz.f403.name, by decide, Tryz.func403.trans (congrArg some (by kernel_rfl))⟩
  f24 := ⟨Tryz.f404.name, by decide, Tryz.func404.trans (congrArg some (by kernel_rfl))⟩
  f25 := ⟨Tryz.f405.name, by decide, Tryz.func405.trans (congrArg some (by kernel_rfl))⟩
  f26 := ⟨Tryz.f406.name, by decide, Tryz.func406.trans (congrArg some (by kernel_rfl))⟩
  f27 := ⟨Tryz.f407.name, by decide, Tryz.func407.trans (congrArg some (by kernel_rfl))⟩
  f28 := Tryz.func319.trans (congrArg some (by kernel_rfl))
  f29 := Tryz.func320.trans (congrArg some (by kernel_rfl))
  f46 := ⟨Tryz.f408.name, by decide, Tryz.func408.trans (congrArg some (by kernel_rfl))⟩
  f47 := Tryz.func377.trans (congrArg some (by kernel_rfl))
  f48 := Tryz.func378.trans (congrArg some (by kernel_rfl))
  f49 := ⟨Tryz.f409.name, by decide, Tryz.func409.trans (congrArg some (by kernel_rfl))⟩
  f50 := ⟨Tryz.f410.name, by decide, Tryz.func410.trans (congrArg some (by kernel_rfl))⟩
  f57 := ⟨Tryz.f411.name, by decide, Tryz.func411.trans (congrArg some (by kernel_rfl))⟩
  t0 := Tryz.underlying0
  a0 := Tryz.isAgg0
  z0 := Tryz.sizeOf0
  v0 := Tryz.zeroValue0
  t3 := Tryz.underlying3
  a3 := Tryz.isAgg3
  z3 := Tryz.sizeOf3
  v3 := Tryz.zeroValue3
  t4 := Tryz.underlying4
  a4 := Tryz.isAgg4
  z4 := Tryz.sizeOf4
  v4 := Tryz.zeroValue4
  t5 := Tryz.underlying5
  a5 := Tryz.isAgg5
  z5 := Tryz.sizeOf5
  v5 := Tryz.zeroValue5
  t9 := Tryz.underlying9
  a9 := Tryz.isAgg9
  z9 := Tryz.sizeOf9
  v9 := Tryz.zeroValue9
  t22 := Tryz.underlying92
  a22 := Tryz.isAgg92
  z22 := Tryz.sizeOf92
  v22 := Tryz.zeroValue92
  t25 := Tryz.underlying320
  a25 := Tryz.isAgg320
  z25 := Tryz.sizeOf320
  v25 := Tryz.zeroValue320
  t39 := Tryz.underlying71
  a39 := Tryz.isAgg71
  z39 := Tryz.sizeOf71
  v39 := Tryz.zeroValue71
  t45 := Tryz.underlying403
  a45 := Tryz.isAgg403
  z45 := Tryz.sizeOf403
  v45 := Tryz.zeroValue403
  t46 := Tryz.underlying404
  a46 := Tryz.isAgg404
  z46 := Tryz.sizeOf404
  v46 := Tryz.zeroValue404
  t50 := Tryz.underlying208
  a50 := Tryz.isAgg208
  z50 := Tryz.sizeOf208
  v50 := Tryz.zeroValue208
  t53 := Tryz.underlying410
  a53 := Tryz.isAgg410
  z53 := Tryz.sizeOf410
  v53 := Tryz.zeroValue410
  t55 := Tryz.underlying394
  a55 := Tryz.isAgg394
  z55 := Tryz.sizeOf394
  v55 := Tryz.zeroValue394
  t66 := Tryz.underlying445
  a66 := Tryz.isAgg445
  z66 := Tryz.sizeOf445
  v66 := Tryz.zeroValue445
  t70 := Tryz.underlying311
  a70 := Tryz.isAgg311
  z70 := Tryz.sizeOf311
  v70 := Tryz.zeroValue311
  t76 := Tryz.underlying456
  a76 := Tryz.isAgg456
  z76 := Tryz.sizeOf456
  v76 := Tryz.zeroValue456
  t77 := Tryz.underlying76
  a77 := Tryz.isAgg76
  z77 := Tryz.sizeOf76
  v77 := Tryz.zeroValue76 }
def Tryz.sortInts_ren : Go.Shelf.Ren := ⟨fun | 6 => 357 | 15 => 239 | 14 => 388 | 28 => 319 | 29 => 320 | 20 => 400 | 21 => 401 | 22 => 402 | 23 => 403 | 24 => 404 | 25 => 405 | 26 => 406 | 27 => 407 | 46 => 408 | 47 => 377 | 48 => 378 | 49 => 409 | 50 => 410 | 57 => 411 | n => n, fun | 22 => 92 | 24 => 3 | 25 => 320 | 3 => 3 | 39 => 71 | 0 => 0 | 53 => 410 | 55 => 394 | 4 => 4 | 46 => 404 | 45 => 403 | 50 => 208 | 5 => 5 | 9 => 9 | 66 => 445 | 70 => 311 | 76 => 456 | 77 => 76 | n => n, fun | n => n⟩
theorem Tryz.sortInts : Go.Proofs.SlLaysF.n6 Tryz.prog Tryz.sortInts_ren := {
  mixed := by kernel_rfl
  f6 := ⟨Tryz.f357.name, by decide, Tryz.func357.trans (congrArg some (by kernel_rfl))⟩
  f14 := ⟨Tryz.f388.name, by decide, Tryz.func388.trans (congrArg some (by kernel_rfl))⟩
  f15 := Tryz.func239.trans (congrArg some (by kernel_rfl))
  f20 := ⟨Tryz.f400.name, by decide, Tryz.func400.trans (congrArg some (by kernel_rfl))⟩
  f21 := ⟨Tryz.f401.name, by decide, Tryz.func401.trans (congrArg some (by kernel_rfl))⟩
  f22 := ⟨Tryz.f402.name, by decide, Tryz.func402.trans (congrArg some (by kernel_rfl))⟩
  f23 := ⟨Tryz.f403.name, by decide, Tryz.func403.trans (congrArg some (by kernel_rfl))⟩
  f24 := ⟨Tryz.f404.name, by decide, Tryz.func404.trans (congrArg some (by kernel_rfl))⟩
  f25 := ⟨Tryz.f405.name, by decide, Tryz.func405.trans (congrArg some (by kernel_rfl))⟩
  f26 := ⟨Tryz.f406.name, by decide, Tryz.func406.trans (congrArg some (by kernel_rfl))⟩
  f27 := ⟨Tryz.f407.name, by decide, Tryz.func407.trans (congrArg some (by kernel_rfl))⟩
  f28 := Tryz.func319.trans (congrArg some (by kernel_rfl))
  f29 := Tryz.func320.trans (congrArg some (by kernel_rfl))
  f46 := ⟨Tryz.f408.name, by decide, Tryz.func408.trans (congrArg some (by kernel_rfl))⟩
  f47 := Tryz.func377.trans (congrArg some (by kernel_rfl))
  f48 := Tryz.func378.trans (congrArg some (by kernel_rfl))
  f49 := ⟨Tryz.f409.name, by decide, Tryz.func409.trans (congrArg some (by kernel_rfl))⟩
  f50 := ⟨Tryz.f410.name, by decide, Tryz.func410.trans (congrArg some (by kernel_rfl))⟩
  f57 := ⟨Tryz.f411.name, by decide, Tryz.func411.trans (congrArg some (by kernel_rfl))⟩
  t0 := Tryz.underlying0
  a0 := Tryz.isAgg0
  z0 := Tryz.sizeOf0
  v0 := Tryz.zeroValue0
  t3 := Tryz.underlying3
  a3 := Tryz.isAgg3
  z3 := Tryz.sizeOf3
  v3 := Tryz.zeroValue3
  t4 := Tryz.underlying4
  a4 := Tryz.isAgg4
  z4 := Tryz.sizeOf4
  v4 := Tryz.zeroValue4
  t5 := Tryz.underlying5
  a5 := Tryz.isAgg5
  z5 := Tryz.sizeOf5
  v5 := Tryz.zeroValue5
  t9 := Tryz.underlying9
  a9 := Tryz.isAgg9
  z9 := Tryz.sizeOf9
  v9 := Tryz.zeroValue9
  t22 := Tryz.underlying92
  a22 := Tryz.isAgg92
  z22 := Tryz.sizeOf92
  v22 := Tryz.zeroValue92
  a24 := Tryz.isAgg3
  z24 := Tryz.sizeOf3
  t25 := Tryz.underlying320
  a25 := Tryz.isAgg320
  z25 := Tryz.sizeOf320
  v25 := Tryz.zeroValue320
  t39 := Tryz.underlying71
  a39 := Tryz.isAgg71
  z39 := Tryz.sizeOf71
  v39 := Tryz.zeroValue71
  t45 := Tryz.underlying403
  a45 := Tryz.isAgg403
  z45 := Tryz.sizeOf403
  v45 := Tryz.zeroValue403
  t46 := Tryz.underlying404
  a46 := Tryz.isAgg404
  z46 := Tryz.sizeOf404
  v46 := Tryz.zeroValue404
  t50 := Tryz.underlying208
  a50 := Tryz.isAgg208
  z50 := Tryz.sizeOf208
  v50 := Tryz.zeroValue208
  t53 := Tryz.underlying410
  a53 := Tryz.isAgg410
  z53 := Tryz.sizeOf410
  v53 := Tryz.zeroValue410
  t55 := Tryz.underlying394
  a55 := Tryz.isAgg394
  z55 := Tryz.sizeOf394
  v55 := Tryz.zeroValue394
  t66 := Tryz.underlying445
  a66 := Tryz.isAgg445
  z66 := Tryz.sizeOf445
  v66 := Tryz.zeroValue445
  t70 := Tryz.underlying311
  a70 := Tryz.isAgg311
  z70 := Tryz.sizeOf311
  v70 := Tryz.zeroValue311
  t76 := Tryz.underlying456
  a76 := Tryz.isAgg456
  z76 := Tryz.sizeOf456
  v76 := Tryz.zeroValue456
  t77 := Tryz.underlying76
  a77 := Tryz.isAgg76
  z77 := Tryz.sizeOf76
  v77 := Tryz.zeroValue76 }
def Tryz.sortAccs_ren : Go.Shelf.Ren := ⟨fun | 6 => 163 | 15 => 239 | 14 => 249 | 28 => 319 | 29 => 320 | 20 => 324 | 21 => 325 | 22 => 326 | 23 => 327 | 24 => 328 | 25 => 329 | 26 => 330 | 27 => 331 | 46 => 381 | 47 => 377 | 48 => 378 | 49 => 382 | 50 => 383 | 57 => 397 | n => n, fun | 22 => 151 | 24 => 56 | 25 => 158 | 3 => 3 | 39 => 71 | 0 => 0 | 53 => 410 | 55 => 394 | 4 => 4 | 46 => 404 | 45 => 403 | 50 => 208 | 5 => 5 | 9 => 9 | 66 => 445 | 70 => 311 | 76 => 456 | 77 => 76 | n => n, fun | n => n⟩
theorem Tryz.sortAccs : Go.Proofs.SlLaysF0.n6 Tryz.prog Tryz.sortAccs_ren := {
  mixed := by kernel_rfl
  f6 := ⟨Tryz.f163.name, by decide, Tryz.func163.trans (congrArg some (by kernel_rfl))⟩
  f14 := ⟨Tryz.f249.name, by decide, Tryz.func249.trans (congrArg some (by kernel_rfl))⟩
  f15 := Tryz.func239.trans (congrArg some (by kernel_rfl))
  f20 := ⟨Tryz.f324.name, by decide, Tryz.func324.trans (congrArg some (by kernel_rfl))⟩
  f21 := ⟨Tryz.f325.name, by decide, Tryz.func325.trans (congrArg some (by kernel_rfl))⟩
  f22 := ⟨Tryz.f326.name, by decide, Tryz.func326.trans (congrArg some (by kernel_rfl))⟩
  f23 := ⟨Tryz.f327.name, by decide, Tryz.func327.trans (congrArg some (by kernel_rfl))⟩
  f24 := ⟨Tryz.f328.name, by decide, Tryz.func328.trans (congrArg some (by kernel_rfl))⟩
  f25 := ⟨Tryz.f329.name, by decide, Tryz.func329.trans (congrArg some (by kernel_rfl))⟩
  f26 := ⟨Tryz.f330.name, by decide, Tryz.func330.trans (congrArg some (by kernel_rfl))⟩
  f27 := ⟨Tryz.f331.name, by decide, Tryz.func331.trans (congrArg some (by kernel_rfl))⟩
  f28 := Tryz.func319.trans (congrArg some (by kernel_rfl))
  f29 := Tryz.func320.trans (congrArg some (by kernel_rfl))
  f46 := ⟨Tryz.f381.name, by decide, Tryz.func381.trans (congrArg some (by kernel_rfl))⟩
  f47 := Tryz.func377.trans (congrArg some (by kernel_rfl))
  f48 := Tryz.func378.trans (congrArg some (by kernel_rfl))
  f49 := ⟨Tryz.f382.name, by decide, Tryz.func382.trans (congrArg some (by kernel_rfl))⟩
  f50 := ⟨Tryz.f383.name, by decide, Tryz.func383.trans (congrArg some (by kernel_rfl))⟩
  f57 := ⟨Tryz.f397.name, by decide, Tryz.func397.trans (congrArg some (by kernel_rfl))⟩
  t0 := Tryz.underlying0
  a0 := Tryz.isAgg0
  z0 := Tryz.sizeOf0
  v0 := Tryz.zeroValue0
  t3 := Tryz.underlying3
  a3 := Tryz.isAgg3
  z3 := Tryz.sizeOf3
  v3 := Tryz.zeroValue3
  t4 := Tryz.underlying4
  a4 := Tryz.isAgg4
  z4 := Tryz.sizeOf4
  v4 := Tryz.zeroValue4
  t5 := Tryz.underlying5
  a5 := Tryz.isAgg5
  z5 := Tryz.sizeOf5
  v5 := Tryz.zeroValue5
  t9 := Tryz.underlying9
  a9 := Tryz.isAgg9
  z9 := Tryz.sizeOf9
  v9 := Tryz.zeroValue9
  t22 := Tryz.underlying151
  a22 := Tryz.isAgg151
  z22 := Tryz.sizeOf151
  v22 := Tryz.zeroValue151
  t25 := Tryz.underlying158
  a25 := Tryz.isAgg158
  z25 := Tryz.sizeOf158
  v25 := Tryz.zeroValue158
  t39 := Tryz.underlying71
  a39 := Tryz.isAgg71
  z39 := Tryz.sizeOf71
  v39 := Tryz.zeroValue71
  t45 := Tryz.underlying403
  a45 := Tryz.isAgg403
  z45 := Tryz.sizeOf403
  v45 := Tryz.zeroValue403
  t46 := Tryz.underlying404
  a46 := Tryz.isAgg404
  z46 := Tryz.sizeOf404
  v46 := Tryz.zeroValue404
  t50 := Tryz.underlying208
  a50 := Tryz.isAgg208
  z50 := Tryz.sizeOf208
  v50 := Tryz.zeroValue208
  t53 := Tryz.underlying410
  a53 := Tryz.isAgg410
  z53 := Tryz.sizeOf410
  v53 := Tryz.zeroValue410
  t55 := Tryz.underlying394
  a55 := Tryz.isAgg394
  z55 := Tryz.sizeOf394
  v55 := Tryz.zeroValue394
  t66 := Tryz.underlying445
  a66 := Tryz.isAgg445
  z66 := Tryz.sizeOf445
  v66 := Tryz.zeroValue445
  t70 := Tryz.underlying311
  a70 := Tryz.isAgg311
  z70 := Tryz.sizeOf311
  v70 := Tryz.zeroValue311
  t76 := Tryz.underlying456
  a76 := Tryz.isAgg456
  z76 := Tryz.sizeOf456
  v76 := Tryz.zeroValue456
  t77 := Tryz.underlying76
  a77 := Tryz.isAgg76
  z77 := Tryz.sizeOf76
  v77 := Tryz.zeroValue76 }
def Tryz.insInts_ren : Go.Shelf.Ren := ⟨fun | 21 => 264 | 27 => 349 | 28 => 350 | 35 => 387 | 39 => 399 | n => n, fun | 22 => 92 | 3 => 3 | 4 => 4 | 0 => 0 | n => n, fun | n => n⟩
theorem Tryz.insInts : Go.Proofs.Lays2.n21 Tryz.prog Tryz.insInts_ren := {
  mixed := by kernel_rfl
  f21 := Tryz.func264.trans (congrArg some (by kernel_rfl))
  f27 := Tryz.func349.trans (congrArg some (by kernel_rfl))
  f28 := Tryz.func350.trans (congrArg some (by kernel_rfl))
  f35 := Tryz.func387.trans (congrArg some (by kernel_rfl))
  f39 := Tryz.func399.trans (congrArg some (by kernel_rfl))
  t0 := Tryz.underlying0
  a0 := Tryz.isAgg0
  z0 := Tryz.sizeOf0
  v0 := Tryz.zeroValue0
  t3 := Tryz.underlying3
  a3 := Tryz.isAgg3
  z3 := Tryz.sizeOf3
  v3 := Tryz.zeroValue3
  t4 := Tryz.underlying4
  a4 := Tryz.isAgg4
  z4 := Tryz.sizeOf4
  v4 := Tryz.zeroValue4
  t22 := Tryz.underlying92
  a22 := Tryz.isAgg92
  z22 := Tryz.sizeOf92
  v22 := Tryz.zeroValue92
  i3 := by kernel_rfl }
end Go.Proofs

namespace Go.Proofs
open Go.Shelf Go.RowKit Go.Lib Go.Sort Ax
set_option maxRecDepth 100000
theorem okAll : Tryz.prog.funcs.toList.all okFn = true := by decide +kernel
theorem mixed : Tryz.prog.follows .mixedOrders = true := by decide +kernel
theorem nameAll : NameOK Tryz.prog := by
  intro f fn hf hb
  have := List.all_eq_true.1 okAll fn (by rw [Array.mem_toList_iff]; exact Array.mem_of_getElem? hf)
  unfold okFn at this
  split at this
  · simp at this; simpa using this.1
  · rename_i hn; rw [hn] at hb; simp at hb
theorem primI : SortPrim Tryz.prog 357 1 := sortPrim1_of Tryz.sortInts Tryz.sortInts0 nameAll ⟨Tryz.f357, Tryz.func357, by kernel_rfl⟩
theorem primA : SortPrim Tryz.prog 163 2 := sortPrim_of Tryz.sortAccs nameAll (by omega) (fun w => by rfl) (fun w => by rfl) ⟨Tryz.f163, Tryz.func163, by kernel_rfl⟩
theorem primN : InsPrim Tryz.prog 264 := insPrim_of Tryz.insInts ⟨Tryz.f264, Tryz.func264, by kernel_rfl⟩
theorem progOK : ProgOK Tryz.prog calmT srtT where
  name := nameAll
  mixed := mixed
  prim f h := by
    unfold srtT at h ⊢
    split at h
    · exact ⟨fun _ => primI, fun e => absurd e (by decide)⟩
    · exact ⟨fun _ => primA, fun e => absurd e (by decide)⟩
    · exact ⟨fun e => absurd rfl e, fun _ => primN⟩
    · omega
  calm f fn c hf hc := by
    have := List.all_eq_true.1 okAll fn (by rw [Array.mem_toList_iff]; exact Array.mem_of_getElem? hf)
    unfold okFn at this
    rw [hc] at this
    simp at this
    exact this.2
end Go.Proofs
