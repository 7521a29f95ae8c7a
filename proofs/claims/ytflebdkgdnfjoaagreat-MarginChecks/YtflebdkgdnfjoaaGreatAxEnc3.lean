import Derived.Test.YtflebdkgdnfjoaaGreatAxEnc2
import Derived.Test.YtflebdkgdnfjoaaGreatMR
set_option linter.unusedVariables false
set_option linter.unusedSimpArgs false
namespace Ax
open Go Go.RowKit
theorem vlist_av {α : Type} {E : Enc α} {L : List α} {z : AV} {l : List AV} {sz n : Nat} (hs : sz = E.sz) (hn : n = L.length) (hl : l = L.map E.f) (hz : z = E.f E.d) : AV.vec sz n (vlist z l) = E.L L := by
  subst hs hn hl
  unfold Enc.L
  congr 1
  funext j
  unfold vlist
  rw [List.getD_eq_getElem?_getD, List.getD_eq_getElem?_getD, List.getElem?_map, hz]
  cases L[j]? <;> rfl
theorem call_eq {P : Program} {calm : List Oper → Bool} {f : FuncId} {a a' : List AV} {Q : AV → Prop} (h : a = a') (H : SCall P calm f a' Q) : SCall P calm f a Q := h ▸ H
theorem one_eq {a b : AV} (h : a = b) : [a] = [b] := by rw [h]
end Ax
