import Derived.Test.YtflebdkgdnfjoaaGreatAxEnc
import Derived.Test.YtflebdkgdnfjoaaGreatMR
set_option linter.unusedVariables false
set_option linter.unusedSimpArgs false
namespace Ax
open Go Go.RowKit
variable {α : Type} {E : Enc α}
theorem Enc.snoc_eq {L : List α} {x : α} {z : AV} {v : Nat → AV} {n : Nat} (hn : n = L.length) (hz : z = E.f E.d) (hv : v 0 = E.f x) :
    vapp z (fun i => E.f (L.getD i E.d)) n v 1 = fun i => E.f ((L ++ [x]).getD i E.d) := by
  subst hn
  funext j
  by_cases h1 : j < L.length
  · rw [vapp_l h1, List.getD_eq_getElem?_getD, List.getD_eq_getElem?_getD, List.getElem?_append_left h1]
  · by_cases h2 : j < L.length + 1
    · obtain rfl : j = L.length := by omega
      rw [vapp_r (Nat.le_refl _) h2, Nat.sub_self, hv]
      simp [List.getD_eq_getElem?_getD]
    · have e1 : Nat.blt j L.length = false := by rw [Bool.eq_false_iff, ne_eq, Nat.blt_eq]; omega
      have e2 : Nat.blt j (L.length + 1) = false := by rw [Bool.eq_false_iff, ne_eq, Nat.blt_eq]; omega
      simp only [vapp, e1, e2, cond_false]
      rw [hz, List.getD_eq_getElem?_getD, List.getElem?_eq_none (by rw [List.length_append, List.length_singleton]; omega)]
      rfl
theorem Enc.snoc_av {L : List α} {x : α} {z : AV} {v : Nat → AV} {sz n k : Nat} (hs : sz = E.sz) (hn : n = L.length) (hk : k = n + 1) (hz : z = E.f E.d) (hv : v 0 = E.f x) :
    AV.vec sz k (vapp z (fun i => E.f (L.getD i E.d)) n v 1) = E.L (L ++ [x]) := by
  rw [Enc.snoc_eq hn hz hv, hs, hk, hn]
  simp only [Enc.L, List.length_append, List.length_singleton]
theorem Enc.nil_av {z : AV} {sz n : Nat} (hs : sz = E.sz) (hn : n = 0) (hz : z = E.f E.d) : AV.vec sz n (fun _ => z) = E.L ([] : List α) := by
  subst hs; subst hn; rw [hz]; rfl
theorem env_cons {s : Nat} {v v' : AV} {r r' : Env} (h1 : v = v') (h2 : r = r') : ((s, v) :: r : Env) = (s, v') :: r' := by rw [h1, h2]
theorem heap_cons {o o' : AObj} {r r' : Heap} (h1 : o = o') (h2 : r = r') : (o :: r : Heap) = o' :: r' := by rw [h1, h2]
theorem st_eq {e e' : Env} {h h' : Heap} (h1 : e = e') (h2 : h = h') : St.mk e h [] none = St.mk e' h' [] none := by rw [h1, h2]
end Ax
