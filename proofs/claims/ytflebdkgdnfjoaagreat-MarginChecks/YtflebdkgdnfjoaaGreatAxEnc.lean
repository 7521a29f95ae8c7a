import Derived.Test.YtflebdkgdnfjoaaGreatMR
set_option linter.unusedVariables false
set_option linter.unusedSimpArgs false
namespace Ax
open Go Go.RowKit
structure Enc (α : Type) where
  sz : Nat
  f : α → AV
  d : α
variable {α : Type} {E : Enc α}
abbrev Enc.at (E : Enc α) (l : List α) (i : Nat) : α := l.getD i E.d
def Enc.L (E : Enc α) (l : List α) : AV := .vec E.sz l.length fun i => E.f (l.getD i E.d)
def Enc.At (E : Enc α) (l : List α) (len : Nat) (g : Nat → AV) : Prop := len = l.length ∧ ∀ i, i < l.length → g i = E.f (l.getD i E.d)
theorem Enc.nil (E : Enc α) {g : Nat → AV} : E.At [] 0 g := ⟨rfl, fun i h => absurd h (Nat.not_lt_zero _)⟩
theorem Enc.At.get {l : List α} {len : Nat} {g : Nat → AV} (h : E.At l len g) {i : Nat} (hi : i < len) : g i = E.f (l.getD i E.d) := h.2 i (h.1 ▸ hi)
theorem Enc.At.shift {l : List α} {len : Nat} {g : Nat → AV} (h : E.At l len g) : E.At l len fun j => g (0 + j) := ⟨h.1, fun i hi => by show g (0 + i) = _; rw [Nat.zero_add]; exact h.2 i hi⟩
theorem vapp_l {z : AV} {g : Nat → AV} {n : Nat} {g' : Nat → AV} {m j : Nat} (h : j < n) : vapp z g n g' m j = g j := by
  have : Nat.blt j n = true := by rw [Nat.blt_eq]; exact h
  simp only [vapp, this, cond_true]
theorem vapp_r {z : AV} {g : Nat → AV} {n : Nat} {g' : Nat → AV} {m j : Nat} (h : n ≤ j) (h2 : j < n + m) : vapp z g n g' m j = g' (j - n) := by
  have h1 : Nat.blt j n = false := by rw [Bool.eq_false_iff, ne_eq, Nat.blt_eq]; omega
  have h2 : Nat.blt j (n + m) = true := by rw [Nat.blt_eq]; exact h2
  simp only [vapp, h1, h2, cond_true, cond_false]
theorem Enc.At.app {l m : List α} {len n : Nat} {g v : Nat → AV} {z : AV} (h : E.At l len g) (k : E.At m n v) : E.At (l ++ m) (len + n) (vapp z g len v n) := by
  refine ⟨by rw [List.length_append, h.1, k.1], fun i hi => ?_⟩
  rw [List.length_append] at hi
  by_cases hl : i < l.length
  · rw [vapp_l (by rw [h.1]; exact hl), h.2 i hl, List.getD_eq_getElem?_getD, List.getD_eq_getElem?_getD, List.getElem?_append_left hl]
  · rw [vapp_r (by rw [h.1]; omega) (by rw [h.1, k.1]; omega), h.1, k.2 _ (by omega), List.getD_eq_getElem?_getD, List.getD_eq_getElem?_getD, List.getElem?_append_right (by omega)]
theorem Enc.one {x : α} {v : Nat → AV} (hv : v 0 = E.f x) : E.At [x] 1 v := ⟨rfl, fun i hi => by
  have : i = 0 := by simpa using hi
  subst this; exact hv⟩
theorem vsub_get {z : AV} {g : Nat → AV} {l n i : Nat} (hi : i < n) : vsub z g l n i = g (l + i) := by
  have : Nat.blt i n = true := by rw [Nat.blt_eq]; exact hi
  simp only [vsub, this, cond_true]
theorem Enc.At.sub {l : List α} {len : Nat} {g : Nat → AV} {z : AV} (h : E.At l len g) {a b : Nat} (hb : b ≤ len) : E.At ((l.take b).drop a) (b - a) (vsub z g a (b - a)) := by
  have hlen : ((l.take b).drop a).length = b - a := by rw [List.length_drop, List.length_take, Nat.min_eq_left (h.1 ▸ hb)]
  refine ⟨hlen.symm, fun i hi => ?_⟩
  rw [hlen] at hi
  rw [vsub_get hi, h.get (by omega), List.getD_eq_getElem?_getD, List.getD_eq_getElem?_getD, List.getElem?_drop, List.getElem?_take_of_lt (by omega)]
theorem upd_same {g : Nat → AV} {i : Nat} {v : AV} : upd g i v i = v := by simp only [upd, Nat.beq_refl, cond_true]
theorem upd_ne {g : Nat → AV} {i j : Nat} {v : AV} (h : j ≠ i) : upd g i v j = g j := by
  have : Nat.beq j i = false := by rw [Bool.eq_false_iff]; exact fun e => h (Nat.eq_of_beq_eq_true e)
  simp only [upd, this, cond_false]
theorem Enc.At.set {l : List α} {len : Nat} {g : Nat → AV} (h : E.At l len g) {i : Nat} {x : α} {v : AV} (hv : v = E.f x) : E.At (l.set i x) len (upd g i v) := by
  refine ⟨by rw [List.length_set]; exact h.1, fun j hj => ?_⟩
  rw [List.length_set] at hj
  by_cases e : j = i
  · subst e
    rw [upd_same, hv, List.getD_eq_getElem?_getD, List.getElem?_set_self hj]; rfl
  · rw [upd_ne e, h.2 j hj, List.getD_eq_getElem?_getD, List.getD_eq_getElem?_getD, List.getElem?_set_ne (fun q => e q.symm)]
theorem Enc.get_mem {l : List α} {i : Nat} (h : i < l.length) : l.getD i E.d ∈ l := by
  rw [List.getD_eq_getElem?_getD, List.getElem?_eq_getElem h]; exact List.getElem_mem h
theorem Enc.take_succ {l : List α} {i : Nat} (h : i < l.length) : l.take (i + 1) = l.take i ++ [l.getD i E.d] := by
  rw [List.take_add_one, List.getD_eq_getElem?_getD, List.getElem?_eq_getElem h]; rfl
theorem Enc.drop_cons {l : List α} {i : Nat} (h : i < l.length) : l.drop i = l.getD i E.d :: l.drop (i + 1) := by
  rw [List.drop_eq_getElem_cons h, List.getD_eq_getElem?_getD, List.getElem?_eq_getElem h]; rfl
def EI : Enc Int := ⟨1, fun n => .int .i64 n, 0⟩
theorem next_i {i n : Nat} (h : i < n) (hn : n ≤ 9223372036854775807) : IntKind.i64.wrap ((i : Int) + 1) = ((i + 1 : Nat) : Int) := by rw [wrap64 (by omega)]; omega
end Ax
