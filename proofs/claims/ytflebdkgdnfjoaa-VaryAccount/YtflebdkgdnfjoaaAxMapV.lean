import Derived.Test.YtflebdkgdnfjoaaMP
import Derived.Test.YtflebdkgdnfjoaaMR
/- Maps with numbers as keys, as functions. -/
set_option linter.unusedVariables false
set_option linter.unusedSimpArgs false
namespace Ax
open Go

variable {β : Type}
/-- The entries of a map: the keys in their order, and what stands behind each. -/
def mapV (enc : β → AV) (f : Int → β) (ks : List Int) : List (AV × AV) := ks.map fun c => (.int .i64 c, enc (f c))
def insK (ks : List Int) (c : Int) : List Int := if c ∈ ks then ks else ks ++ [c]
def updF (f : Int → β) (c : Int) (v : β) : Int → β := fun x => if x = c then v else f x
theorem insK_nodup {ks : List Int} {c : Int} (h : ks.Nodup) : (insK ks c).Nodup := by
  unfold insK
  split
  · exact h
  · rename_i hc
    rw [List.nodup_append]
    exact ⟨h, by simp, fun a ha b hb => by simp at hb; subst hb; exact fun e => hc (e ▸ ha)⟩
theorem insK_mem {ks : List Int} {c x : Int} : x ∈ insK ks c ↔ x ∈ ks ∨ x = c := by
  unfold insK
  split
  · rename_i hc
    exact ⟨.inl, fun h => h.elim id fun e => e ▸ hc⟩
  · simp
section
variable {P : Program} {kt : TypeId}
theorem eqK_int (hk : tyD P kt = .int .i64) (a b : Int) : eqT P depth0 kt (.int .i64 a) (.int .i64 b) = some (decide (a = b)) := by
  show eqT P (11 + 1) kt _ _ = _
  unfold eqT
  rw [hk]
  simp
theorem keyOk_int (hk : tyD P kt = .int .i64) (a : Int) : keyOk P kt (.int .i64 a) = true := by
  unfold keyOk keyShape
  rw [eqK_int hk, hk]
  rfl
theorem mpos_int (hk : tyD P kt = .int .i64) (enc : β → AV) (f : Int → β) (c : Int) : ∀ (ks : List Int), mpos P kt (mapV enc f ks) (.int .i64 c) = if c ∈ ks then some (ks.idxOf c) else none
  | [] => rfl
  | k :: r => by
    have e : eqKey P kt (.int .i64 c) (.int .i64 k) = decide (c = k) := by unfold eqKey; rw [eqK_int hk]; rfl
    simp only [mapV, List.map_cons, mpos, e]
    have ih := mpos_int hk enc f c r
    rw [mapV] at ih
    rw [ih]
    by_cases h : c = k
    · subst h; simp
    · simp only [h, decide_false, cond_false, List.mem_cons, false_or]
      have hk2 : ¬ k = c := fun e => h e.symm
      by_cases hr : c ∈ r
      · simp [hr, List.idxOf_cons, beq_false_of_ne hk2]
      · simp [hr]
theorem mval_mapV (enc : β → AV) (f : Int → β) (z : AV) : ∀ (ks : List Int) (c : Int), c ∈ ks → mval z (mapV enc f ks) (ks.idxOf c) = enc (f c)
  | [], c, h => by simp at h
  | k :: r, c, h => by
    by_cases e : k = c
    · subst e; simp [mapV, mval]
    · have hr : c ∈ r := (List.mem_cons.1 h).resolve_left fun q => e q.symm
      have : (k :: r).idxOf c = r.idxOf c + 1 := by rw [List.idxOf_cons, beq_false_of_ne e]; rfl
      rw [this]
      exact mval_mapV enc f z r c hr
theorem mset_mapV (enc : β → AV) (f : Int → β) (v : β) : ∀ (ks : List Int) (c : Int), c ∈ ks → ks.Nodup → msetAt (mapV enc f ks) (ks.idxOf c) (enc v) = mapV enc (updF f c v) ks
  | [], c, h, _ => by simp at h
  | k :: r, c, h, hn => by
    rw [List.nodup_cons] at hn
    by_cases e : k = c
    · subst e
      simp only [List.idxOf_cons_self, mapV, List.map_cons, msetAt, updF, if_true]
      congr 1
      refine List.map_congr_left fun x hx => ?_
      rw [if_neg (fun q : x = k => hn.1 (q ▸ hx))]
    · have hr : c ∈ r := (List.mem_cons.1 h).resolve_left fun q => e q.symm
      have : (k :: r).idxOf c = r.idxOf c + 1 := by rw [List.idxOf_cons, beq_false_of_ne e]; rfl
      rw [this]
      have ih := mset_mapV enc f v r c hr hn.2
      simp only [mapV, List.map_cons, msetAt] at ih ⊢
      rw [ih]
      simp only [updF, if_neg e]
theorem msetX_mapV (enc : β → AV) (f : Int → β) (v : AV) {enc' : β → AV} {b : β} (hv : v = enc b) (ks : List Int) (c : Int) (h : c ∈ ks) (hn : ks.Nodup) : msetAt (mapV enc f ks) (ks.idxOf c) v = mapV enc (updF f c b) ks := by
  subst hv; exact mset_mapV enc f b ks c h hn
theorem mpush_mapV (enc : β → AV) (f : Int → β) (v : β) {ks : List Int} {c : Int} (h : c ∉ ks) : mapV enc f ks ++ [(.int .i64 c, enc v)] = mapV enc (updF f c v) (ks ++ [c]) := by
  simp only [mapV, List.map_append, List.map_cons, List.map_nil, updF, if_true]
  congr 1
  refine List.map_congr_left fun x hx => ?_
  rw [if_neg (fun q : x = c => h (q ▸ hx))]

variable {o : Oper} {env : Env} {h : Heap} {t et : TypeId} {m q y : Operand} {id : Nat} {reg : Bool} {enc : β → AV} {f : Int → β} {ks : List Int} {c : Int} {k : AV → Prop} {e : Prop}
theorem st_lookV (ho : o.op = .lookup t m q false) (ht : tyD P t = .map kt et) (hk : tyD P kt = .int .i64) (hz : hasZero P et = true) (hm : (evo P t env m).strip = .mapr id) (hh : h.get id = .map kt reg (mapV enc f ks)) (hq : (evo P kt env q).strip = .int .i64 c)
    {z : β} (hz2 : zeroElem P et = (enc z).strip) (hf : c ∉ ks → f c = z) (hK : k (enc (f c)).strip) : (match evalOp P o env h with | some v => k v | none => e) := by
  have hp := mpos_int hk enc f c ks
  by_cases hc : c ∈ ks
  · rw [if_pos hc] at hp
    exact st_look ho ht hm hh (by rw [hq, keyOk_int hk, hz]; rfl) (by rw [hq]; exact hp) (mval_mapV enc f _ ks c hc) hK
  · rw [if_neg hc] at hp
    refine st_look_no ho ht hm hh (by rw [hq, keyOk_int hk, hz]; rfl) (by rw [hq]; exact hp) ?_
    rw [hz2, ← hf hc]; exact hK
theorem st_setV {A : Option Nat → AV → Heap → Prop} {B : Option Nat → AV → Prop} {C : Prop} (ho : o.op = .mapUpdate t m q y) (ht : tyD P t = .map kt et) (hk : tyD P kt = .int .i64) (hm : (evo P t env m).strip = .mapr id) (hh : h.get id = .map kt reg (mapV enc f ks)) (hni : noIter id h = true)
    (hq : (evo P kt env q).strip = .int .i64 c) {v : β} (hy : evo P et env y = enc v) (hd : (enc v).isData = true) (hn : ks.Nodup) (hK : A (tmpOp y) (.tup []) (h.set id (.map kt reg (mapV enc (updF f c v) (insK ks c))))) :
    (match extOp P o env h with | some (s, v, some h) => A s v h | some (s, v, none) => B s v | none => C) := by
  have hp := mpos_int hk enc f c ks
  have e1 : keyType P t = kt := by unfold keyType; rw [ht]
  have e2 : elemTypeM P t = et := by unfold elemTypeM; rw [ht]
  have e3 : Nat.beq kt kt = true := Nat.beq_refl kt
  refine st_ext ?_ hK
  unfold extOp
  simp only [ho, mapSetAV, e1, e2, ht, hm, hh, hq, hy, e3, keyOk_int hk, hd, hni, Bool.and_self, cond_true, hp]
  unfold insK
  by_cases hc : c ∈ ks
  · simp only [if_pos hc, mset_mapV enc f v ks c hc hn]
  · simp only [if_neg hc, mpush_mapV enc f v hc]
/-- The entries while one is lent out. -/
def mapT (enc : β → AV) (f : Int → β) (ks : List Int) (c : Int) : List (AV × AV) := if c ∈ ks then msetAt (mapV enc f ks) (ks.idxOf c) (enc (f c)).strip else mapV enc f ks
theorem mpos_mset {q : AV} : ∀ {ents : List (AV × AV)} {i : Nat} {x : AV}, mpos P kt (msetAt ents i x) q = mpos P kt ents q
  | [], i, x => rfl
  | (k, v) :: r, 0, x => rfl
  | (k, v) :: r, i + 1, x => by simp only [msetAt, mpos, mpos_mset (ents := r) (i := i) (x := x)]
theorem st_takeV {K : AV → Heap → Prop} {E : Prop} {mv qv : AV} (ht : tyD P t = .map kt et) (hk : tyD P kt = .int .i64) (hz : hasZero P et = true) (hm : mv = .mapr id) (hh : h.get id = .map kt reg (mapV enc f ks)) (hni : noIter id h = true) (hq : qv = .int .i64 c)
    {z : β} (hz2 : zeroAV P et = enc z) (hf : c ∉ ks → f c = z) (hK : K (enc (f c)) (h.set id (.map kt reg (mapT enc f ks c)))) : (match lookTakeAV P t h mv qv with | some (v, h) => K v h | none => E) := by
  subst hm hq
  have hp := mpos_int hk enc f c ks
  have e3 : Nat.beq kt kt = true := Nat.beq_refl kt
  unfold mapT at hK
  unfold lookTakeAV
  simp only [ht, hh, e3, keyOk_int hk, hni, hz, Bool.and_self, cond_true, hp]
  by_cases hc : c ∈ ks
  · simp only [if_pos hc] at hK ⊢
    rw [mval_mapV enc f _ ks c hc]
    exact hK
  · simp only [if_neg hc] at hK ⊢
    rw [hz2, ← hf hc]
    rw [← hh, heap_set_get] at hK
    exact hK
theorem st_setT {A : Option Nat → AV → Heap → Prop} {B : Option Nat → AV → Prop} {C : Prop} (ho : o.op = .mapUpdate t m q y) (ht : tyD P t = .map kt et) (hk : tyD P kt = .int .i64) (hm : (evo P t env m).strip = .mapr id) (hh : h.get id = .map kt reg (mapT enc f ks c)) (hni : noIter id h = true)
    (hq : (evo P kt env q).strip = .int .i64 c) {v : β} (hy : evo P et env y = enc v) (hd : (enc v).isData = true) (hn : ks.Nodup) (hK : A (tmpOp y) (.tup []) (h.set id (.map kt reg (mapV enc (updF f c v) (insK ks c))))) :
    (match extOp P o env h with | some (s, v, some h) => A s v h | some (s, v, none) => B s v | none => C) := by
  have hp := mpos_int hk enc f c ks
  have e1 : keyType P t = kt := by unfold keyType; rw [ht]
  have e2 : elemTypeM P t = et := by unfold elemTypeM; rw [ht]
  have e3 : Nat.beq kt kt = true := Nat.beq_refl kt
  refine st_ext ?_ hK
  unfold mapT at hh
  unfold extOp insK
  by_cases hc : c ∈ ks
  · rw [if_pos hc] at hh hp
    simp only [ho, mapSetAV, e1, e2, ht, hm, hh, hq, hy, e3, keyOk_int hk, hd, hni, Bool.and_self, cond_true, mpos_mset, hp, if_pos hc, msetAt_twice, mset_mapV enc f v ks c hc hn]
  · rw [if_neg hc] at hh hp
    simp only [ho, mapSetAV, e1, e2, ht, hm, hh, hq, hy, e3, keyOk_int hk, hd, hni, Bool.and_self, cond_true, hp, if_neg hc, mpush_mapV enc f v hc]
end
end Ax
