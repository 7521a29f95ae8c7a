import Derived.Test.YtiadhiggmjiibaaLO
import Derived.Test.YtiadhiggmjiibaaAxSem3
import Derived.Test.YtiadhiggmjiibaaLN
set_option linter.unusedVariables false
set_option linter.unusedSimpArgs false
namespace Go.Proofs
open Ax Go
set_option maxRecDepth 10000
/-! ### what turning means -/
def idxOf (id : Int) : List Py → Option Nat
  | [] => none
  | p :: r => if p.id = id then some 0 else (idxOf id r).map (· + 1)
theorem idx_some {id : Int} {l : List Py} {j : Nat} (h : idxOf id l = some j) : j < l.length ∧ (atP l j).id = id ∧ ∀ k, k < j → (atP l k).id ≠ id := by
  induction l generalizing j with
  | nil => simp [idxOf] at h
  | cons p r ih =>
    unfold idxOf at h
    by_cases e : p.id = id
    · rw [if_pos e] at h; cases h
      exact ⟨by simp, e, fun k hk => absurd hk (by omega)⟩
    · rw [if_neg e] at h
      obtain ⟨i, hi, rfl⟩ := Option.map_eq_some_iff.1 h
      obtain ⟨h1, h2, h3⟩ := ih hi
      refine ⟨by simp; omega, h2, fun k hk => ?_⟩
      cases k with
      | zero => exact e
      | succ k => exact h3 k (by omega)
theorem idx_none {id : Int} {l : List Py} (h : idxOf id l = none) : ∀ k, k < l.length → (atP l k).id ≠ id := by
  induction l with
  | nil => intro k hk; simp at hk
  | cons p r ih =>
    unfold idxOf at h
    by_cases e : p.id = id
    · rw [if_pos e] at h; cases h
    · rw [if_neg e] at h
      have hi := Option.map_eq_none_iff.1 h
      intro k hk
      cases k with
      | zero => exact e
      | succ k => exact ih hi k (by simpa using hk)
theorem idx_at {id : Int} {l : List Py} {i : Nat} (hi : i < l.length) (h1 : (atP l i).id = id) (h2 : ∀ k, k < i → (atP l k).id ≠ id) : idxOf id l = some i := by
  cases h : idxOf id l with
  | none => exact absurd h1 (idx_none h i hi)
  | some j =>
    obtain ⟨j1, j2, j3⟩ := idx_some h
    rcases Nat.lt_trichotomy i j with h4 | h4 | h4
    · exact absurd h1 (j3 i h4)
    · rw [h4]
    · exact absurd j2 (h2 j h4)
theorem idx_no {id : Int} {l : List Py} (h : ∀ k, k < l.length → (atP l k).id ≠ id) : idxOf id l = none := by
  cases e : idxOf id l with
  | none => rfl
  | some j =>
    obtain ⟨j1, j2, j3⟩ := idx_some e
    exact absurd j2 (h j j1)
def setS (l : List Py) (i : Nat) (s : Int) : List Py := l.set i { atP l i with s := s }
def turnS (l : List Py) (id s : Int) : List Py × Int :=
  bif decide (checkL l ≠ 0) then ([], checkL l) else
  match idxOf id l with
  | none => ([], 11)
  | some i => bif comes (atP l i) then (setS l i s, 0) else ([], 13)
theorem set_len (l : List Py) (i : Nat) (s : Int) : (setS l i s).length = l.length := by simp [setS]
theorem set_at {l : List Py} {i q : Nat} {s : Int} (hq : q < l.length) : atP (setS l i s) q = if q = i then { atP l i with s := s } else atP l q := by
  unfold setS atP
  rw [List.getD, List.getD, List.getElem?_set]
  by_cases e : i = q
  · subst e; rw [if_pos rfl, if_pos hq, if_pos rfl]; rfl
  · rw [if_neg e, if_neg (fun h => e h.symm)]; rfl
theorem paysAt_set {l : List Py} {i : Nat} {s : Int} {len : Nat} {g : Nat → AV} (hi : i < l.length) (h : PaysAt l len g) : PaysAt (setS l i s) len (upd g (0 + i) (setElem (g (0 + i)) 4 5 (.int .i64 s))) := by
  obtain ⟨h1, h2⟩ := h
  refine ⟨by rw [set_len]; exact h1, fun q hq => ?_⟩
  rw [set_len] at hq
  rw [set_at hq]
  unfold upd
  by_cases e : q = i
  · subst e
    rw [show Nat.beq q (0 + q) = true by rw [Nat.beq_eq]; omega, cond_true, Nat.zero_add, h2 q hq, if_pos rfl]
    rfl
  · rw [show Nat.beq q (0 + i) = false by rw [Bool.eq_false_iff, ne_eq, Nat.beq_eq]; omega, cond_false, h2 q hq, if_neg e]
/-! ### the places, as a map has them -/
def entsOf (l : List Py) (i : Nat) : List (AV × AV) := (List.range i).map fun (j : Nat) => ((AV.int .i64 (atP l j).id : AV), (AV.int .i64 (j : Int) : AV))
theorem ents_succ (l : List Py) (i : Nat) : entsOf l (i + 1) = entsOf l i ++ [(AV.int .i64 (atP l i).id, AV.int .i64 (i : Int))] := by
  simp [entsOf, List.range_succ]
abbrev encNo (n : Int) : AV := .int .i64 n
theorem eqI (a b : Int) : eqKey Try.prog 3 (encNo a) (encNo b) = decide (a = b) := by kernel_rfl
def idsOf (l : List Py) (i : Nat) : List Int := (List.range i).map fun j => (atP l j).id
theorem ents_f2 (l : List Py) (i : Nat) : F2 (fun (k : Int) (p : AV × AV) => p.1 = encNo k) (idsOf l i) (entsOf l i) := by
  unfold idsOf entsOf
  induction List.range i with
  | nil => exact .nil
  | cons a r ih => exact .cons rfl ih
theorem ids_mem {l : List Py} {i : Nat} {k : Int} : k ∈ idsOf l i ↔ ∃ j, j < i ∧ (atP l j).id = k := by
  unfold idsOf
  rw [List.mem_map]
  exact ⟨fun ⟨j, h1, h2⟩ => ⟨j, List.mem_range.1 h1, h2⟩, fun ⟨j, h1, h2⟩ => ⟨j, List.mem_range.2 h1, h2⟩⟩
theorem ids_ne {l : List Py} (h : l.Pairwise fun a b => a.id < b.id) {i j : Nat} (hj : j < l.length) (hij : i < j) : (atP l i).id < (atP l j).id := by
  have := List.pairwise_iff_getElem.1 h i j (by omega) hj hij
  rw [atP, atP, List.getD, List.getD, List.getElem?_eq_getElem (show i < l.length by omega), List.getElem?_eq_getElem hj]
  exact this
theorem ids_nodup {l : List Py} (h : l.Pairwise fun a b => a.id < b.id) {i : Nat} (hi : i ≤ l.length) : (idsOf l i).Nodup := by
  unfold idsOf
  rw [List.Nodup, List.pairwise_map]
  refine List.pairwise_iff_getElem.2 fun a b ha hb hab => ?_
  simp only [List.length_range] at ha hb
  simp only [List.getElem_range]
  have := ids_ne h (show b < l.length by omega) hab
  omega
theorem ents_new {l : List Py} (h : l.Pairwise fun a b => a.id < b.id) {i : Nat} (hi : i < l.length) : mpos Try.prog 3 (entsOf l i) (encNo (atP l i).id) = none := by
  refine mpos_no (enc := encNo) (fun a p hp => hp) (fun a b e => by rw [eqI] at e; exact of_decide_eq_true e) (ents_f2 l i) fun hm => ?_
  obtain ⟨j, h1, h2⟩ := ids_mem.1 hm
  have := ids_ne h hi h1
  omega
theorem ents_at {l : List Py} (h : l.Pairwise fun a b => a.id < b.id) {j : Nat} (hj : j < l.length) : mpos Try.prog 3 (entsOf l l.length) (encNo (atP l j).id) = some j := by
  refine mpos_at (enc := encNo) (fun a p hp => hp) (fun a b => by rw [eqI]; exact decide_eq_true_iff) (ents_f2 l l.length) (ids_nodup h (Nat.le_refl _)) ?_
  unfold idsOf
  rw [List.getElem?_map, List.getElem?_range hj]; rfl
theorem ents_none {l : List Py} {id : Int} (h : ∀ k, k < l.length → (atP l k).id ≠ id) : mpos Try.prog 3 (entsOf l l.length) (encNo id) = none := by
  refine mpos_no (enc := encNo) (fun a p hp => hp) (fun a b e => by rw [eqI] at e; exact of_decide_eq_true e) (ents_f2 l l.length) fun hm => ?_
  obtain ⟨j, h1, h2⟩ := ids_mem.1 hm
  exact h j h1 h2
theorem ents_val {l : List Py} {j n : Nat} (hj : j < n) : mval .undef (entsOf l n) j = .int .i64 (j : Int) := by
  refine mval_at (p := (AV.int .i64 (atP l j).id, AV.int .i64 (j : Int))) ?_
  unfold entsOf
  rw [List.getElem?_map, List.getElem?_range hj]; rfl
/-! ### late ones -/
def isLate (p : Py) : Bool := decide (p.s = 1) && decide (p.n < 0)
def lateP (p : Py) : Py := bif isLate p then { p with s := 4 } else p
def lateN (l : List Py) : Int := (l.filter isLate).length
def lateS (l : List Py) : List Py × Int × Int := bif decide (checkL l ≠ 0) then ([], 0, checkL l) else (l.map lateP, lateN l, 0)
/-- What stands at the head of a loop that turns payments late. -/
structure LtHd (l : List Py) where
  i : Nat
  n : Nat
  e : Nat → AV
  hi : i ≤ l.length
  hn : n = ((l.take i).filter isLate).length
  h1 : ∀ j, j < i → e j = encP (lateP (atP l j))
  h2 : ∀ j, i ≤ j → j < l.length → e j = encP (atP l j)
theorem lt_start {l : List Py} {len : Nat} {g : Nat → AV} (h : PaysAt l len g) : ∃ x : LtHd l, x.i = 0 ∧ x.n = 0 ∧ x.e = g := ⟨⟨0, 0, g, Nat.zero_le _, rfl, fun j hj => absurd hj (by omega), fun j _ hj => h.2 j hj⟩, rfl, rfl, rfl⟩
theorem lt_yes {l : List Py} (x : LtHd l) (hi : x.i < l.length) (h : isLate (atP l x.i) = true) : ∃ y : LtHd l, y.i = x.i + 1 ∧ y.n = x.n + 1 ∧ y.e = upd x.e (0 + x.i) (setElem (x.e (0 + x.i)) 4 5 (.int .i64 4)) := by
  obtain ⟨i, n, e, hi0, hn, h1, h2⟩ := x
  simp only at hi h ⊢
  refine ⟨⟨i + 1, n + 1, upd e (0 + i) (setElem (e (0 + i)) 4 5 (.int .i64 4)), hi, by rw [filt_yes hi h, List.length_append, hn]; rfl, fun j hj => ?_, fun j hj1 hj2 => ?_⟩, rfl, rfl, rfl⟩
  · unfold upd
    by_cases e : j = i
    · subst e
      rw [show Nat.beq j (0 + j) = true by rw [Nat.beq_eq]; omega, cond_true, Nat.zero_add, h2 j (Nat.le_refl _) hi, lateP, h, cond_true]
      rfl
    · rw [show Nat.beq j (0 + i) = false by rw [Bool.eq_false_iff, ne_eq, Nat.beq_eq]; omega, cond_false, h1 j (by omega)]
  · unfold upd
    rw [show Nat.beq j (0 + i) = false by rw [Bool.eq_false_iff, ne_eq, Nat.beq_eq]; omega, cond_false, h2 j (by omega) hj2]
theorem lt_no {l : List Py} (x : LtHd l) (hi : x.i < l.length) (h : isLate (atP l x.i) = false) : ∃ y : LtHd l, y.i = x.i + 1 ∧ y.n = x.n ∧ y.e = x.e := by
  obtain ⟨i, n, e, hi0, hn, h1, h2⟩ := x
  simp only at hi h
  refine ⟨⟨i + 1, n, e, hi, by rw [filt_no hi h]; exact hn, fun j hj => ?_, fun j hj1 hj2 => h2 j (by omega) hj2⟩, rfl, rfl, rfl⟩
  rcases Nat.lt_or_ge j i with hlt | hge
  · exact h1 j hlt
  · obtain rfl : j = i := by omega
    rw [h2 j (Nat.le_refl _) hi, lateP, h, cond_false]
theorem atP_map {l : List Py} {f : Py → Py} {j : Nat} (h : j < l.length) : atP (l.map f) j = f (atP l j) := by
  unfold atP
  rw [List.getD, List.getD, List.getElem?_map, List.getElem?_eq_getElem h]; rfl
theorem lt_end {l : List Py} (x : LtHd l) (hi : x.i = l.length) : PaysAt (l.map lateP) l.length x.e ∧ (x.n : Int) = lateN l := by
  obtain ⟨i, n, e, hi0, hn, h1, h2⟩ := x
  simp only at hi
  subst hi
  rw [List.take_length] at hn
  refine ⟨⟨by simp, fun j hj => ?_⟩, by simp only [lateN]; exact congrArg _ hn⟩
  have hj : j < l.length := by simpa using hj
  rw [atP_map hj]; exact h1 j hj
end Go.Proofs


set_option linter.unusedVariables false
set_option linter.unusedSimpArgs false
namespace Go.Proofs
open Ax Go
set_option maxRecDepth 10000
def keepU (f r : Nat) : Option (List Nat) := match f, r with
  | 54, 3 => some [3, 7, 8, 9]
  | 20, 6 => some [2, 3, 14, 15, 16]
  | 36, 6 => some [1, 2, 9, 10]
  | 21, 7 => some [6, 7, 8]
  | _, _ => none
def keepXU (f r : Nat) : Option (List Nat) := match f, r with
  | 54, 3 => some [3]
  | 20, 6 => some [2, 3]
  | 36, 6 => some [6, 7]
  | 21, 7 => some [6, 7]
  | _, _ => none
def xfU (f r o : Nat) : Bool := match f, r, o with
  | 36, 4, 2 => true
  | 21, 4, 2 => true
  | _, _, _ => false
def ghU (f r : Nat) : List Ghost := match f, r with
  | 35, 10 => [.adopt 6]
  | 20, 5 => [.adopt 2]
  | 36, 12 => [.freeze 9]
  | 21, 12 => [.freeze 6]
  | _, _ => []
def glU (f r : Nat) : List Ghost := match f, r with
  | 36, 6 => [.adopt 9]
  | 21, 7 => [.adopt 6]
  | _, _ => []
noncomputable def cxU : Ctx where
  P := Try.prog
  inl := fun f => Nat.beq f 54
  keep := keepU
  keepX := keepXU
  xf := xfU
  ow := fun f => memN f [16, 18, 20, 35]
  gh := ghU
  gf := fun _ => []
  ln := fun _ => false
  srt := srtT
  gl := glU
theorem okU {f a Q} (h : stepCall (SX Try.prog calmT) cxU calmT f a Q) : CallOK Try.prog f a Q := okOf (cx := cxU) rfl progOK h
/-- A list that was written, or none, and why not. -/
def TurnR (p : List Py × Int) (r : AV) : Prop :=
  (p.2 = 0 ∧ ∃ len g, r = .tup [.uni (.wide 5 len len g), .int .i64 0] ∧ PaysAt p.1 len g) ∨ (p.2 ≠ 0 ∧ p.1 = [] ∧ ∃ g, r = .tup [.own (.vec 5 0 g), .int .i64 p.2])
theorem turn_bad {p : List Py × Int} {e : Int} {g : Nat → AV} (h : p = ([], e)) (he : e ≠ 0) : TurnR p (.tup [.own (.vec 5 0 g), .int .i64 e]) := by
  subst h; exact .inr ⟨he, rfl, g, rfl⟩
theorem turnR_some (p : List Py × Int) (h : p.2 ≠ 0 → p.1 = []) : ∃ r, TurnR p r := by
  by_cases h2 : p.2 = 0
  · exact ⟨_, .inl ⟨h2, _, _, rfl, paysAt_self _⟩⟩
  · exact ⟨_, .inr ⟨h2, h h2, fun _ => .undef, rfl⟩⟩
theorem turn (l : List Py) (id s : Int) : CallOK Try.prog 35 [encL l, .int .i64 id, .int .i64 s] (TurnR (turnS l id s)) := by
  refine okU ?_
  conv => whnf
  repeat ((first | with_reducible refine branch_true rfl ?_ | with_reducible refine branch_false rfl ?_); conv => whnf)
  refine call_is (check l) ?_
  conv => whnf
  repeat ((first | with_reducible refine branch_true rfl ?_ | with_reducible refine branch_false rfl ?_); conv => whnf)
  refine branch_of (fun h1 => ?_) (fun h1 => ?_)
  · have h1 : checkL l ≠ 0 := by simpa using h1
    conv => whnf
    repeat ((first | with_reducible refine branch_true rfl ?_ | with_reducible refine branch_false rfl ?_); conv => whnf)
    exact turn_bad (by simp [turnS, h1]) h1
  · have h1 : checkL l = 0 := by simpa using h1
    obtain ⟨hn, hgd, hids⟩ := check_good h1
    have hS : turnS l id s = match idxOf id l with
      | none => ([], 11)
      | some i => bif comes (atP l i) then (setS l i s, 0) else ([], 13) := by simp only [turnS, h1]; rfl
    conv => whnf
    repeat ((first | with_reducible refine branch_true rfl ?_ | with_reducible refine branch_false rfl ?_); conv => whnf)
    refine loop_by (cx := cxU) rfl progOK (ι := {i : Nat // i ≤ l.length}) (fun x => l.length - x.1) (fun x => ⟨[(3, .mapr 0), (7, encL l), (8, .int .i64 l.length), (9, .int .i64 x.1)], [.map 3 true (entsOf l x.1)], [], none⟩) ?_ ⟨0, Nat.zero_le _⟩
    rintro ⟨i, hi⟩ ih
    conv => whnf
    repeat ((first | with_reducible refine branch_true rfl ?_ | with_reducible refine branch_false rfl ?_); conv => whnf)
    refine branch_of (fun g1 => ?_) (fun g1 => ?_)
    · have g2 : i < l.length := by simpa using g1
      have hw : IntKind.i64.wrap ((i : Int) + 1) = ((i + 1 : Nat) : Int) := by rw [wrap64 (by omega)]; omega
      conv => whnf
      repeat ((first | with_reducible refine branch_true rfl ?_ | with_reducible refine branch_false rfl ?_); conv => whnf)
      refine st_addr (sz := 5) (len := l.length) (n := i) (u := 51) (g := fun i => encP (atP l i)) rfl rfl rfl rfl rfl (in_range g2) ?_
      conv => whnf
      repeat ((first | with_reducible refine branch_true rfl ?_ | with_reducible refine branch_false rfl ?_); conv => whnf)
      refine st_mapset_no (kt := 3) (et := 3) (id := 0) (ents := entsOf l i) (reg := true) (x := .int .i64 i) rfl rfl rfl rfl rfl (by rfl) (ents_new hids g2) ?_
      conv => whnf
      repeat ((first | with_reducible refine branch_true rfl ?_ | with_reducible refine branch_false rfl ?_); conv => whnf)
      refine loop_to ih ⟨i + 1, g2⟩ (show l.length - (i + 1) < l.length - i by omega) ?_
      show St.mk [(3, .mapr 0), (7, encL l), (8, .int .i64 l.length), (9, .int .i64 (IntKind.i64.wrap ((i : Int) + 1)))] [.map 3 true (entsOf l i ++ [(AV.int .i64 (atP l i).id, AV.int .i64 (i : Int))])] [] none = _
      rw [hw, ← ents_succ]
    · have g2 : i = l.length := by simp at g1; omega
      subst g2
      clear ih
      conv => whnf
      repeat ((first | with_reducible refine branch_true rfl ?_ | with_reducible refine branch_false rfl ?_); conv => whnf)
      cases hx : idxOf id l with
      | none =>
        refine st_look2_no (kt := 3) (et := 3) (id := 0) (ents := entsOf l l.length) (reg := true) rfl rfl rfl rfl (by rfl) (ents_none (idx_none hx)) ?_
        conv => whnf
        repeat ((first | with_reducible refine branch_true rfl ?_ | with_reducible refine branch_false rfl ?_); conv => whnf)
        exact turn_bad (by rw [hS, hx]) (by decide)
      | some j =>
        obtain ⟨j1, j2, j3⟩ := idx_some hx
        rw [hx] at hS
        replace hS : turnS l id s = bif comes (atP l j) then (setS l j s, 0) else ([], 13) := hS
        refine st_look2 (kt := 3) (et := 3) (id := 0) (ents := entsOf l l.length) (reg := true) (j := j) rfl rfl rfl rfl (by rfl) (by have := ents_at hids j1; rw [j2] at this; exact this) (ents_val j1) ?_
        conv => whnf
        repeat ((first | with_reducible refine branch_true rfl ?_ | with_reducible refine branch_false rfl ?_); conv => whnf)
        refine st_addr (sz := 5) (len := l.length) (n := j) (u := 51) (g := fun i => encP (atP l i)) rfl rfl rfl rfl rfl (in_range j1) ?_
        conv => whnf
        repeat ((first | with_reducible refine branch_true rfl ?_ | with_reducible refine branch_false rfl ?_); conv => whnf)
        refine call_is (coming (atP l j)) ?_
        conv => whnf
        repeat ((first | with_reducible refine branch_true rfl ?_ | with_reducible refine branch_false rfl ?_); conv => whnf)
        cases hc : comes (atP l j) with
        | false =>
          conv => whnf
          repeat ((first | with_reducible refine branch_true rfl ?_ | with_reducible refine branch_false rfl ?_); conv => whnf)
          exact turn_bad (by rw [hS, hc]; rfl) (by decide)
        | true =>
          rw [hc] at hS
          conv => whnf
          repeat ((first | with_reducible refine branch_true rfl ?_ | with_reducible refine branch_false rfl ?_); conv => whnf)
          refine call_by (clone l (by omega)) (uniR_some l) ?_
          rintro r ⟨len, g, rfl, hg⟩
          have hlen := hg.1
          conv => whnf
          repeat ((first | with_reducible refine branch_true rfl ?_ | with_reducible refine branch_false rfl ?_); conv => whnf)
          refine st_addr_row (u := 51) (id := 1) (sz := 5) (lo := 0) (len := len) (n := (j : Int)) rfl rfl rfl rfl rfl (in_range (by omega)) ?_
          conv => whnf
          repeat ((first | with_reducible refine branch_true rfl ?_ | with_reducible refine branch_false rfl ?_); conv => whnf)
          refine st_store_off (id := 1) (sz := 5) (j := 0 + j) (off := 4) (len := len) (g := g) rfl rfl (by omega) rfl rfl ?_
          conv => whnf
          repeat ((first | with_reducible refine branch_true rfl ?_ | with_reducible refine branch_false rfl ?_); conv => whnf)
          change giveOut (SX Try.prog calmT) cxU 35 _ (.tup [.row 1 5 0 len, .int .i64 0]) [.map 3 true (entsOf l l.length), .arr 5 len (upd g (0 + j) (setElem (g (0 + j)) 4 5 (.int .i64 s)))]
          refine give_row rfl rfl (Nat.le_refl _) rfl ?_
          exact .inl ⟨by rw [hS]; rfl, _, _, rfl, by rw [hS]; exact paysAt_set j1 hg⟩
theorem turnS_nil (l : List Py) (id s : Int) (h : (turnS l id s).2 ≠ 0) : (turnS l id s).1 = [] := by
  unfold turnS at h ⊢
  by_cases h1 : checkL l ≠ 0
  · simp [h1]
  · have h1 : checkL l = 0 := by simpa using h1
    simp only [h1] at h ⊢
    cases hx : idxOf id l with
    | none => rfl
    | some j =>
      rw [hx] at h
      cases hc : comes (atP l j) with
      | false => simp [hc]
      | true => simp [hc] at h
theorem done (l : List Py) (id : Int) : CallOK Try.prog 16 [encL l, .int .i64 id] (TurnR (turnS l id 2)) := by
  refine okU ?_
  conv => whnf
  repeat ((first | with_reducible refine branch_true rfl ?_ | with_reducible refine branch_false rfl ?_); conv => whnf)
  refine call_by (turn l id 2) (turnR_some _ (turnS_nil l id 2)) ?_
  rintro r (⟨h0, len, g, rfl, hg⟩ | ⟨h0, h1, g, rfl⟩)
  · conv => whnf
    repeat ((first | with_reducible refine branch_true rfl ?_ | with_reducible refine branch_false rfl ?_); conv => whnf)
    exact .inl ⟨h0, len, g, rfl, hg⟩
  · conv => whnf
    repeat ((first | with_reducible refine branch_true rfl ?_ | with_reducible refine branch_false rfl ?_); conv => whnf)
    exact .inr ⟨h0, h1, g, rfl⟩
theorem fail (l : List Py) (id : Int) : CallOK Try.prog 18 [encL l, .int .i64 id] (TurnR (turnS l id 3)) := by
  refine okU ?_
  conv => whnf
  repeat ((first | with_reducible refine branch_true rfl ?_ | with_reducible refine branch_false rfl ?_); conv => whnf)
  refine call_by (turn l id 3) (turnR_some _ (turnS_nil l id 3)) ?_
  rintro r (⟨h0, len, g, rfl, hg⟩ | ⟨h0, h1, g, rfl⟩)
  · conv => whnf
    repeat ((first | with_reducible refine branch_true rfl ?_ | with_reducible refine branch_false rfl ?_); conv => whnf)
    exact .inl ⟨h0, len, g, rfl, hg⟩
  · conv => whnf
    repeat ((first | with_reducible refine branch_true rfl ?_ | with_reducible refine branch_false rfl ?_); conv => whnf)
    exact .inr ⟨h0, h1, g, rfl⟩
/-- The same, for reading. -/
def TurnV (p : List Py × Int) (r : AV) : Prop := ∃ len g, r = .tup [.vec 5 len g, .int .i64 p.2] ∧ PaysAt p.1 len g
theorem turnV_some (p : List Py × Int) : ∃ r, TurnV p r := ⟨_, _, _, rfl, paysAt_self _⟩
theorem turnV_bad {p : List Py × Int} {e : Int} {g : Nat → AV} (h : p = ([], e)) : TurnV p (.tup [.vec 5 0 g, .int .i64 e]) := by
  subst h; exact ⟨0, g, rfl, paysAt_nil⟩
theorem refTurn (l : List Py) (hs : Sized l) (id s : Int) : CallOK Try.prog 36 [encL l, .int .i64 id, .int .i64 s] (TurnV (turnS l id s)) := by
  refine okU ?_
  conv => whnf
  repeat ((first | with_reducible refine branch_true rfl ?_ | with_reducible refine branch_false rfl ?_); conv => whnf)
  refine call_is (refCheck l hs) ?_
  conv => whnf
  repeat ((first | with_reducible refine branch_true rfl ?_ | with_reducible refine branch_false rfl ?_); conv => whnf)
  refine branch_of (fun h1 => ?_) (fun h1 => ?_)
  · have h1 : checkL l ≠ 0 := by simpa using h1
    conv => whnf
    repeat ((first | with_reducible refine branch_true rfl ?_ | with_reducible refine branch_false rfl ?_); conv => whnf)
    exact turnV_bad (by simp [turnS, h1])
  · have h1 : checkL l = 0 := by simpa using h1
    obtain ⟨hn, hgd, hids⟩ := check_good h1
    have hS : turnS l id s = match idxOf id l with
      | none => ([], 11)
      | some i => bif comes (atP l i) then (setS l i s, 0) else ([], 13) := by simp only [turnS, h1]; rfl
    conv => whnf
    repeat ((first | with_reducible refine branch_true rfl ?_ | with_reducible refine branch_false rfl ?_); conv => whnf)
    refine st_append_uni (sz := 5) (len := 0) (u := 51) (m := l.length) (gg := fun i => encP (atP l i)) rfl rfl rfl rfl rfl (room56 (by omega)) ?_
    conv => whnf
    repeat ((first | with_reducible refine branch_true rfl ?_ | with_reducible refine branch_false rfl ?_); conv => whnf)
    have hG : ∀ z (g0 : Nat → AV), PaysAt l (0 + l.length) (vapp z g0 0 (fun i => encP (atP l i)) l.length) := fun z g0 => paysAt_app (z := z) (paysAt_nil (g := g0)) (paysAt_self l)
    have hG := hG (zeroElem Try.prog 51) (vlist (zeroElem Try.prog 51) [])
    generalize hgv : vapp (zeroElem Try.prog 51) (vlist (zeroElem Try.prog 51) []) 0 (fun i => encP (atP l i)) l.length = gv at hG
    refine loop_by (cx := cxU) rfl progOK (ι := {i : Nat // i ≤ l.length ∧ ∀ k, k < i → (atP l k).id ≠ id}) (fun x => l.length - x.1) (fun x => ⟨[(1, .int .i64 id), (2, .int .i64 s), (9, .row 0 5 0 (0 + l.length)), (10, .int .i64 x.1)], [.arr 5 (0 + l.length) (vapp (zeroElem Try.prog 51) (vlist (zeroElem Try.prog 51) []) 0 (fun i => encP (atP l i)) l.length)], [], none⟩) ?_ ⟨0, Nat.zero_le _, fun k hk => absurd hk (by omega)⟩
    rw [hgv]
    clear hgv
    rintro ⟨i, hi, hne⟩ ih
    conv => whnf
    repeat ((first | with_reducible refine branch_true rfl ?_ | with_reducible refine branch_false rfl ?_); conv => whnf)
    refine branch_of (fun g1 => ?_) (fun g1 => ?_)
    · have g2 : i < l.length := by
        have g1 : (i : Int) < ((0 + l.length : Nat) : Int) := of_decide_eq_true g1
        omega
      have hw : IntKind.i64.wrap ((i : Int) + 1) = ((i + 1 : Nat) : Int) := by rw [wrap64 (by omega)]; omega
      have hat : gv (0 + i) = encP (atP l i) := by rw [Nat.zero_add, hG.2 i g2]
      conv => whnf
      repeat ((first | with_reducible refine branch_true rfl ?_ | with_reducible refine branch_false rfl ?_); conv => whnf)
      refine st_addr_row (u := 51) (id := 0) (sz := 5) (lo := 0) (len := 0 + l.length) (n := (i : Int)) rfl rfl rfl rfl rfl (in_range (by omega)) ?_
      conv => whnf
      repeat ((first | with_reducible refine branch_true rfl ?_ | with_reducible refine branch_false rfl ?_); conv => whnf)
      refine st_load_ef (id := 0) (sz := 5) (j := 0 + i) (off := 0) (len := 0 + l.length) (g := gv) (v := .int .i64 (atP l i).id) rfl rfl rfl (by omega) hat rfl rfl rfl ?_
      conv => whnf
      repeat ((first | with_reducible refine branch_true rfl ?_ | with_reducible refine branch_false rfl ?_); conv => whnf)
      refine branch_of (fun g3 => ?_) (fun g3 => ?_)
      · have g3 : (atP l i).id = id := of_decide_eq_true g3
        have hx := idx_at g2 g3 hne
        rw [hx] at hS
        replace hS : turnS l id s = bif comes (atP l i) then (setS l i s, 0) else ([], 13) := hS
        conv => whnf
        repeat ((first | with_reducible refine branch_true rfl ?_ | with_reducible refine branch_false rfl ?_); conv => whnf)
        refine st_addr_row (u := 51) (id := 0) (sz := 5) (lo := 0) (len := 0 + l.length) (n := (i : Int)) rfl rfl rfl rfl rfl (in_range (by omega)) ?_
        conv => whnf
        repeat ((first | with_reducible refine branch_true rfl ?_ | with_reducible refine branch_false rfl ?_); conv => whnf)
        refine st_load_e (id := 0) (sz := 5) (j := 0 + i) (len := 0 + l.length) (g := gv) rfl rfl rfl (by omega) hat rfl rfl ?_
        conv => whnf
        repeat ((first | with_reducible refine branch_true rfl ?_ | with_reducible refine branch_false rfl ?_); conv => whnf)
        refine call_is (waits (atP l i)) ?_
        conv => whnf
        repeat ((first | with_reducible refine branch_true rfl ?_ | with_reducible refine branch_false rfl ?_); conv => whnf)
        cases hc : comes (atP l i) with
        | false =>
          conv => whnf
          repeat ((first | with_reducible refine branch_true rfl ?_ | with_reducible refine branch_false rfl ?_); conv => whnf)
          exact turnV_bad (by rw [hS, hc]; rfl)
        | true =>
          rw [hc] at hS
          conv => whnf
          repeat ((first | with_reducible refine branch_true rfl ?_ | with_reducible refine branch_false rfl ?_); conv => whnf)
          refine st_addr_row (u := 51) (id := 0) (sz := 5) (lo := 0) (len := 0 + l.length) (n := (i : Int)) rfl rfl rfl rfl rfl (in_range (by omega)) ?_
          conv => whnf
          repeat ((first | with_reducible refine branch_true rfl ?_ | with_reducible refine branch_false rfl ?_); conv => whnf)
          refine st_store_off (id := 0) (sz := 5) (j := 0 + i) (off := 4) (len := 0 + l.length) (g := gv) rfl rfl (by omega) rfl rfl ?_
          conv => whnf
          repeat ((first | with_reducible refine branch_true rfl ?_ | with_reducible refine branch_false rfl ?_); conv => whnf)
          refine st_ghosts (ghost_freeze (id := 0) (sz := 5) (lo := 0) (m := 0 + l.length) (n' := 0 + l.length) rfl rfl (by omega)) ?_
          conv => whnf
          repeat ((first | with_reducible refine branch_true rfl ?_ | with_reducible refine branch_false rfl ?_); conv => whnf)
          have hset := paysAt_set (s := s) g2 hG
          refine ⟨_, _, by rw [hS]; rfl, ?_⟩
          rw [hS]
          exact ⟨hset.1, fun q hq => by show upd gv (0 + i) (setElem (gv (0 + i)) 4 5 (.int .i64 s)) (0 + q) = _; rw [Nat.zero_add q]; exact hset.2 q hq⟩
      · have g3 : ¬ (atP l i).id = id := of_decide_eq_false g3
        conv => whnf
        repeat ((first | with_reducible refine branch_true rfl ?_ | with_reducible refine branch_false rfl ?_); conv => whnf)
        exact loop_to ih ⟨i + 1, g2, all_next hne g3⟩ (show l.length - (i + 1) < l.length - i by omega) (congrArg (fun q => St.mk [(1, .int .i64 id), (2, .int .i64 s), (9, .row 0 5 0 (0 + l.length)), (10, .int .i64 q)] [.arr 5 (0 + l.length) gv] [] none) hw)
    · have g2 : i = l.length := by
        have g1 : ¬ (i : Int) < ((0 + l.length : Nat) : Int) := of_decide_eq_false g1
        omega
      subst g2
      conv => whnf
      repeat ((first | with_reducible refine branch_true rfl ?_ | with_reducible refine branch_false rfl ?_); conv => whnf)
      exact turnV_bad (by rw [hS, idx_no hne])
theorem refDone (l : List Py) (hs : Sized l) (id : Int) : CallOK Try.prog 17 [encL l, .int .i64 id] (TurnV (turnS l id 2)) := by
  refine okU ?_
  conv => whnf
  repeat ((first | with_reducible refine branch_true rfl ?_ | with_reducible refine branch_false rfl ?_); conv => whnf)
  refine call_by (refTurn l hs id 2) (turnV_some _) ?_
  rintro r ⟨len, g, rfl, hg⟩
  conv => whnf
  repeat ((first | with_reducible refine branch_true rfl ?_ | with_reducible refine branch_false rfl ?_); conv => whnf)
  exact ⟨len, g, rfl, hg⟩
theorem refFail (l : List Py) (hs : Sized l) (id : Int) : CallOK Try.prog 19 [encL l, .int .i64 id] (TurnV (turnS l id 3)) := by
  refine okU ?_
  conv => whnf
  repeat ((first | with_reducible refine branch_true rfl ?_ | with_reducible refine branch_false rfl ?_); conv => whnf)
  refine call_by (refTurn l hs id 3) (turnV_some _) ?_
  rintro r ⟨len, g, rfl, hg⟩
  conv => whnf
  repeat ((first | with_reducible refine branch_true rfl ?_ | with_reducible refine branch_false rfl ?_); conv => whnf)
  exact ⟨len, g, rfl, hg⟩
end Go.Proofs


set_option linter.unusedVariables false
set_option linter.unusedSimpArgs false
namespace Go.Proofs
open Ax Go
set_option maxRecDepth 10000
def LateR (p : List Py × Int × Int) (r : AV) : Prop :=
  (p.2.2 = 0 ∧ ∃ len g, r = .tup [.uni (.wide 5 len len g), .int .i64 p.2.1, .int .i64 0] ∧ PaysAt p.1 len g) ∨ (p.2.2 ≠ 0 ∧ p.1 = [] ∧ ∃ g, r = .tup [.own (.vec 5 0 g), .int .i64 p.2.1, .int .i64 p.2.2])
theorem late (l : List Py) : CallOK Try.prog 20 [encL l] (LateR (lateS l)) := by
  refine okU ?_
  conv => whnf
  repeat ((first | with_reducible refine branch_true rfl ?_ | with_reducible refine branch_false rfl ?_); conv => whnf)
  refine call_is (check l) ?_
  conv => whnf
  repeat ((first | with_reducible refine branch_true rfl ?_ | with_reducible refine branch_false rfl ?_); conv => whnf)
  refine branch_of (fun h1 => ?_) (fun h1 => ?_)
  · have h1 : checkL l ≠ 0 := by simpa using h1
    conv => whnf
    repeat ((first | with_reducible refine branch_true rfl ?_ | with_reducible refine branch_false rfl ?_); conv => whnf)
    have hS : lateS l = ([], 0, checkL l) := by simp [lateS, h1]
    rw [hS]
    exact .inr ⟨h1, rfl, _, rfl⟩
  · have h1 : checkL l = 0 := by simpa using h1
    have hn := (check_good h1).1
    have hS : lateS l = (l.map lateP, lateN l, 0) := by simp [lateS, h1]
    conv => whnf
    repeat ((first | with_reducible refine branch_true rfl ?_ | with_reducible refine branch_false rfl ?_); conv => whnf)
    refine call_by (clone l (by omega)) (uniR_some l) ?_
    rintro r ⟨len, g, rfl, hg⟩
    obtain rfl := hg.1
    obtain ⟨x0, hx1, hx2, hx3⟩ := lt_start hg
    conv => whnf
    repeat ((first | with_reducible refine branch_true rfl ?_ | with_reducible refine branch_false rfl ?_); conv => whnf)
    refine loop_start ?_ (loop_by (cx := cxU) rfl progOK (ι := LtHd l) (fun x => l.length - x.i) (fun x => ⟨[(2, .row 0 5 0 l.length), (3, .int .i64 x.n), (14, .row 0 5 0 l.length), (15, .int .i64 l.length), (16, .int .i64 x.i)], [.arr 5 l.length x.e], [], none⟩) ?_ x0)
    · simp only [hx1, hx2, hx3]; rfl
    intro x ih
    have hxi := x.hi
    conv => whnf
    repeat ((first | with_reducible refine branch_true rfl ?_ | with_reducible refine branch_false rfl ?_); conv => whnf)
    refine branch_of (fun g1 => ?_) (fun g1 => ?_)
    · have g2 : x.i < l.length := by
        have g1 : (x.i : Int) < (l.length : Int) := of_decide_eq_true g1
        omega
      have hw : IntKind.i64.wrap ((x.i : Int) + 1) = ((x.i + 1 : Nat) : Int) := by rw [wrap64 (by omega)]; omega
      have hat : x.e (0 + x.i) = encP (atP l x.i) := by rw [Nat.zero_add, x.h2 x.i (Nat.le_refl _) g2]
      have hnb : x.n ≤ l.length := by
        have := x.hn
        have h3 := List.length_filter_le isLate (l.take x.i)
        have h4 := List.length_take_le x.i l
        omega
      have hwn : IntKind.i64.wrap ((x.n : Int) + 1) = ((x.n + 1 : Nat) : Int) := by rw [wrap64 (by omega)]; omega
      have no : isLate (atP l x.i) = false → ∀ K : St → Prop, (∀ j : LtHd l, l.length - j.i < l.length - x.i → K (St.mk [(2, .row 0 5 0 l.length), (3, .int .i64 j.n), (14, .row 0 5 0 l.length), (15, .int .i64 l.length), (16, .int .i64 j.i)] [.arr 5 l.length j.e] [] none)) → K (St.mk [(2, .row 0 5 0 l.length), (3, .int .i64 x.n), (14, .row 0 5 0 l.length), (15, .int .i64 l.length), (16, .int .i64 (IntKind.i64.wrap ((x.i : Int) + 1)))] [.arr 5 l.length x.e] [] none) := by
        intro h K hK
        obtain ⟨y, y1, y2, y3⟩ := lt_no x g2 h
        rw [hw, ← y1, ← y2, ← y3]
        exact hK y (by omega)
      conv => whnf
      repeat ((first | with_reducible refine branch_true rfl ?_ | with_reducible refine branch_false rfl ?_); conv => whnf)
      refine st_addr_row (u := 51) (id := 0) (sz := 5) (lo := 0) (len := l.length) (n := (x.i : Int)) rfl rfl rfl rfl rfl (in_range g2) ?_
      conv => whnf
      repeat ((first | with_reducible refine branch_true rfl ?_ | with_reducible refine branch_false rfl ?_); conv => whnf)
      refine st_load_e (id := 0) (sz := 5) (j := 0 + x.i) (len := l.length) (g := x.e) rfl rfl rfl (by omega) hat rfl rfl ?_
      conv => whnf
      repeat ((first | with_reducible refine branch_true rfl ?_ | with_reducible refine branch_false rfl ?_); conv => whnf)
      refine branch_of (fun g3 => ?_) (fun g3 => ?_)
      · have g3 : (atP l x.i).s = 1 := of_decide_eq_true g3
        conv => whnf
        repeat ((first | with_reducible refine branch_true rfl ?_ | with_reducible refine branch_false rfl ?_); conv => whnf)
        refine branch_of (fun g4 => ?_) (fun g4 => ?_)
        · have g4 : (atP l x.i).n < 0 := of_decide_eq_true g4
          obtain ⟨y, y1, y2, y3⟩ := lt_yes x g2 (by simp [isLate, g3, g4])
          conv => whnf
          repeat ((first | with_reducible refine branch_true rfl ?_ | with_reducible refine branch_false rfl ?_); conv => whnf)
          refine st_addr_row (u := 51) (id := 0) (sz := 5) (lo := 0) (len := l.length) (n := (x.i : Int)) rfl rfl rfl rfl rfl (in_range g2) ?_
          conv => whnf
          repeat ((first | with_reducible refine branch_true rfl ?_ | with_reducible refine branch_false rfl ?_); conv => whnf)
          refine st_store_off (id := 0) (sz := 5) (j := 0 + x.i) (off := 4) (len := l.length) (g := x.e) rfl rfl (by omega) rfl rfl ?_
          conv => whnf
          repeat ((first | with_reducible refine branch_true rfl ?_ | with_reducible refine branch_false rfl ?_); conv => whnf)
          refine loop_to ih y (by omega) ?_
          rw [y1, y2, y3, ← hw, ← hwn]
          rfl
        · have g4 : ¬ (atP l x.i).n < 0 := of_decide_eq_false g4
          conv => whnf
          repeat ((first | with_reducible refine branch_true rfl ?_ | with_reducible refine branch_false rfl ?_); conv => whnf)
          exact no (by simp [isLate, g4]) (fun s => SLoop _ _ _ _ _ _ s _) ih
      · have g3 : ¬ (atP l x.i).s = 1 := of_decide_eq_false g3
        conv => whnf
        repeat ((first | with_reducible refine branch_true rfl ?_ | with_reducible refine branch_false rfl ?_); conv => whnf)
        exact no (by simp [isLate, g3]) (fun s => SLoop _ _ _ _ _ _ s _) ih
    · have g2 : x.i = l.length := by
        have g1 : ¬ (x.i : Int) < (l.length : Int) := of_decide_eq_false g1
        omega
      obtain ⟨e1, e2⟩ := lt_end x g2
      conv => whnf
      repeat ((first | with_reducible refine branch_true rfl ?_ | with_reducible refine branch_false rfl ?_); conv => whnf)
      change giveOut (SX Try.prog calmT) cxU 20 _ (.tup [.row 0 5 0 l.length, .int .i64 x.n, .int .i64 0]) [.arr 5 l.length x.e]
      refine give_row rfl rfl (Nat.le_refl _) rfl ?_
      rw [hS]
      exact .inl ⟨rfl, _, _, by rw [e2], e1⟩
def LateV (p : List Py × Int × Int) (r : AV) : Prop := ∃ len g, r = .tup [.vec 5 len g, .int .i64 p.2.1, .int .i64 p.2.2] ∧ PaysAt p.1 len g
theorem lateV_some (p : List Py × Int × Int) : ∃ r, LateV p r := ⟨_, _, _, rfl, paysAt_self _⟩
theorem refLate (l : List Py) (hs : Sized l) : CallOK Try.prog 21 [encL l] (LateV (lateS l)) := by
  refine okU ?_
  conv => whnf
  repeat ((first | with_reducible refine branch_true rfl ?_ | with_reducible refine branch_false rfl ?_); conv => whnf)
  refine call_is (refCheck l hs) ?_
  conv => whnf
  repeat ((first | with_reducible refine branch_true rfl ?_ | with_reducible refine branch_false rfl ?_); conv => whnf)
  refine branch_of (fun h1 => ?_) (fun h1 => ?_)
  · have h1 : checkL l ≠ 0 := by simpa using h1
    conv => whnf
    repeat ((first | with_reducible refine branch_true rfl ?_ | with_reducible refine branch_false rfl ?_); conv => whnf)
    have hS : lateS l = ([], 0, checkL l) := by simp [lateS, h1]
    rw [hS]
    exact ⟨0, _, rfl, paysAt_nil⟩
  · have h1 : checkL l = 0 := by simpa using h1
    have hn := (check_good h1).1
    have hS : lateS l = (l.map lateP, lateN l, 0) := by simp [lateS, h1]
    conv => whnf
    repeat ((first | with_reducible refine branch_true rfl ?_ | with_reducible refine branch_false rfl ?_); conv => whnf)
    refine st_append_uni (sz := 5) (len := 0) (u := 51) (m := l.length) (gg := fun i => encP (atP l i)) rfl rfl rfl rfl rfl (room56 (by omega)) ?_
    conv => whnf
    repeat ((first | with_reducible refine branch_true rfl ?_ | with_reducible refine branch_false rfl ?_); conv => whnf)
    have hG : ∀ z (g0 : Nat → AV), PaysAt l (0 + l.length) (vapp z g0 0 (fun i => encP (atP l i)) l.length) := fun z g0 => paysAt_app (z := z) (paysAt_nil (g := g0)) (paysAt_self l)
    obtain ⟨x0, hx1, hx2, hx3⟩ := lt_start (hG (zeroElem Try.prog 51) (vlist (zeroElem Try.prog 51) []))
    refine loop_start ?_ (loop_by (cx := cxU) rfl progOK (ι := LtHd l) (fun x => l.length - x.i) (fun x => ⟨[(6, .row 0 5 0 (0 + l.length)), (7, .int .i64 x.n), (8, .int .i64 x.i)], [.arr 5 (0 + l.length) x.e], [], none⟩) ?_ x0)
    · simp only [hx1, hx2, hx3]; rfl
    intro x ih
    have hxi := x.hi
    conv => whnf
    repeat ((first | with_reducible refine branch_true rfl ?_ | with_reducible refine branch_false rfl ?_); conv => whnf)
    refine branch_of (fun g1 => ?_) (fun g1 => ?_)
    · have g2 : x.i < l.length := by
        have g1 : (x.i : Int) < ((0 + l.length : Nat) : Int) := of_decide_eq_true g1
        omega
      have hw : IntKind.i64.wrap ((x.i : Int) + 1) = ((x.i + 1 : Nat) : Int) := by rw [wrap64 (by omega)]; omega
      have hat : x.e (0 + x.i) = encP (atP l x.i) := by rw [Nat.zero_add, x.h2 x.i (Nat.le_refl _) g2]
      have hnb : x.n ≤ l.length := by
        have := x.hn
        have h3 := List.length_filter_le isLate (l.take x.i)
        have h4 := List.length_take_le x.i l
        omega
      have hwn : IntKind.i64.wrap ((x.n : Int) + 1) = ((x.n + 1 : Nat) : Int) := by rw [wrap64 (by omega)]; omega
      have no : isLate (atP l x.i) = false → ∀ K : St → Prop, (∀ j : LtHd l, l.length - j.i < l.length - x.i → K (St.mk [(6, .row 0 5 0 (0 + l.length)), (7, .int .i64 j.n), (8, .int .i64 j.i)] [.arr 5 (0 + l.length) j.e] [] none)) → K (St.mk [(6, .row 0 5 0 (0 + l.length)), (7, .int .i64 x.n), (8, .int .i64 (IntKind.i64.wrap ((x.i : Int) + 1)))] [.arr 5 (0 + l.length) x.e] [] none) := by
        intro h K hK
        obtain ⟨y, y1, y2, y3⟩ := lt_no x g2 h
        rw [hw, ← y1, ← y2, ← y3]
        exact hK y (by omega)
      conv => whnf
      repeat ((first | with_reducible refine branch_true rfl ?_ | with_reducible refine branch_false rfl ?_); conv => whnf)
      refine st_addr_row (u := 51) (id := 0) (sz := 5) (lo := 0) (len := 0 + l.length) (n := (x.i : Int)) rfl rfl rfl rfl rfl (in_range (by omega)) ?_
      conv => whnf
      repeat ((first | with_reducible refine branch_true rfl ?_ | with_reducible refine branch_false rfl ?_); conv => whnf)
      refine st_load_ef (id := 0) (sz := 5) (j := 0 + x.i) (off := 4) (len := 0 + l.length) (g := x.e) (v := .int .i64 (atP l x.i).s) rfl rfl rfl (by omega) hat rfl rfl rfl ?_
      conv => whnf
      repeat ((first | with_reducible refine branch_true rfl ?_ | with_reducible refine branch_false rfl ?_); conv => whnf)
      refine branch_of (fun g3 => ?_) (fun g3 => ?_)
      · have g3 : (atP l x.i).s = 1 := of_decide_eq_true g3
        conv => whnf
        repeat ((first | with_reducible refine branch_true rfl ?_ | with_reducible refine branch_false rfl ?_); conv => whnf)
        refine st_addr_row (u := 51) (id := 0) (sz := 5) (lo := 0) (len := 0 + l.length) (n := (x.i : Int)) rfl rfl rfl rfl rfl (in_range (by omega)) ?_
        conv => whnf
        repeat ((first | with_reducible refine branch_true rfl ?_ | with_reducible refine branch_false rfl ?_); conv => whnf)
        refine st_load_ef (id := 0) (sz := 5) (j := 0 + x.i) (off := 3) (len := 0 + l.length) (g := x.e) (v := .int .i64 (atP l x.i).n) rfl rfl rfl (by omega) hat rfl rfl rfl ?_
        conv => whnf
        repeat ((first | with_reducible refine branch_true rfl ?_ | with_reducible refine branch_false rfl ?_); conv => whnf)
        refine branch_of (fun g4 => ?_) (fun g4 => ?_)
        · have g4 : (atP l x.i).n < 0 := of_decide_eq_true g4
          obtain ⟨y, y1, y2, y3⟩ := lt_yes x g2 (by simp [isLate, g3, g4])
          conv => whnf
          repeat ((first | with_reducible refine branch_true rfl ?_ | with_reducible refine branch_false rfl ?_); conv => whnf)
          refine st_addr_row (u := 51) (id := 0) (sz := 5) (lo := 0) (len := 0 + l.length) (n := (x.i : Int)) rfl rfl rfl rfl rfl (in_range (by omega)) ?_
          conv => whnf
          repeat ((first | with_reducible refine branch_true rfl ?_ | with_reducible refine branch_false rfl ?_); conv => whnf)
          refine st_store_off (id := 0) (sz := 5) (j := 0 + x.i) (off := 4) (len := 0 + l.length) (g := x.e) rfl rfl (by omega) rfl rfl ?_
          conv => whnf
          repeat ((first | with_reducible refine branch_true rfl ?_ | with_reducible refine branch_false rfl ?_); conv => whnf)
          refine loop_to ih y (by omega) ?_
          rw [y1, y2, y3, ← hw, ← hwn]
          rfl
        · have g4 : ¬ (atP l x.i).n < 0 := of_decide_eq_false g4
          conv => whnf
          repeat ((first | with_reducible refine branch_true rfl ?_ | with_reducible refine branch_false rfl ?_); conv => whnf)
          exact no (by simp [isLate, g4]) (fun s => SLoop _ _ _ _ _ _ s _) ih
      · have g3 : ¬ (atP l x.i).s = 1 := of_decide_eq_false g3
        conv => whnf
        repeat ((first | with_reducible refine branch_true rfl ?_ | with_reducible refine branch_false rfl ?_); conv => whnf)
        exact no (by simp [isLate, g3]) (fun s => SLoop _ _ _ _ _ _ s _) ih
    · have g2 : x.i = l.length := by
        have g1 : ¬ (x.i : Int) < ((0 + l.length : Nat) : Int) := of_decide_eq_false g1
        omega
      obtain ⟨e1, e2⟩ := lt_end x g2
      conv => whnf
      repeat ((first | with_reducible refine branch_true rfl ?_ | with_reducible refine branch_false rfl ?_); conv => whnf)
      refine st_ghosts (ghost_freeze (id := 0) (sz := 5) (lo := 0) (m := 0 + l.length) (n' := 0 + l.length) rfl rfl (by omega)) ?_
      conv => whnf
      repeat ((first | with_reducible refine branch_true rfl ?_ | with_reducible refine branch_false rfl ?_); conv => whnf)
      rw [hS]
      refine ⟨_, _, by rw [← e2], ?_⟩
      exact ⟨by show 0 + l.length = (l.map lateP).length; simp, fun q hq => by show x.e (0 + q) = _; rw [Nat.zero_add]; exact e1.2 q hq⟩
end Go.Proofs


set_option linter.unusedVariables false
set_option linter.unusedSimpArgs false
namespace Go.Proofs.Fw
open Ax Go Go.Proofs
set_option maxRecDepth 10000
def keepT (f r : Nat) : Option (List Nat) := match f, r with
  | 30, 4 => some [0, 18, 19]
  | 34, 3 => some [0, 4, 5, 9, 10]
  | 39, 4 => some [8, 9, 10]
  | 44, 4 => some [0, 3]
  | 28, 4 => some [0, 3]
  | 48, 3 => some [0, 1, 2, 3, 9, 10]
  | 47, 4 => some [0, 4, 5, 6]
  | 944, 8 => some [1, 2, 8, 19, 20, 21]
  | 922, 2 => some [0, 6]
  | 923, 2 => some [0, 3]
  | _, _ => none
def keepXT (f r : Nat) : Option (List Nat) := match f, r with
  | 30, 4 => some [0, 2]
  | 34, 3 => some [2, 3, 4, 5]
  | 39, 4 => some [2]
  | 44, 4 => some [2]
  | 28, 4 => some [2]
  | 48, 3 => some [9]
  | 47, 4 => some [2, 3, 4, 5]
  | 944, 8 => some [6, 7, 8]
  | 922, 2 => some [2]
  | 923, 2 => some [2]
  | _, _ => none
noncomputable def cxP : Ctx where
  P := Try.prog
  inl := fun _ => false
  keep := keepT
  keepX := keepXT
  xf := fun _ _ _ => false
  ow := fun _ => true
  gh := fun _ _ => []
  gf := fun _ => []
  ln := fun f => Nat.beq f 944
  srt := srtT
theorem okP {f a Q} (h : stepCall (SX Try.prog calmT) cxP calmT f a Q) : CallOK Try.prog f a Q := okOf (cx := cxP) rfl progOK h

def curOK (c : Int) : Bool := decide (0 ≤ c) && decide (c < 8)
theorem currency (c : Int) : CallOK Try.prog 55 [.int .i64 c] (fun r => r = .bool (curOK c)) := by
  refine okP ?_
  conv => whnf
  repeat ((first | with_reducible refine branch_true rfl ?_ | with_reducible refine branch_false rfl ?_); conv => whnf)
  refine branch_of (fun h => ?_) (fun h => ?_)
  · conv => whnf
    repeat ((first | with_reducible refine branch_true rfl ?_ | with_reducible refine branch_false rfl ?_); conv => whnf)
    simp [curOK, h]
  · conv => whnf
    repeat ((first | with_reducible refine branch_true rfl ?_ | with_reducible refine branch_false rfl ?_); conv => whnf)
    simp [curOK, h]
structure Fl where
  m : ByteArray
  c : Int
  n : Int
  w : Int
def encF (f : Fl) : AV := .agg [.str f.m, .int .i64 f.c, .int .i64 f.n, .int .i64 f.w]
def encL (fl : Nat → Fl) (n : Nat) : AV := .vec 4 n fun i => encF (fl i)
def chk (f : Fl) : Int := bif nameOK f.m then (bif curOK f.c then (bif fitsI f.n then 0 else 2) else 25) else 10
def firstE (fl : Nat → Fl) : Nat → Int
  | 0 => 0
  | n + 1 => if firstE fl n = 0 then chk (fl n) else firstE fl n
def checkE (fl : Nat → Fl) (n : Nat) : Int := if 1024 < n then 8 else firstE fl n
theorem firstE_zero {fl : Nat → Fl} {n : Nat} (h : ∀ j, j < n → chk (fl j) = 0) : firstE fl n = 0 := by
  induction n with
  | zero => rfl
  | succ n ih =>
    rw [firstE, if_pos (ih fun j hj => h j (by omega))]
    exact h n (by omega)
theorem firstE_at {fl : Nat → Fl} {i n : Nat} (hi : i < n) (h : ∀ j, j < i → chk (fl j) = 0) (hn : chk (fl i) ≠ 0) : firstE fl n = chk (fl i) := by
  induction n with
  | zero => omega
  | succ n ih =>
    rw [firstE]
    by_cases e : i = n
    · subst e; rw [if_pos (firstE_zero h)]
    · rw [ih (by omega), if_neg hn]
theorem all_next {p : Nat → Prop} {i : Nat} (hj : ∀ j, j < i → p j) (h : p i) : ∀ j, j < i + 1 → p j := fun j hj' => by
  rcases Nat.lt_or_ge j i with h' | h'
  · exact hj j h'
  · rw [show j = i by omega]; exact h
theorem check (fl : Nat → Fl) (n : Nat) : CallOK Try.prog 39 [encL fl n] (fun r => r = .int .i64 (checkE fl n)) := by
  refine okP ?_
  conv => whnf
  repeat ((first | with_reducible refine branch_true rfl ?_ | with_reducible refine branch_false rfl ?_); conv => whnf)
  refine branch_of (fun h1 => ?_) (fun h1 => ?_)
  · conv => whnf
    repeat ((first | with_reducible refine branch_true rfl ?_ | with_reducible refine branch_false rfl ?_); conv => whnf)
    have h1 : 1024 < n := by simp at h1; omega
    rw [checkE, if_pos h1]
  · conv => whnf
    repeat ((first | with_reducible refine branch_true rfl ?_ | with_reducible refine branch_false rfl ?_); conv => whnf)
    have h1 : n ≤ 1024 := by simp at h1; omega
    refine loop_by (cx := cxP) rfl progOK (ι := {i : Nat // i ≤ n ∧ ∀ j, j < i → chk (fl j) = 0}) (fun i => n - i.1) (fun i => ⟨[(8, encL fl n), (9, .int .i64 n), (10, .int .i64 i.1)], [], [], none⟩) ?_ ⟨0, Nat.zero_le _, fun j hj => absurd hj (by omega)⟩
    rintro ⟨i, hi, hj⟩ ih
    have bad : i < n → chk (fl i) ≠ 0 → firstE fl n = chk (fl i) := fun h => firstE_at h hj
    conv => whnf
    repeat ((first | with_reducible refine branch_true rfl ?_ | with_reducible refine branch_false rfl ?_); conv => whnf)
    refine branch_of (fun g1 => ?_) (fun g1 => ?_)
    · conv => whnf
      repeat ((first | with_reducible refine branch_true rfl ?_ | with_reducible refine branch_false rfl ?_); conv => whnf)
      have g2 : i < n := by simpa using g1
      have hw : IntKind.i64.wrap ((i : Int) + 1) = ((i + 1 : Nat) : Int) := by rw [wrap64 (by omega)]; omega
      refine st_addr (sz := 4) (len := n) (n := i) (u := 38) (g := fun i => encF (fl i)) rfl rfl rfl rfl rfl (in_range g2) ?_
      conv => whnf
      repeat ((first | with_reducible refine branch_true rfl ?_ | with_reducible refine branch_false rfl ?_); conv => whnf)
      refine call_is (name _) ?_
      conv => whnf
      repeat ((first | with_reducible refine branch_true rfl ?_ | with_reducible refine branch_false rfl ?_); conv => whnf)
      refine branch_of (fun g3 => ?_) (fun g3 => ?_)
      · conv => whnf
        repeat ((first | with_reducible refine branch_true rfl ?_ | with_reducible refine branch_false rfl ?_); conv => whnf)
        have e : chk (fl i) = 10 := by unfold chk; simp at g3; simp [g3]
        rw [checkE, if_neg (by omega), bad g2 (by omega), e]
      · conv => whnf
        repeat ((first | with_reducible refine branch_true rfl ?_ | with_reducible refine branch_false rfl ?_); conv => whnf)
        refine call_is (currency _) ?_
        conv => whnf
        repeat ((first | with_reducible refine branch_true rfl ?_ | with_reducible refine branch_false rfl ?_); conv => whnf)
        refine branch_of (fun g4 => ?_) (fun g4 => ?_)
        · conv => whnf
          repeat ((first | with_reducible refine branch_true rfl ?_ | with_reducible refine branch_false rfl ?_); conv => whnf)
          have e : chk (fl i) = 25 := by unfold chk; simp at g3 g4; simp [g3, g4]
          rw [checkE, if_neg (by omega), bad g2 (by omega), e]
        · conv => whnf
          repeat ((first | with_reducible refine branch_true rfl ?_ | with_reducible refine branch_false rfl ?_); conv => whnf)
          refine call_is (v := .bool (fitsI (fl i).n)) (fits _) ?_
          conv => whnf
          repeat ((first | with_reducible refine branch_true rfl ?_ | with_reducible refine branch_false rfl ?_); conv => whnf)
          refine branch_of (fun g5 => ?_) (fun g5 => ?_)
          · conv => whnf
            repeat ((first | with_reducible refine branch_true rfl ?_ | with_reducible refine branch_false rfl ?_); conv => whnf)
            have e : chk (fl i) = 2 := by unfold chk; simp at g3 g4 g5; simp [g3, g4, g5]
            rw [checkE, if_neg (by omega), bad g2 (by omega), e]
          · conv => whnf
            repeat ((first | with_reducible refine branch_true rfl ?_ | with_reducible refine branch_false rfl ?_); conv => whnf)
            have e : chk (fl i) = 0 := by unfold chk; simp at g3 g4 g5; simp [g3, g4, g5]
            refine loop_to ih ⟨i + 1, g2, all_next hj e⟩ (show n - (i + 1) < n - i by omega) ?_
            simp only [hw] <;> rfl
    · conv => whnf
      repeat ((first | with_reducible refine branch_true rfl ?_ | with_reducible refine branch_false rfl ?_); conv => whnf)
      have g2 : i = n := by simp at g1; omega
      subst g2
      rw [checkE, if_neg (by omega), firstE_zero hj]
end Go.Proofs.Fw


set_option linter.unusedVariables false
set_option linter.unusedSimpArgs false
namespace Go.Proofs.Fw
open Ax Go Go.Proofs
set_option maxRecDepth 10000
def selP (all : Bool) (m : ByteArray) (c : Int) (f : Fl) : Bool := decide (f.c = c) && (all || decide (f.m = m))
def sel (p : Fl → Bool) (fl : Nat → Fl) : Nat → List Int
  | 0 => []
  | n + 1 => if p (fl n) then sel p fl n ++ [(fl n).n] else sel p fl n
theorem sel_at {p : Fl → Bool} {fl : Nat → Fl} {i : Nat} (h : p (fl i) = true) : sel p fl (i + 1) = sel p fl i ++ [(fl i).n] := by rw [sel, if_pos h]
theorem sel_not {p : Fl → Bool} {fl : Nat → Fl} {i : Nat} (h : p (fl i) = false) : sel p fl (i + 1) = sel p fl i := by rw [sel, if_neg (by rw [h]; simp)]
theorem sel_len (p : Fl → Bool) (fl : Nat → Fl) (i : Nat) : (sel p fl i).length ≤ i := by
  induction i with
  | zero => simp [sel]
  | succ i ih => rw [sel]; split <;> (try simp) <;> omega
theorem having (fl : Nat → Fl) (n : Nat) (hn : n ≤ 1024) (all : Bool) (m : ByteArray) (c : Int) : CallOK Try.prog 48 [encL fl n, .bool all, .str m, .int .i64 c] (fun r => ∃ g, r = .vec 1 (sel (selP all m c) fl n).length g ∧ ∀ i, i < (sel (selP all m c) fl n).length → g i = .int .i64 ((sel (selP all m c) fl n).getD i 0)) := by
  refine okP ?_
  conv => whnf
  repeat ((first | with_reducible refine branch_true rfl ?_ | with_reducible refine branch_false rfl ?_); conv => whnf)
  refine loop_by (cx := cxP) rfl progOK (ι := {x : Nat × Nat × (Nat → AV) // x.1 ≤ n ∧ x.2.1 = (sel (selP all m c) fl x.1).length ∧ ∀ i, i < (sel (selP all m c) fl x.1).length → x.2.2 i = .int .i64 ((sel (selP all m c) fl x.1).getD i 0)}) (fun i => n - i.1.1) (fun x => ⟨[(0, encL fl n), (1, .bool all), (2, .str m), (3, .int .i64 c), (9, .own (.vec 1 x.1.2.1 x.1.2.2)), (10, .int .i64 x.1.1)], [], [], none⟩) ?_ ⟨⟨0, 0, _⟩, Nat.zero_le _, rfl, fun j hj => absurd hj (by simp [sel])⟩
  rintro ⟨⟨i, len, g⟩, hi, hl, hj⟩ ih
  have hi : i ≤ n := hi
  have hl : len = (sel (selP all m c) fl i).length := hl
  have hj : ∀ j, j < (sel (selP all m c) fl i).length → g j = .int .i64 ((sel (selP all m c) fl i).getD j 0) := hj
  have hlen := sel_len (selP all m c) fl i
  conv => whnf
  repeat ((first | with_reducible refine branch_true rfl ?_ | with_reducible refine branch_false rfl ?_); conv => whnf)
  refine branch_of (fun g1 => ?_) (fun g1 => ?_)
  · have g2 : i < n := by simpa using g1
    have hw : IntKind.i64.wrap ((i : Int) + 1) = ((i + 1 : Nat) : Int) := by rw [wrap64 (by omega)]; omega
    have skip : selP all m c (fl i) = false → ∀ K : St → Prop, (∀ j : {x : Nat × Nat × (Nat → AV) // x.1 ≤ n ∧ x.2.1 = (sel (selP all m c) fl x.1).length ∧ ∀ i, i < (sel (selP all m c) fl x.1).length → x.2.2 i = .int .i64 ((sel (selP all m c) fl x.1).getD i 0)}, n - j.1.1 < n - i → K (St.mk [(0, encL fl n), (1, .bool all), (2, .str m), (3, .int .i64 c), (9, .own (.vec 1 j.1.2.1 j.1.2.2)), (10, .int .i64 j.1.1)] [] [] none)) → K (St.mk [(0, encL fl n), (1, .bool all), (2, .str m), (3, .int .i64 c), (9, .own (.vec 1 len g)), (10, .int .i64 (IntKind.i64.wrap ((i : Int) + 1)))] [] [] none) := by
      intro h K hK
      rw [hw]
      exact hK ⟨(i + 1, len, g), g2, by rw [sel_not h]; exact hl, by rw [sel_not h]; exact hj⟩ (show n - (i + 1) < n - i by omega)
    have take : selP all m c (fl i) = true → ∀ K : St → Prop, (∀ j : {x : Nat × Nat × (Nat → AV) // x.1 ≤ n ∧ x.2.1 = (sel (selP all m c) fl x.1).length ∧ ∀ i, i < (sel (selP all m c) fl x.1).length → x.2.2 i = .int .i64 ((sel (selP all m c) fl x.1).getD i 0)}, n - j.1.1 < n - i → K (St.mk [(0, encL fl n), (1, .bool all), (2, .str m), (3, .int .i64 c), (9, .own (.vec 1 j.1.2.1 j.1.2.2)), (10, .int .i64 j.1.1)] [] [] none)) → K (St.mk [(0, encL fl n), (1, .bool all), (2, .str m), (3, .int .i64 c), (9, .own (.vec 1 (len + 1) (vapp (zeroElem Try.prog 3) g len (vlist (zeroElem Try.prog 3) [.int .i64 (fl i).n]) 1))), (10, .int .i64 (IntKind.i64.wrap ((i : Int) + 1)))] [] [] none) := by
      intro h K hK
      rw [hw]
      exact hK ⟨(i + 1, len + 1, vapp (zeroElem Try.prog 3) g len (vlist (zeroElem Try.prog 3) [.int .i64 (fl i).n]) 1), g2, by rw [sel_at h, List.length_append]; show len + 1 = _; rw [hl]; rfl, by rw [sel_at h]; exact vapp_at (a := .undef) hj hl rfl⟩ (show n - (i + 1) < n - i by omega)
    conv => whnf
    repeat ((first | with_reducible refine branch_true rfl ?_ | with_reducible refine branch_false rfl ?_); conv => whnf)
    refine st_addr (sz := 4) (len := n) (n := i) (u := 38) (g := fun i => encF (fl i)) rfl rfl rfl rfl rfl (in_range g2) ?_
    conv => whnf
    repeat ((first | with_reducible refine branch_true rfl ?_ | with_reducible refine branch_false rfl ?_); conv => whnf)
    refine branch_of (fun g3 => ?_) (fun g3 => ?_)
    · conv => whnf
      repeat ((first | with_reducible refine branch_true rfl ?_ | with_reducible refine branch_false rfl ?_); conv => whnf)
      refine branch_of (fun g4 => ?_) (fun g4 => ?_)
      · conv => whnf
        repeat ((first | with_reducible refine branch_true rfl ?_ | with_reducible refine branch_false rfl ?_); conv => whnf)
        refine st_addr (sz := 4) (len := n) (n := i) (u := 38) (g := fun i => encF (fl i)) rfl rfl rfl rfl rfl (in_range g2) ?_
        conv => whnf
        repeat ((first | with_reducible refine branch_true rfl ?_ | with_reducible refine branch_false rfl ?_); conv => whnf)
        refine st_append (sz := 1) (len := len) (g := g) (u := 3) (m := 1) (gg := vlist (zeroElem Try.prog 3) [.int .i64 (fl i).n]) rfl rfl rfl rfl rfl (room8 (by omega)) ?_
        conv => whnf
        repeat ((first | with_reducible refine branch_true rfl ?_ | with_reducible refine branch_false rfl ?_); conv => whnf)
        exact take (by simp [selP]; exact ⟨of_decide_eq_true g3, .inl g4⟩) (fun s => SLoop _ _ _ _ _ _ s _) ih
      · conv => whnf
        repeat ((first | with_reducible refine branch_true rfl ?_ | with_reducible refine branch_false rfl ?_); conv => whnf)
        refine st_addr (sz := 4) (len := n) (n := i) (u := 38) (g := fun i => encF (fl i)) rfl rfl rfl rfl rfl (in_range g2) ?_
        conv => whnf
        repeat ((first | with_reducible refine branch_true rfl ?_ | with_reducible refine branch_false rfl ?_); conv => whnf)
        refine branch_of (fun g5 => ?_) (fun g5 => ?_)
        · conv => whnf
          repeat ((first | with_reducible refine branch_true rfl ?_ | with_reducible refine branch_false rfl ?_); conv => whnf)
          refine st_addr (sz := 4) (len := n) (n := i) (u := 38) (g := fun i => encF (fl i)) rfl rfl rfl rfl rfl (in_range g2) ?_
          conv => whnf
          repeat ((first | with_reducible refine branch_true rfl ?_ | with_reducible refine branch_false rfl ?_); conv => whnf)
          refine st_append (sz := 1) (len := len) (g := g) (u := 3) (m := 1) (gg := vlist (zeroElem Try.prog 3) [.int .i64 (fl i).n]) rfl rfl rfl rfl rfl (room8 (by omega)) ?_
          conv => whnf
          repeat ((first | with_reducible refine branch_true rfl ?_ | with_reducible refine branch_false rfl ?_); conv => whnf)
          exact take (by simp [selP]; exact ⟨of_decide_eq_true g3, .inr (of_decide_eq_true g5)⟩) (fun s => SLoop _ _ _ _ _ _ s _) ih
        · conv => whnf
          repeat ((first | with_reducible refine branch_true rfl ?_ | with_reducible refine branch_false rfl ?_); conv => whnf)
          exact skip (by simp [selP]; exact fun _ => ⟨g4, of_decide_eq_false g5⟩) (fun s => SLoop _ _ _ _ _ _ s _) ih
    · conv => whnf
      repeat ((first | with_reducible refine branch_true rfl ?_ | with_reducible refine branch_false rfl ?_); conv => whnf)
      exact skip (by simp [selP]; exact fun h => absurd h (of_decide_eq_false g3)) (fun s => SLoop _ _ _ _ _ _ s _) ih
  · conv => whnf
    repeat ((first | with_reducible refine branch_true rfl ?_ | with_reducible refine branch_false rfl ?_); conv => whnf)
    have g2 : i = n := by simp at g1; omega
    subst g2
    exact ⟨g, congrArg (fun q => AV.vec 1 q g) hl, hj⟩
end Go.Proofs.Fw


set_option linter.unusedVariables false
set_option linter.unusedSimpArgs false
namespace Go.Proofs.Fw
open Ax Go Go.Proofs
set_option maxRecDepth 10000
theorem refFits (n : Int) : CallOK Try.prog 45 [.int .i64 n] (fun r => r = .bool (fitsI n)) := by
  refine okP ?_
  conv => whnf
  repeat ((first | with_reducible refine branch_true rfl ?_ | with_reducible refine branch_false rfl ?_); conv => whnf)
  refine branch_of (fun h => ?_) (fun h => ?_)
  · conv => whnf
    repeat ((first | with_reducible refine branch_true rfl ?_ | with_reducible refine branch_false rfl ?_); conv => whnf)
    simp [fitsI, h]
  · conv => whnf
    repeat ((first | with_reducible refine branch_true rfl ?_ | with_reducible refine branch_false rfl ?_); conv => whnf)
    simp [fitsI, h]
theorem isLow_of {c : Int} (h1 : 97 ≤ c) (h2 : c ≤ 122) : isLow c = true := by simp [isLow]; omega
theorem not_low {c : Int} (h : c < 97 ∨ 122 < c) : isLow c = false := by simp [isLow]; omega
theorem isDig_of {c : Int} (h1 : 48 ≤ c) (h2 : c ≤ 57) : isDig c = true := by simp [isDig]; omega
theorem not_dig {c : Int} (h : c < 48 ∨ 57 < c) : isDig c = false := by simp [isDig]; omega
theorem refName (s : ByteArray) : CallOK Try.prog 44 [.str s] (fun r => r = .bool (nameOK s)) := by
  have hbad : nameOK s = false → AV.bool false = AV.bool (nameOK s) := fun h => by rw [h]
  refine okP ?_
  conv => whnf
  repeat ((first | with_reducible refine branch_true rfl ?_ | with_reducible refine branch_false rfl ?_); conv => whnf)
  refine branch_of (fun h1 => ?_) (fun h1 => ?_)
  · conv => whnf
    repeat ((first | with_reducible refine branch_true rfl ?_ | with_reducible refine branch_false rfl ?_); conv => whnf)
    refine hbad ?_
    have h1 : s = ByteArray.empty := of_decide_eq_true h1
    subst h1; rfl
  · have h1 : s ≠ ByteArray.empty := of_decide_eq_false h1
    conv => whnf
    repeat ((first | with_reducible refine branch_true rfl ?_ | with_reducible refine branch_false rfl ?_); conv => whnf)
    refine branch_of (fun h2 => ?_) (fun h2 => ?_)
    · conv => whnf
      repeat ((first | with_reducible refine branch_true rfl ?_ | with_reducible refine branch_false rfl ?_); conv => whnf)
      refine hbad ?_
      have h2 : 12 < s.size := by simp at h2; omega
      simp [nameOK, show ¬ s.size ≤ 12 by omega]
    · have h2 : s.size ≤ 12 := by simp at h2; omega
      conv => whnf
      repeat ((first | with_reducible refine branch_true rfl ?_ | with_reducible refine branch_false rfl ?_); conv => whnf)
      have h0 : 0 < s.size := by
        rcases Nat.eq_zero_or_pos s.size with h | h
        · refine absurd ?_ h1
          cases s with | mk d => simp [ByteArray.size] at h; subst h; rfl
        · exact h
      refine st_index (s := s) (n := 0) rfl rfl rfl rfl (by simp [inRange, h0]) ?_
      conv => whnf
      repeat ((first | with_reducible refine branch_true rfl ?_ | with_reducible refine branch_false rfl ?_); conv => whnf)
      refine branch_of (fun h3 => ?_) (fun h3 => ?_)
      · have h3 : byteAt s 0 < 97 := of_decide_eq_true h3
        conv => whnf
        repeat ((first | with_reducible refine branch_true rfl ?_ | with_reducible refine branch_false rfl ?_); conv => whnf)
        refine hbad ?_
        simp [nameOK, not_low (.inl h3)]
      · have h3 : ¬ byteAt s 0 < 97 := of_decide_eq_false h3
        conv => whnf
        repeat ((first | with_reducible refine branch_true rfl ?_ | with_reducible refine branch_false rfl ?_); conv => whnf)
        refine st_index (s := s) (n := 0) rfl rfl rfl rfl (by simp [inRange, h0]) ?_
        conv => whnf
        repeat ((first | with_reducible refine branch_true rfl ?_ | with_reducible refine branch_false rfl ?_); conv => whnf)
        refine branch_of (fun h4 => ?_) (fun h4 => ?_)
        · have h4 : 122 < byteAt s 0 := of_decide_eq_true h4
          conv => whnf
          repeat ((first | with_reducible refine branch_true rfl ?_ | with_reducible refine branch_false rfl ?_); conv => whnf)
          refine hbad ?_
          simp [nameOK, not_low (.inr h4)]
        · have h4 : ¬ 122 < byteAt s 0 := of_decide_eq_false h4
          have h5 := isLow_of (c := byteAt s 0) (by omega) (by omega)
          conv => whnf
          repeat ((first | with_reducible refine branch_true rfl ?_ | with_reducible refine branch_false rfl ?_); conv => whnf)
          refine loop_by (cx := cxP) rfl progOK (ι := {i : Nat // i ≤ s.size ∧ ∀ j, j < i → (isLow (byteAt s j) || isDig (byteAt s j)) = true}) (fun i => s.size - i.1) (fun i => ⟨[(0, .str s), (3, .int .i64 i.1)], [], [], none⟩) ?_ ⟨0, Nat.zero_le _, fun j hj => absurd hj (by omega)⟩
          rintro ⟨i, hi, hj⟩ ih
          conv => whnf
          repeat ((first | with_reducible refine branch_true rfl ?_ | with_reducible refine branch_false rfl ?_); conv => whnf)
          refine branch_of (fun g1 => ?_) (fun g1 => ?_)
          · have g2 : i < s.size := by simpa using g1
            have next : (isLow (byteAt s i) || isDig (byteAt s i)) = true → ∀ K : St → Prop, (∀ j : {i : Nat // i ≤ s.size ∧ ∀ j, j < i → (isLow (byteAt s j) || isDig (byteAt s j)) = true}, s.size - j.1 < s.size - i → K (St.mk [(0, .str s), (3, .int .i64 j.1)] [] [] none)) → K (St.mk [(0, .str s), (3, .int .i64 (IntKind.i64.wrap ((i : Int) + 1)))] [] [] none) := by
              intro h K hK
              rw [wrap64 (by omega)]
              exact hK ⟨i + 1, g2, all_next hj h⟩ (show s.size - (i + 1) < s.size - i by omega)
            have stop : isLow (byteAt s i) = false → isDig (byteAt s i) = false → AV.bool false = AV.bool (nameOK s) := fun q1 q2 => by
              refine hbad ?_
              have : ((List.range s.size).all fun i => isLow (byteAt s i) || isDig (byteAt s i)) = false := by
                rw [List.all_eq_false]; exact ⟨i, List.mem_range.2 g2, by simp [q1, q2]⟩
              simp [nameOK, this]
            conv => whnf
            repeat ((first | with_reducible refine branch_true rfl ?_ | with_reducible refine branch_false rfl ?_); conv => whnf)
            refine st_index (s := s) (n := i) rfl rfl rfl rfl (in_range g2) ?_
            conv => whnf
            repeat ((first | with_reducible refine branch_true rfl ?_ | with_reducible refine branch_false rfl ?_); conv => whnf)
            refine branch_of (fun g3 => ?_) (fun g3 => ?_)
            · have g3 : byteAt s i < 97 := of_decide_eq_true g3
              have low := not_low (.inl g3)
              conv => whnf
              repeat ((first | with_reducible refine branch_true rfl ?_ | with_reducible refine branch_false rfl ?_); conv => whnf)
              refine branch_of (fun g4 => ?_) (fun g4 => ?_)
              · have g4 : byteAt s i < 48 := of_decide_eq_true g4
                conv => whnf
                repeat ((first | with_reducible refine branch_true rfl ?_ | with_reducible refine branch_false rfl ?_); conv => whnf)
                exact stop low (not_dig (.inl g4))
              · have g4 : ¬ byteAt s i < 48 := of_decide_eq_false g4
                conv => whnf
                repeat ((first | with_reducible refine branch_true rfl ?_ | with_reducible refine branch_false rfl ?_); conv => whnf)
                refine branch_of (fun g5 => ?_) (fun g5 => ?_)
                · have g5 : 57 < byteAt s i := of_decide_eq_true g5
                  conv => whnf
                  repeat ((first | with_reducible refine branch_true rfl ?_ | with_reducible refine branch_false rfl ?_); conv => whnf)
                  exact stop low (not_dig (.inr g5))
                · have g5 : ¬ 57 < byteAt s i := of_decide_eq_false g5
                  conv => whnf
                  repeat ((first | with_reducible refine branch_true rfl ?_ | with_reducible refine branch_false rfl ?_); conv => whnf)
                  exact next (by rw [isDig_of (by omega) (by omega), Bool.or_true]) (fun s => SLoop _ _ _ _ _ _ s _) ih
            · have g3 : ¬ byteAt s i < 97 := of_decide_eq_false g3
              conv => whnf
              repeat ((first | with_reducible refine branch_true rfl ?_ | with_reducible refine branch_false rfl ?_); conv => whnf)
              refine branch_of (fun g6 => ?_) (fun g6 => ?_)
              · have g6 : 122 < byteAt s i := of_decide_eq_true g6
                have low := not_low (.inr g6)
                conv => whnf
                repeat ((first | with_reducible refine branch_true rfl ?_ | with_reducible refine branch_false rfl ?_); conv => whnf)
                refine branch_of (fun g4 => ?_) (fun g4 => ?_)
                · have g4 : byteAt s i < 48 := of_decide_eq_true g4
                  conv => whnf
                  repeat ((first | with_reducible refine branch_true rfl ?_ | with_reducible refine branch_false rfl ?_); conv => whnf)
                  exact stop low (not_dig (.inl g4))
                · have g4 : ¬ byteAt s i < 48 := of_decide_eq_false g4
                  conv => whnf
                  repeat ((first | with_reducible refine branch_true rfl ?_ | with_reducible refine branch_false rfl ?_); conv => whnf)
                  refine branch_of (fun g5 => ?_) (fun g5 => ?_)
                  · have g5 : 57 < byteAt s i := of_decide_eq_true g5
                    conv => whnf
                    repeat ((first | with_reducible refine branch_true rfl ?_ | with_reducible refine branch_false rfl ?_); conv => whnf)
                    exact stop low (not_dig (.inr g5))
                  · have g5 : ¬ 57 < byteAt s i := of_decide_eq_false g5
                    conv => whnf
                    repeat ((first | with_reducible refine branch_true rfl ?_ | with_reducible refine branch_false rfl ?_); conv => whnf)
                    exact next (by rw [isDig_of (by omega) (by omega), Bool.or_true]) (fun s => SLoop _ _ _ _ _ _ s _) ih
              · have g6 : ¬ 122 < byteAt s i := of_decide_eq_false g6
                conv => whnf
                repeat ((first | with_reducible refine branch_true rfl ?_ | with_reducible refine branch_false rfl ?_); conv => whnf)
                exact next (by rw [isLow_of (by omega) (by omega), Bool.true_or]) (fun s => SLoop _ _ _ _ _ _ s _) ih
          · conv => whnf
            repeat ((first | with_reducible refine branch_true rfl ?_ | with_reducible refine branch_false rfl ?_); conv => whnf)
            have g2 : s.size ≤ i := by simpa using g1
            have : ((List.range s.size).all fun i => isLow (byteAt s i) || isDig (byteAt s i)) = true := by
              rw [List.all_eq_true]; exact fun j hj' => hj j (by have := List.mem_range.1 hj'; omega)
            have h1' : decide (s = ByteArray.empty) = false := decide_eq_false h1
            simp only [nameOK, h1', h5, this, decide_eq_true h2, Bool.not_false, Bool.and_self]
end Go.Proofs.Fw


set_option linter.unusedVariables false
set_option linter.unusedSimpArgs false
namespace Go.Proofs.Fw
open Ax Go Go.Proofs
set_option maxRecDepth 10000
theorem refCheck (fl : Nat → Fl) (n : Nat) : CallOK Try.prog 28 [encL fl n] (fun r => r = .int .i64 (checkE fl n)) := by
  refine okP ?_
  conv => whnf
  repeat ((first | with_reducible refine branch_true rfl ?_ | with_reducible refine branch_false rfl ?_); conv => whnf)
  refine branch_of (fun h1 => ?_) (fun h1 => ?_)
  · conv => whnf
    repeat ((first | with_reducible refine branch_true rfl ?_ | with_reducible refine branch_false rfl ?_); conv => whnf)
    have h1 : 1024 < n := by simp at h1; omega
    rw [checkE, if_pos h1]
  · conv => whnf
    repeat ((first | with_reducible refine branch_true rfl ?_ | with_reducible refine branch_false rfl ?_); conv => whnf)
    have h1 : n ≤ 1024 := by simp at h1; omega
    refine loop_by (cx := cxP) rfl progOK (ι := {i : Nat // i ≤ n ∧ ∀ j, j < i → chk (fl j) = 0}) (fun i => n - i.1) (fun i => ⟨[(0, encL fl n), (3, .int .i64 i.1)], [], [], none⟩) ?_ ⟨0, Nat.zero_le _, fun j hj => absurd hj (by omega)⟩
    rintro ⟨i, hi, hj⟩ ih
    have bad : ∀ e : Int, i < n → chk (fl i) = e → e ≠ 0 → AV.int .i64 e = .int .i64 (checkE fl n) := fun e h h2 h3 => by
      rw [checkE, if_neg (by omega), firstE_at h hj (by omega), h2]
    conv => whnf
    repeat ((first | with_reducible refine branch_true rfl ?_ | with_reducible refine branch_false rfl ?_); conv => whnf)
    refine branch_of (fun g1 => ?_) (fun g1 => ?_)
    · conv => whnf
      repeat ((first | with_reducible refine branch_true rfl ?_ | with_reducible refine branch_false rfl ?_); conv => whnf)
      have g2 : i < n := by simpa using g1
      refine st_addr (sz := 4) (len := n) (n := i) (u := 38) (g := fun i => encF (fl i)) rfl rfl rfl rfl rfl (in_range g2) ?_
      conv => whnf
      repeat ((first | with_reducible refine branch_true rfl ?_ | with_reducible refine branch_false rfl ?_); conv => whnf)
      refine call_is (v := .bool (nameOK (fl i).m)) (refName _) ?_
      conv => whnf
      repeat ((first | with_reducible refine branch_true rfl ?_ | with_reducible refine branch_false rfl ?_); conv => whnf)
      refine branch_of (fun g3 => ?_) (fun g3 => ?_)
      · have g3 : nameOK (fl i).m = false := by simpa using g3
        conv => whnf
        repeat ((first | with_reducible refine branch_true rfl ?_ | with_reducible refine branch_false rfl ?_); conv => whnf)
        exact bad 10 g2 (by simp [chk, g3]) (by omega)
      · have g3 : nameOK (fl i).m = true := by simpa using g3
        conv => whnf
        repeat ((first | with_reducible refine branch_true rfl ?_ | with_reducible refine branch_false rfl ?_); conv => whnf)
        refine st_addr (sz := 4) (len := n) (n := i) (u := 38) (g := fun i => encF (fl i)) rfl rfl rfl rfl rfl (in_range g2) ?_
        conv => whnf
        repeat ((first | with_reducible refine branch_true rfl ?_ | with_reducible refine branch_false rfl ?_); conv => whnf)
        refine branch_of (fun g4 => ?_) (fun g4 => ?_)
        · have g4 : (fl i).c < 0 := of_decide_eq_true g4
          have g6 : curOK (fl i).c = false := by simp [curOK]; omega
          conv => whnf
          repeat ((first | with_reducible refine branch_true rfl ?_ | with_reducible refine branch_false rfl ?_); conv => whnf)
          exact bad 25 g2 (by simp [chk, g3, g6]) (by omega)
        · have g4 : ¬ (fl i).c < 0 := of_decide_eq_false g4
          conv => whnf
          repeat ((first | with_reducible refine branch_true rfl ?_ | with_reducible refine branch_false rfl ?_); conv => whnf)
          refine st_addr (sz := 4) (len := n) (n := i) (u := 38) (g := fun i => encF (fl i)) rfl rfl rfl rfl rfl (in_range g2) ?_
          conv => whnf
          repeat ((first | with_reducible refine branch_true rfl ?_ | with_reducible refine branch_false rfl ?_); conv => whnf)
          refine branch_of (fun g5 => ?_) (fun g5 => ?_)
          · have g5 : 8 ≤ (fl i).c := of_decide_eq_true g5
            have g6 : curOK (fl i).c = false := by simp [curOK]; omega
            conv => whnf
            repeat ((first | with_reducible refine branch_true rfl ?_ | with_reducible refine branch_false rfl ?_); conv => whnf)
            exact bad 25 g2 (by simp [chk, g3, g6]) (by omega)
          · have g5 : ¬ 8 ≤ (fl i).c := of_decide_eq_false g5
            have g6 : curOK (fl i).c = true := by simp [curOK]; omega
            conv => whnf
            repeat ((first | with_reducible refine branch_true rfl ?_ | with_reducible refine branch_false rfl ?_); conv => whnf)
            refine st_addr (sz := 4) (len := n) (n := i) (u := 38) (g := fun i => encF (fl i)) rfl rfl rfl rfl rfl (in_range g2) ?_
            conv => whnf
            repeat ((first | with_reducible refine branch_true rfl ?_ | with_reducible refine branch_false rfl ?_); conv => whnf)
            refine call_is (v := .bool (fitsI (fl i).n)) (refFits _) ?_
            conv => whnf
            repeat ((first | with_reducible refine branch_true rfl ?_ | with_reducible refine branch_false rfl ?_); conv => whnf)
            refine branch_of (fun g7 => ?_) (fun g7 => ?_)
            · have g7 : fitsI (fl i).n = false := by simpa using g7
              conv => whnf
              repeat ((first | with_reducible refine branch_true rfl ?_ | with_reducible refine branch_false rfl ?_); conv => whnf)
              exact bad 2 g2 (by simp [chk, g3, g6, g7]) (by omega)
            · have g7 : fitsI (fl i).n = true := by simpa using g7
              have e : chk (fl i) = 0 := by simp [chk, g3, g6, g7]
              have next : ∀ K : St → Prop, (∀ j : {i : Nat // i ≤ n ∧ ∀ j, j < i → chk (fl j) = 0}, n - j.1 < n - i → K (St.mk [(0, encL fl n), (3, .int .i64 j.1)] [] [] none)) → K (St.mk [(0, encL fl n), (3, .int .i64 (IntKind.i64.wrap ((i : Int) + 1)))] [] [] none) := by
                intro K hK
                rw [wrap64 (by omega)]
                exact hK ⟨i + 1, g2, all_next hj e⟩ (show n - (i + 1) < n - i by omega)
              conv => whnf
              repeat ((first | with_reducible refine branch_true rfl ?_ | with_reducible refine branch_false rfl ?_); conv => whnf)
              exact next (fun s => SLoop _ _ _ _ _ _ s _) ih
    · conv => whnf
      repeat ((first | with_reducible refine branch_true rfl ?_ | with_reducible refine branch_false rfl ?_); conv => whnf)
      have g2 : i = n := by simp at g1; omega
      subst g2
      rw [checkE, if_neg (by omega), firstE_zero hj]
theorem rem_neg {z : Int} (h : z.tmod 1073741824 < 0) : z.tmod 1073741824 + 1073741824 = z % 1073741824 := by
  rw [Int.tmod_eq_emod] at h ⊢
  by_cases h1 : 0 ≤ z ∨ (1073741824 : Int) ∣ z
  · simp only [if_pos h1] at h ⊢; omega
  · simp only [if_neg h1] at h ⊢; omega
theorem rem_pos {z : Int} (h : ¬ z.tmod 1073741824 < 0) : z.tmod 1073741824 = z % 1073741824 := by
  rw [Int.tmod_eq_emod] at h ⊢
  by_cases h1 : 0 ≤ z ∨ (1073741824 : Int) ∣ z
  · simp only [if_pos h1] at h ⊢; omega
  · simp only [if_neg h1] at h ⊢; omega
theorem quo_ex (z : Int) : (z - z % 1073741824).tdiv 1073741824 = z / 1073741824 := by
  have e : z - z % 1073741824 = 1073741824 * (z / 1073741824) := by omega
  rw [e, Int.mul_tdiv_cancel_left _ (by decide)]
theorem quo_low {z : Int} (h : 0 ≤ z) : z.tdiv 1073741824 = z / 1073741824 := Int.tdiv_eq_ediv_of_nonneg h
theorem rem_low {z : Int} (h : 0 ≤ z) : z.tmod 1073741824 = z % 1073741824 := Int.tmod_eq_emod_of_nonneg h
def refSumR (s : Int) : AV := bif fitsI s then .tup [.int .i64 s, .bool true] else .tup [.int .i64 0, .bool false]
theorem st4 {v : AV} {a a' b b' c c' : Int} (h1 : a = a') (h2 : b = b') (h3 : c = c') : St.mk [(0, v), (4, .int .i64 a), (5, .int .i64 b), (6, .int .i64 c)] [] [] none = St.mk [(0, v), (4, .int .i64 a'), (5, .int .i64 b'), (6, .int .i64 c')] [] [] none := by
  subst h1; subst h2; subst h3; rfl
theorem refSum (z : Nat → Int) (n : Nat) (hn : n ≤ 1024) (hz : ∀ i, i < n → fitsI (z i) = true) : CallOK Try.prog 47 [.vec 1 n fun i => .int .i64 (z i)] (fun r => r = refSumR (sumZ z n)) := by
  have hzb : ∀ i, i < n → -1152921504606846976 ≤ z i ∧ z i ≤ 1152921504606846976 := fun i hi => fitsI_iff.1 (hz i hi)
  refine okP ?_
  conv => whnf
  repeat ((first | with_reducible refine branch_true rfl ?_ | with_reducible refine branch_false rfl ?_); conv => whnf)
  refine loop_by (cx := cxP) rfl progOK (ι := {i : Nat // i ≤ n}) (fun i => n - i.1) (fun i => ⟨[(0, .vec 1 n fun i => .int .i64 (z i)), (4, .int .i64 (highR z i.1)), (5, .int .i64 (lowR z i.1)), (6, .int .i64 i.1)], [], [], none⟩) ?_ ⟨0, Nat.zero_le _⟩
  rintro ⟨i, hi⟩ ih
  have hb1 := highR_b z i (fun j hj => hzb j (by omega))
  have hb2 := lowR_b z i
  conv => whnf
  repeat ((first | with_reducible refine branch_true rfl ?_ | with_reducible refine branch_false rfl ?_); conv => whnf)
  refine branch_of (fun g1 => ?_) (fun g1 => ?_)
  · have g2 : i < n := by simpa using g1
    have hw : IntKind.i64.wrap ((i : Int) + 1) = ((i + 1 : Nat) : Int) := by rw [wrap64 (by omega)]; omega
    have hzi := hzb i g2
    have e2 : IntKind.i64.wrap (lowR z i + z i % 1073741824) = lowR z (i + 1) := by
      rw [wrap64 (by omega)]; rfl
    have e1 : IntKind.i64.wrap (highR z i + IntKind.i64.wrap ((IntKind.i64.wrap (z i - z i % 1073741824)).tdiv 1073741824)) = highR z (i + 1) := by
      rw [wrap64 (x := z i - z i % 1073741824) (by omega), quo_ex, wrap64 (x := z i / 1073741824) (by omega), wrap64 (by omega)]; rfl
    conv => whnf
    repeat ((first | with_reducible refine branch_true rfl ?_ | with_reducible refine branch_false rfl ?_); conv => whnf)
    refine st_addr (sz := 1) (len := n) (n := i) (u := 3) (g := fun i => .int .i64 (z i)) rfl rfl rfl rfl rfl (in_range g2) ?_
    conv => whnf
    repeat ((first | with_reducible refine branch_true rfl ?_ | with_reducible refine branch_false rfl ?_); conv => whnf)
    refine branch_of (fun g3 => ?_) (fun g3 => ?_)
    · have g3 : (z i).tmod 1073741824 < 0 := of_decide_eq_true g3
      have e3 : IntKind.i64.wrap ((z i).tmod 1073741824 + 1073741824) = z i % 1073741824 := by rw [rem_neg g3, wrap64 (by omega)]
      conv => whnf
      repeat ((first | with_reducible refine branch_true rfl ?_ | with_reducible refine branch_false rfl ?_); conv => whnf)
      refine st_addr (sz := 1) (len := n) (n := i) (u := 3) (g := fun i => .int .i64 (z i)) rfl rfl rfl rfl rfl (in_range g2) ?_
      conv => whnf
      repeat ((first | with_reducible refine branch_true rfl ?_ | with_reducible refine branch_false rfl ?_); conv => whnf)
      exact loop_to ih ⟨i + 1, g2⟩ (show n - (i + 1) < n - i by omega) (st4 (by rw [← e3] at e1; exact e1) (by rw [← e3] at e2; exact e2) hw)
    · have g3 : ¬ (z i).tmod 1073741824 < 0 := of_decide_eq_false g3
      have e3 := rem_pos g3
      conv => whnf
      repeat ((first | with_reducible refine branch_true rfl ?_ | with_reducible refine branch_false rfl ?_); conv => whnf)
      refine st_addr (sz := 1) (len := n) (n := i) (u := 3) (g := fun i => .int .i64 (z i)) rfl rfl rfl rfl rfl (in_range g2) ?_
      conv => whnf
      repeat ((first | with_reducible refine branch_true rfl ?_ | with_reducible refine branch_false rfl ?_); conv => whnf)
      exact loop_to ih ⟨i + 1, g2⟩ (show n - (i + 1) < n - i by omega) (st4 (by rw [← e3] at e1; exact e1) (by rw [← e3] at e2; exact e2) hw)
  · have g2 : i = n := by simp at g1; omega
    subst g2
    have hs := partsR z i
    have e1 : IntKind.i64.wrap (highR z i + IntKind.i64.wrap ((lowR z i).tdiv 1073741824)) = highR z i + lowR z i / 1073741824 := by
      rw [quo_low hb2.1, wrap64 (x := lowR z i / 1073741824) (by omega), wrap64 (by omega)]
    have e2 := rem_low hb2.1
    generalize hH : highR z i + lowR z i / 1073741824 = hh at e1
    generalize hL : lowR z i % 1073741824 = ll at e2
    have hll : 0 ≤ ll ∧ ll < 1073741824 := by omega
    have hsum : sumZ z i = hh * 1073741824 + ll := by omega
    have big : (1073741824 < hh ∨ hh < -1073741824 ∨ hh = 1073741824 ∧ 0 < ll) → AV.tup [.int .i64 0, .bool false] = refSumR (sumZ z i) := fun h => by
      have : fitsI (sumZ z i) = false := fitsI_not.2 (by omega)
      rw [refSumR, this]; rfl
    have okk : ¬ 1073741824 < hh → ¬ hh < -1073741824 → (hh = 1073741824 → ¬ 0 < ll) → AV.tup [.int .i64 (IntKind.i64.wrap (IntKind.i64.wrap (hh * 1073741824) + ll)), .bool true] = refSumR (sumZ z i) := fun q1 q2 q3 => by
      have : fitsI (sumZ z i) = true := fitsI_iff.2 (by omega)
      rw [refSumR, this, wrap64 (x := hh * 1073741824) (by omega), wrap64 (by omega), hsum]; rfl
    rw [← e1] at big okk
    rw [← e2] at big okk
    conv => whnf
    repeat ((first | with_reducible refine branch_true rfl ?_ | with_reducible refine branch_false rfl ?_); conv => whnf)
    refine branch_of (fun g3 => ?_) (fun g3 => ?_)
    · have g3 := of_decide_eq_true g3
      conv => whnf
      repeat ((first | with_reducible refine branch_true rfl ?_ | with_reducible refine branch_false rfl ?_); conv => whnf)
      exact big (.inl g3)
    · have g3 := of_decide_eq_false g3
      conv => whnf
      repeat ((first | with_reducible refine branch_true rfl ?_ | with_reducible refine branch_false rfl ?_); conv => whnf)
      refine branch_of (fun g4 => ?_) (fun g4 => ?_)
      · have g4 := of_decide_eq_true g4
        conv => whnf
        repeat ((first | with_reducible refine branch_true rfl ?_ | with_reducible refine branch_false rfl ?_); conv => whnf)
        exact big (.inr (.inl g4))
      · have g4 := of_decide_eq_false g4
        conv => whnf
        repeat ((first | with_reducible refine branch_true rfl ?_ | with_reducible refine branch_false rfl ?_); conv => whnf)
        refine branch_of (fun g5 => ?_) (fun g5 => ?_)
        · have g5 := of_decide_eq_true g5
          conv => whnf
          repeat ((first | with_reducible refine branch_true rfl ?_ | with_reducible refine branch_false rfl ?_); conv => whnf)
          refine branch_of (fun g6 => ?_) (fun g6 => ?_)
          · have g6 := of_decide_eq_true g6
            conv => whnf
            repeat ((first | with_reducible refine branch_true rfl ?_ | with_reducible refine branch_false rfl ?_); conv => whnf)
            exact big (.inr (.inr ⟨g5, g6⟩))
          · have g6 := of_decide_eq_false g6
            conv => whnf
            repeat ((first | with_reducible refine branch_true rfl ?_ | with_reducible refine branch_false rfl ?_); conv => whnf)
            exact okk g3 g4 (fun _ => g6)
        · have g5 := of_decide_eq_false g5
          conv => whnf
          repeat ((first | with_reducible refine branch_true rfl ?_ | with_reducible refine branch_false rfl ?_); conv => whnf)
          exact okk g3 g4 (fun h => absurd h g5)
end Go.Proofs.Fw


set_option linter.unusedVariables false
set_option linter.unusedSimpArgs false
namespace Go.Proofs.Fw
open Ax Go Go.Proofs
set_option maxRecDepth 10000
theorem firstE_all {fl : Nat → Fl} {n : Nat} (h : firstE fl n = 0) : ∀ j, j < n → chk (fl j) = 0 := by
  induction n with
  | zero => intro j hj; omega
  | succ n ih =>
    rw [firstE] at h
    by_cases h1 : firstE fl n = 0
    · rw [if_pos h1] at h
      exact all_next (ih h1) h
    · rw [if_neg h1] at h; exact absurd h h1
theorem chk_fits {f : Fl} (h : chk f = 0) : fitsI f.n = true := by
  unfold chk at h
  cases h1 : nameOK f.m <;> cases h2 : curOK f.c <;> cases h3 : fitsI f.n <;> simp [h1, h2, h3] at h ⊢
theorem sel_fits {p : Fl → Bool} {fl : Nat → Fl} {n : Nat} (h : ∀ j, j < n → chk (fl j) = 0) : ∀ i, i < (sel p fl n).length → fitsI ((sel p fl n).getD i 0) = true := by
  have : ∀ x ∈ sel p fl n, fitsI x = true := by
    induction n with
    | zero => simp [sel]
    | succ n ih =>
      rw [sel]
      split
      · intro x hx
        rcases List.mem_append.1 hx with hx | hx
        · exact ih (fun j hj => h j (by omega)) x hx
        · simp at hx; subst hx; exact chk_fits (h n (by omega))
      · exact ih (fun j hj => h j (by omega))
  intro i hi
  rw [List.getD, List.getElem?_eq_getElem hi]
  exact this _ (List.getElem_mem hi)
def tot (p : Fl → Bool) (fl : Nat → Fl) (n : Nat) : Int := sumZ (fun i => (sel p fl n).getD i 0) (sel p fl n).length
def totV (all : Bool) (m : ByteArray) (c : Int) (fl : Nat → Fl) (n : Nat) : Int × Int :=
  if checkE fl n ≠ 0 then (0, checkE fl n) else bif curOK c then (bif fitsI (tot (selP all m c) fl n) then (tot (selP all m c) fl n, 0) else (0, 3)) else (0, 25)
def pairV (v : Int × Int) : AV := .tup [.int .i64 v.1, .int .i64 v.2]
theorem check_ok {fl : Nat → Fl} {n : Nat} (h : checkE fl n = 0) : n ≤ 1024 ∧ ∀ j, j < n → chk (fl j) = 0 := by
  unfold checkE at h
  split at h
  · omega
  · exact ⟨by omega, firstE_all h⟩
end Go.Proofs.Fw

