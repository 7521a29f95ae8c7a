import Derived.Test.YtiadhiggmjiibaaLN
set_option linter.unusedVariables false
namespace Go.Proofs
open Ax Go
set_option maxRecDepth 10000
theorem refOpen (l : List Py) (hs : Sized l) (cur : Int) : CallOK Try.prog 22 [encL l, .int .i64 cur] (fun r => r = tup3 (openS l cur)) := by
  refine okP ?_
  conv => whnf
  repeat ((first | with_reducible refine branch_true rfl ?_ | with_reducible refine branch_false rfl ?_); conv => whnf)
  refine call_is (refCheck l hs) ?_
  conv => whnf
  repeat ((first | with_reducible refine branch_true rfl ?_ | with_reducible refine branch_false rfl ?_); conv => whnf)
  refine branch_of (fun h1 => ?_) (fun h1 => ?_)
  · have h1 : checkL l ≠ 0 := by simpa using h1
    conv => whnf
    repeat ((first | with_reducible refine branch_true rfl ?_ | with_reducible refine branch_false rfl ?_); conv => whnf)
    simp [openS, h1, tup3]
  · have h1 : checkL l = 0 := by simpa using h1
    have hn := (check_good h1).1
    have far : (cur < 0 ∨ 7 < cur) → AV.tup [.int .i64 0, .int .i64 0, .int .i64 25] = tup3 (openS l cur) := fun h => by
      have : (decide (cur < 0) || decide (7 < cur)) = true := by simpa using h
      simp only [openS, h1, this]; rfl
    conv => whnf
    repeat ((first | with_reducible refine branch_true rfl ?_ | with_reducible refine branch_false rfl ?_); conv => whnf)
    refine branch_of (fun h2 => ?_) (fun h2 => ?_)
    · have h2 : cur < 0 := of_decide_eq_true h2
      conv => whnf
      repeat ((first | with_reducible refine branch_true rfl ?_ | with_reducible refine branch_false rfl ?_); conv => whnf)
      exact far (.inl h2)
    · have h2 : ¬ cur < 0 := of_decide_eq_false h2
      conv => whnf
      repeat ((first | with_reducible refine branch_true rfl ?_ | with_reducible refine branch_false rfl ?_); conv => whnf)
      refine branch_of (fun h3 => ?_) (fun h3 => ?_)
      · have h3 : 7 < cur := of_decide_eq_true h3
        conv => whnf
        repeat ((first | with_reducible refine branch_true rfl ?_ | with_reducible refine branch_false rfl ?_); conv => whnf)
        exact far (.inr h3)
      · have h3 : ¬ 7 < cur := of_decide_eq_false h3
        have hS : openS l cur = bif fitsI (sumL (payL cur l)) && fitsI (sumL (getL cur l)) then (sumL (payL cur l), sumL (getL cur l), 0) else (0, 0, 3) := by
          have : (decide (cur < 0) || decide (7 < cur)) = false := by simp; omega
          simp only [openS, h1, this]; rfl
        conv => whnf
        repeat ((first | with_reducible refine branch_true rfl ?_ | with_reducible refine branch_false rfl ?_); conv => whnf)
        refine loop_by (cx := cxP) rfl progOK (ι := OpHd l cur) (fun x => l.length - x.i) (fun x => ⟨[(0, encL l), (1, .int .i64 cur), (8, .own (.vec 1 x.len x.g)), (9, .own (.vec 1 x.len' x.g')), (10, .int .i64 x.i)], [], [], none⟩) ?_ ⟨0, 0, _, 0, _, Nat.zero_le _, ints_nil, ints_nil⟩
        intro x ih
        have hxi := x.hi
        have hp1 := x.hp.1
        have hp2 := pay_len cur (l.take x.i)
        have hg1 := x.hg.1
        have hg2 := get_len cur (l.take x.i)
        have ht := List.length_take_le x.i l
        conv => whnf
        repeat ((first | with_reducible refine branch_true rfl ?_ | with_reducible refine branch_false rfl ?_); conv => whnf)
        refine branch_of (fun g1 => ?_) (fun g1 => ?_)
        · have g2 : x.i < l.length := by simpa using g1
          have hw : IntKind.i64.wrap ((x.i : Int) + 1) = ((x.i + 1 : Nat) : Int) := by rw [wrap64 (by omega)]; omega
          have next : ∀ (y : OpHd l cur) {len len' : Nat} {g g' : Nat → AV}, y.i = x.i + 1 → y.len = len → y.g = g → y.len' = len' → y.g' = g' → ∀ K : St → Prop, (∀ j : OpHd l cur, l.length - j.i < l.length - x.i → K (St.mk [(0, encL l), (1, .int .i64 cur), (8, .own (.vec 1 j.len j.g)), (9, .own (.vec 1 j.len' j.g')), (10, .int .i64 j.i)] [] [] none)) → K (St.mk [(0, encL l), (1, .int .i64 cur), (8, .own (.vec 1 len g)), (9, .own (.vec 1 len' g')), (10, .int .i64 (IntKind.i64.wrap ((x.i : Int) + 1)))] [] [] none) := by
            intro y len len' g g' e1 e2 e3 e4 e5 K hK
            subst e2 e3 e4 e5
            rw [hw, ← e1]
            exact hK y (by omega)
          conv => whnf
          repeat ((first | with_reducible refine branch_true rfl ?_ | with_reducible refine branch_false rfl ?_); conv => whnf)
          refine st_addr (sz := 5) (len := l.length) (n := x.i) (u := 51) (g := fun i => encP (atP l i)) rfl rfl rfl rfl rfl (in_range g2) ?_
          conv => whnf
          repeat ((first | with_reducible refine branch_true rfl ?_ | with_reducible refine branch_false rfl ?_); conv => whnf)
          refine call_is (waits (atP l x.i)) ?_
          conv => whnf
          repeat ((first | with_reducible refine branch_true rfl ?_ | with_reducible refine branch_false rfl ?_); conv => whnf)
          cases g4 : comes (atP l x.i) with
          | false =>
            conv => whnf
            repeat ((first | with_reducible refine branch_true rfl ?_ | with_reducible refine branch_false rfl ?_); conv => whnf)
            obtain ⟨y, e1, e2, e3, e4, e5⟩ := op_no x g2 (fun h => by rw [g4] at h; exact absurd h.2 (by decide))
            exact next y e1 e2 e3 e4 e5 (fun s => SLoop _ _ _ _ _ _ s _) ih
          | true =>
            conv => whnf
            repeat ((first | with_reducible refine branch_true rfl ?_ | with_reducible refine branch_false rfl ?_); conv => whnf)
            refine st_addr (sz := 5) (len := l.length) (n := x.i) (u := 51) (g := fun i => encP (atP l i)) rfl rfl rfl rfl rfl (in_range g2) ?_
            conv => whnf
            repeat ((first | with_reducible refine branch_true rfl ?_ | with_reducible refine branch_false rfl ?_); conv => whnf)
            refine branch_of (fun g3 => ?_) (fun g3 => ?_)
            · have g3 : ¬ (atP l x.i).c = cur := by
                have : (!decide ((atP l x.i).c = cur)) = true := g3
                simpa using this
              conv => whnf
              repeat ((first | with_reducible refine branch_true rfl ?_ | with_reducible refine branch_false rfl ?_); conv => whnf)
              obtain ⟨y, e1, e2, e3, e4, e5⟩ := op_no x g2 (fun h => g3 h.1)
              exact next y e1 e2 e3 e4 e5 (fun s => SLoop _ _ _ _ _ _ s _) ih
            · have g3 : (atP l x.i).c = cur := by
                have : (!decide ((atP l x.i).c = cur)) = false := g3
                simpa using this
              conv => whnf
              repeat ((first | with_reducible refine branch_true rfl ?_ | with_reducible refine branch_false rfl ?_); conv => whnf)
              refine st_addr (sz := 5) (len := l.length) (n := x.i) (u := 51) (g := fun i => encP (atP l i)) rfl rfl rfl rfl rfl (in_range g2) ?_
              conv => whnf
              repeat ((first | with_reducible refine branch_true rfl ?_ | with_reducible refine branch_false rfl ?_); conv => whnf)
              refine branch_of (fun g5 => ?_) (fun g5 => ?_)
              · have g5 : (atP l x.i).n < 0 := of_decide_eq_true g5
                conv => whnf
                repeat ((first | with_reducible refine branch_true rfl ?_ | with_reducible refine branch_false rfl ?_); conv => whnf)
                refine st_addr (sz := 5) (len := l.length) (n := x.i) (u := 51) (g := fun i => encP (atP l i)) rfl rfl rfl rfl rfl (in_range g2) ?_
                conv => whnf
                repeat ((first | with_reducible refine branch_true rfl ?_ | with_reducible refine branch_false rfl ?_); conv => whnf)
                refine st_append (sz := 1) (len := x.len) (g := x.g) (u := 3) (m := 1) (gg := vlist (zeroElem Try.prog 3) [.int .i64 (IntKind.i64.wrap (0 - (atP l x.i).n))]) rfl rfl rfl rfl rfl (room8 (by omega)) ?_
                conv => whnf
                repeat ((first | with_reducible refine branch_true rfl ?_ | with_reducible refine branch_false rfl ?_); conv => whnf)
                obtain ⟨y, e1, e2, e3, e4, e5⟩ := op_pay h1 x g2 g3 g4 g5 (z := zeroElem Try.prog 3) (a := zeroElem Try.prog 3)
                exact next y e1 e2 e3 e4 e5 (fun s => SLoop _ _ _ _ _ _ s _) ih
              · have g5 : ¬ (atP l x.i).n < 0 := of_decide_eq_false g5
                conv => whnf
                repeat ((first | with_reducible refine branch_true rfl ?_ | with_reducible refine branch_false rfl ?_); conv => whnf)
                refine st_addr (sz := 5) (len := l.length) (n := x.i) (u := 51) (g := fun i => encP (atP l i)) rfl rfl rfl rfl rfl (in_range g2) ?_
                conv => whnf
                repeat ((first | with_reducible refine branch_true rfl ?_ | with_reducible refine branch_false rfl ?_); conv => whnf)
                refine st_append (sz := 1) (len := x.len') (g := x.g') (u := 3) (m := 1) (gg := vlist (zeroElem Try.prog 3) [.int .i64 (atP l x.i).n]) rfl rfl rfl rfl rfl (room8 (by omega)) ?_
                conv => whnf
                repeat ((first | with_reducible refine branch_true rfl ?_ | with_reducible refine branch_false rfl ?_); conv => whnf)
                obtain ⟨y, e1, e2, e3, e4, e5⟩ := op_get x g2 g3 g4 g5 (z := zeroElem Try.prog 3) (a := zeroElem Try.prog 3)
                exact next y e1 e2 e3 e4 e5 (fun s => SLoop _ _ _ _ _ _ s _) ih
        · have g2 : x.i = l.length := by simp at g1; omega
          have hP := x.hp
          have hG := x.hg
          rw [g2, List.take_length] at hP hG
          obtain ⟨p1, p2⟩ := hP
          obtain ⟨q1, q2⟩ := hG
          have hp3 := pay_len cur l
          have hg3 := get_len cur l
          conv => whnf
          repeat ((first | with_reducible refine branch_true rfl ?_ | with_reducible refine branch_false rfl ?_); conv => whnf)
          have hs1 := ok_same (.cons (.vec (g := x.g) p2) .nil) (refSum (fun j => (payL cur l).getD j 0) (payL cur l).length (by omega) (pay_fit h1 cur))
          have hs2 := ok_same (.cons (.vec (g := x.g') q2) .nil) (refSum (fun j => (getL cur l).getD j 0) (getL cur l).length (by omega) (get_fit h1 cur))
          rw [← p1, show sumZ (fun j => (payL cur l).getD j 0) x.len = sumL (payL cur l) by rw [p1]; rfl] at hs1
          rw [← q1, show sumZ (fun j => (getL cur l).getD j 0) x.len' = sumL (getL cur l) by rw [q1]; rfl] at hs2
          cases f1 : fitsI (sumL (payL cur l)) with
          | false =>
            rw [sumR, f1] at hs1
            refine call_is (v := .tup [.int .i64 0, .int .i64 3]) hs1 ?_
            conv => whnf
            repeat ((first | with_reducible refine branch_true rfl ?_ | with_reducible refine branch_false rfl ?_); conv => whnf)
            rw [hS, f1]; rfl
          | true =>
            rw [sumR, f1] at hs1
            refine call_is (v := .tup [.int .i64 (sumL (payL cur l)), .int .i64 0]) hs1 ?_
            conv => whnf
            repeat ((first | with_reducible refine branch_true rfl ?_ | with_reducible refine branch_false rfl ?_); conv => whnf)
            cases f2 : fitsI (sumL (getL cur l)) with
            | false =>
              rw [sumR, f2] at hs2
              refine call_is (v := .tup [.int .i64 0, .int .i64 3]) hs2 ?_
              conv => whnf
              repeat ((first | with_reducible refine branch_true rfl ?_ | with_reducible refine branch_false rfl ?_); conv => whnf)
              rw [hS, f1, f2]; rfl
            | true =>
              rw [sumR, f2] at hs2
              refine call_is (v := .tup [.int .i64 (sumL (getL cur l)), .int .i64 0]) hs2 ?_
              conv => whnf
              repeat ((first | with_reducible refine branch_true rfl ?_ | with_reducible refine branch_false rfl ?_); conv => whnf)
              rw [hS, f1, f2]; rfl
end Go.Proofs


set_option linter.unusedVariables false
namespace Go.Proofs
open Ax Go
set_option maxRecDepth 10000
theorem room56 {m : Nat} (h : m ≤ 1000000) : roomOK m (tyBy Try.prog 51) = true := by
  have : tyBy Try.prog 51 ≤ 64 := by decide +kernel
  generalize tyBy Try.prog 51 = b at this
  simp only [roomOK, Bool.and_eq_true, Nat.ble_eq]
  refine ⟨?_, by omega⟩
  calc (m + (m + 768) / 4 + 512) * b ≤ 2000000 * 64 := Nat.mul_le_mul (by omega) this
    _ ≤ 281474976710656 := by decide
theorem vapp_two {z : AV} {g v F : Nat → AV} {i m : Nat} (h : ∀ j, j < i → g j = F j) (hv : ∀ j, j < m → v j = F (i + j)) : ∀ j, j < i + m → vapp z g i v m j = F j := by
  intro j hj
  unfold vapp
  by_cases h3 : j < i
  · rw [show Nat.blt j i = true by rw [Nat.blt_eq]; exact h3, cond_true, h j h3]
  · have e : Nat.blt j i = false := by rw [Bool.eq_false_iff, ne_eq, Nat.blt_eq]; omega
    rw [e, cond_false, show Nat.blt j (i + m) = true by rw [Nat.blt_eq]; omega, cond_true, hv _ (by omega), show i + (j - i) = j by omega]
theorem atP_left {l r : List Py} {i : Nat} (h : i < l.length) : atP (l ++ r) i = atP l i := by
  unfold atP; rw [List.getD, List.getD, List.getElem?_append_left h]
theorem atP_right {l r : List Py} {i : Nat} : atP (l ++ r) (l.length + i) = atP r i := by
  unfold atP; rw [List.getD, List.getD, List.getElem?_append_right (by omega), Nat.add_sub_cancel_left]
theorem paysAt_app {l r : List Py} {len m : Nat} {g v : Nat → AV} {z : AV} (h : PaysAt l len g) (hr : PaysAt r m v) : PaysAt (l ++ r) (len + m) (vapp z g len v m) := by
  obtain ⟨rfl, h⟩ := h
  obtain ⟨rfl, hr⟩ := hr
  refine ⟨by simp, fun i hi => vapp_two (F := fun i => encP (atP (l ++ r) i)) (fun j hj => ?_) (fun j hj => ?_) i (by simpa using hi)⟩
  · rw [h j hj, atP_left hj]
  · rw [hr j hj, atP_right]
theorem paysAt_one {c : Py} {v : Nat → AV} (h : v 0 = encP c) : PaysAt [c] 1 v := ⟨rfl, fun i hi => by
  obtain rfl : i = 0 := by simp at hi; omega
  exact h⟩
theorem paysAt_nil {g : Nat → AV} : PaysAt [] 0 g := ⟨rfl, fun i hi => by simp at hi⟩
/-- A list whose block is its holder's. -/
def UniR (l : List Py) (r : AV) : Prop := ∃ len g, r = .uni (.vec 5 len g) ∧ PaysAt l len g
theorem uniR_some (l : List Py) : ∃ r, UniR l r := ⟨_, _, _, rfl, paysAt_self l⟩
theorem clone (l : List Py) (hl : l.length ≤ 100000) : CallOK Try.prog 27 [encL l] (UniR l) := by
  refine okP ?_
  conv => whnf
  repeat ((first | with_reducible refine branch_true rfl ?_ | with_reducible refine branch_false rfl ?_); conv => whnf)
  have key : ∀ z (g0 : Nat → AV), PaysAt l (0 + l.length) (vapp z g0 0 (fun i => encP (atP l i)) l.length) := fun z g0 => by
    exact paysAt_app (z := z) (paysAt_nil (g := g0)) (paysAt_self l)
  refine branch_of (fun h1 => ?_) (fun h1 => ?_)
  · have h1 : l = [] := by
      have : Nat.beq l.length 0 = true := h1
      rw [Nat.beq_eq] at this
      exact List.length_eq_zero_iff.1 this
    subst h1
    intro i hi
    rcases (by omega : i = 0 ∨ i = 1) with rfl | rfl
    · conv => whnf
      repeat ((first | with_reducible refine branch_true rfl ?_ | with_reducible refine branch_false rfl ?_); conv => whnf)
      exact ⟨0, _, rfl, paysAt_nil⟩
    · conv => whnf
      repeat ((first | with_reducible refine branch_true rfl ?_ | with_reducible refine branch_false rfl ?_); conv => whnf)
      exact ⟨0, _, rfl, paysAt_nil⟩
  · conv => whnf
    repeat ((first | with_reducible refine branch_true rfl ?_ | with_reducible refine branch_false rfl ?_); conv => whnf)
    refine st_append_uni (sz := 5) (len := 0) (u := 51) (m := l.length) (gg := fun i => encP (atP l i)) rfl rfl rfl rfl rfl (room56 (by omega)) ?_
    conv => whnf
    repeat ((first | with_reducible refine branch_true rfl ?_ | with_reducible refine branch_false rfl ?_); conv => whnf)
    exact ⟨_, _, rfl, key _ _⟩
def ofQ (m : ByteArray) (p : Py) : Bool := decide (p.m = m)
theorem filt_yes {q : Py → Bool} {l : List Py} {i : Nat} (hi : i < l.length) (h : q (atP l i) = true) : (l.take (i + 1)).filter q = (l.take i).filter q ++ [atP l i] := by
  rw [takeP hi, List.filter_append]; simp [h]
theorem filt_no {q : Py → Bool} {l : List Py} {i : Nat} (hi : i < l.length) (h : q (atP l i) = false) : (l.take (i + 1)).filter q = (l.take i).filter q := by
  rw [takeP hi, List.filter_append]; simp [h]
structure FiHd (q : Py → Bool) (l : List Py) where
  i : Nat
  len : Nat
  g : Nat → AV
  hi : i ≤ l.length
  hg : PaysAt ((l.take i).filter q) len g
theorem ofOK (l : List Py) (hl : l.length ≤ 100000) (m : ByteArray) : CallOK Try.prog 23 [encL l, .str m] (UniR (l.filter (ofQ m))) := by
  refine okP ?_
  conv => whnf
  repeat ((first | with_reducible refine branch_true rfl ?_ | with_reducible refine branch_false rfl ?_); conv => whnf)
  refine loop_by (cx := cxP) rfl progOK (ι := FiHd (ofQ m) l) (fun x => l.length - x.i) (fun x => ⟨[(1, .str m), (4, .uni (.vec 5 x.len x.g)), (7, encL l), (8, .int .i64 l.length), (9, .int .i64 x.i)], [], [], none⟩) ?_ ⟨0, 0, _, Nat.zero_le _, paysAt_nil⟩
  rintro ⟨i, len, g, hi, hg⟩ ih
  have hlen := hg.1
  have hlen2 := List.length_filter_le (ofQ m) (l.take i)
  have hlen3 := List.length_take_le i l
  conv => whnf
  repeat ((first | with_reducible refine branch_true rfl ?_ | with_reducible refine branch_false rfl ?_); conv => whnf)
  refine branch_of (fun g1 => ?_) (fun g1 => ?_)
  · have g2 : i < l.length := by simpa using g1
    have hw : IntKind.i64.wrap ((i : Int) + 1) = ((i + 1 : Nat) : Int) := by rw [wrap64 (by omega)]; omega
    conv => whnf
    repeat ((first | with_reducible refine branch_true rfl ?_ | with_reducible refine branch_false rfl ?_); conv => whnf)
    refine st_addr (sz := 5) (len := l.length) (n := i) (u := 51) (g := fun i => encP (atP l i)) rfl rfl rfl rfl rfl (in_range g2) ?_
    conv => whnf
    repeat ((first | with_reducible refine branch_true rfl ?_ | with_reducible refine branch_false rfl ?_); conv => whnf)
    refine branch_of (fun g3 => ?_) (fun g3 => ?_)
    · have g3 : (atP l i).m = m := of_decide_eq_true g3
      conv => whnf
      repeat ((first | with_reducible refine branch_true rfl ?_ | with_reducible refine branch_false rfl ?_); conv => whnf)
      refine st_append_uni (sz := 5) (len := len) (g := g) (u := 51) (m := 1) (gg := vlist (zeroElem Try.prog 51) [encP (atP l i)]) rfl rfl rfl rfl rfl (room56 (by omega)) ?_
      conv => whnf
      repeat ((first | with_reducible refine branch_true rfl ?_ | with_reducible refine branch_false rfl ?_); conv => whnf)
      exact loop_to ih ⟨i + 1, len + 1, _, g2, by rw [filt_yes g2 (by simp [ofQ, g3])]; exact paysAt_app hg (paysAt_one rfl)⟩ (show l.length - (i + 1) < l.length - i by omega) (congrArg (fun q => St.mk [(1, .str m), (4, .uni (.vec 5 (len + 1) _)), (7, encL l), (8, .int .i64 l.length), (9, .int .i64 q)] [] [] none) hw)
    · have g3 : ¬ (atP l i).m = m := of_decide_eq_false g3
      conv => whnf
      repeat ((first | with_reducible refine branch_true rfl ?_ | with_reducible refine branch_false rfl ?_); conv => whnf)
      exact loop_to ih ⟨i + 1, len, g, g2, by rw [filt_no g2 (by simp [ofQ, g3])]; exact hg⟩ (show l.length - (i + 1) < l.length - i by omega) (congrArg (fun q => St.mk [(1, .str m), (4, .uni (.vec 5 len g)), (7, encL l), (8, .int .i64 l.length), (9, .int .i64 q)] [] [] none) hw)
  · have g2 : i = l.length := by simp at g1; omega
    subst g2
    rw [List.take_length] at hg
    conv => whnf
    repeat ((first | with_reducible refine branch_true rfl ?_ | with_reducible refine branch_false rfl ?_); conv => whnf)
    exact ⟨_, _, rfl, hg⟩
/-- A list for reading. -/
def VecR (l : List Py) (r : AV) : Prop := ∃ len g, r = .vec 5 len g ∧ PaysAt l len g
theorem vecR_some (l : List Py) : ∃ r, VecR l r := ⟨_, _, _, rfl, paysAt_self l⟩
theorem refOf (l : List Py) (hl : l.length ≤ 100000) (m : ByteArray) : CallOK Try.prog 24 [encL l, .str m] (VecR (l.filter (ofQ m))) := by
  refine okP ?_
  conv => whnf
  repeat ((first | with_reducible refine branch_true rfl ?_ | with_reducible refine branch_false rfl ?_); conv => whnf)
  refine loop_by (cx := cxP) rfl progOK (ι := FiHd (ofQ m) l) (fun x => l.length - x.i) (fun x => ⟨[(0, encL l), (1, .str m), (5, .own (.vec 5 x.len x.g)), (6, .int .i64 x.i)], [], [], none⟩) ?_ ⟨0, 0, _, Nat.zero_le _, paysAt_nil⟩
  rintro ⟨i, len, g, hi, hg⟩ ih
  have hlen := hg.1
  have hlen2 := List.length_filter_le (ofQ m) (l.take i)
  have hlen3 := List.length_take_le i l
  conv => whnf
  repeat ((first | with_reducible refine branch_true rfl ?_ | with_reducible refine branch_false rfl ?_); conv => whnf)
  refine branch_of (fun g1 => ?_) (fun g1 => ?_)
  · have g2 : i < l.length := by simpa using g1
    have hw : IntKind.i64.wrap ((i : Int) + 1) = ((i + 1 : Nat) : Int) := by rw [wrap64 (by omega)]; omega
    conv => whnf
    repeat ((first | with_reducible refine branch_true rfl ?_ | with_reducible refine branch_false rfl ?_); conv => whnf)
    refine st_addr (sz := 5) (len := l.length) (n := i) (u := 51) (g := fun i => encP (atP l i)) rfl rfl rfl rfl rfl (in_range g2) ?_
    conv => whnf
    repeat ((first | with_reducible refine branch_true rfl ?_ | with_reducible refine branch_false rfl ?_); conv => whnf)
    refine branch_of (fun g3 => ?_) (fun g3 => ?_)
    · have g3 : (atP l i).m = m := of_decide_eq_true g3
      conv => whnf
      repeat ((first | with_reducible refine branch_true rfl ?_ | with_reducible refine branch_false rfl ?_); conv => whnf)
      refine st_addr (sz := 5) (len := l.length) (n := i) (u := 51) (g := fun i => encP (atP l i)) rfl rfl rfl rfl rfl (in_range g2) ?_
      conv => whnf
      repeat ((first | with_reducible refine branch_true rfl ?_ | with_reducible refine branch_false rfl ?_); conv => whnf)
      refine st_append (sz := 5) (len := len) (g := g) (u := 51) (m := 1) (gg := vlist (zeroElem Try.prog 51) [encP (atP l i)]) rfl rfl rfl rfl rfl (room56 (by omega)) ?_
      conv => whnf
      repeat ((first | with_reducible refine branch_true rfl ?_ | with_reducible refine branch_false rfl ?_); conv => whnf)
      exact loop_to ih ⟨i + 1, len + 1, _, g2, by rw [filt_yes g2 (by simp [ofQ, g3])]; exact paysAt_app hg (paysAt_one rfl)⟩ (show l.length - (i + 1) < l.length - i by omega) (congrArg (fun q => St.mk [(0, encL l), (1, .str m), (5, .own (.vec 5 (len + 1) _)), (6, .int .i64 q)] [] [] none) hw)
    · have g3 : ¬ (atP l i).m = m := of_decide_eq_false g3
      conv => whnf
      repeat ((first | with_reducible refine branch_true rfl ?_ | with_reducible refine branch_false rfl ?_); conv => whnf)
      exact loop_to ih ⟨i + 1, len, g, g2, by rw [filt_no g2 (by simp [ofQ, g3])]; exact hg⟩ (show l.length - (i + 1) < l.length - i by omega) (congrArg (fun q => St.mk [(0, encL l), (1, .str m), (5, .own (.vec 5 len g)), (6, .int .i64 q)] [] [] none) hw)
  · have g2 : i = l.length := by simp at g1; omega
    subst g2
    rw [List.take_length] at hg
    conv => whnf
    repeat ((first | with_reducible refine branch_true rfl ?_ | with_reducible refine branch_false rfl ?_); conv => whnf)
    exact ⟨_, _, rfl, hg⟩
theorem neqP (a b : Py) : binAV Try.prog .neq 51 (encP a) (encP b) = some (.bool (!(decide (a.id = b.id) && (decide (a.m = b.m) && (decide (a.c = b.c) && (decide (a.n = b.n) && (decide (a.s = b.s) && true))))))) := by kernel_rfl
theorem neqP_same (a : Py) : binAV Try.prog .neq 51 (encP a) (encP a) = some (.bool false) := by rw [neqP]; simp
theorem same_self (l : List Py) (hl : l.length ≤ 100000) : CallOK Try.prog 13 [encL l, encL l] (fun r => r = .bool true) := by
  refine okP ?_
  conv => whnf
  repeat ((first | with_reducible refine branch_true rfl ?_ | with_reducible refine branch_false rfl ?_); conv => whnf)
  refine branch_false (by simp) ?_
  conv => whnf
  repeat ((first | with_reducible refine branch_true rfl ?_ | with_reducible refine branch_false rfl ?_); conv => whnf)
  refine loop_by (cx := cxP) rfl progOK (ι := {i : Nat // i ≤ l.length}) (fun x => l.length - x.1) (fun x => ⟨[(0, encL l), (1, encL l), (5, .int .i64 x.1)], [], [], none⟩) ?_ ⟨0, Nat.zero_le _⟩
  rintro ⟨i, hi⟩ ih
  conv => whnf
  repeat ((first | with_reducible refine branch_true rfl ?_ | with_reducible refine branch_false rfl ?_); conv => whnf)
  refine branch_of (fun g1 => ?_) (fun g1 => ?_)
  · have g2 : i < l.length := by simpa using g1
    have hw : IntKind.i64.wrap ((i : Int) + 1) = ((i + 1 : Nat) : Int) := by rw [wrap64 (by omega)]; omega
    conv => whnf
    repeat ((first | with_reducible refine branch_true rfl ?_ | with_reducible refine branch_false rfl ?_); conv => whnf)
    refine st_addr (sz := 5) (len := l.length) (n := i) (u := 51) (g := fun i => encP (atP l i)) rfl rfl rfl rfl rfl (in_range g2) ?_
    conv => whnf
    repeat ((first | with_reducible refine branch_true rfl ?_ | with_reducible refine branch_false rfl ?_); conv => whnf)
    refine st_addr (sz := 5) (len := l.length) (n := i) (u := 51) (g := fun i => encP (atP l i)) rfl rfl rfl rfl rfl (in_range g2) ?_
    conv => whnf
    repeat ((first | with_reducible refine branch_true rfl ?_ | with_reducible refine branch_false rfl ?_); conv => whnf)
    refine st_bin (a := encP (atP l i)) (b := encP (atP l i)) rfl rfl rfl (neqP_same (atP l i)) ?_
    conv => whnf
    repeat ((first | with_reducible refine branch_true rfl ?_ | with_reducible refine branch_false rfl ?_); conv => whnf)
    exact loop_to ih ⟨i + 1, g2⟩ (show l.length - (i + 1) < l.length - i by omega) (congrArg (fun q => St.mk [(0, encL l), (1, encL l), (5, .int .i64 q)] [] [] none) hw)
  · conv => whnf
    repeat ((first | with_reducible refine branch_true rfl ?_ | with_reducible refine branch_false rfl ?_); conv => whnf)
theorem same_at {l : List Py} {n n' : Nat} {g g' : Nat → AV} (h : PaysAt l n g) (h' : PaysAt l n' g') (hl : l.length ≤ 100000) : CallOK Try.prog 13 [.vec 5 n g, .vec 5 n' g'] (fun r => r = .bool true) :=
  ok_same (.cons (paysAt_same h) (.cons (paysAt_same h') .nil)) (same_self l hl)
end Go.Proofs

