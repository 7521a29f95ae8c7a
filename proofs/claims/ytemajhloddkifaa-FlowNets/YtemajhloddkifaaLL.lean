import Derived.Test.YtemajhloddkifaaLK
import Derived.Test.YtemajhloddkifaaMD
namespace Go.Proofs
open Ax Go
set_option maxRecDepth 10000
theorem isAll (f : Fl) : CallOK Try.prog 45 [encF f] (fun r => r = .bool true) := by
  refine okP ?_
  conv => whnf
  repeat ((first | with_reducible refine branch_true rfl ?_ | with_reducible refine branch_false rfl ?_); conv => whnf)
theorem isOf (f : Fl) (m : ByteArray) : CallOK Try.prog 47 [encF f, .cptr (.str m)] (fun r => r = .bool (decide (f.m = m))) := by
  refine okP ?_
  conv => whnf
  repeat ((first | with_reducible refine branch_true rfl ?_ | with_reducible refine branch_false rfl ?_); conv => whnf)
theorem summedAll (fl : Nat → Fl) (n : Nat) (c : Int) : CallOK Try.prog 44 [encL fl n, .int .i64 c, .fn 45 [] []] (fun r => r = pairV (totV true ByteArray.empty c fl n)) := by
  refine okP ?_
  conv => whnf
  repeat ((first | with_reducible refine branch_true rfl ?_ | with_reducible refine branch_false rfl ?_); conv => whnf)
  refine call_is (check fl n) ?_
  conv => whnf
  repeat ((first | with_reducible refine branch_true rfl ?_ | with_reducible refine branch_false rfl ?_); conv => whnf)
  refine branch_of (fun h1 => ?_) (fun h1 => ?_)
  · have h1 : checkE fl n ≠ 0 := by simpa using h1
    conv => whnf
    repeat ((first | with_reducible refine branch_true rfl ?_ | with_reducible refine branch_false rfl ?_); conv => whnf)
    rw [totV, if_pos h1]; rfl
  · have h1 : checkE fl n = 0 := by simpa using h1
    obtain ⟨hn, hall⟩ := check_ok h1
    have hf := sel_fits (p := selP true ByteArray.empty c) hall
    conv => whnf
    repeat ((first | with_reducible refine branch_true rfl ?_ | with_reducible refine branch_false rfl ?_); conv => whnf)
    refine call_is (v := .bool (curOK c)) (currency c) ?_
    conv => whnf
    repeat ((first | with_reducible refine branch_true rfl ?_ | with_reducible refine branch_false rfl ?_); conv => whnf)
    refine branch_of (fun h2 => ?_) (fun h2 => ?_)
    · have h2 : curOK c = false := by simpa using h2
      conv => whnf
      repeat ((first | with_reducible refine branch_true rfl ?_ | with_reducible refine branch_false rfl ?_); conv => whnf)
      rw [totV, if_neg (by simp [h1]), h2]; rfl
    · have h2 : curOK c = true := by simpa using h2
      conv => whnf
      repeat ((first | with_reducible refine branch_true rfl ?_ | with_reducible refine branch_false rfl ?_); conv => whnf)
      refine loop_by (cx := cxP) rfl progOK (ι := {x : Nat × Nat × (Nat → AV) // x.1 ≤ n ∧ x.2.1 = (sel (selP true ByteArray.empty c) fl x.1).length ∧ ∀ i, i < (sel (selP true ByteArray.empty c) fl x.1).length → x.2.2 i = .int .i64 ((sel (selP true ByteArray.empty c) fl x.1).getD i 0)}) (fun i => n - i.1.1) (fun x => ⟨[(1, .int .i64 c), (2, .fn 45 [] []), (8, .own (.vec 1 x.1.2.1 x.1.2.2)), (19, encL fl n), (20, .int .i64 n), (21, .int .i64 x.1.1)], [], [], none⟩) ?_ ⟨⟨0, 0, _⟩, Nat.zero_le _, rfl, fun j hj => absurd hj (by simp [sel])⟩
      rintro ⟨⟨i, len, g⟩, hi, hl, hj⟩ ih
      have hi : i ≤ n := hi
      have hl : len = (sel (selP true ByteArray.empty c) fl i).length := hl
      have hj : ∀ j, j < (sel (selP true ByteArray.empty c) fl i).length → g j = .int .i64 ((sel (selP true ByteArray.empty c) fl i).getD j 0) := hj
      have hlen := sel_len (selP true ByteArray.empty c) fl i
      conv => whnf
      repeat ((first | with_reducible refine branch_true rfl ?_ | with_reducible refine branch_false rfl ?_); conv => whnf)
      refine branch_of (fun g1 => ?_) (fun g1 => ?_)
      · have g2 : i < n := by simpa using g1
        have hw : IntKind.i64.wrap ((i : Int) + 1) = ((i + 1 : Nat) : Int) := by rw [wrap64 (by omega)]; omega
        have skip : selP true ByteArray.empty c (fl i) = false → ∀ K : St → Prop, (∀ j : {x : Nat × Nat × (Nat → AV) // x.1 ≤ n ∧ x.2.1 = (sel (selP true ByteArray.empty c) fl x.1).length ∧ ∀ i, i < (sel (selP true ByteArray.empty c) fl x.1).length → x.2.2 i = .int .i64 ((sel (selP true ByteArray.empty c) fl x.1).getD i 0)}, n - j.1.1 < n - i → K (St.mk [(1, .int .i64 c), (2, .fn 45 [] []), (8, .own (.vec 1 j.1.2.1 j.1.2.2)), (19, encL fl n), (20, .int .i64 n), (21, .int .i64 j.1.1)] [] [] none)) → K (St.mk [(1, .int .i64 c), (2, .fn 45 [] []), (8, .own (.vec 1 len g)), (19, encL fl n), (20, .int .i64 n), (21, .int .i64 (IntKind.i64.wrap ((i : Int) + 1)))] [] [] none) := by
          intro h K hK
          rw [hw]
          exact hK ⟨(i + 1, len, g), g2, by rw [sel_not h]; exact hl, by rw [sel_not h]; exact hj⟩ (show n - (i + 1) < n - i by omega)
        have take : selP true ByteArray.empty c (fl i) = true → ∀ K : St → Prop, (∀ j : {x : Nat × Nat × (Nat → AV) // x.1 ≤ n ∧ x.2.1 = (sel (selP true ByteArray.empty c) fl x.1).length ∧ ∀ i, i < (sel (selP true ByteArray.empty c) fl x.1).length → x.2.2 i = .int .i64 ((sel (selP true ByteArray.empty c) fl x.1).getD i 0)}, n - j.1.1 < n - i → K (St.mk [(1, .int .i64 c), (2, .fn 45 [] []), (8, .own (.vec 1 j.1.2.1 j.1.2.2)), (19, encL fl n), (20, .int .i64 n), (21, .int .i64 j.1.1)] [] [] none)) → K (St.mk [(1, .int .i64 c), (2, .fn 45 [] []), (8, .own (.vec 1 (len + 1) (vapp (zeroElem Try.prog 3) g len (vlist (zeroElem Try.prog 3) [.int .i64 (fl i).n]) 1))), (19, encL fl n), (20, .int .i64 n), (21, .int .i64 (IntKind.i64.wrap ((i : Int) + 1)))] [] [] none) := by
          intro h K hK
          rw [hw]
          exact hK ⟨(i + 1, len + 1, vapp (zeroElem Try.prog 3) g len (vlist (zeroElem Try.prog 3) [.int .i64 (fl i).n]) 1), g2, by rw [sel_at h, List.length_append]; show len + 1 = _; rw [hl]; rfl, by rw [sel_at h]; exact vapp_at (a := .undef) hj hl rfl⟩ (show n - (i + 1) < n - i by omega)
        conv => whnf
        repeat ((first | with_reducible refine branch_true rfl ?_ | with_reducible refine branch_false rfl ?_); conv => whnf)
        refine st_addr (sz := 4) (len := n) (n := i) (u := 34) (g := fun i => encF (fl i)) rfl rfl rfl rfl rfl (in_range g2) ?_
        conv => whnf
        repeat ((first | with_reducible refine branch_true rfl ?_ | with_reducible refine branch_false rfl ?_); conv => whnf)
        refine branch_of (fun g3 => ?_) (fun g3 => ?_)
        · have g3 : (fl i).c = c := of_decide_eq_true g3
          conv => whnf
          repeat ((first | with_reducible refine branch_true rfl ?_ | with_reducible refine branch_false rfl ?_); conv => whnf)
          refine call_is (isAll (fl i)) ?_
          conv => whnf
          repeat ((first | with_reducible refine branch_true rfl ?_ | with_reducible refine branch_false rfl ?_); conv => whnf)
          refine st_append (sz := 1) (len := len) (g := g) (u := 3) (m := 1) (gg := vlist (zeroElem Try.prog 3) [.int .i64 (fl i).n]) rfl rfl rfl rfl rfl (room8 (by omega)) ?_
          conv => whnf
          repeat ((first | with_reducible refine branch_true rfl ?_ | with_reducible refine branch_false rfl ?_); conv => whnf)
          exact take (by simp [selP, g3]) (fun s => SLoop _ _ _ _ _ _ s _) ih
        · have g3 : ¬ (fl i).c = c := of_decide_eq_false g3
          conv => whnf
          repeat ((first | with_reducible refine branch_true rfl ?_ | with_reducible refine branch_false rfl ?_); conv => whnf)
          exact skip (by simp [selP]; exact fun h => absurd h g3) (fun s => SLoop _ _ _ _ _ _ s _) ih
      · have g2 : i = n := by simp at g1; omega
        subst g2
        conv => whnf
        repeat ((first | with_reducible refine branch_true rfl ?_ | with_reducible refine branch_false rfl ?_); conv => whnf)
        have hS := ok_same (.cons (.vec (by rw [hl]; exact hj)) .nil) (centsSum (fun j => (sel (selP true ByteArray.empty c) fl i).getD j 0) len (by omega) (by rw [hl]; exact hf))
        have hT : sumZ (fun j => (sel (selP true ByteArray.empty c) fl i).getD j 0) len = tot (selP true ByteArray.empty c) fl i := by rw [hl]; rfl
        cases hfit : fitsI (tot (selP true ByteArray.empty c) fl i) with
        | true =>
          rw [hT, sumR, hfit] at hS
          refine call_is (v := .tup [.int .i64 (tot (selP true ByteArray.empty c) fl i), .int .i64 0]) hS ?_
          conv => whnf
          repeat ((first | with_reducible refine branch_true rfl ?_ | with_reducible refine branch_false rfl ?_); conv => whnf)
          rw [totV, if_neg (by simp [h1]), h2, hfit]; rfl
        | false =>
          rw [hT, sumR, hfit] at hS
          refine call_is (v := .tup [.int .i64 0, .int .i64 3]) hS ?_
          conv => whnf
          repeat ((first | with_reducible refine branch_true rfl ?_ | with_reducible refine branch_false rfl ?_); conv => whnf)
          rw [totV, if_neg (by simp [h1]), h2, hfit]; rfl
theorem summedOf (fl : Nat → Fl) (n : Nat) (m : ByteArray) (c : Int) : CallOK Try.prog 44 [encL fl n, .int .i64 c, .fn 47 [] [.cptr (.str m)]] (fun r => r = pairV (totV false m c fl n)) := by
  refine okP ?_
  conv => whnf
  repeat ((first | with_reducible refine branch_true rfl ?_ | with_reducible refine branch_false rfl ?_); conv => whnf)
  refine call_is (check fl n) ?_
  conv => whnf
  repeat ((first | with_reducible refine branch_true rfl ?_ | with_reducible refine branch_false rfl ?_); conv => whnf)
  refine branch_of (fun h1 => ?_) (fun h1 => ?_)
  · have h1 : checkE fl n ≠ 0 := by simpa using h1
    conv => whnf
    repeat ((first | with_reducible refine branch_true rfl ?_ | with_reducible refine branch_false rfl ?_); conv => whnf)
    rw [totV, if_pos h1]; rfl
  · have h1 : checkE fl n = 0 := by simpa using h1
    obtain ⟨hn, hall⟩ := check_ok h1
    have hf := sel_fits (p := selP false m c) hall
    conv => whnf
    repeat ((first | with_reducible refine branch_true rfl ?_ | with_reducible refine branch_false rfl ?_); conv => whnf)
    refine call_is (v := .bool (curOK c)) (currency c) ?_
    conv => whnf
    repeat ((first | with_reducible refine branch_true rfl ?_ | with_reducible refine branch_false rfl ?_); conv => whnf)
    refine branch_of (fun h2 => ?_) (fun h2 => ?_)
    · have h2 : curOK c = false := by simpa using h2
      conv => whnf
      repeat ((first | with_reducible refine branch_true rfl ?_ | with_reducible refine branch_false rfl ?_); conv => whnf)
      rw [totV, if_neg (by simp [h1]), h2]; rfl
    · have h2 : curOK c = true := by simpa using h2
      conv => whnf
      repeat ((first | with_reducible refine branch_true rfl ?_ | with_reducible refine branch_false rfl ?_); conv => whnf)
      refine loop_by (cx := cxP) rfl progOK (ι := {x : Nat × Nat × (Nat → AV) // x.1 ≤ n ∧ x.2.1 = (sel (selP false m c) fl x.1).length ∧ ∀ i, i < (sel (selP false m c) fl x.1).length → x.2.2 i = .int .i64 ((sel (selP false m c) fl x.1).getD i 0)}) (fun i => n - i.1.1) (fun x => ⟨[(1, .int .i64 c), (2, .fn 47 [] [.cptr (.str m)]), (8, .own (.vec 1 x.1.2.1 x.1.2.2)), (19, encL fl n), (20, .int .i64 n), (21, .int .i64 x.1.1)], [], [], none⟩) ?_ ⟨⟨0, 0, _⟩, Nat.zero_le _, rfl, fun j hj => absurd hj (by simp [sel])⟩
      rintro ⟨⟨i, len, g⟩, hi, hl, hj⟩ ih
      have hi : i ≤ n := hi
      have hl : len = (sel (selP false m c) fl i).length := hl
      have hj : ∀ j, j < (sel (selP false m c) fl i).length → g j = .int .i64 ((sel (selP false m c) fl i).getD j 0) := hj
      have hlen := sel_len (selP false m c) fl i
      conv => whnf
      repeat ((first | with_reducible refine branch_true rfl ?_ | with_reducible refine branch_false rfl ?_); conv => whnf)
      refine branch_of (fun g1 => ?_) (fun g1 => ?_)
      · have g2 : i < n := by simpa using g1
        have hw : IntKind.i64.wrap ((i : Int) + 1) = ((i + 1 : Nat) : Int) := by rw [wrap64 (by omega)]; omega
        have skip : selP false m c (fl i) = false → ∀ K : St → Prop, (∀ j : {x : Nat × Nat × (Nat → AV) // x.1 ≤ n ∧ x.2.1 = (sel (selP false m c) fl x.1).length ∧ ∀ i, i < (sel (selP false m c) fl x.1).length → x.2.2 i = .int .i64 ((sel (selP false m c) fl x.1).getD i 0)}, n - j.1.1 < n - i → K (St.mk [(1, .int .i64 c), (2, .fn 47 [] [.cptr (.str m)]), (8, .own (.vec 1 j.1.2.1 j.1.2.2)), (19, encL fl n), (20, .int .i64 n), (21, .int .i64 j.1.1)] [] [] none)) → K (St.mk [(1, .int .i64 c), (2, .fn 47 [] [.cptr (.str m)]), (8, .own (.vec 1 len g)), (19, encL fl n), (20, .int .i64 n), (21, .int .i64 (IntKind.i64.wrap ((i : Int) + 1)))] [] [] none) := by
          intro h K hK
          rw [hw]
          exact hK ⟨(i + 1, len, g), g2, by rw [sel_not h]; exact hl, by rw [sel_not h]; exact hj⟩ (show n - (i + 1) < n - i by omega)
        have take : selP false m c (fl i) = true → ∀ K : St → Prop, (∀ j : {x : Nat × Nat × (Nat → AV) // x.1 ≤ n ∧ x.2.1 = (sel (selP false m c) fl x.1).length ∧ ∀ i, i < (sel (selP false m c) fl x.1).length → x.2.2 i = .int .i64 ((sel (selP false m c) fl x.1).getD i 0)}, n - j.1.1 < n - i → K (St.mk [(1, .int .i64 c), (2, .fn 47 [] [.cptr (.str m)]), (8, .own (.vec 1 j.1.2.1 j.1.2.2)), (19, encL fl n), (20, .int .i64 n), (21, .int .i64 j.1.1)] [] [] none)) → K (St.mk [(1, .int .i64 c), (2, .fn 47 [] [.cptr (.str m)]), (8, .own (.vec 1 (len + 1) (vapp (zeroElem Try.prog 3) g len (vlist (zeroElem Try.prog 3) [.int .i64 (fl i).n]) 1))), (19, encL fl n), (20, .int .i64 n), (21, .int .i64 (IntKind.i64.wrap ((i : Int) + 1)))] [] [] none) := by
          intro h K hK
          rw [hw]
          exact hK ⟨(i + 1, len + 1, vapp (zeroElem Try.prog 3) g len (vlist (zeroElem Try.prog 3) [.int .i64 (fl i).n]) 1), g2, by rw [sel_at h, List.length_append]; show len + 1 = _; rw [hl]; rfl, by rw [sel_at h]; exact vapp_at (a := .undef) hj hl rfl⟩ (show n - (i + 1) < n - i by omega)
        conv => whnf
        repeat ((first | with_reducible refine branch_true rfl ?_ | with_reducible refine branch_false rfl ?_); conv => whnf)
        refine st_addr (sz := 4) (len := n) (n := i) (u := 34) (g := fun i => encF (fl i)) rfl rfl rfl rfl rfl (in_range g2) ?_
        conv => whnf
        repeat ((first | with_reducible refine branch_true rfl ?_ | with_reducible refine branch_false rfl ?_); conv => whnf)
        refine branch_of (fun g3 => ?_) (fun g3 => ?_)
        · have g3 : (fl i).c = c := of_decide_eq_true g3
          conv => whnf
          repeat ((first | with_reducible refine branch_true rfl ?_ | with_reducible refine branch_false rfl ?_); conv => whnf)
          refine call_is (isOf (fl i) m) ?_
          conv => whnf
          repeat ((first | with_reducible refine branch_true rfl ?_ | with_reducible refine branch_false rfl ?_); conv => whnf)
          refine branch_of (fun g4 => ?_) (fun g4 => ?_)
          · have g4 : (fl i).m = m := of_decide_eq_true g4
            conv => whnf
            repeat ((first | with_reducible refine branch_true rfl ?_ | with_reducible refine branch_false rfl ?_); conv => whnf)
            refine st_append (sz := 1) (len := len) (g := g) (u := 3) (m := 1) (gg := vlist (zeroElem Try.prog 3) [.int .i64 (fl i).n]) rfl rfl rfl rfl rfl (room8 (by omega)) ?_
            conv => whnf
            repeat ((first | with_reducible refine branch_true rfl ?_ | with_reducible refine branch_false rfl ?_); conv => whnf)
            exact take (by simp [selP, g3, g4]) (fun s => SLoop _ _ _ _ _ _ s _) ih
          · have g4 : ¬ (fl i).m = m := of_decide_eq_false g4
            conv => whnf
            repeat ((first | with_reducible refine branch_true rfl ?_ | with_reducible refine branch_false rfl ?_); conv => whnf)
            exact skip (by simp [selP, g3, g4]) (fun s => SLoop _ _ _ _ _ _ s _) ih
        · have g3 : ¬ (fl i).c = c := of_decide_eq_false g3
          conv => whnf
          repeat ((first | with_reducible refine branch_true rfl ?_ | with_reducible refine branch_false rfl ?_); conv => whnf)
          exact skip (by simp [selP]; exact fun h => absurd h g3) (fun s => SLoop _ _ _ _ _ _ s _) ih
      · have g2 : i = n := by simp at g1; omega
        subst g2
        conv => whnf
        repeat ((first | with_reducible refine branch_true rfl ?_ | with_reducible refine branch_false rfl ?_); conv => whnf)
        have hS := ok_same (.cons (.vec (by rw [hl]; exact hj)) .nil) (centsSum (fun j => (sel (selP false m c) fl i).getD j 0) len (by omega) (by rw [hl]; exact hf))
        have hT : sumZ (fun j => (sel (selP false m c) fl i).getD j 0) len = tot (selP false m c) fl i := by rw [hl]; rfl
        cases hfit : fitsI (tot (selP false m c) fl i) with
        | true =>
          rw [hT, sumR, hfit] at hS
          refine call_is (v := .tup [.int .i64 (tot (selP false m c) fl i), .int .i64 0]) hS ?_
          conv => whnf
          repeat ((first | with_reducible refine branch_true rfl ?_ | with_reducible refine branch_false rfl ?_); conv => whnf)
          rw [totV, if_neg (by simp [h1]), h2, hfit]; rfl
        | false =>
          rw [hT, sumR, hfit] at hS
          refine call_is (v := .tup [.int .i64 0, .int .i64 3]) hS ?_
          conv => whnf
          repeat ((first | with_reducible refine branch_true rfl ?_ | with_reducible refine branch_false rfl ?_); conv => whnf)
          rw [totV, if_neg (by simp [h1]), h2, hfit]; rfl
theorem flowSum (fl : Nat → Fl) (n : Nat) (c : Int) : CallOK Try.prog 18 [encL fl n, .int .i64 c] (fun r => r = pairV (totV true ByteArray.empty c fl n)) := by
  refine okP ?_
  conv => whnf
  repeat ((first | with_reducible refine branch_true rfl ?_ | with_reducible refine branch_false rfl ?_); conv => whnf)
  refine call_is (v := pairV (totV true ByteArray.empty c fl n)) (summedAll fl n c) ?_
  conv => whnf
  repeat ((first | with_reducible refine branch_true rfl ?_ | with_reducible refine branch_false rfl ?_); conv => whnf)
  rfl
theorem flowOf (fl : Nat → Fl) (n : Nat) (m : ByteArray) (c : Int) : CallOK Try.prog 20 [encL fl n, .str m, .int .i64 c] (fun r => r = pairV (totV false m c fl n)) := by
  refine okP ?_
  conv => whnf
  repeat ((first | with_reducible refine branch_true rfl ?_ | with_reducible refine branch_false rfl ?_); conv => whnf)
  refine call_is (v := pairV (totV false m c fl n)) (summedOf fl n m c) ?_
  conv => whnf
  repeat ((first | with_reducible refine branch_true rfl ?_ | with_reducible refine branch_false rfl ?_); conv => whnf)
  rfl
theorem flowZero (fl : Nat → Fl) (n : Nat) : CallOK Try.prog 22 [encL fl n] (fun r => r = .bool (zeroV fl n)) := by
  refine okP ?_
  conv => whnf
  repeat ((first | with_reducible refine branch_true rfl ?_ | with_reducible refine branch_false rfl ?_); conv => whnf)
  refine loop_by (cx := cxP) rfl progOK (ι := {c : Nat // c ≤ 8 ∧ ∀ j, j < c → (totV true ByteArray.empty (j : Int) fl n).2 = 0 ∧ (totV true ByteArray.empty (j : Int) fl n).1 = 0}) (fun i => 8 - i.1) (fun i => ⟨[(0, encL fl n), (6, .int .i64 i.1)], [], [], none⟩) ?_ ⟨0, by omega, fun j hj => absurd hj (by omega)⟩
  rintro ⟨c, hc, hj⟩ ih
  conv => whnf
  repeat ((first | with_reducible refine branch_true rfl ?_ | with_reducible refine branch_false rfl ?_); conv => whnf)
  refine branch_of (fun g1 => ?_) (fun g1 => ?_)
  · have g2 : c < 8 := by have := of_decide_eq_true g1; simp at this; omega
    have bad : ((totV true ByteArray.empty (c : Int) fl n).2 ≠ 0 ∨ (totV true ByteArray.empty (c : Int) fl n).1 ≠ 0) → AV.bool false = .bool (zeroV fl n) := fun h => by rw [zero_bad g2 h]
    conv => whnf
    repeat ((first | with_reducible refine branch_true rfl ?_ | with_reducible refine branch_false rfl ?_); conv => whnf)
    refine call_is (v := pairV (totV true ByteArray.empty (c : Int) fl n)) (flowSum fl n _) ?_
    conv => whnf
    repeat ((first | with_reducible refine branch_true rfl ?_ | with_reducible refine branch_false rfl ?_); conv => whnf)
    refine branch_of (fun g3 => ?_) (fun g3 => ?_)
    · have g3 : (totV true ByteArray.empty (c : Int) fl n).2 ≠ 0 := by simpa using g3
      conv => whnf
      repeat ((first | with_reducible refine branch_true rfl ?_ | with_reducible refine branch_false rfl ?_); conv => whnf)
      exact bad (.inl g3)
    · have g3 : (totV true ByteArray.empty (c : Int) fl n).2 = 0 := by simpa using g3
      conv => whnf
      repeat ((first | with_reducible refine branch_true rfl ?_ | with_reducible refine branch_false rfl ?_); conv => whnf)
      refine branch_of (fun g4 => ?_) (fun g4 => ?_)
      · have g4 : (totV true ByteArray.empty (c : Int) fl n).1 ≠ 0 := by simpa using g4
        conv => whnf
        repeat ((first | with_reducible refine branch_true rfl ?_ | with_reducible refine branch_false rfl ?_); conv => whnf)
        exact bad (.inr g4)
      · have g4 : (totV true ByteArray.empty (c : Int) fl n).1 = 0 := by simpa using g4
        have next : ∀ K : St → Prop, (∀ j : {c : Nat // c ≤ 8 ∧ ∀ j, j < c → (totV true ByteArray.empty (j : Int) fl n).2 = 0 ∧ (totV true ByteArray.empty (j : Int) fl n).1 = 0}, 8 - j.1 < 8 - c → K (St.mk [(0, encL fl n), (6, .int .i64 j.1)] [] [] none)) → K (St.mk [(0, encL fl n), (6, .int .i64 (IntKind.i64.wrap ((c : Int) + 1)))] [] [] none) := by
          intro K hK
          rw [wrap64 (by omega)]
          exact hK ⟨c + 1, g2, all_next hj ⟨g3, g4⟩⟩ (show 8 - (c + 1) < 8 - c by omega)
        conv => whnf
        repeat ((first | with_reducible refine branch_true rfl ?_ | with_reducible refine branch_false rfl ?_); conv => whnf)
        exact next (fun s => SLoop _ _ _ _ _ _ s _) ih
  · have g2 : c = 8 := by have := of_decide_eq_false g1; simp at this; omega
    subst g2
    conv => whnf
    repeat ((first | with_reducible refine branch_true rfl ?_ | with_reducible refine branch_false rfl ?_); conv => whnf)
    rw [zero_good hj]
end Go.Proofs


namespace Go.Proofs
open Ax Go
theorem typed_slice {P : Program} {d : Nat} {t e : TypeId} {es : List AV} (ht : P.underlying t = some (.slice e)) (h : Typed P (d + 1) t es) : ∃ n g, es = [.vec (P.cellsOf e) n g] ∧ n ≤ maxLen ∧ ∀ i, i < n → TypedAV P d e (g i) := by
  unfold Typed at h
  rw [ht] at h
  exact h
theorem typed_struct {P : Program} {d : Nat} {t : TypeId} {fs : Array Field} {es : List AV} (ht : P.underlying t = some (.struct fs)) (h : Typed P (d + 1) t es) : TypedL (Typed P d) fs.toList es := by
  unfold Typed at h
  rw [ht] at h
  exact h
theorem typed_int {P : Program} {d : Nat} {t : TypeId} {k : IntKind} {es : List AV} (ht : P.underlying t = some (.int k)) (h : Typed P (d + 1) t es) : ∃ n, es = [.int k n] ∧ (Lit.int k n).wf = true := by
  unfold Typed at h
  rw [ht] at h
  exact h
theorem typed_str {P : Program} {d : Nat} {t : TypeId} {es : List AV} (ht : P.underlying t = some .string) (h : Typed P (d + 1) t es) : ∃ s : ByteArray, es = [.str s] ∧ s.size ≤ maxLen := by
  unfold Typed at h
  rw [ht] at h
  exact h
theorem arg_int {d : Nat} {a : AV} (h : TypedAV Try.prog (d + 1) 3 a) : ∃ n, a = .int .i64 n ∧ (Lit.int .i64 n).wf = true := by
  obtain ⟨es, h1, h2, h3⟩ := h
  obtain ⟨n, rfl, hn⟩ := typed_int Try.underlying3 h3
  exact ⟨n, h1, hn⟩
theorem arg_str {d : Nat} {a : AV} (h : TypedAV Try.prog (d + 1) 9 a) : ∃ s : ByteArray, a = .str s ∧ s.size ≤ maxLen := by
  obtain ⟨es, h1, h2, h3⟩ := h
  obtain ⟨n, rfl, hn⟩ := typed_str Try.underlying9 h3
  exact ⟨n, h1, hn⟩
def wfI (n : Int) : Prop := (Lit.int .i64 n).wf = true
theorem arg_flow {d : Nat} {a : AV} (h : TypedAV Try.prog (d + 2) 34 a) : ∃ f : Fl, a = encF f ∧ f.m.size ≤ maxLen ∧ wfI f.c ∧ wfI f.n ∧ wfI f.w := by
  obtain ⟨es, h1, h2, h3⟩ := h
  obtain ⟨a0, r0, rfl, k0, a1, r1, rfl, k1, a2, r2, rfl, k2, a3, r3, rfl, k3, rfl⟩ := typed_struct Try.underlying34 h3
  obtain ⟨m, rfl, hm⟩ := typed_str Try.underlying9 k0
  obtain ⟨c, rfl, hc⟩ := typed_int Try.underlying3 k1
  obtain ⟨n, rfl, hn⟩ := typed_int Try.underlying3 k2
  obtain ⟨w, rfl, hw⟩ := typed_int Try.underlying3 k3
  exact ⟨⟨m, c, n, w⟩, h1, hm, hc, hn, hw⟩
def FlOK (fl : Nat → Fl) (n : Nat) : Prop := ∀ i, i < n → (fl i).m.size ≤ maxLen ∧ wfI (fl i).c ∧ wfI (fl i).n ∧ wfI (fl i).w
theorem arg_flows {d : Nat} {a : AV} (h : TypedAV Try.prog (d + 3) 22 a) : ∃ fl n, Same a (encL fl n) ∧ n ≤ maxLen ∧ FlOK fl n := by
  obtain ⟨es, h1, h2, h3⟩ := h
  obtain ⟨n, g, rfl, hn, hg⟩ := typed_slice Try.underlying22 h3
  have h1 : a = .vec 4 n g := h1
  have each : ∀ i, ∃ f : Fl, i < n → g i = encF f ∧ f.m.size ≤ maxLen ∧ wfI f.c ∧ wfI f.n ∧ wfI f.w := by
    intro i
    by_cases hi : i < n
    · obtain ⟨f, hf⟩ := arg_flow (hg i hi)
      exact ⟨f, fun _ => hf⟩
    · exact ⟨⟨ByteArray.empty, 0, 0, 0⟩, fun h => absurd h hi⟩
  obtain ⟨fl, hfl⟩ := Classical.axiomOfChoice each
  subst h1
  exact ⟨fl, n, .vec fun i hi => (hfl i hi).1, hn, fun i hi => (hfl i hi).2⟩
end Go.Proofs

