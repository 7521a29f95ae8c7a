import Derived.Test.YthjpknhibboboaaLN
set_option linter.unusedVariables false
namespace Go.Proofs
open Ax Go
set_option maxRecDepth 10000
theorem refMake (l : List Cl) (hs : Sized l) (m a : ByteArray) (hm : m.size ≤ big) (ha : a.size ≤ big) (n d : Int) : CallOK Try.prog 11 [encL l, .agg [.str m, .str a], .int .i64 n, .int .i64 d] (Res3 (makeS l m a n d)) := by
  refine okP ?_
  conv => whnf
  repeat ((first | with_reducible refine branch_true rfl ?_ | with_reducible refine branch_false rfl ?_); conv => whnf)
  refine call_is (refCheck l hs) ?_
  conv => whnf
  repeat ((first | with_reducible refine branch_true rfl ?_ | with_reducible refine branch_false rfl ?_); conv => whnf)
  refine branch_of (fun h1 => ?_) (fun h1 => ?_)
  · have h1 : checkL l ≠ 0 := by simpa using h1
    conv => whnf
    repeat ((first | with_reducible refine branch_true rfl ?_ | with_reducible refine branch_false rfl ?_); conv => whnf)
    exact res3_nil (by simp [makeS, h1])
  · have h1 : checkL l = 0 := by simpa using h1
    have hg := (check_good h1).1
    have hb := lastId_b h1
    have bad : ∀ e : Int, askE m a n 0 d = e → e ≠ 0 → makeS l m a n d = ([], 0, e) := fun e h he => by simp [makeS, h1, h, he]
    conv => whnf
    repeat ((first | with_reducible refine branch_true rfl ?_ | with_reducible refine branch_false rfl ?_); conv => whnf)
    refine call_is (named m a hm ha) ?_
    cases hn : (nameOK m && nameOK a) with
    | false =>
      conv => whnf
      repeat ((first | with_reducible refine branch_true rfl ?_ | with_reducible refine branch_false rfl ?_); conv => whnf)
      exact res3_nil (bad 10 (by simp only [askE, hn]; rfl) (by decide))
    | true =>
      conv => whnf
      repeat ((first | with_reducible refine branch_true rfl ?_ | with_reducible refine branch_false rfl ?_); conv => whnf)
      refine branch_of (fun g5 => ?_) (fun g5 => ?_)
      · have g5 : n < 1 := of_decide_eq_true g5
        conv => whnf
        repeat ((first | with_reducible refine branch_true rfl ?_ | with_reducible refine branch_false rfl ?_); conv => whnf)
        exact res3_nil (bad 2 (by simp only [askE, hn]; simp [show ¬ 1 ≤ n by omega]) (by decide))
      · have g5 : ¬ n < 1 := of_decide_eq_false g5
        conv => whnf
        repeat ((first | with_reducible refine branch_true rfl ?_ | with_reducible refine branch_false rfl ?_); conv => whnf)
        refine branch_of (fun g6 => ?_) (fun g6 => ?_)
        · have g6 : 1152921504606846976 < n := of_decide_eq_true g6
          conv => whnf
          repeat ((first | with_reducible refine branch_true rfl ?_ | with_reducible refine branch_false rfl ?_); conv => whnf)
          exact res3_nil (bad 2 (by simp only [askE, hn]; simp [show ¬ n ≤ 1152921504606846976 by omega]) (by decide))
        · have g6 : ¬ 1152921504606846976 < n := of_decide_eq_false g6
          have hd : askE m a n 0 d = bif dayOK d then 0 else 15 := by
            simp only [askE, hn]
            simp [show 1 ≤ n by omega, show n ≤ 1152921504606846976 by omega, show 0 ≤ n by omega]
          conv => whnf
          repeat ((first | with_reducible refine branch_true rfl ?_ | with_reducible refine branch_false rfl ?_); conv => whnf)
          refine branch_of (fun g7 => ?_) (fun g7 => ?_)
          · have g7 : d < 0 := of_decide_eq_true g7
            conv => whnf
            repeat ((first | with_reducible refine branch_true rfl ?_ | with_reducible refine branch_false rfl ?_); conv => whnf)
            exact res3_nil (bad 15 (by rw [hd]; simp [dayOK, show ¬ 0 ≤ d by omega]) (by decide))
          · have g7 : ¬ d < 0 := of_decide_eq_false g7
            conv => whnf
            repeat ((first | with_reducible refine branch_true rfl ?_ | with_reducible refine branch_false rfl ?_); conv => whnf)
            refine branch_of (fun g8 => ?_) (fun g8 => ?_)
            · have g8 : 73048 < d := of_decide_eq_true g8
              conv => whnf
              repeat ((first | with_reducible refine branch_true rfl ?_ | with_reducible refine branch_false rfl ?_); conv => whnf)
              exact res3_nil (bad 15 (by rw [hd]; simp [dayOK, show ¬ d ≤ 73048 by omega]) (by decide))
            · have g8 : ¬ 73048 < d := of_decide_eq_false g8
              have h2 : askE m a n 0 d = 0 := by rw [hd]; simp [dayOK, show 0 ≤ d by omega, show d ≤ 73048 by omega]
              have fin : ∀ z (g0 : Nat → AV) gg z', gg 0 = encC ⟨lastId l + 1, m, a, n, d, 0⟩ → l.length ≠ 1024 → lastId l ≠ 1152921504606846976 → Res3 (makeS l m a n d) (.tup [.vec 6 (0 + l.length + 1) (vapp z (vapp z' g0 0 (fun i => encC (atC l i)) l.length) (0 + l.length) gg 1), .int .i64 (lastId l + 1), .int .i64 0]) := fun z g0 gg z' k2 k3 k4 => by
                have : makeS l m a n d = (l ++ [⟨lastId l + 1, m, a, n, d, 0⟩], lastId l + 1, 0) := by simp [makeS, h1, h2, k3, k4]
                rw [this]
                have k0 : CallsAt l (0 + l.length) (vapp z' g0 0 (fun i => encC (atC l i)) l.length) := callsAt_app (z := z') (callsAt_nil (g := g0)) (callsAt_self l)
                exact ⟨_, _, rfl, callsAt_app k0 (callsAt_one k2)⟩
              conv => whnf
              repeat ((first | with_reducible refine branch_true rfl ?_ | with_reducible refine branch_false rfl ?_); conv => whnf)
              refine branch_of (fun h3 => ?_) (fun h3 => ?_)
              · have h3 : 0 < l.length := by have := of_decide_eq_true h3; omega
                have e : lastId l = (atC l (l.length - 1)).id := by rw [lastId, decide_eq_true h3]; rfl
                have hw : IntKind.i64.wrap ((l.length : Int) - 1) = ((l.length - 1 : Nat) : Int) := by rw [wrap64 (by omega)]; omega
                have hw2 : IntKind.i64.wrap ((atC l (l.length - 1)).id + 1) = lastId l + 1 := by rw [← e, wrap64 (by omega)]
                conv => whnf
                repeat ((first | with_reducible refine branch_true rfl ?_ | with_reducible refine branch_false rfl ?_); conv => whnf)
                refine st_addr_v (sz := 6) (len := l.length) (n := IntKind.i64.wrap ((l.length : Int) - 1)) (u := 59) (v := encC (atC l (l.length - 1))) rfl rfl rfl rfl rfl (by rw [hw]; exact in_range (by omega)) (by rw [hw]; rfl) ?_
                conv => whnf
                repeat ((first | with_reducible refine branch_true rfl ?_ | with_reducible refine branch_false rfl ?_); conv => whnf)
                refine branch_of (fun h4 => ?_) (fun h4 => ?_)
                · have h4 : l.length = 1024 := by have := of_decide_eq_true h4; omega
                  conv => whnf
                  repeat ((first | with_reducible refine branch_true rfl ?_ | with_reducible refine branch_false rfl ?_); conv => whnf)
                  exact res3_nil (by simp [makeS, h1, h2, h4])
                · have h4 : l.length ≠ 1024 := by have := of_decide_eq_false h4; omega
                  conv => whnf
                  repeat ((first | with_reducible refine branch_true rfl ?_ | with_reducible refine branch_false rfl ?_); conv => whnf)
                  refine branch_of (fun h5 => ?_) (fun h5 => ?_)
                  · have h5 : lastId l = 1152921504606846976 := by
                      have : 1152921504606846976 < IntKind.i64.wrap ((atC l (l.length - 1)).id + 1) := of_decide_eq_true h5
                      rw [hw2] at this; omega
                    conv => whnf
                    repeat ((first | with_reducible refine branch_true rfl ?_ | with_reducible refine branch_false rfl ?_); conv => whnf)
                    exact res3_nil (by simp [makeS, h1, h2, h5])
                  · have h5 : lastId l ≠ 1152921504606846976 := by
                      have : ¬ 1152921504606846976 < IntKind.i64.wrap ((atC l (l.length - 1)).id + 1) := of_decide_eq_false h5
                      rw [hw2] at this; omega
                    conv => whnf
                    repeat ((first | with_reducible refine branch_true rfl ?_ | with_reducible refine branch_false rfl ?_); conv => whnf)
                    refine st_append (sz := 6) (len := 0) (u := 59) (m := l.length) (gg := fun i => encC (atC l i)) rfl rfl rfl rfl rfl (room64 (by omega)) ?_
                    conv => whnf
                    repeat ((first | with_reducible refine branch_true rfl ?_ | with_reducible refine branch_false rfl ?_); conv => whnf)
                    refine st_append (sz := 6) (len := 0 + l.length) (u := 59) (m := 1) (gg := vlist (zeroElem Try.prog 59) [encC ⟨IntKind.i64.wrap ((atC l (l.length - 1)).id + 1), m, a, n, d, 0⟩]) rfl rfl rfl rfl rfl (room64 (by omega)) ?_
                    conv => whnf
                    repeat ((first | with_reducible refine branch_true rfl ?_ | with_reducible refine branch_false rfl ?_); conv => whnf)
                    rw [hw2]
                    exact fin _ _ _ _ rfl h4 h5
              · have h3 : l.length = 0 := by have := of_decide_eq_false h3; omega
                have e : lastId l = 0 := by rw [lastId, decide_eq_false (by omega)]; rfl
                conv => whnf
                repeat ((first | with_reducible refine branch_true rfl ?_ | with_reducible refine branch_false rfl ?_); conv => whnf)
                refine branch_of (fun h4 => ?_) (fun h4 => ?_)
                · have h4 : 1024 ≤ l.length := by have := of_decide_eq_true h4; omega
                  omega
                · conv => whnf
                  repeat ((first | with_reducible refine branch_true rfl ?_ | with_reducible refine branch_false rfl ?_); conv => whnf)
                  refine st_append (sz := 6) (len := 0) (u := 59) (m := l.length) (gg := fun i => encC (atC l i)) rfl rfl rfl rfl rfl (room64 (by omega)) ?_
                  conv => whnf
                  repeat ((first | with_reducible refine branch_true rfl ?_ | with_reducible refine branch_false rfl ?_); conv => whnf)
                  refine st_append (sz := 6) (len := 0 + l.length) (u := 59) (m := 1) (gg := vlist (zeroElem Try.prog 59) [encC ⟨1, m, a, n, d, 0⟩]) rfl rfl rfl rfl rfl (room64 (by omega)) ?_
                  conv => whnf
                  repeat ((first | with_reducible refine branch_true rfl ?_ | with_reducible refine branch_false rfl ?_); conv => whnf)
                  have := fin (zeroElem Try.prog 59) (zeroElem Try.prog 59 |> fun _ => fun _ => zeroElem Try.prog 59) (vlist (zeroElem Try.prog 59) [encC ⟨1, m, a, n, d, 0⟩]) (zeroElem Try.prog 59) (by rw [e]; rfl) (by omega) (by omega)
                  rw [e] at this
                  exact this
structure CpHd (l : List Cl) where
  i : Nat
  g : Nat → AV
  hi : i ≤ l.length
  hg : ∀ j, j < i → g j = encC (atC l j)
theorem toCalls (l : List Cl) (hl : l.length ≤ 100000) : CallOK Try.prog 10 [encL l] (fun r => ∃ len g, r = .vec 6 len g ∧ CallsAt l len g) := by
  refine okP ?_
  conv => whnf
  repeat ((first | with_reducible refine branch_true rfl ?_ | with_reducible refine branch_false rfl ?_); conv => whnf)
  refine loop_by (cx := cxP) rfl progOK (ι := CpHd l) (fun x => l.length - x.i) (fun x => ⟨[(0, encL l), (3, .own (.vec 6 x.i x.g)), (4, .int .i64 x.i)], [], [], none⟩) ?_ ⟨0, _, Nat.zero_le _, fun j hj => absurd hj (by omega)⟩
  rintro ⟨i, g, hi, hg⟩ ih
  conv => whnf
  repeat ((first | with_reducible refine branch_true rfl ?_ | with_reducible refine branch_false rfl ?_); conv => whnf)
  refine branch_of (fun g1 => ?_) (fun g1 => ?_)
  · have g2 : i < l.length := by simpa using g1
    have hw : IntKind.i64.wrap ((i : Int) + 1) = ((i + 1 : Nat) : Int) := by rw [wrap64 (by omega)]; omega
    conv => whnf
    repeat ((first | with_reducible refine branch_true rfl ?_ | with_reducible refine branch_false rfl ?_); conv => whnf)
    refine st_addr (sz := 6) (len := l.length) (n := i) (u := 59) (g := fun i => encC (atC l i)) rfl rfl rfl rfl rfl (in_range g2) ?_
    conv => whnf
    repeat ((first | with_reducible refine branch_true rfl ?_ | with_reducible refine branch_false rfl ?_); conv => whnf)
    refine st_append (sz := 6) (len := i) (g := g) (u := 52) (m := 1) (gg := vlist (zeroElem Try.prog 52) [encC (atC l i)]) rfl rfl rfl rfl rfl (room64 (by omega)) ?_
    conv => whnf
    repeat ((first | with_reducible refine branch_true rfl ?_ | with_reducible refine branch_false rfl ?_); conv => whnf)
    exact loop_to ih ⟨i + 1, _, g2, vapp_two (F := fun j => encC (atC l j)) (m := 1) hg (fun j hj => by have e : j = 0 := (by omega); subst e; rfl)⟩ (show l.length - (i + 1) < l.length - i by omega) (congrArg (fun q => St.mk [(0, encL l), (3, .own (.vec 6 (i + 1) _)), (4, .int .i64 q)] [] [] none) hw)
  · have g2 : i = l.length := by simp at g1; omega
    subst g2
    conv => whnf
    repeat ((first | with_reducible refine branch_true rfl ?_ | with_reducible refine branch_false rfl ?_); conv => whnf)
    exact ⟨_, g, rfl, rfl, hg⟩
theorem neqC (a b : Cl) : binAV Try.prog .neq 52 (encC a) (encC b) = some (.bool (!(decide (a.id = b.id) && ((decide (a.m = b.m) && (decide (a.a = b.a) && true)) && (decide (a.n = b.n) && (decide (a.d = b.d) && (decide (a.t = b.t) && true))))))) := by kernel_rfl
theorem neqC_same (a : Cl) : binAV Try.prog .neq 52 (encC a) (encC a) = some (.bool false) := by rw [neqC]; simp
theorem same_self (l : List Cl) (hl : l.length ≤ 100000) : CallOK Try.prog 12 [encL l, encL l] (fun r => r = .bool true) := by
  refine okP ?_
  conv => whnf
  repeat ((first | with_reducible refine branch_true rfl ?_ | with_reducible refine branch_false rfl ?_); conv => whnf)
  refine branch_false (by simp) ?_
  conv => whnf
  repeat ((first | with_reducible refine branch_true rfl ?_ | with_reducible refine branch_false rfl ?_); conv => whnf)
  refine loop_by (cx := cxP) rfl progOK (ι := {i : Nat // i ≤ l.length}) (fun x => l.length - x.1) (fun x => ⟨[(0, encL l), (1, encL l), (5, .int .i64 x.1)], [], [], none⟩) ?_ ⟨0, Nat.zero_le _⟩
  rintro ⟨i, hi⟩ ih
  conv => whnf
  repeat ((first | with_reducible refine branch_true rfl ?_ | with_reducible refine branch_false rfl ?_); conv => whnf)
  refine branch_of (fun g1 => ?_) (fun g1 => ?_)
  · have g2 : i < l.length := by simpa using g1
    have hw : IntKind.i64.wrap ((i : Int) + 1) = ((i + 1 : Nat) : Int) := by rw [wrap64 (by omega)]; omega
    conv => whnf
    repeat ((first | with_reducible refine branch_true rfl ?_ | with_reducible refine branch_false rfl ?_); conv => whnf)
    refine st_addr (sz := 6) (len := l.length) (n := i) (u := 52) (g := fun i => encC (atC l i)) rfl rfl rfl rfl rfl (in_range g2) ?_
    conv => whnf
    repeat ((first | with_reducible refine branch_true rfl ?_ | with_reducible refine branch_false rfl ?_); conv => whnf)
    refine st_addr (sz := 6) (len := l.length) (n := i) (u := 59) (g := fun i => encC (atC l i)) rfl rfl rfl rfl rfl (in_range g2) ?_
    conv => whnf
    repeat ((first | with_reducible refine branch_true rfl ?_ | with_reducible refine branch_false rfl ?_); conv => whnf)
    refine st_bin (a := encC (atC l i)) (b := encC (atC l i)) rfl rfl rfl (neqC_same (atC l i)) ?_
    conv => whnf
    repeat ((first | with_reducible refine branch_true rfl ?_ | with_reducible refine branch_false rfl ?_); conv => whnf)
    exact loop_to ih ⟨i + 1, g2⟩ (show l.length - (i + 1) < l.length - i by omega) (congrArg (fun q => St.mk [(0, encL l), (1, encL l), (5, .int .i64 q)] [] [] none) hw)
  · conv => whnf
    repeat ((first | with_reducible refine branch_true rfl ?_ | with_reducible refine branch_false rfl ?_); conv => whnf)
theorem same_at {l : List Cl} {n n' : Nat} {g g' : Nat → AV} (h : CallsAt l n g) (h' : CallsAt l n' g') (hl : l.length ≤ 100000) : CallOK Try.prog 12 [.vec 6 n g, .vec 6 n' g'] (fun r => r = .bool true) :=
  ok_same (.cons (callsAt_same h) (.cons (callsAt_same h') .nil)) (same_self l hl)
end Go.Proofs


set_option linter.unusedVariables false
namespace Go.Proofs
open Ax Go
set_option maxRecDepth 10000
theorem tparts (z : Int) : z.tdiv 1073741824 * 1073741824 + z.tmod 1073741824 = z ∧ -1073741824 < z.tmod 1073741824 ∧ z.tmod 1073741824 < 1073741824 := by
  by_cases h : z < 0
  · have e : z = -(-z) := by omega
    have h' : 0 ≤ -z := by omega
    rw [e, Int.neg_tdiv, Int.neg_tmod, Int.tdiv_eq_ediv_of_nonneg h', Int.tmod_eq_emod_of_nonneg h']
    omega
  · have h' : 0 ≤ z := by omega
    rw [Int.tdiv_eq_ediv_of_nonneg h', Int.tmod_eq_emod_of_nonneg h']
    omega
def highT (z : Nat → Int) : Nat → Int
  | 0 => 0
  | n + 1 => highT z n + (z n).tdiv 1073741824
def lowT (z : Nat → Int) : Nat → Int
  | 0 => 0
  | n + 1 => lowT z n + (z n).tmod 1073741824
theorem partsT (z : Nat → Int) (n : Nat) : sumZ z n = highT z n * 1073741824 + lowT z n := by
  induction n with
  | zero => rfl
  | succ n ih =>
    have := (tparts (z n)).1
    simp only [sumZ, highT, lowT]; omega
theorem highT_b (z : Nat → Int) (n : Nat) (h : ∀ i, i < n → -1152921504606846976 ≤ z i ∧ z i ≤ 1152921504606846976) : -1073741824 * (n : Int) ≤ highT z n ∧ highT z n ≤ 1073741824 * (n : Int) := by
  induction n with
  | zero => simp [highT]
  | succ n ih =>
    have h1 := ih fun i hi => h i (by omega)
    have h2 := h n (by omega)
    have := tparts (z n)
    simp only [highT]
    omega
theorem lowT_b (z : Nat → Int) (n : Nat) : -1073741823 * (n : Int) ≤ lowT z n ∧ lowT z n ≤ 1073741823 * (n : Int) := by
  induction n with
  | zero => simp [lowT]
  | succ n ih =>
    have := tparts (z n)
    simp only [lowT]; omega
theorem st4 {v : AV} {a a' b b' c c' : Int} (h1 : a = a') (h2 : b = b') (h3 : c = c') : St.mk [(0, v), (4, .int .i64 a), (5, .int .i64 b), (6, .int .i64 c)] [] [] none = St.mk [(0, v), (4, .int .i64 a'), (5, .int .i64 b'), (6, .int .i64 c')] [] [] none := by
  subst h1; subst h2; subst h3; rfl
theorem refSum (z : Nat → Int) (n : Nat) (hn : n ≤ 1024) (hz : ∀ i, i < n → fitsI (z i) = true) : CallOK Try.prog 33 [.vec 1 n fun i => .int .i64 (z i)] (fun r => r = sumR (sumZ z n)) := by
  have hzb : ∀ i, i < n → -1152921504606846976 ≤ z i ∧ z i ≤ 1152921504606846976 := fun i hi => fitsI_iff.1 (hz i hi)
  refine okP ?_
  conv => whnf
  repeat ((first | with_reducible refine branch_true rfl ?_ | with_reducible refine branch_false rfl ?_); conv => whnf)
  refine loop_by (cx := cxP) rfl progOK (ι := {i : Nat // i ≤ n}) (fun i => n - i.1) (fun i => ⟨[(0, .vec 1 n fun i => .int .i64 (z i)), (4, .int .i64 (highT z i.1)), (5, .int .i64 (lowT z i.1)), (6, .int .i64 i.1)], [], [], none⟩) ?_ ⟨0, Nat.zero_le _⟩
  rintro ⟨i, hi⟩ ih
  have hb1 := highT_b z i (fun j hj => hzb j (by omega))
  have hb2 := lowT_b z i
  conv => whnf
  repeat ((first | with_reducible refine branch_true rfl ?_ | with_reducible refine branch_false rfl ?_); conv => whnf)
  refine branch_of (fun g1 => ?_) (fun g1 => ?_)
  · have g2 : i < n := by simpa using g1
    have hw : IntKind.i64.wrap ((i : Int) + 1) = ((i + 1 : Nat) : Int) := by rw [wrap64 (by omega)]; omega
    have hzi := hzb i g2
    have ht := tparts (z i)
    have e1 : IntKind.i64.wrap (highT z i + IntKind.i64.wrap ((z i).tdiv 1073741824)) = highT z (i + 1) := by
      rw [wrap64 (x := (z i).tdiv 1073741824) (by omega), wrap64 (by omega)]; rfl
    have e2 : IntKind.i64.wrap (lowT z i + (z i).tmod 1073741824) = lowT z (i + 1) := by
      rw [wrap64 (by omega)]; rfl
    conv => whnf
    repeat ((first | with_reducible refine branch_true rfl ?_ | with_reducible refine branch_false rfl ?_); conv => whnf)
    refine st_addr (sz := 1) (len := n) (n := i) (u := 3) (g := fun i => .int .i64 (z i)) rfl rfl rfl rfl rfl (in_range g2) ?_
    conv => whnf
    repeat ((first | with_reducible refine branch_true rfl ?_ | with_reducible refine branch_false rfl ?_); conv => whnf)
    refine call_is (v := .bool (fitsI (z i))) (refFits _) ?_
    conv => whnf
    repeat ((first | with_reducible refine branch_true rfl ?_ | with_reducible refine branch_false rfl ?_); conv => whnf)
    refine branch_false (by rw [hz i g2]; rfl) ?_
    conv => whnf
    repeat ((first | with_reducible refine branch_true rfl ?_ | with_reducible refine branch_false rfl ?_); conv => whnf)
    refine st_addr (sz := 1) (len := n) (n := i) (u := 3) (g := fun i => .int .i64 (z i)) rfl rfl rfl rfl rfl (in_range g2) ?_
    conv => whnf
    repeat ((first | with_reducible refine branch_true rfl ?_ | with_reducible refine branch_false rfl ?_); conv => whnf)
    refine st_addr (sz := 1) (len := n) (n := i) (u := 3) (g := fun i => .int .i64 (z i)) rfl rfl rfl rfl rfl (in_range g2) ?_
    conv => whnf
    repeat ((first | with_reducible refine branch_true rfl ?_ | with_reducible refine branch_false rfl ?_); conv => whnf)
    exact loop_to ih ⟨i + 1, g2⟩ (show n - (i + 1) < n - i by omega) (st4 e1 e2 hw)
  · have g2 : i = n := by simp at g1; omega
    subst g2
    have hs := partsT z i
    have ht := tparts (lowT z i)
    have e1 : IntKind.i64.wrap (highT z i + IntKind.i64.wrap ((lowT z i).tdiv 1073741824)) = highT z i + (lowT z i).tdiv 1073741824 := by
      rw [wrap64 (x := (lowT z i).tdiv 1073741824) (by omega), wrap64 (by omega)]
    conv => whnf
    repeat ((first | with_reducible refine branch_true rfl ?_ | with_reducible refine branch_false rfl ?_); conv => whnf)
    refine branch_of (fun g3 => ?_) (fun g3 => ?_)
    · have g3 : highT z i + (lowT z i).tdiv 1073741824 < -1073741825 := by
        have := of_decide_eq_true g3
        rw [← e1]; exact this
      conv => whnf
      repeat ((first | with_reducible refine branch_true rfl ?_ | with_reducible refine branch_false rfl ?_); conv => whnf)
      have : fitsI (sumZ z i) = false := fitsI_not.2 (.inl (by omega))
      rw [sumR, this]; rfl
    · have g3 : ¬ highT z i + (lowT z i).tdiv 1073741824 < -1073741825 := by
        have := of_decide_eq_false g3
        rw [← e1]; exact this
      conv => whnf
      repeat ((first | with_reducible refine branch_true rfl ?_ | with_reducible refine branch_false rfl ?_); conv => whnf)
      refine branch_of (fun g4 => ?_) (fun g4 => ?_)
      · have g4 : 1073741825 < highT z i + (lowT z i).tdiv 1073741824 := by
          have : decide (1073741825 < IntKind.i64.wrap (highT z i + IntKind.i64.wrap ((lowT z i).tdiv 1073741824))) = true := g4
          rw [e1] at this
          exact of_decide_eq_true this
        conv => whnf
        repeat ((first | with_reducible refine branch_true rfl ?_ | with_reducible refine branch_false rfl ?_); conv => whnf)
        have : fitsI (sumZ z i) = false := fitsI_not.2 (.inr (by omega))
        rw [sumR, this]; rfl
      · have g4 : ¬ 1073741825 < highT z i + (lowT z i).tdiv 1073741824 := by
          have : decide (1073741825 < IntKind.i64.wrap (highT z i + IntKind.i64.wrap ((lowT z i).tdiv 1073741824))) = false := g4
          rw [e1] at this
          exact of_decide_eq_false this
        have e3 : IntKind.i64.wrap (IntKind.i64.wrap (IntKind.i64.wrap (highT z i + IntKind.i64.wrap ((lowT z i).tdiv 1073741824)) * 1073741824) + (lowT z i).tmod 1073741824) = sumZ z i := by
          rw [e1, wrap64 (x := _ * _) (by omega), wrap64 (by omega)]
          omega
        conv => whnf
        repeat ((first | with_reducible refine branch_true rfl ?_ | with_reducible refine branch_false rfl ?_); conv => whnf)
        have hc := refFits (sumZ z i)
        rw [← e3] at hc
        cases hf : fitsI (sumZ z i) with
        | false =>
          rw [e3, hf] at hc
          rw [← e3] at hc
          refine call_is (v := .bool false) hc ?_
          conv => whnf
          repeat ((first | with_reducible refine branch_true rfl ?_ | with_reducible refine branch_false rfl ?_); conv => whnf)
          rw [sumR, hf]; rfl
        | true =>
          rw [e3, hf] at hc
          rw [← e3] at hc
          refine call_is (v := .bool true) hc ?_
          conv => whnf
          repeat ((first | with_reducible refine branch_true rfl ?_ | with_reducible refine branch_false rfl ?_); conv => whnf)
          rw [e3, sumR, hf]; rfl
def mine (m a : ByteArray) (c : Cl) : Bool := decide (c.m = m) && decide (c.a = a)
def lack (c : Cl) : Int := c.n - c.t
def partsC (m a : ByteArray) (l : List Cl) : List Int := (l.filter (mine m a)).map lack
def totC (m a : ByteArray) (l : List Cl) : Int := sumZ (fun j => (partsC m a l).getD j 0) (partsC m a l).length
def openS (l : List Cl) (m a : ByteArray) : Int × Int :=
  bif decide (checkL l ≠ 0) then (0, checkL l) else bif fitsI (totC m a l) then (totC m a l, 0) else (0, 3)
theorem takeC {l : List Cl} {i : Nat} (h : i < l.length) : l.take (i + 1) = l.take i ++ [atC l i] := by
  rw [List.take_add_one, List.getElem?_eq_getElem h, atC, List.getD, List.getElem?_eq_getElem h]; rfl
theorem partsC_yes {m a : ByteArray} {l : List Cl} {i : Nat} (hi : i < l.length) (h : mine m a (atC l i) = true) : partsC m a (l.take (i + 1)) = partsC m a (l.take i) ++ [lack (atC l i)] := by
  rw [partsC, takeC hi, List.filter_append, List.map_append]; simp [h, partsC]
theorem partsC_no {m a : ByteArray} {l : List Cl} {i : Nat} (hi : i < l.length) (h : mine m a (atC l i) = false) : partsC m a (l.take (i + 1)) = partsC m a (l.take i) := by
  rw [partsC, takeC hi, List.filter_append, List.map_append]; simp [h, partsC]
theorem partsC_len (m a : ByteArray) (l : List Cl) : (partsC m a l).length ≤ l.length := by
  rw [partsC, List.length_map]; exact List.length_filter_le _ _
theorem ask_ok {m a : ByteArray} {n t d : Int} (h : askE m a n t d = 0) : nameOK m = true ∧ nameOK a = true ∧ 1 ≤ n ∧ n ≤ 1152921504606846976 ∧ 0 ≤ t ∧ t ≤ n ∧ dayOK d = true := by
  unfold askE at h
  cases h1 : nameOK m <;> cases h2 : nameOK a <;> simp [h1, h2] at h
  by_cases h3 : (((1 ≤ n ∧ n ≤ 1152921504606846976) ∧ 0 ≤ t) ∧ t ≤ n)
  · obtain ⟨⟨⟨k1, k2⟩, k3⟩, k4⟩ := h3
    simp [k1, k2, k3, k4] at h
    refine ⟨rfl, rfl, k1, k2, k3, k4, ?_⟩
    cases hd : dayOK d with
    | false => rw [hd] at h; simp at h
    | true => rfl
  · by_cases k1 : 1 ≤ n <;> by_cases k2 : n ≤ 1152921504606846976 <;> by_cases k3 : 0 ≤ t <;> by_cases k4 : t ≤ n <;> simp [k1, k2, k3, k4] at h h3
theorem good_at {l : List Cl} (h : checkL l = 0) {c : Cl} (hc : c ∈ l) : 1 ≤ c.n ∧ c.n ≤ 1152921504606846976 ∧ 0 ≤ c.t ∧ c.t ≤ c.n := by
  obtain ⟨_, _, h1, h2, h3, h4, _⟩ := ask_ok ((check_good h).2.1 c hc).2.2
  exact ⟨h1, h2, h3, h4⟩
theorem parts_fit {l : List Cl} (h : checkL l = 0) (m a : ByteArray) : ∀ i, i < (partsC m a l).length → fitsI ((partsC m a l).getD i 0) = true := by
  intro i hi
  rw [List.getD, List.getElem?_eq_getElem hi]
  have hm := List.getElem_mem hi
  obtain ⟨c, hc, e⟩ := List.mem_map.1 hm
  have := good_at h (List.mem_filter.1 hc).1
  show fitsI ((partsC m a l)[i]) = true
  rw [← e]
  exact fitsI_iff.2 (by unfold lack; omega)
theorem lacks (c : Cl) : CallOK Try.prog 26 [encC c] (fun r => r = .int .i64 (IntKind.i64.wrap (lack c))) := by
  refine okP ?_
  conv => whnf
  repeat ((first | with_reducible refine branch_true rfl ?_ | with_reducible refine branch_false rfl ?_); conv => whnf)
  rfl
def encA (m a : ByteArray) : AV := .agg [.str m, .str a]
theorem eqAcc (m a m' a' : ByteArray) : binAV Try.prog .eql 24 (encA m a) (encA m' a') = some (.bool (decide (m = m') && (decide (a = a') && true))) := by kernel_rfl
theorem mine_eq (m a : ByteArray) (c : Cl) : binAV Try.prog .eql 24 (encA c.m c.a) (encA m a) = some (.bool (mine m a c)) := by
  rw [eqAcc, mine]; simp
structure OpHd (l : List Cl) (m a : ByteArray) where
  i : Nat
  len : Nat
  g : Nat → AV
  hi : i ≤ l.length
  hl : len = (partsC m a (l.take i)).length
  hg : ∀ j, j < (partsC m a (l.take i)).length → g j = .int .i64 ((partsC m a (l.take i)).getD j 0)
theorem openC (l : List Cl) (m a : ByteArray) : CallOK Try.prog 17 [encL l, encA m a] (fun r => r = .tup [.int .i64 (openS l m a).1, .int .i64 (openS l m a).2]) := by
  refine okP ?_
  conv => whnf
  repeat ((first | with_reducible refine branch_true rfl ?_ | with_reducible refine branch_false rfl ?_); conv => whnf)
  refine call_is (check l) ?_
  conv => whnf
  repeat ((first | with_reducible refine branch_true rfl ?_ | with_reducible refine branch_false rfl ?_); conv => whnf)
  refine branch_of (fun h1 => ?_) (fun h1 => ?_)
  · have h1 : checkL l ≠ 0 := by simpa using h1
    conv => whnf
    repeat ((first | with_reducible refine branch_true rfl ?_ | with_reducible refine branch_false rfl ?_); conv => whnf)
    simp [openS, h1]
  · have h1 : checkL l = 0 := by simpa using h1
    have hn := (check_good h1).1
    conv => whnf
    repeat ((first | with_reducible refine branch_true rfl ?_ | with_reducible refine branch_false rfl ?_); conv => whnf)
    refine loop_by (cx := cxP) rfl progOK (ι := OpHd l m a) (fun x => l.length - x.i) (fun x => ⟨[(3, .ptr 0 0), (6, .own (.vec 1 x.len x.g)), (14, encL l), (15, .int .i64 l.length), (16, .int .i64 x.i)], [.cells [.str m, .str a]], [], none⟩) ?_ ⟨0, 0, _, Nat.zero_le _, rfl, fun j hj => absurd hj (by simp [partsC])⟩
    rintro ⟨i, len, g, hi, hl, hg⟩ ih
    have hpl := partsC_len m a (l.take i)
    have hpl2 := List.length_take_le i l
    conv => whnf
    repeat ((first | with_reducible refine branch_true rfl ?_ | with_reducible refine branch_false rfl ?_); conv => whnf)
    refine branch_of (fun g1 => ?_) (fun g1 => ?_)
    · have g2 : i < l.length := by simpa using g1
      have hw : IntKind.i64.wrap ((i : Int) + 1) = ((i + 1 : Nat) : Int) := by rw [wrap64 (by omega)]; omega
      have hgood := good_at h1 (atC_mem g2)
      conv => whnf
      repeat ((first | with_reducible refine branch_true rfl ?_ | with_reducible refine branch_false rfl ?_); conv => whnf)
      refine st_addr (sz := 6) (len := l.length) (n := i) (u := 52) (g := fun i => encC (atC l i)) rfl rfl rfl rfl rfl (in_range g2) ?_
      conv => whnf
      repeat ((first | with_reducible refine branch_true rfl ?_ | with_reducible refine branch_false rfl ?_); conv => whnf)
      refine st_bin (a := encA (atC l i).m (atC l i).a) (b := encA m a) rfl rfl rfl (mine_eq m a (atC l i)) ?_
      cases hm : mine m a (atC l i) with
      | true =>
        conv => whnf
        repeat ((first | with_reducible refine branch_true rfl ?_ | with_reducible refine branch_false rfl ?_); conv => whnf)
        refine call_is (lacks (atC l i)) ?_
        conv => whnf
        repeat ((first | with_reducible refine branch_true rfl ?_ | with_reducible refine branch_false rfl ?_); conv => whnf)
        refine st_append (sz := 1) (len := len) (g := g) (u := 3) (m := 1) (gg := vlist (zeroElem Try.prog 3) [.int .i64 (IntKind.i64.wrap (lack (atC l i)))]) rfl rfl rfl rfl rfl (room8 (by omega)) ?_
        conv => whnf
        repeat ((first | with_reducible refine branch_true rfl ?_ | with_reducible refine branch_false rfl ?_); conv => whnf)
        refine loop_to ih ⟨i + 1, len + 1, _, g2, by rw [partsC_yes g2 hm, List.length_append, hl]; rfl, by rw [partsC_yes g2 hm]; exact vapp_at (a := .undef) hg hl (by show AV.int .i64 (IntKind.i64.wrap (lack (atC l i))) = _; rw [wrap64 (by unfold lack; omega)])⟩ (show l.length - (i + 1) < l.length - i by omega) (congrArg (fun q => St.mk [(3, .ptr 0 0), (6, .own (.vec 1 (len + 1) _)), (14, encL l), (15, .int .i64 l.length), (16, .int .i64 q)] [.cells [.str m, .str a]] [] none) hw)
      | false =>
        conv => whnf
        repeat ((first | with_reducible refine branch_true rfl ?_ | with_reducible refine branch_false rfl ?_); conv => whnf)
        exact loop_to ih ⟨i + 1, len, g, g2, by rw [partsC_no g2 hm]; exact hl, by rw [partsC_no g2 hm]; exact hg⟩ (show l.length - (i + 1) < l.length - i by omega) (congrArg (fun q => St.mk [(3, .ptr 0 0), (6, .own (.vec 1 len g)), (14, encL l), (15, .int .i64 l.length), (16, .int .i64 q)] [.cells [.str m, .str a]] [] none) hw)
    · have g2 : i = l.length := by simp at g1; omega
      subst g2
      rw [List.take_length] at hl hg
      subst hl
      conv => whnf
      repeat ((first | with_reducible refine branch_true rfl ?_ | with_reducible refine branch_false rfl ?_); conv => whnf)
      have hS := ok_same (.cons (.vec hg) .nil) (centsSum (fun j => (partsC m a l).getD j 0) (partsC m a l).length (by rw [List.take_length] at hpl; omega) (parts_fit h1 m a))
      rw [show sumZ (fun j => (partsC m a l).getD j 0) (partsC m a l).length = totC m a l from rfl] at hS
      cases hf : fitsI (totC m a l) with
      | true =>
        rw [sumR, hf] at hS
        refine call_is (v := .tup [.int .i64 (totC m a l), .int .i64 0]) hS ?_
        conv => whnf
        repeat ((first | with_reducible refine branch_true rfl ?_ | with_reducible refine branch_false rfl ?_); conv => whnf)
        simp [openS, h1, hf]
      | false =>
        rw [sumR, hf] at hS
        refine call_is (v := .tup [.int .i64 0, .int .i64 3]) hS ?_
        conv => whnf
        repeat ((first | with_reducible refine branch_true rfl ?_ | with_reducible refine branch_false rfl ?_); conv => whnf)
        simp [openS, h1, hf]
end Go.Proofs


set_option linter.unusedVariables false
set_option linter.unusedSimpArgs false
namespace Go.Proofs
open Ax Go
set_option maxRecDepth 10000
def keepQ (f r : Nat) : Option (List Nat) := match f, r with
  | 18, 6 => some [0, 3, 7, 8]
  | 20, 8 => some [0, 1, 7, 8]
  | 22, 6 => some [0, 5, 6]
  | _, _ => none
def keepXQ (f r : Nat) : Option (List Nat) := match f, r with
  | 18, 6 => some [7]
  | 20, 8 => some [7]
  | 22, 6 => some [5]
  | _, _ => none
noncomputable def cxQ : Ctx where
  P := Try.prog
  inl := fun _ => false
  keep := keepQ
  keepX := keepXQ
  xf := fun _ _ _ => false
  ow := fun _ => false
  gh := fun _ _ => []
  gf := fun _ => []
  ln := fun _ => false
  srt := srtT
theorem okQ {f a Q} (h : stepCall (SX Try.prog yesCalm) cxQ yesCalm f a Q) : CallOK Try.prog f a Q := okOf (cx := cxQ) rfl progOK h
theorem refOpen (l : List Cl) (hs : Sized l) (m a : ByteArray) : CallOK Try.prog 18 [encL l, encA m a] (fun r => r = .tup [.int .i64 (openS l m a).1, .int .i64 (openS l m a).2]) := by
  refine okQ ?_
  conv => whnf
  repeat ((first | with_reducible refine branch_true rfl ?_ | with_reducible refine branch_false rfl ?_); conv => whnf)
  refine call_is (refCheck l hs) ?_
  conv => whnf
  repeat ((first | with_reducible refine branch_true rfl ?_ | with_reducible refine branch_false rfl ?_); conv => whnf)
  refine branch_of (fun h1 => ?_) (fun h1 => ?_)
  · have h1 : checkL l ≠ 0 := by simpa using h1
    conv => whnf
    repeat ((first | with_reducible refine branch_true rfl ?_ | with_reducible refine branch_false rfl ?_); conv => whnf)
    simp [openS, h1]
  · have h1 : checkL l = 0 := by simpa using h1
    have hn := (check_good h1).1
    conv => whnf
    repeat ((first | with_reducible refine branch_true rfl ?_ | with_reducible refine branch_false rfl ?_); conv => whnf)
    refine loop_by (cx := cxQ) rfl progOK (ι := OpHd l m a) (fun x => l.length - x.i) (fun x => ⟨[(0, encL l), (3, .ptr 0 0), (7, .own (.vec 1 x.len x.g)), (8, .int .i64 x.i)], [.cells [.str m, .str a]], [], none⟩) ?_ ⟨0, 0, _, Nat.zero_le _, rfl, fun j hj => absurd hj (by simp [partsC])⟩
    rintro ⟨i, len, g, hi, hl, hg⟩ ih
    have hpl := partsC_len m a (l.take i)
    have hpl2 := List.length_take_le i l
    conv => whnf
    repeat ((first | with_reducible refine branch_true rfl ?_ | with_reducible refine branch_false rfl ?_); conv => whnf)
    refine branch_of (fun g1 => ?_) (fun g1 => ?_)
    · have g2 : i < l.length := by simpa using g1
      have hw : IntKind.i64.wrap ((i : Int) + 1) = ((i + 1 : Nat) : Int) := by rw [wrap64 (by omega)]; omega
      have hgood := good_at h1 (atC_mem g2)
      conv => whnf
      repeat ((first | with_reducible refine branch_true rfl ?_ | with_reducible refine branch_false rfl ?_); conv => whnf)
      refine st_addr (sz := 6) (len := l.length) (n := i) (u := 59) (g := fun i => encC (atC l i)) rfl rfl rfl rfl rfl (in_range g2) ?_
      conv => whnf
      repeat ((first | with_reducible refine branch_true rfl ?_ | with_reducible refine branch_false rfl ?_); conv => whnf)
      refine st_bin (a := encA (atC l i).m (atC l i).a) (b := encA m a) rfl rfl rfl (mine_eq m a (atC l i)) ?_
      cases hm : mine m a (atC l i) with
      | true =>
        conv => whnf
        repeat ((first | with_reducible refine branch_true rfl ?_ | with_reducible refine branch_false rfl ?_); conv => whnf)
        refine st_addr (sz := 6) (len := l.length) (n := i) (u := 59) (g := fun i => encC (atC l i)) rfl rfl rfl rfl rfl (in_range g2) ?_
        conv => whnf
        repeat ((first | with_reducible refine branch_true rfl ?_ | with_reducible refine branch_false rfl ?_); conv => whnf)
        refine st_addr (sz := 6) (len := l.length) (n := i) (u := 59) (g := fun i => encC (atC l i)) rfl rfl rfl rfl rfl (in_range g2) ?_
        conv => whnf
        repeat ((first | with_reducible refine branch_true rfl ?_ | with_reducible refine branch_false rfl ?_); conv => whnf)
        refine st_append (sz := 1) (len := len) (g := g) (u := 3) (m := 1) (gg := vlist (zeroElem Try.prog 3) [.int .i64 (IntKind.i64.wrap (lack (atC l i)))]) rfl rfl rfl rfl rfl (room8 (by omega)) ?_
        conv => whnf
        repeat ((first | with_reducible refine branch_true rfl ?_ | with_reducible refine branch_false rfl ?_); conv => whnf)
        refine loop_to ih ⟨i + 1, len + 1, _, g2, by rw [partsC_yes g2 hm, List.length_append, hl]; rfl, by rw [partsC_yes g2 hm]; exact vapp_at (a := .undef) hg hl (by show AV.int .i64 (IntKind.i64.wrap (lack (atC l i))) = _; rw [wrap64 (by unfold lack; omega)])⟩ (show l.length - (i + 1) < l.length - i by omega) (congrArg (fun q => St.mk [(0, encL l), (3, .ptr 0 0), (7, .own (.vec 1 (len + 1) _)), (8, .int .i64 q)] [.cells [.str m, .str a]] [] none) hw)
      | false =>
        conv => whnf
        repeat ((first | with_reducible refine branch_true rfl ?_ | with_reducible refine branch_false rfl ?_); conv => whnf)
        exact loop_to ih ⟨i + 1, len, g, g2, by rw [partsC_no g2 hm]; exact hl, by rw [partsC_no g2 hm]; exact hg⟩ (show l.length - (i + 1) < l.length - i by omega) (congrArg (fun q => St.mk [(0, encL l), (3, .ptr 0 0), (7, .own (.vec 1 len g)), (8, .int .i64 q)] [.cells [.str m, .str a]] [] none) hw)
    · have g2 : i = l.length := by simp at g1; omega
      subst g2
      rw [List.take_length] at hl hg
      subst hl
      conv => whnf
      repeat ((first | with_reducible refine branch_true rfl ?_ | with_reducible refine branch_false rfl ?_); conv => whnf)
      have hS := ok_same (.cons (.vec hg) .nil) (refSum (fun j => (partsC m a l).getD j 0) (partsC m a l).length (by rw [List.take_length] at hpl; omega) (parts_fit h1 m a))
      rw [show sumZ (fun j => (partsC m a l).getD j 0) (partsC m a l).length = totC m a l from rfl] at hS
      cases hf : fitsI (totC m a l) with
      | true =>
        rw [sumR, hf] at hS
        refine call_is (v := .tup [.int .i64 (totC m a l), .int .i64 0]) hS ?_
        conv => whnf
        repeat ((first | with_reducible refine branch_true rfl ?_ | with_reducible refine branch_false rfl ?_); conv => whnf)
        simp [openS, h1, hf]
      | false =>
        rw [sumR, hf] at hS
        refine call_is (v := .tup [.int .i64 0, .int .i64 3]) hS ?_
        conv => whnf
        repeat ((first | with_reducible refine branch_true rfl ?_ | with_reducible refine branch_false rfl ?_); conv => whnf)
        simp [openS, h1, hf]
def cleanP (c : Cl) : Bool := decide (c.t < c.n)
def lateP (on : Int) (c : Cl) : Bool := decide (c.t < c.n) && decide (c.d < on)
def lateS (l : List Cl) (on : Int) : List Cl × Int := bif decide (checkL l ≠ 0) then ([], checkL l) else bif dayOK on then (l.filter (lateP on), 0) else ([], 15)
def cleanS (l : List Cl) : List Cl × Int := bif decide (checkL l ≠ 0) then ([], checkL l) else (l.filter cleanP, 0)
/-- Two answers, the first a list. -/
def Res2 (p : List Cl × Int) (r : AV) : Prop := ∃ len g, r = .tup [.vec 6 len g, .int .i64 p.2] ∧ CallsAt p.1 len g
theorem res2_nil {p : List Cl × Int} {e : Int} {g : Nat → AV} (h : p = ([], e)) : Res2 p (.tup [.vec 6 0 g, .int .i64 e]) := by
  subst h; exact ⟨0, g, rfl, callsAt_nil⟩
theorem res2_of {p : List Cl × Int} {L : List Cl} {e : Int} {len : Nat} {g : Nat → AV} (h : p = (L, e)) (hg : CallsAt L len g) : Res2 p (.tup [.vec 6 len g, .int .i64 e]) := by
  subst h; exact ⟨len, g, rfl, hg⟩
theorem filt_yes {p : Cl → Bool} {l : List Cl} {i : Nat} (hi : i < l.length) (h : p (atC l i) = true) : (l.take (i + 1)).filter p = (l.take i).filter p ++ [atC l i] := by
  rw [takeC hi, List.filter_append]; simp [h]
theorem filt_no {p : Cl → Bool} {l : List Cl} {i : Nat} (hi : i < l.length) (h : p (atC l i) = false) : (l.take (i + 1)).filter p = (l.take i).filter p := by
  rw [takeC hi, List.filter_append]; simp [h]
structure FiHd (p : Cl → Bool) (l : List Cl) where
  i : Nat
  len : Nat
  g : Nat → AV
  hi : i ≤ l.length
  hg : CallsAt ((l.take i).filter p) len g
theorem refLate (l : List Cl) (hs : Sized l) (on : Int) : CallOK Try.prog 20 [encL l, .int .i64 on] (Res2 (lateS l on)) := by
  refine okQ ?_
  conv => whnf
  repeat ((first | with_reducible refine branch_true rfl ?_ | with_reducible refine branch_false rfl ?_); conv => whnf)
  refine call_is (refCheck l hs) ?_
  conv => whnf
  repeat ((first | with_reducible refine branch_true rfl ?_ | with_reducible refine branch_false rfl ?_); conv => whnf)
  refine branch_of (fun h1 => ?_) (fun h1 => ?_)
  · have h1 : checkL l ≠ 0 := by simpa using h1
    conv => whnf
    repeat ((first | with_reducible refine branch_true rfl ?_ | with_reducible refine branch_false rfl ?_); conv => whnf)
    exact res2_nil (by simp [lateS, h1])
  · have h1 : checkL l = 0 := by simpa using h1
    have hn := (check_good h1).1
    conv => whnf
    repeat ((first | with_reducible refine branch_true rfl ?_ | with_reducible refine branch_false rfl ?_); conv => whnf)
    refine branch_of (fun k1 => ?_) (fun k1 => ?_)
    · have k1 : on < 0 := of_decide_eq_true k1
      conv => whnf
      repeat ((first | with_reducible refine branch_true rfl ?_ | with_reducible refine branch_false rfl ?_); conv => whnf)
      exact res2_nil (by simp [lateS, h1, dayOK, show ¬ 0 ≤ on by omega])
    · have k1 : ¬ on < 0 := of_decide_eq_false k1
      conv => whnf
      repeat ((first | with_reducible refine branch_true rfl ?_ | with_reducible refine branch_false rfl ?_); conv => whnf)
      refine branch_of (fun k2 => ?_) (fun k2 => ?_)
      · have k2 : 73048 < on := of_decide_eq_true k2
        conv => whnf
        repeat ((first | with_reducible refine branch_true rfl ?_ | with_reducible refine branch_false rfl ?_); conv => whnf)
        exact res2_nil (by simp [lateS, h1, dayOK, show ¬ on ≤ 73048 by omega])
      · have k2 : ¬ 73048 < on := of_decide_eq_false k2
        have h2 : dayOK on = true := by simp [dayOK]; omega
        conv => whnf
        repeat ((first | with_reducible refine branch_true rfl ?_ | with_reducible refine branch_false rfl ?_); conv => whnf)
        refine loop_by (cx := cxQ) rfl progOK (ι := FiHd (lateP on) l) (fun x => l.length - x.i) (fun x => ⟨[(0, encL l), (1, .int .i64 on), (7, .own (.vec 6 x.len x.g)), (8, .int .i64 x.i)], [], [], none⟩) ?_ ⟨0, 0, _, Nat.zero_le _, callsAt_nil⟩
        rintro ⟨i, len, g, hi, hg⟩ ih
        have hlen := hg.1
        have hlen2 := List.length_filter_le (lateP on) (l.take i)
        have hlen3 := List.length_take_le i l
        conv => whnf
        repeat ((first | with_reducible refine branch_true rfl ?_ | with_reducible refine branch_false rfl ?_); conv => whnf)
        refine branch_of (fun g1 => ?_) (fun g1 => ?_)
        · have g2 : i < l.length := by simpa using g1
          have hw : IntKind.i64.wrap ((i : Int) + 1) = ((i + 1 : Nat) : Int) := by rw [wrap64 (by omega)]; omega
          have yes : (lateP on) (atC l i) = true → ∀ K : St → Prop, (∀ j : FiHd (lateP on) l, l.length - j.i < l.length - i → K (St.mk [(0, encL l), (1, .int .i64 on), (7, .own (.vec 6 j.len j.g)), (8, .int .i64 j.i)] [] [] none)) → K (St.mk [(0, encL l), (1, .int .i64 on), (7, .own (.vec 6 (len + 1) (vapp (zeroElem Try.prog 59) g len (vlist (zeroElem Try.prog 59) [encC (atC l i)]) 1))), (8, .int .i64 (IntKind.i64.wrap ((i : Int) + 1)))] [] [] none) := by
            intro h K hK
            rw [hw]
            exact hK ⟨i + 1, len + 1, _, g2, by rw [filt_yes g2 h]; exact callsAt_app hg (callsAt_one rfl)⟩ (show l.length - (i + 1) < l.length - i by omega)
          have no : (lateP on) (atC l i) = false → ∀ K : St → Prop, (∀ j : FiHd (lateP on) l, l.length - j.i < l.length - i → K (St.mk [(0, encL l), (1, .int .i64 on), (7, .own (.vec 6 j.len j.g)), (8, .int .i64 j.i)] [] [] none)) → K (St.mk [(0, encL l), (1, .int .i64 on), (7, .own (.vec 6 len g)), (8, .int .i64 (IntKind.i64.wrap ((i : Int) + 1)))] [] [] none) := by
            intro h K hK
            rw [hw]
            exact hK ⟨i + 1, len, g, g2, by rw [filt_no g2 h]; exact hg⟩ (show l.length - (i + 1) < l.length - i by omega)
          conv => whnf
          repeat ((first | with_reducible refine branch_true rfl ?_ | with_reducible refine branch_false rfl ?_); conv => whnf)
          refine st_addr (sz := 6) (len := l.length) (n := i) (u := 59) (g := fun i => encC (atC l i)) rfl rfl rfl rfl rfl (in_range g2) ?_
          conv => whnf
          repeat ((first | with_reducible refine branch_true rfl ?_ | with_reducible refine branch_false rfl ?_); conv => whnf)
          refine st_addr (sz := 6) (len := l.length) (n := i) (u := 59) (g := fun i => encC (atC l i)) rfl rfl rfl rfl rfl (in_range g2) ?_
          conv => whnf
          repeat ((first | with_reducible refine branch_true rfl ?_ | with_reducible refine branch_false rfl ?_); conv => whnf)
          refine branch_of (fun g3 => ?_) (fun g3 => ?_)
          · have g3 : (atC l i).t < (atC l i).n := of_decide_eq_true g3
            conv => whnf
            repeat ((first | with_reducible refine branch_true rfl ?_ | with_reducible refine branch_false rfl ?_); conv => whnf)
            refine st_addr (sz := 6) (len := l.length) (n := i) (u := 59) (g := fun i => encC (atC l i)) rfl rfl rfl rfl rfl (in_range g2) ?_
            conv => whnf
            repeat ((first | with_reducible refine branch_true rfl ?_ | with_reducible refine branch_false rfl ?_); conv => whnf)
            refine branch_of (fun g4 => ?_) (fun g4 => ?_)
            · have g4 : (atC l i).d < on := of_decide_eq_true g4
              conv => whnf
              repeat ((first | with_reducible refine branch_true rfl ?_ | with_reducible refine branch_false rfl ?_); conv => whnf)
              refine st_addr (sz := 6) (len := l.length) (n := i) (u := 59) (g := fun i => encC (atC l i)) rfl rfl rfl rfl rfl (in_range g2) ?_
              conv => whnf
              repeat ((first | with_reducible refine branch_true rfl ?_ | with_reducible refine branch_false rfl ?_); conv => whnf)
              refine st_append (sz := 6) (len := len) (g := g) (u := 59) (m := 1) (gg := vlist (zeroElem Try.prog 59) [encC (atC l i)]) rfl rfl rfl rfl rfl (room64 (by omega)) ?_
              conv => whnf
              repeat ((first | with_reducible refine branch_true rfl ?_ | with_reducible refine branch_false rfl ?_); conv => whnf)
              exact yes (by simp [lateP, cleanP, g3, g4]) (fun s => SLoop _ _ _ _ _ _ s _) ih
            · have g4 : ¬ (atC l i).d < on := of_decide_eq_false g4
              conv => whnf
              repeat ((first | with_reducible refine branch_true rfl ?_ | with_reducible refine branch_false rfl ?_); conv => whnf)
              exact no (by simp [lateP, g3, g4]) (fun s => SLoop _ _ _ _ _ _ s _) ih
          · have g3 : ¬ (atC l i).t < (atC l i).n := of_decide_eq_false g3
            conv => whnf
            repeat ((first | with_reducible refine branch_true rfl ?_ | with_reducible refine branch_false rfl ?_); conv => whnf)
            exact no (by simp [lateP, cleanP, g3]) (fun s => SLoop _ _ _ _ _ _ s _) ih
        · have g2 : i = l.length := by simp at g1; omega
          subst g2
          rw [List.take_length] at hg
          conv => whnf
          repeat ((first | with_reducible refine branch_true rfl ?_ | with_reducible refine branch_false rfl ?_); conv => whnf)
          exact res2_of (by simp [lateS, cleanS, h1, h2]) hg
theorem refClean (l : List Cl) (hs : Sized l) : CallOK Try.prog 22 [encL l] (Res2 (cleanS l)) := by
  refine okQ ?_
  conv => whnf
  repeat ((first | with_reducible refine branch_true rfl ?_ | with_reducible refine branch_false rfl ?_); conv => whnf)
  refine call_is (refCheck l hs) ?_
  conv => whnf
  repeat ((first | with_reducible refine branch_true rfl ?_ | with_reducible refine branch_false rfl ?_); conv => whnf)
  refine branch_of (fun h1 => ?_) (fun h1 => ?_)
  · have h1 : checkL l ≠ 0 := by simpa using h1
    conv => whnf
    repeat ((first | with_reducible refine branch_true rfl ?_ | with_reducible refine branch_false rfl ?_); conv => whnf)
    exact res2_nil (by simp [cleanS, h1])
  · have h1 : checkL l = 0 := by simpa using h1
    have hn := (check_good h1).1
    have h2 : True := trivial
    have g4 : True := trivial
    conv => whnf
    repeat ((first | with_reducible refine branch_true rfl ?_ | with_reducible refine branch_false rfl ?_); conv => whnf)
    refine loop_by (cx := cxQ) rfl progOK (ι := FiHd cleanP l) (fun x => l.length - x.i) (fun x => ⟨[(0, encL l), (5, .own (.vec 6 x.len x.g)), (6, .int .i64 x.i)], [], [], none⟩) ?_ ⟨0, 0, _, Nat.zero_le _, callsAt_nil⟩
    rintro ⟨i, len, g, hi, hg⟩ ih
    have hlen := hg.1
    have hlen2 := List.length_filter_le cleanP (l.take i)
    have hlen3 := List.length_take_le i l
    conv => whnf
    repeat ((first | with_reducible refine branch_true rfl ?_ | with_reducible refine branch_false rfl ?_); conv => whnf)
    refine branch_of (fun g1 => ?_) (fun g1 => ?_)
    · have g2 : i < l.length := by simpa using g1
      have hw : IntKind.i64.wrap ((i : Int) + 1) = ((i + 1 : Nat) : Int) := by rw [wrap64 (by omega)]; omega
      have yes : cleanP (atC l i) = true → ∀ K : St → Prop, (∀ j : FiHd cleanP l, l.length - j.i < l.length - i → K (St.mk [(0, encL l), (5, .own (.vec 6 j.len j.g)), (6, .int .i64 j.i)] [] [] none)) → K (St.mk [(0, encL l), (5, .own (.vec 6 (len + 1) (vapp (zeroElem Try.prog 59) g len (vlist (zeroElem Try.prog 59) [encC (atC l i)]) 1))), (6, .int .i64 (IntKind.i64.wrap ((i : Int) + 1)))] [] [] none) := by
        intro h K hK
        rw [hw]
        exact hK ⟨i + 1, len + 1, _, g2, by rw [filt_yes g2 h]; exact callsAt_app hg (callsAt_one rfl)⟩ (show l.length - (i + 1) < l.length - i by omega)
      have no : cleanP (atC l i) = false → ∀ K : St → Prop, (∀ j : FiHd cleanP l, l.length - j.i < l.length - i → K (St.mk [(0, encL l), (5, .own (.vec 6 j.len j.g)), (6, .int .i64 j.i)] [] [] none)) → K (St.mk [(0, encL l), (5, .own (.vec 6 len g)), (6, .int .i64 (IntKind.i64.wrap ((i : Int) + 1)))] [] [] none) := by
        intro h K hK
        rw [hw]
        exact hK ⟨i + 1, len, g, g2, by rw [filt_no g2 h]; exact hg⟩ (show l.length - (i + 1) < l.length - i by omega)
      conv => whnf
      repeat ((first | with_reducible refine branch_true rfl ?_ | with_reducible refine branch_false rfl ?_); conv => whnf)
      refine st_addr (sz := 6) (len := l.length) (n := i) (u := 59) (g := fun i => encC (atC l i)) rfl rfl rfl rfl rfl (in_range g2) ?_
      conv => whnf
      repeat ((first | with_reducible refine branch_true rfl ?_ | with_reducible refine branch_false rfl ?_); conv => whnf)
      refine st_addr (sz := 6) (len := l.length) (n := i) (u := 59) (g := fun i => encC (atC l i)) rfl rfl rfl rfl rfl (in_range g2) ?_
      conv => whnf
      repeat ((first | with_reducible refine branch_true rfl ?_ | with_reducible refine branch_false rfl ?_); conv => whnf)
      refine branch_of (fun g3 => ?_) (fun g3 => ?_)
      · have g3 : (atC l i).t < (atC l i).n := of_decide_eq_true g3
        conv => whnf
        repeat ((first | with_reducible refine branch_true rfl ?_ | with_reducible refine branch_false rfl ?_); conv => whnf)
        refine st_addr (sz := 6) (len := l.length) (n := i) (u := 59) (g := fun i => encC (atC l i)) rfl rfl rfl rfl rfl (in_range g2) ?_
        conv => whnf
        repeat ((first | with_reducible refine branch_true rfl ?_ | with_reducible refine branch_false rfl ?_); conv => whnf)
        refine st_append (sz := 6) (len := len) (g := g) (u := 59) (m := 1) (gg := vlist (zeroElem Try.prog 59) [encC (atC l i)]) rfl rfl rfl rfl rfl (room64 (by omega)) ?_
        conv => whnf
        repeat ((first | with_reducible refine branch_true rfl ?_ | with_reducible refine branch_false rfl ?_); conv => whnf)
        exact yes (by simp [lateP, cleanP, g3, g4]) (fun s => SLoop _ _ _ _ _ _ s _) ih
      · have g3 : ¬ (atC l i).t < (atC l i).n := of_decide_eq_false g3
        conv => whnf
        repeat ((first | with_reducible refine branch_true rfl ?_ | with_reducible refine branch_false rfl ?_); conv => whnf)
        exact no (by simp [lateP, cleanP, g3]) (fun s => SLoop _ _ _ _ _ _ s _) ih
    · have g2 : i = l.length := by simp at g1; omega
      subst g2
      rw [List.take_length] at hg
      conv => whnf
      repeat ((first | with_reducible refine branch_true rfl ?_ | with_reducible refine branch_false rfl ?_); conv => whnf)
      exact res2_of (by simp [lateS, cleanS, h1, h2]) hg
end Go.Proofs

