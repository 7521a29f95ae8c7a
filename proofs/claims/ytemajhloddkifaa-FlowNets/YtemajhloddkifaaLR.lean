import Derived.Test.YtemajhloddkifaaLQ
set_option linter.unusedVariables false
namespace Go.Proofs
open Ax Go
set_option maxRecDepth 10000
def keepQ (f r : Nat) : Option (List Nat) := match f, r with
  | 25, 2 => some [2, 3, 6, 7, 8]
  | 26, 2 => some [1, 4, 7, 8, 9]
  | 27, 3 => some [0, 1, 5, 6]
  | 28, 3 => some [0, 3, 4]
  | 29, 3 => some [0, 1, 5, 6]
  | 36, 3 => some [0, 4, 5]
  | 36, 5 => some [0, 4, 5, 6]
  | 36, 12 => some [0, 4, 5, 6, 7, 8]
  | 36, 16 => some [0, 4, 5, 6, 7, 9]
  | 12, 7 => some [0, 5, 6, 7]
  | 12, 9 => some [0, 5, 6, 7, 8]
  | _, _ => none
def keepXQ (f r : Nat) : Option (List Nat) := match f, r with
  | 25, 2 => some [2, 3]
  | 26, 2 => some [4]
  | 27, 3 => some [5]
  | 28, 3 => some [3]
  | 29, 3 => some [5]
  | _, _ => none
noncomputable def cxQ : Ctx where
  P := Try.prog
  inl := fun _ => false
  keep := keepQ
  keepX := keepXQ
  xf := fun _ _ _ => false
  ow := fun _ => false
  gh := fun _ _ => []
  gf := fun _ => []
  ln := fun _ => false
  srt := srtT
theorem okQ {f a Q} (h : stepCall (SX Try.prog yesCalm) cxQ yesCalm f a Q) : CallOK Try.prog f a Q := okOf (cx := cxQ) rfl progOK h
def behindF : Fl := ⟨⟨#[98, 101, 104, 105, 110, 100]⟩, 0, 0, 0⟩
theorem flowOwn (fl : Nat → Fl) (n : Nat) (hn : n ≤ 100000) : CallOK Try.prog 10 [encL fl n] (fun r => ∃ g, r = .wide 4 n (n + 1) g ∧ (∀ i, i < n → g i = encF (fl i)) ∧ g n = encF behindF) := by
  have hb : ∀ d, boundOf d (some (.int .i64 (n : Int))) = some n := fun d => by simp [boundOf]
  refine okQ ?_
  conv => whnf
  repeat ((first | with_reducible refine branch_true rfl ?_ | with_reducible refine branch_false rfl ?_); conv => whnf)
  refine st_append (sz := 4) (len := 0) (u := 34) (m := n) (gg := fun i => encF (fl i)) rfl rfl rfl rfl rfl (room40 (by omega)) ?_
  conv => whnf
  repeat ((first | with_reducible refine branch_true rfl ?_ | with_reducible refine branch_false rfl ?_); conv => whnf)
  refine st_append (sz := 4) (len := 0 + n) (u := 34) (m := 1) (gg := vlist (zeroElem Try.prog 34) [encF behindF]) rfl rfl rfl rfl rfl (room40 (by omega)) ?_
  conv => whnf
  repeat ((first | with_reducible refine branch_true rfl ?_ | with_reducible refine branch_false rfl ?_); conv => whnf)
  refine st_slice_own (sz := 4) (len := 0 + n + 1) (u := 34) (l := 0) (m := n) rfl rfl rfl rfl (hb _) (Nat.zero_le _) (by omega) rfl ?_
  conv => whnf
  repeat ((first | with_reducible refine branch_true rfl ?_ | with_reducible refine branch_false rfl ?_); conv => whnf)
  have hl : 0 + n + 1 - 0 = n + 1 := by omega
  have e : ∀ z z' (g0 : Nat → AV) i, i < n + 1 → vapp z (vapp z' g0 0 (fun i => encF (fl i)) n) (0 + n) (vlist (zeroElem Try.prog 34) [encF behindF]) 1 i = if i < n then encF (fl i) else encF behindF := by
    intro z z' g0 i hi
    rw [Nat.zero_add]
    refine vapp_two (F := fun i => if i < n then encF (fl i) else encF behindF) (fun j hj => ?_) (fun j hj => ?_) i hi
    · rw [if_pos hj]
      exact vapp_two (z := z') (g := g0) (v := fun i => encF (fl i)) (F := fun j => encF (fl j)) (i := 0) (m := n) (fun j hj => absurd hj (by omega)) (fun j hj => by rw [Nat.zero_add]) j (by omega)
    · rw [if_neg (by omega)]
      obtain rfl : j = 0 := by omega
      rfl
  refine ⟨_, congrArg (fun q => AV.wide 4 n q _) hl, fun i hi => (vsub_at i (by omega)).trans ?_, (vsub_at n (by omega)).trans ?_⟩
  · rw [show 0 + i = i by omega]
    refine (e _ _ _ i (by omega)).trans ?_
    rw [if_pos hi]
  · have := e (zeroElem Try.prog 34) (zeroElem Try.prog 34) (vlist (zeroElem Try.prog 34) []) n (by omega)
    rw [if_neg (by omega)] at this
    rw [Nat.zero_add] at this ⊢
    exact this
theorem flowKept (fl : Nat → Fl) (n : Nat) (hn : n ≤ 100000) (g : Nat → AV) (h1 : ∀ i, i < n → g i = encF (fl i)) (h2 : g n = encF behindF) : CallOK Try.prog 16 [.wide 4 n (n + 1) g, encL fl n] (fun r => r = .bool true) := by
  have hw : IntKind.i64.wrap ((n : Int) + 1) = ((n + 1 : Nat) : Int) := by rw [wrap64 (by omega)]; omega
  have hb : ∀ d, boundOf d (some (.int .i64 (IntKind.i64.wrap ((n : Int) + 1)))) = some (n + 1) := fun d => by
    rw [hw]
    show (bif decide (0 ≤ ((n + 1 : Nat) : Int)) then some ((n + 1 : Nat) : Int).toNat else none) = some (n + 1)
    rw [decide_eq_true (Int.natCast_nonneg _)]; rfl
  refine okQ ?_
  conv => whnf
  repeat ((first | with_reducible refine branch_true rfl ?_ | with_reducible refine branch_false rfl ?_); conv => whnf)
  refine call_is (ok_same (.cons (.wide h1) (.cons (.refl _) .nil)) (same_self fl n hn)) ?_
  conv => whnf
  repeat ((first | with_reducible refine branch_true rfl ?_ | with_reducible refine branch_false rfl ?_); conv => whnf)
  refine st_slice_wide (sz := 4) (len := n) (q := n + 1) (g := g) (u := 34) (l := 0) (m := n + 1) rfl rfl rfl rfl (hb _) (Nat.zero_le _) (Nat.le_refl _) rfl ?_
  conv => whnf
  repeat ((first | with_reducible refine branch_true rfl ?_ | with_reducible refine branch_false rfl ?_); conv => whnf)
  refine st_addr_v (sz := 4) (n := (n : Int)) (u := 34) (v := encF behindF) rfl rfl rfl rfl rfl (in_range (by omega)) ?_ ?_
  · show vsub _ g 0 (n + 1 - 0) n = _
    rw [vsub_at n (by omega), Nat.zero_add, h2]
  conv => whnf
  repeat ((first | with_reducible refine branch_true rfl ?_ | with_reducible refine branch_false rfl ?_); conv => whnf)
  show AV.bool (decide (behindF.m = behindF.m)) = _
  rw [decide_eq_true rfl]
/-- Those picked. -/
abbrev pick (p : Fl → Bool) (fl : Nat → Fl) (n : Nat) : List Fl := (toL fl n).filter p
theorem pick_yes {p : Fl → Bool} {fl : Nat → Fl} {i : Nat} (h : p (fl i) = true) : pick p fl (i + 1) = pick p fl i ++ [fl i] := by
  rw [pick, toL_succ, List.filter_append]; simp [h]
theorem pick_no {p : Fl → Bool} {fl : Nat → Fl} {i : Nat} (h : p (fl i) = false) : pick p fl (i + 1) = pick p fl i := by
  rw [pick, toL_succ, List.filter_append]; simp [h]
theorem pick_len (p : Fl → Bool) (fl : Nat → Fl) (i : Nat) : (pick p fl i).length ≤ i := by
  have := List.length_filter_le p (toL fl i)
  rw [toL_len] at this
  exact this
structure PickHd (p : Fl → Bool) (fl : Nat → Fl) (n : Nat) where
  i : Nat
  len : Nat
  g : Nat → AV
  hi : i ≤ n
  hg : FlowsAt (pick p fl i) len g
abbrev whyP (y : Int) (f : Fl) : Bool := decide (f.w = y)
theorem flowWhy (fl : Nat → Fl) (n : Nat) (hn : n ≤ 100000) (y : Int) : CallOK Try.prog 26 [encL fl n, .int .i64 y] (fun r => ∃ len g, r = .vec 4 len g ∧ FlowsAt (pick (whyP y) fl n) len g) := by
  refine okQ ?_
  conv => whnf
  repeat ((first | with_reducible refine branch_true rfl ?_ | with_reducible refine branch_false rfl ?_); conv => whnf)
  refine loop_by (cx := cxQ) rfl progOK (ι := PickHd (whyP y) fl n) (fun x => n - x.i) (fun x => ⟨[(1, .int .i64 y), (4, .own (.vec 4 x.len x.g)), (7, encL fl n), (8, .int .i64 n), (9, .int .i64 x.i)], [], [], none⟩) ?_ ⟨0, 0, _, Nat.zero_le _, rfl, fun j f hj => by simp [pick, toL] at hj⟩
  rintro ⟨i, len, g, hi, hg⟩ ih
  have hlen := pick_len (whyP y) fl i
  have hl0 := hg.1
  conv => whnf
  repeat ((first | with_reducible refine branch_true rfl ?_ | with_reducible refine branch_false rfl ?_); conv => whnf)
  refine branch_of (fun g1 => ?_) (fun g1 => ?_)
  · have g2 : i < n := by simpa using g1
    have hw : IntKind.i64.wrap ((i : Int) + 1) = ((i + 1 : Nat) : Int) := by rw [wrap64 (by omega)]; omega
    conv => whnf
    repeat ((first | with_reducible refine branch_true rfl ?_ | with_reducible refine branch_false rfl ?_); conv => whnf)
    refine st_addr (sz := 4) (len := n) (n := i) (u := 34) (g := fun i => encF (fl i)) rfl rfl rfl rfl rfl (in_range g2) ?_
    conv => whnf
    repeat ((first | with_reducible refine branch_true rfl ?_ | with_reducible refine branch_false rfl ?_); conv => whnf)
    refine branch_of (fun g3 => ?_) (fun g3 => ?_)
    · have g3 : (fl i).w < y := of_decide_eq_true g3
      have g5 : whyP y (fl i) = false := decide_eq_false (by omega)
      conv => whnf
      repeat ((first | with_reducible refine branch_true rfl ?_ | with_reducible refine branch_false rfl ?_); conv => whnf)
      exact loop_to ih ⟨i + 1, len, g, g2, by rw [pick_no g5]; exact hg⟩ (show n - (i + 1) < n - i by omega) (congrArg (fun q => St.mk [(1, .int .i64 y), (4, .own (.vec 4 len g)), (7, encL fl n), (8, .int .i64 n), (9, .int .i64 q)] [] [] none) hw)
    · have g3 : ¬ (fl i).w < y := of_decide_eq_false g3
      conv => whnf
      repeat ((first | with_reducible refine branch_true rfl ?_ | with_reducible refine branch_false rfl ?_); conv => whnf)
      refine branch_of (fun g4 => ?_) (fun g4 => ?_)
      · have g4 : y < (fl i).w := of_decide_eq_true g4
        have g5 : whyP y (fl i) = false := decide_eq_false (by omega)
        conv => whnf
        repeat ((first | with_reducible refine branch_true rfl ?_ | with_reducible refine branch_false rfl ?_); conv => whnf)
        exact loop_to ih ⟨i + 1, len, g, g2, by rw [pick_no g5]; exact hg⟩ (show n - (i + 1) < n - i by omega) (congrArg (fun q => St.mk [(1, .int .i64 y), (4, .own (.vec 4 len g)), (7, encL fl n), (8, .int .i64 n), (9, .int .i64 q)] [] [] none) hw)
      · have g4 : ¬ y < (fl i).w := of_decide_eq_false g4
        have g5 : whyP y (fl i) = true := decide_eq_true (by omega)
        conv => whnf
        repeat ((first | with_reducible refine branch_true rfl ?_ | with_reducible refine branch_false rfl ?_); conv => whnf)
        refine st_append (sz := 4) (len := len) (g := g) (u := 34) (m := 1) (gg := vlist (zeroElem Try.prog 34) [encF (fl i)]) rfl rfl rfl rfl rfl (room40 (by omega)) ?_
        conv => whnf
        repeat ((first | with_reducible refine branch_true rfl ?_ | with_reducible refine branch_false rfl ?_); conv => whnf)
        exact loop_to ih ⟨i + 1, len + 1, _, g2, by rw [pick_yes g5]; exact flowsAt_snoc hg rfl⟩ (show n - (i + 1) < n - i by omega) (congrArg (fun q => St.mk [(1, .int .i64 y), (4, .own (.vec 4 (len + 1) _)), (7, encL fl n), (8, .int .i64 n), (9, .int .i64 q)] [] [] none) hw)
  · have g2 : i = n := by simp at g1; omega
    subst g2
    conv => whnf
    repeat ((first | with_reducible refine branch_true rfl ?_ | with_reducible refine branch_false rfl ?_); conv => whnf)
    exact ⟨len, g, rfl, hg⟩
theorem refWhy (fl : Nat → Fl) (n : Nat) (hn : n ≤ 100000) (y : Int) : CallOK Try.prog 27 [encL fl n, .int .i64 y] (fun r => ∃ len g, r = .vec 4 len g ∧ FlowsAt (pick (whyP y) fl n) len g) := by
  refine okQ ?_
  conv => whnf
  repeat ((first | with_reducible refine branch_true rfl ?_ | with_reducible refine branch_false rfl ?_); conv => whnf)
  refine loop_by (cx := cxQ) rfl progOK (ι := PickHd (whyP y) fl n) (fun x => n - x.i) (fun x => ⟨[(0, encL fl n), (1, .int .i64 y), (5, .own (.vec 4 x.len x.g)), (6, .int .i64 x.i)], [], [], none⟩) ?_ ⟨0, 0, _, Nat.zero_le _, rfl, fun j f hj => by simp [pick, toL] at hj⟩
  rintro ⟨i, len, g, hi, hg⟩ ih
  have hlen := pick_len (whyP y) fl i
  have hl0 := hg.1
  conv => whnf
  repeat ((first | with_reducible refine branch_true rfl ?_ | with_reducible refine branch_false rfl ?_); conv => whnf)
  refine branch_of (fun g1 => ?_) (fun g1 => ?_)
  · have g2 : i < n := by simpa using g1
    have hw : IntKind.i64.wrap ((i : Int) + 1) = ((i + 1 : Nat) : Int) := by rw [wrap64 (by omega)]; omega
    conv => whnf
    repeat ((first | with_reducible refine branch_true rfl ?_ | with_reducible refine branch_false rfl ?_); conv => whnf)
    refine st_addr (sz := 4) (len := n) (n := i) (u := 34) (g := fun i => encF (fl i)) rfl rfl rfl rfl rfl (in_range g2) ?_
    conv => whnf
    repeat ((first | with_reducible refine branch_true rfl ?_ | with_reducible refine branch_false rfl ?_); conv => whnf)
    refine branch_of (fun g3 => ?_) (fun g3 => ?_)
    · have g5 : whyP y (fl i) = true := g3
      conv => whnf
      repeat ((first | with_reducible refine branch_true rfl ?_ | with_reducible refine branch_false rfl ?_); conv => whnf)
      refine st_addr (sz := 4) (len := n) (n := i) (u := 34) (g := fun i => encF (fl i)) rfl rfl rfl rfl rfl (in_range g2) ?_
      conv => whnf
      repeat ((first | with_reducible refine branch_true rfl ?_ | with_reducible refine branch_false rfl ?_); conv => whnf)
      refine st_append (sz := 4) (len := len) (g := g) (u := 34) (m := 1) (gg := vlist (zeroElem Try.prog 34) [encF (fl i)]) rfl rfl rfl rfl rfl (room40 (by omega)) ?_
      conv => whnf
      repeat ((first | with_reducible refine branch_true rfl ?_ | with_reducible refine branch_false rfl ?_); conv => whnf)
      exact loop_to ih ⟨i + 1, len + 1, _, g2, by rw [pick_yes g5]; exact flowsAt_snoc hg rfl⟩ (show n - (i + 1) < n - i by omega) (congrArg (fun q => St.mk [(0, encL fl n), (1, .int .i64 y), (5, .own (.vec 4 (len + 1) _)), (6, .int .i64 q)] [] [] none) hw)
    · have g5 : whyP y (fl i) = false := g3
      conv => whnf
      repeat ((first | with_reducible refine branch_true rfl ?_ | with_reducible refine branch_false rfl ?_); conv => whnf)
      exact loop_to ih ⟨i + 1, len, g, g2, by rw [pick_no g5]; exact hg⟩ (show n - (i + 1) < n - i by omega) (congrArg (fun q => St.mk [(0, encL fl n), (1, .int .i64 y), (5, .own (.vec 4 len g)), (6, .int .i64 q)] [] [] none) hw)
  · have g2 : i = n := by simp at g1; omega
    subst g2
    conv => whnf
    repeat ((first | with_reducible refine branch_true rfl ?_ | with_reducible refine branch_false rfl ?_); conv => whnf)
    exact ⟨len, g, rfl, hg⟩
theorem refTurned (fl : Nat → Fl) (n : Nat) (hn : n ≤ 100000) : CallOK Try.prog 28 [encL fl n] (fun r => ∃ g, r = .vec 4 n g ∧ ∀ i, i < n → g i = encF (turnF (fl i))) := by
  refine okQ ?_
  conv => whnf
  repeat ((first | with_reducible refine branch_true rfl ?_ | with_reducible refine branch_false rfl ?_); conv => whnf)
  refine loop_by (cx := cxQ) rfl progOK (ι := TurnHd fl n) (fun x => n - x.i) (fun x => ⟨[(0, encL fl n), (3, .own (.vec 4 x.i x.g)), (4, .int .i64 x.i)], [], [], none⟩) ?_ ⟨0, _, Nat.zero_le _, fun j hj => absurd hj (by omega)⟩
  rintro ⟨i, g, hi, hg⟩ ih
  conv => whnf
  repeat ((first | with_reducible refine branch_true rfl ?_ | with_reducible refine branch_false rfl ?_); conv => whnf)
  refine branch_of (fun g1 => ?_) (fun g1 => ?_)
  · have g2 : i < n := by simpa using g1
    have hw : IntKind.i64.wrap ((i : Int) + 1) = ((i + 1 : Nat) : Int) := by rw [wrap64 (by omega)]; omega
    conv => whnf
    repeat ((first | with_reducible refine branch_true rfl ?_ | with_reducible refine branch_false rfl ?_); conv => whnf)
    refine st_addr (sz := 4) (len := n) (n := i) (u := 34) (g := fun i => encF (fl i)) rfl rfl rfl rfl rfl (in_range g2) ?_
    conv => whnf
    repeat ((first | with_reducible refine branch_true rfl ?_ | with_reducible refine branch_false rfl ?_); conv => whnf)
    refine st_append (sz := 4) (len := i) (g := g) (u := 34) (m := 1) (gg := vlist (zeroElem Try.prog 34) [encF (turnF (fl i))]) rfl rfl rfl rfl rfl (room40 (by omega)) ?_
    conv => whnf
    repeat ((first | with_reducible refine branch_true rfl ?_ | with_reducible refine branch_false rfl ?_); conv => whnf)
    refine loop_to ih ⟨i + 1, _, g2, vapp_fn (F := fun j => encF (turnF (fl j))) hg rfl⟩ (show n - (i + 1) < n - i by omega) (congrArg (fun q => St.mk [(0, encL fl n), (3, .own (.vec 4 (i + 1) _)), (4, .int .i64 q)] [] [] none) hw)
  · have g2 : i = n := by simp at g1; omega
    subst g2
    conv => whnf
    repeat ((first | with_reducible refine branch_true rfl ?_ | with_reducible refine branch_false rfl ?_); conv => whnf)
    exact ⟨g, rfl, hg⟩
abbrev negP (f : Fl) : Bool := decide (f.n < 0)
abbrev posP (f : Fl) : Bool := decide (0 < f.n)
structure PaysHd (fl : Nat → Fl) (n : Nat) where
  i : Nat
  len : Nat
  g : Nat → AV
  len' : Nat
  g' : Nat → AV
  hi : i ≤ n
  hg : FlowsAt (pick negP fl i) len g
  hg' : FlowsAt (pick posP fl i) len' g'
theorem flowPays (fl : Nat → Fl) (n : Nat) (hn : n ≤ 100000) : CallOK Try.prog 25 [encL fl n] (fun r => ∃ len g len' g', r = .tup [.vec 4 len g, .vec 4 len' g'] ∧ FlowsAt (pick negP fl n) len g ∧ FlowsAt (pick posP fl n) len' g') := by
  refine okQ ?_
  conv => whnf
  repeat ((first | with_reducible refine branch_true rfl ?_ | with_reducible refine branch_false rfl ?_); conv => whnf)
  refine loop_by (cx := cxQ) rfl progOK (ι := PaysHd fl n) (fun x => n - x.i) (fun x => ⟨[(2, .own (.vec 4 x.len x.g)), (3, .own (.vec 4 x.len' x.g')), (6, encL fl n), (7, .int .i64 n), (8, .int .i64 x.i)], [], [], none⟩) ?_ ⟨0, 0, _, 0, _, Nat.zero_le _, ⟨rfl, fun j f hj => by simp [pick, toL] at hj⟩, ⟨rfl, fun j f hj => by simp [pick, toL] at hj⟩⟩
  rintro ⟨i, len, g, len', g', hi, hg, hg'⟩ ih
  have hlen := pick_len negP fl i
  have hlen' := pick_len posP fl i
  have hl0 := hg.1
  have hl0' := hg'.1
  conv => whnf
  repeat ((first | with_reducible refine branch_true rfl ?_ | with_reducible refine branch_false rfl ?_); conv => whnf)
  refine branch_of (fun g1 => ?_) (fun g1 => ?_)
  · have g2 : i < n := by simpa using g1
    have hw : IntKind.i64.wrap ((i : Int) + 1) = ((i + 1 : Nat) : Int) := by rw [wrap64 (by omega)]; omega
    conv => whnf
    repeat ((first | with_reducible refine branch_true rfl ?_ | with_reducible refine branch_false rfl ?_); conv => whnf)
    refine st_addr (sz := 4) (len := n) (n := i) (u := 34) (g := fun i => encF (fl i)) rfl rfl rfl rfl rfl (in_range g2) ?_
    conv => whnf
    repeat ((first | with_reducible refine branch_true rfl ?_ | with_reducible refine branch_false rfl ?_); conv => whnf)
    refine branch_of (fun g3 => ?_) (fun g3 => ?_)
    · have g3 : (fl i).n < 0 := of_decide_eq_true g3
      have g4 : negP (fl i) = true := decide_eq_true g3
      have g5 : posP (fl i) = false := decide_eq_false (by omega)
      conv => whnf
      repeat ((first | with_reducible refine branch_true rfl ?_ | with_reducible refine branch_false rfl ?_); conv => whnf)
      refine st_append (sz := 4) (len := len) (g := g) (u := 34) (m := 1) (gg := vlist (zeroElem Try.prog 34) [encF (fl i)]) rfl rfl rfl rfl rfl (room40 (by omega)) ?_
      conv => whnf
      repeat ((first | with_reducible refine branch_true rfl ?_ | with_reducible refine branch_false rfl ?_); conv => whnf)
      exact loop_to ih ⟨i + 1, len + 1, _, len', g', g2, by rw [pick_yes g4]; exact flowsAt_snoc hg rfl, by rw [pick_no g5]; exact hg'⟩ (show n - (i + 1) < n - i by omega) (congrArg (fun q => St.mk [(2, .own (.vec 4 (len + 1) _)), (3, .own (.vec 4 len' g')), (6, encL fl n), (7, .int .i64 n), (8, .int .i64 q)] [] [] none) hw)
    · have g3 : ¬ (fl i).n < 0 := of_decide_eq_false g3
      have g4 : negP (fl i) = false := decide_eq_false g3
      conv => whnf
      repeat ((first | with_reducible refine branch_true rfl ?_ | with_reducible refine branch_false rfl ?_); conv => whnf)
      refine branch_of (fun g6 => ?_) (fun g6 => ?_)
      · have g6 : 0 < (fl i).n := of_decide_eq_true g6
        have g5 : posP (fl i) = true := decide_eq_true g6
        conv => whnf
        repeat ((first | with_reducible refine branch_true rfl ?_ | with_reducible refine branch_false rfl ?_); conv => whnf)
        refine st_append (sz := 4) (len := len') (g := g') (u := 34) (m := 1) (gg := vlist (zeroElem Try.prog 34) [encF (fl i)]) rfl rfl rfl rfl rfl (room40 (by omega)) ?_
        conv => whnf
        repeat ((first | with_reducible refine branch_true rfl ?_ | with_reducible refine branch_false rfl ?_); conv => whnf)
        exact loop_to ih ⟨i + 1, len, g, len' + 1, _, g2, by rw [pick_no g4]; exact hg, by rw [pick_yes g5]; exact flowsAt_snoc hg' rfl⟩ (show n - (i + 1) < n - i by omega) (congrArg (fun q => St.mk [(2, .own (.vec 4 len g)), (3, .own (.vec 4 (len' + 1) _)), (6, encL fl n), (7, .int .i64 n), (8, .int .i64 q)] [] [] none) hw)
      · have g6 : ¬ 0 < (fl i).n := of_decide_eq_false g6
        have g5 : posP (fl i) = false := decide_eq_false g6
        conv => whnf
        repeat ((first | with_reducible refine branch_true rfl ?_ | with_reducible refine branch_false rfl ?_); conv => whnf)
        exact loop_to ih ⟨i + 1, len, g, len', g', g2, by rw [pick_no g4]; exact hg, by rw [pick_no g5]; exact hg'⟩ (show n - (i + 1) < n - i by omega) (congrArg (fun q => St.mk [(2, .own (.vec 4 len g)), (3, .own (.vec 4 len' g')), (6, encL fl n), (7, .int .i64 n), (8, .int .i64 q)] [] [] none) hw)
  · have g2 : i = n := by simp at g1; omega
    subst g2
    conv => whnf
    repeat ((first | with_reducible refine branch_true rfl ?_ | with_reducible refine branch_false rfl ?_); conv => whnf)
    exact ⟨len, g, len', g', rfl, hg, hg'⟩
theorem refNeg (fl : Nat → Fl) (n : Nat) (hn : n ≤ 100000) : CallOK Try.prog 29 [encL fl n, .int .i64 (-1)] (fun r => ∃ len g, r = .vec 4 len g ∧ FlowsAt (pick negP fl n) len g) := by
  refine okQ ?_
  conv => whnf
  repeat ((first | with_reducible refine branch_true rfl ?_ | with_reducible refine branch_false rfl ?_); conv => whnf)
  refine loop_by (cx := cxQ) rfl progOK (ι := PickHd negP fl n) (fun x => n - x.i) (fun x => ⟨[(0, encL fl n), (1, .int .i64 (-1)), (5, .own (.vec 4 x.len x.g)), (6, .int .i64 x.i)], [], [], none⟩) ?_ ⟨0, 0, _, Nat.zero_le _, rfl, fun j f hj => by simp [pick, toL] at hj⟩
  rintro ⟨i, len, g, hi, hg⟩ ih
  have hlen := pick_len negP fl i
  have hl0 := hg.1
  conv => whnf
  repeat ((first | with_reducible refine branch_true rfl ?_ | with_reducible refine branch_false rfl ?_); conv => whnf)
  refine branch_of (fun g1 => ?_) (fun g1 => ?_)
  · have g2 : i < n := by simpa using g1
    have hw : IntKind.i64.wrap ((i : Int) + 1) = ((i + 1 : Nat) : Int) := by rw [wrap64 (by omega)]; omega
    have yes : negP (fl i) = true → ∀ K : St → Prop, (∀ j : PickHd negP fl n, n - j.i < n - i → K (St.mk [(0, encL fl n), (1, .int .i64 (-1)), (5, .own (.vec 4 j.len j.g)), (6, .int .i64 j.i)] [] [] none)) → K (St.mk [(0, encL fl n), (1, .int .i64 (-1)), (5, .own (.vec 4 (len + 1) (vapp (zeroElem Try.prog 34) g len (vlist (zeroElem Try.prog 34) [encF (fl i)]) 1))), (6, .int .i64 (IntKind.i64.wrap ((i : Int) + 1)))] [] [] none) := by
      intro h K hK
      rw [hw]
      exact hK ⟨i + 1, len + 1, _, g2, by rw [pick_yes h]; exact flowsAt_snoc hg rfl⟩ (show n - (i + 1) < n - i by omega)
    have no : negP (fl i) = false → ∀ K : St → Prop, (∀ j : PickHd negP fl n, n - j.i < n - i → K (St.mk [(0, encL fl n), (1, .int .i64 (-1)), (5, .own (.vec 4 j.len j.g)), (6, .int .i64 j.i)] [] [] none)) → K (St.mk [(0, encL fl n), (1, .int .i64 (-1)), (5, .own (.vec 4 len g)), (6, .int .i64 (IntKind.i64.wrap ((i : Int) + 1)))] [] [] none) := by
      intro h K hK
      rw [hw]
      exact hK ⟨i + 1, len, g, g2, by rw [pick_no h]; exact hg⟩ (show n - (i + 1) < n - i by omega)
    conv => whnf
    repeat ((first | with_reducible refine branch_true rfl ?_ | with_reducible refine branch_false rfl ?_); conv => whnf)
    refine st_addr (sz := 4) (len := n) (n := i) (u := 34) (g := fun i => encF (fl i)) rfl rfl rfl rfl rfl (in_range g2) ?_
    conv => whnf
    repeat ((first | with_reducible refine branch_true rfl ?_ | with_reducible refine branch_false rfl ?_); conv => whnf)
    refine branch_of (fun g3 => ?_) (fun g3 => ?_)
    · have g3 : (fl i).n < 0 := of_decide_eq_true g3
      conv => whnf
      repeat ((first | with_reducible refine branch_true rfl ?_ | with_reducible refine branch_false rfl ?_); conv => whnf)
      refine st_addr (sz := 4) (len := n) (n := i) (u := 34) (g := fun i => encF (fl i)) rfl rfl rfl rfl rfl (in_range g2) ?_
      conv => whnf
      repeat ((first | with_reducible refine branch_true rfl ?_ | with_reducible refine branch_false rfl ?_); conv => whnf)
      refine st_append (sz := 4) (len := len) (g := g) (u := 34) (m := 1) (gg := vlist (zeroElem Try.prog 34) [encF (fl i)]) rfl rfl rfl rfl rfl (room40 (by omega)) ?_
      conv => whnf
      repeat ((first | with_reducible refine branch_true rfl ?_ | with_reducible refine branch_false rfl ?_); conv => whnf)
      exact yes (decide_eq_true (by omega)) (fun s => SLoop _ _ _ _ _ _ s _) ih
    · have g3 : ¬ (fl i).n < 0 := of_decide_eq_false g3
      conv => whnf
      repeat ((first | with_reducible refine branch_true rfl ?_ | with_reducible refine branch_false rfl ?_); conv => whnf)
      refine st_addr (sz := 4) (len := n) (n := i) (u := 34) (g := fun i => encF (fl i)) rfl rfl rfl rfl rfl (in_range g2) ?_
      conv => whnf
      repeat ((first | with_reducible refine branch_true rfl ?_ | with_reducible refine branch_false rfl ?_); conv => whnf)
      refine branch_of (fun g4 => ?_) (fun g4 => ?_)
      · conv => whnf
        repeat ((first | with_reducible refine branch_true rfl ?_ | with_reducible refine branch_false rfl ?_); conv => whnf)
        exact no (decide_eq_false (by omega)) (fun s => SLoop _ _ _ _ _ _ s _) ih
      · conv => whnf
        repeat ((first | with_reducible refine branch_true rfl ?_ | with_reducible refine branch_false rfl ?_); conv => whnf)
        exact no (decide_eq_false (by omega)) (fun s => SLoop _ _ _ _ _ _ s _) ih
  · have g2 : i = n := by simp at g1; omega
    subst g2
    conv => whnf
    repeat ((first | with_reducible refine branch_true rfl ?_ | with_reducible refine branch_false rfl ?_); conv => whnf)
    exact ⟨len, g, rfl, hg⟩
theorem refPos (fl : Nat → Fl) (n : Nat) (hn : n ≤ 100000) : CallOK Try.prog 29 [encL fl n, .int .i64 (1)] (fun r => ∃ len g, r = .vec 4 len g ∧ FlowsAt (pick posP fl n) len g) := by
  refine okQ ?_
  conv => whnf
  repeat ((first | with_reducible refine branch_true rfl ?_ | with_reducible refine branch_false rfl ?_); conv => whnf)
  refine loop_by (cx := cxQ) rfl progOK (ι := PickHd posP fl n) (fun x => n - x.i) (fun x => ⟨[(0, encL fl n), (1, .int .i64 (1)), (5, .own (.vec 4 x.len x.g)), (6, .int .i64 x.i)], [], [], none⟩) ?_ ⟨0, 0, _, Nat.zero_le _, rfl, fun j f hj => by simp [pick, toL] at hj⟩
  rintro ⟨i, len, g, hi, hg⟩ ih
  have hlen := pick_len posP fl i
  have hl0 := hg.1
  conv => whnf
  repeat ((first | with_reducible refine branch_true rfl ?_ | with_reducible refine branch_false rfl ?_); conv => whnf)
  refine branch_of (fun g1 => ?_) (fun g1 => ?_)
  · have g2 : i < n := by simpa using g1
    have hw : IntKind.i64.wrap ((i : Int) + 1) = ((i + 1 : Nat) : Int) := by rw [wrap64 (by omega)]; omega
    have yes : posP (fl i) = true → ∀ K : St → Prop, (∀ j : PickHd posP fl n, n - j.i < n - i → K (St.mk [(0, encL fl n), (1, .int .i64 (1)), (5, .own (.vec 4 j.len j.g)), (6, .int .i64 j.i)] [] [] none)) → K (St.mk [(0, encL fl n), (1, .int .i64 (1)), (5, .own (.vec 4 (len + 1) (vapp (zeroElem Try.prog 34) g len (vlist (zeroElem Try.prog 34) [encF (fl i)]) 1))), (6, .int .i64 (IntKind.i64.wrap ((i : Int) + 1)))] [] [] none) := by
      intro h K hK
      rw [hw]
      exact hK ⟨i + 1, len + 1, _, g2, by rw [pick_yes h]; exact flowsAt_snoc hg rfl⟩ (show n - (i + 1) < n - i by omega)
    have no : posP (fl i) = false → ∀ K : St → Prop, (∀ j : PickHd posP fl n, n - j.i < n - i → K (St.mk [(0, encL fl n), (1, .int .i64 (1)), (5, .own (.vec 4 j.len j.g)), (6, .int .i64 j.i)] [] [] none)) → K (St.mk [(0, encL fl n), (1, .int .i64 (1)), (5, .own (.vec 4 len g)), (6, .int .i64 (IntKind.i64.wrap ((i : Int) + 1)))] [] [] none) := by
      intro h K hK
      rw [hw]
      exact hK ⟨i + 1, len, g, g2, by rw [pick_no h]; exact hg⟩ (show n - (i + 1) < n - i by omega)
    conv => whnf
    repeat ((first | with_reducible refine branch_true rfl ?_ | with_reducible refine branch_false rfl ?_); conv => whnf)
    refine st_addr (sz := 4) (len := n) (n := i) (u := 34) (g := fun i => encF (fl i)) rfl rfl rfl rfl rfl (in_range g2) ?_
    conv => whnf
    repeat ((first | with_reducible refine branch_true rfl ?_ | with_reducible refine branch_false rfl ?_); conv => whnf)
    refine branch_of (fun g3 => ?_) (fun g3 => ?_)
    · have g3 : (fl i).n < 0 := of_decide_eq_true g3
      conv => whnf
      repeat ((first | with_reducible refine branch_true rfl ?_ | with_reducible refine branch_false rfl ?_); conv => whnf)
      refine st_addr (sz := 4) (len := n) (n := i) (u := 34) (g := fun i => encF (fl i)) rfl rfl rfl rfl rfl (in_range g2) ?_
      conv => whnf
      repeat ((first | with_reducible refine branch_true rfl ?_ | with_reducible refine branch_false rfl ?_); conv => whnf)
      refine branch_false (decide_eq_false (show ¬ 0 < (fl i).n by omega)) ?_
      conv => whnf
      repeat ((first | with_reducible refine branch_true rfl ?_ | with_reducible refine branch_false rfl ?_); conv => whnf)
      exact no (decide_eq_false (by omega)) (fun s => SLoop _ _ _ _ _ _ s _) ih
    · have g3 : ¬ (fl i).n < 0 := of_decide_eq_false g3
      conv => whnf
      repeat ((first | with_reducible refine branch_true rfl ?_ | with_reducible refine branch_false rfl ?_); conv => whnf)
      refine st_addr (sz := 4) (len := n) (n := i) (u := 34) (g := fun i => encF (fl i)) rfl rfl rfl rfl rfl (in_range g2) ?_
      conv => whnf
      repeat ((first | with_reducible refine branch_true rfl ?_ | with_reducible refine branch_false rfl ?_); conv => whnf)
      refine branch_of (fun g4 => ?_) (fun g4 => ?_)
      · have g4 : 0 < (fl i).n := of_decide_eq_true g4
        conv => whnf
        repeat ((first | with_reducible refine branch_true rfl ?_ | with_reducible refine branch_false rfl ?_); conv => whnf)
        refine st_addr (sz := 4) (len := n) (n := i) (u := 34) (g := fun i => encF (fl i)) rfl rfl rfl rfl rfl (in_range g2) ?_
        conv => whnf
        repeat ((first | with_reducible refine branch_true rfl ?_ | with_reducible refine branch_false rfl ?_); conv => whnf)
        refine st_append (sz := 4) (len := len) (g := g) (u := 34) (m := 1) (gg := vlist (zeroElem Try.prog 34) [encF (fl i)]) rfl rfl rfl rfl rfl (room40 (by omega)) ?_
        conv => whnf
        repeat ((first | with_reducible refine branch_true rfl ?_ | with_reducible refine branch_false rfl ?_); conv => whnf)
        exact yes (decide_eq_true (by omega)) (fun s => SLoop _ _ _ _ _ _ s _) ih
      · have g4 : ¬ 0 < (fl i).n := of_decide_eq_false g4
        conv => whnf
        repeat ((first | with_reducible refine branch_true rfl ?_ | with_reducible refine branch_false rfl ?_); conv => whnf)
        exact no (decide_eq_false (by omega)) (fun s => SLoop _ _ _ _ _ _ s _) ih
  · have g2 : i = n := by simp at g1; omega
    subst g2
    conv => whnf
    repeat ((first | with_reducible refine branch_true rfl ?_ | with_reducible refine branch_false rfl ?_); conv => whnf)
    exact ⟨len, g, rfl, hg⟩
end Go.Proofs


set_option linter.unusedVariables false
namespace Go.Proofs
open Ax Go
set_option maxRecDepth 10000
theorem lawPicks : ∀ xs, TypedArgs Try.prog 8 Try.f8.params.toList xs → CallOK Try.prog 8 xs (fun r => r = .bool true) := by
  intro xs h
  rw [Try.params8] at h
  obtain ⟨a0, r0, rfl, h0, a1, r1, rfl, h1, rfl⟩ := h
  obtain ⟨fl, n, hs, hn, hok⟩ := arg_flows (d := 5) h0
  obtain ⟨y, rfl, hy⟩ := arg_int (d := 7) h1
  refine ok_same (.cons hs (.cons (.refl _) .nil)) ?_
  refine okQ ?_
  conv => whnf
  repeat ((first | with_reducible refine branch_true rfl ?_ | with_reducible refine branch_false rfl ?_); conv => whnf)
  refine branch_of (fun g1 => ?_) (fun g1 => ?_)
  · conv => whnf
    repeat ((first | with_reducible refine branch_true rfl ?_ | with_reducible refine branch_false rfl ?_); conv => whnf)
    refine call_is goesOK ?_
    conv => whnf
    repeat ((first | with_reducible refine branch_true rfl ?_ | with_reducible refine branch_false rfl ?_); conv => whnf)
  · conv => whnf
    repeat ((first | with_reducible refine branch_true rfl ?_ | with_reducible refine branch_false rfl ?_); conv => whnf)
    have g1 : n ≤ 1100 := by have := of_decide_eq_false g1; omega
    have hn : n ≤ 100000 := by omega
    have pl : ∀ p : Fl → Bool, (pick p fl n).length ≤ 100000 := fun p => Nat.le_trans (pick_len p fl n) hn
    refine call_by (flowOwn fl n hn) ⟨_, fun i => if i < n then encF (fl i) else encF behindF, rfl, fun i hi => by simp [hi], by simp⟩ ?_
    rintro r ⟨g, rfl, k1, k2⟩
    conv => whnf
    repeat ((first | with_reducible refine branch_true rfl ?_ | with_reducible refine branch_false rfl ?_); conv => whnf)
    refine call_by (ok_same (.cons (.wide k1) .nil) (flowPays fl n hn)) ⟨_, _, _, _, _, rfl, flowsAt_self _, flowsAt_self _⟩ ?_
    rintro r ⟨la, ga, lb, gb, rfl, fa, fb⟩
    conv => whnf
    repeat ((first | with_reducible refine branch_true rfl ?_ | with_reducible refine branch_false rfl ?_); conv => whnf)
    refine call_by (ok_same (.cons (.wide k1) (.cons (.refl _) .nil)) (flowWhy fl n hn y)) ⟨_, _, _, rfl, flowsAt_self _⟩ ?_
    rintro r ⟨lc, gc, rfl, fc⟩
    conv => whnf
    repeat ((first | with_reducible refine branch_true rfl ?_ | with_reducible refine branch_false rfl ?_); conv => whnf)
    refine call_by (refWhy fl n hn y) ⟨_, _, _, rfl, flowsAt_self _⟩ ?_
    rintro r ⟨ld, gd, rfl, fd⟩
    obtain rfl : ld = lc := fd.1.trans fc.1.symm
    conv => whnf
    repeat ((first | with_reducible refine branch_true rfl ?_ | with_reducible refine branch_false rfl ?_); conv => whnf)
    refine call_is (same_at fc fd (pl _)) ?_
    conv => whnf
    repeat ((first | with_reducible refine branch_true rfl ?_ | with_reducible refine branch_false rfl ?_); conv => whnf)
    refine call_by (ok_same (.cons (.wide k1) .nil) (flowTurned fl n hn)) ⟨_, _, rfl, fun i hi => rfl⟩ ?_
    rintro r ⟨ge, rfl, fe⟩
    conv => whnf
    repeat ((first | with_reducible refine branch_true rfl ?_ | with_reducible refine branch_false rfl ?_); conv => whnf)
    refine call_by (refTurned fl n hn) ⟨_, _, rfl, fun i hi => rfl⟩ ?_
    rintro r ⟨gf, rfl, ff⟩
    conv => whnf
    repeat ((first | with_reducible refine branch_true rfl ?_ | with_reducible refine branch_false rfl ?_); conv => whnf)
    refine call_is (ok_same (.cons (.vec fe) (.cons (.vec ff) .nil)) (same_self (fun i => turnF (fl i)) n hn)) ?_
    conv => whnf
    repeat ((first | with_reducible refine branch_true rfl ?_ | with_reducible refine branch_false rfl ?_); conv => whnf)
    refine call_by (refNeg fl n hn) ⟨_, _, _, rfl, flowsAt_self _⟩ ?_
    rintro r ⟨lg, gg, rfl, fg⟩
    obtain rfl : lg = la := fg.1.trans fa.1.symm
    conv => whnf
    repeat ((first | with_reducible refine branch_true rfl ?_ | with_reducible refine branch_false rfl ?_); conv => whnf)
    refine call_is (same_at fa fg (pl _)) ?_
    conv => whnf
    repeat ((first | with_reducible refine branch_true rfl ?_ | with_reducible refine branch_false rfl ?_); conv => whnf)
    refine call_by (refPos fl n hn) ⟨_, _, _, rfl, flowsAt_self _⟩ ?_
    rintro r ⟨lh, gh, rfl, fh⟩
    obtain rfl : lh = lb := fh.1.trans fb.1.symm
    conv => whnf
    repeat ((first | with_reducible refine branch_true rfl ?_ | with_reducible refine branch_false rfl ?_); conv => whnf)
    refine call_is (same_at fb fh (pl _)) ?_
    conv => whnf
    repeat ((first | with_reducible refine branch_true rfl ?_ | with_reducible refine branch_false rfl ?_); conv => whnf)
    refine call_is (flowKept fl n hn g k1 k2) ?_
    conv => whnf
    repeat ((first | with_reducible refine branch_true rfl ?_ | with_reducible refine branch_false rfl ?_); conv => whnf)
    refine call_is goesOK ?_
    conv => whnf
    repeat ((first | with_reducible refine branch_true rfl ?_ | with_reducible refine branch_false rfl ?_); conv => whnf)
    rfl
end Go.Proofs


set_option linter.unusedVariables false
namespace Go.Proofs
open Ax Go
set_option maxRecDepth 10000
def keepM (f r : Nat) : Option (List Nat) := match f, r with
  | 36, 3 => some [0, 3, 4]
  | 36, 6 => some [0, 3, 4, 5]
  | 36, 11 => some [0, 3, 4, 5, 6, 7]
  | 36, 16 => some [0, 3, 4, 6, 8]
  | 12, 7 => some [0, 5, 6, 7]
  | 12, 10 => some [0, 5, 6, 7, 8]
  | _, _ => none
def keepXM (f r : Nat) : Option (List Nat) := match f, r with
  | 36, 3 => some [3]
  | 36, 6 => some [0, 3, 4, 5]
  | 36, 11 => some [0, 3, 4, 5, 6]
  | 36, 16 => some [0, 4, 6]
  | 12, 7 => some [2, 3, 6]
  | 12, 10 => some [0, 2, 3, 5, 6, 7]
  | _, _ => none
def xfM (f r o : Nat) : Bool := match f, r, o with | 36, 19, 0 => true | _, _, _ => false
noncomputable def cxM : Ctx where
  P := Try.prog
  inl := fun _ => false
  keep := keepM
  keepX := keepXM
  xf := xfM
  ow := fun _ => false
  gh := fun _ _ => []
  gf := fun _ => []
  ln := fun _ => false
  srt := srtT
theorem okM {f a Q} (h : stepCall (SX Try.prog yesCalm) cxM yesCalm f a Q) : CallOK Try.prog f a Q := okOf (cx := cxM) rfl progOK h
theorem loop_mono {P : Program} {calm : List Oper → Bool} {d : Nat} {fid : FuncId} {n : Nat} {b : Code} {st : St} (K' : Ex → St → Prop) {K : Ex → St → Prop} (h : ∀ e s, K' e s → K e s) (hl : SLoop P calm d fid n b st K') : SLoop P calm d fid n b st K :=
  ⟨loopOK_mono h hl.ok, let ⟨e, s, hs⟩ := hl.some; ⟨e, s, h e s hs⟩⟩
/-- Names, as they stand in a slice. -/
def NamesAt (l : List ByteArray) (len : Nat) (g : Nat → AV) : Prop := len = l.length ∧ ∀ j f, l[j]? = some f → g j = .str f
theorem namesAt_snoc {l : List ByteArray} {len : Nat} {g v : Nat → AV} {k : ByteArray} {z : AV} (h : NamesAt l len g) (hv : v 0 = .str k) : NamesAt (l ++ [k]) (len + 1) (vapp z g len v 1) := by
  obtain ⟨h1, h2⟩ := h
  refine ⟨by simp [h1], fun j q hj => ?_⟩
  unfold vapp
  by_cases h3 : j < len
  · rw [show Nat.blt j len = true by rw [Nat.blt_eq]; exact h3, cond_true]
    rw [List.getElem?_append_left (by omega)] at hj
    exact h2 j q hj
  · have e : Nat.blt j len = false := by rw [Bool.eq_false_iff, ne_eq, Nat.blt_eq]; omega
    have hj' := (List.getElem?_eq_some_iff.1 hj).1
    simp at hj'
    have : j = len := by omega
    subst this
    rw [e, cond_false, show Nat.blt j (j + 1) = true by rw [Nat.blt_eq]; omega, cond_true, Nat.sub_self, hv]
    rw [h1, List.getElem?_append_right (by omega)] at hj
    simp at hj
    rw [hj]
abbrev RiseN (l : List ByteArray) : Prop := l.Pairwise fun a b => strLt a b = true
theorem riseN_eq {l l' : List ByteArray} (h : RiseN l) (h' : RiseN l') (hp : ∀ m, m ∈ l ↔ m ∈ l') : l = l' := by
  have nd : ∀ {l}, RiseN l → l.Nodup := fun h => h.imp fun h e => by subst e; rw [strLt_irr] at h; cases h
  refine List.Perm.eq_of_pairwise (le := fun a b => strLt a b = true) (fun a b _ _ h1 h2 => ?_) h h' ((List.perm_ext_iff_of_nodup (nd h) (nd h')).2 hp)
  have := strLt_tr h1 h2
  rw [strLt_irr] at this; cases this
structure MemHd (fl : Nat → Fl) (n : Nat) where
  i : Nat
  l : List ByteArray
  len : Nat
  g : Nat → AV
  hi : i ≤ n
  hg : NamesAt l len g
  hr : RiseN l
  hm : ∀ m, m ∈ l ↔ ∃ j, j < i ∧ (fl j).m = m
theorem mem_len {fl : Nat → Fl} {n : Nat} {l : List ByteArray} (hr : RiseN l) (hm : ∀ m, m ∈ l → ∃ j, j < n ∧ (fl j).m = m) : l.length ≤ n := by
  have nd : l.Nodup := hr.imp fun h e => by subst e; rw [strLt_irr] at h; cases h
  have : ∀ (n : Nat) (l : List ByteArray), l.Nodup → (∀ m, m ∈ l → ∃ j, j < n ∧ (fl j).m = m) → l.length ≤ n := by
    classical
    intro n
    induction n with
    | zero => intro l _ h; cases l with
      | nil => simp
      | cons a r => obtain ⟨j, hj, _⟩ := h a List.mem_cons_self; omega
    | succ n ih =>
      intro l hl h
      have h1 := ih (l.filter fun m => decide (m ≠ (fl n).m)) (List.Pairwise.filter _ hl) (fun m hm => by
        obtain ⟨h2, h3⟩ := List.mem_filter.1 hm
        obtain ⟨j, hj, e⟩ := h m h2
        refine ⟨j, ?_, e⟩
        rcases Nat.lt_or_ge j n with h4 | h4
        · exact h4
        · have : j = n := by omega
          subst this
          simp [e] at h3)
      have h2 : ∀ l : List ByteArray, l.Nodup → l.length ≤ (l.filter fun m => decide (m ≠ (fl n).m)).length + 1 := by
        intro l hl
        induction l with
        | nil => simp
        | cons a r ih =>
          obtain ⟨n1, n2⟩ := List.nodup_cons.1 hl
          by_cases e : a = (fl n).m
          · subst e
            have : (r.filter fun m => decide (m ≠ (fl n).m)) = r := List.filter_eq_self.2 fun m hm => decide_eq_true fun e => n1 (e ▸ hm)
            rw [List.filter_cons, if_neg (by simp), this]; simp
          · rw [List.filter_cons, if_pos (by simp [e])]
            simp only [List.length_cons]
            have := ih n2
            omega
      have := h2 l hl
      omega
  exact this n l nd hm
/-- A name put in its place. -/
theorem ins_rise {l : List ByteArray} {q : Nat} {m : ByteArray} (hr : RiseN l) (h1 : ∀ j x, j < q → l[j]? = some x → strLt x m = true) (h2 : ∀ x, l[q]? = some x → strLt m x = true) : RiseN (l.take q ++ [m] ++ l.drop q) := by
  have hd : ∀ x ∈ l.drop q, strLt m x = true := by
    intro x hx
    obtain ⟨j, hj⟩ := List.getElem?_of_mem hx
    rw [List.getElem?_drop] at hj
    cases hq : l[q]? with
    | none =>
      have h3 := List.getElem?_eq_none_iff.1 hq
      have h4 := (List.getElem?_eq_some_iff.1 hj).1
      omega
    | some y =>
      have hy := h2 y hq
      rcases Nat.eq_zero_or_pos j with e | e
      · subst e
        rw [Nat.add_zero, hq] at hj
        rw [← Option.some.inj hj]; exact hy
      · have hyx : strLt y x = true := by
          obtain ⟨a1, a2⟩ := List.getElem?_eq_some_iff.1 hq
          obtain ⟨b1, b2⟩ := List.getElem?_eq_some_iff.1 hj
          rw [← a2, ← b2]
          exact List.pairwise_iff_getElem.1 hr q (q + j) a1 b1 (by omega)
        exact strLt_tr hy hyx
  have ht : ∀ x ∈ l.take q, strLt x m = true := by
    intro x hx
    obtain ⟨j, hj⟩ := List.getElem?_of_mem hx
    rw [List.getElem?_take] at hj
    split at hj
    · rename_i hjq; exact h1 j x hjq hj
    · cases hj
  refine List.pairwise_append.2 ⟨List.pairwise_append.2 ⟨List.Pairwise.sublist (List.take_sublist _ _) hr, List.pairwise_singleton _ _, fun a ha b hb => ?_⟩, List.Pairwise.sublist (List.drop_sublist _ _) hr, fun a ha b hb => ?_⟩
  · simp at hb; subst hb; exact ht a ha
  · rcases List.mem_append.1 ha with ha | ha
    · exact strLt_tr (ht a ha) (hd b hb)
    · simp at ha; subst ha; exact hd b hb
theorem ins_mem {l : List ByteArray} {q : Nat} {m x : ByteArray} : x ∈ l.take q ++ [m] ++ l.drop q ↔ x ∈ l ∨ x = m := by
  rw [List.mem_append, List.mem_append, List.mem_singleton]
  constructor
  · rintro ((h | h) | h)
    · exact .inl (List.mem_of_mem_take h)
    · exact .inr h
    · exact .inl (List.mem_of_mem_drop h)
  · rintro (h | h)
    · rw [← List.take_append_drop q l, List.mem_append] at h
      rcases h with h | h
      · exact .inl (.inl h)
      · exact .inr h
    · exact .inl (.inr h)
theorem room16 {m : Nat} (h : m ≤ 1000000) : roomOK m 16 = true := by
  simp [roomOK]; omega
theorem takeN {l : List ByteArray} {i : Nat} {k : ByteArray} (h : l[i]? = some k) : l.take (i + 1) = l.take i ++ [k] := by
  rw [List.take_add_one, h]; rfl
structure AtHd (l : List ByteArray) (m : ByteArray) where
  q : Nat
  hq : q ≤ l.length
  hl : ∀ j x, j < q → l[j]? = some x → strLt x m = true
structure CpHd (l : List ByteArray) (q : Nat) where
  k : Nat
  len : Nat
  g : Nat → AV
  hk : k ≤ q
  hg : NamesAt (l.take k) len g
structure CqHd (l : List ByteArray) (q : Nat) (m : ByteArray) where
  k : Nat
  len : Nat
  g : Nat → AV
  h1 : q ≤ k
  hk : k ≤ l.length
  hg : NamesAt (l.take q ++ [m] ++ (l.drop q).take (k - q)) len g
theorem members (fl : Nat → Fl) (n : Nat) (hn : n ≤ 1024) (ns : List ByteArray) (hns : RiseN ns) (hmem : ∀ m, m ∈ ns ↔ ∃ j, j < n ∧ (fl j).m = m) : CallOK Try.prog 36 [encL fl n] (fun r => ∃ len g, r = .vec 1 len g ∧ NamesAt ns len g) := by
  refine okM ?_
  conv => whnf
  repeat ((first | with_reducible refine branch_true rfl ?_ | with_reducible refine branch_false rfl ?_); conv => whnf)
  refine loop_by (cx := cxM) rfl progOK (ι := MemHd fl n) (fun x => n - x.i) (fun x => ⟨[(0, encL fl n), (3, .own (.vec 1 x.len x.g)), (4, .int .i64 x.i)], [], [], none⟩) ?_ ⟨0, [], 0, _, Nat.zero_le _, ⟨rfl, fun j f hj => by simp at hj⟩, List.Pairwise.nil, fun m => by simp⟩
  rintro ⟨i, l, len, g, hi, hg, hr, hm⟩ ih
  have hlen := mem_len hr (fun m h => (hm m).1 h)
  have hl0 := hg.1
  conv => whnf
  repeat ((first | with_reducible refine branch_true rfl ?_ | with_reducible refine branch_false rfl ?_); conv => whnf)
  refine branch_of (fun g1 => ?_) (fun g1 => ?_)
  · have g2 : i < n := by simpa using g1
    have hw : IntKind.i64.wrap ((i : Int) + 1) = ((i + 1 : Nat) : Int) := by rw [wrap64 (by omega)]; omega
    conv => whnf
    repeat ((first | with_reducible refine branch_true rfl ?_ | with_reducible refine branch_false rfl ?_); conv => whnf)
    refine loop_mono (fun e s => e = .exit 2 ∧ ∃ q, q ≤ l.length ∧ (∀ j x, j < q → l[j]? = some x → strLt x (fl i).m = true) ∧ (∀ x, l[q]? = some x → strLt x (fl i).m = false) ∧ s = St.mk [(0, encL fl n), (3, .own (.vec 1 len g)), (4, .int .i64 i), (5, .int .i64 q)] [] [] none) ?_ ?_
    · rintro e s ⟨rfl, q, hq, hq1, hq2, rfl⟩
      have next : ∀ l2 len2 g2', NamesAt l2 len2 g2' → RiseN l2 → (∀ m, m ∈ l2 ↔ m ∈ l ∨ m = (fl i).m) → ∀ K : St → Prop, (∀ j : MemHd fl n, n - j.i < n - i → K (St.mk [(0, encL fl n), (3, .own (.vec 1 j.len j.g)), (4, .int .i64 j.i)] [] [] none)) → K (St.mk [(0, encL fl n), (3, .own (.vec 1 len2 g2')), (4, .int .i64 (IntKind.i64.wrap ((i : Int) + 1)))] [] [] none) := by
        intro l2 len2 g2' k1 k2 k3 K hK
        rw [hw]
        refine hK ⟨i + 1, l2, len2, g2', g2, k1, k2, fun m => ?_⟩ (show n - (i + 1) < n - i by omega)
        rw [k3, hm]
        constructor
        · rintro (⟨j, h1, h2⟩ | h)
          · exact ⟨j, by omega, h2⟩
          · exact ⟨i, by omega, h.symm⟩
        · rintro ⟨j, h1, h2⟩
          rcases Nat.lt_or_ge j i with h3 | h3
          · exact .inl ⟨j, h3, h2⟩
          · obtain rfl : j = i := by omega
            exact .inr h2.symm
      conv => whnf
      repeat ((first | with_reducible refine branch_true rfl ?_ | with_reducible refine branch_false rfl ?_); conv => whnf)
      refine branch_of (fun g3 => ?_) (fun g3 => ?_)
      · have g4 : q < l.length := by
          have := of_decide_eq_true g3
          simp at this; omega
        obtain ⟨x, hx⟩ : ∃ x, l[q]? = some x := ⟨_, List.getElem?_eq_getElem g4⟩
        conv => whnf
        repeat ((first | with_reducible refine branch_true rfl ?_ | with_reducible refine branch_false rfl ?_); conv => whnf)
        refine st_addr_v (sz := 1) (len := len) (n := (q : Int)) (u := 9) (v := .str x) rfl rfl rfl rfl rfl (in_range (by omega)) (hg.2 q x hx) ?_
        conv => whnf
        repeat ((first | with_reducible refine branch_true rfl ?_ | with_reducible refine branch_false rfl ?_); conv => whnf)
        refine st_addr (sz := 4) (len := n) (n := i) (u := 34) (g := fun i => encF (fl i)) rfl rfl rfl rfl rfl (in_range g2) ?_
        conv => whnf
        repeat ((first | with_reducible refine branch_true rfl ?_ | with_reducible refine branch_false rfl ?_); conv => whnf)
        refine branch_of (fun g5 => ?_) (fun g5 => ?_)
        · have g5 : x = (fl i).m := of_decide_eq_true g5
          conv => whnf
          repeat ((first | with_reducible refine branch_true rfl ?_ | with_reducible refine branch_false rfl ?_); conv => whnf)
          exact next l len g hg hr (fun m => ⟨.inl, fun h => h.elim id fun e => by rw [e, ← g5]; exact List.mem_of_getElem? hx⟩) (fun s => SLoop _ _ _ _ _ _ s _) ih
        · have g5 : ¬ x = (fl i).m := of_decide_eq_false g5
          have hgt : ∀ x, l[q]? = some x → strLt (fl i).m x = true := fun y hy => by
            rw [hx] at hy
            rw [← Option.some.inj hy]
            exact strLt_tri (hq2 x hx) g5
          conv => whnf
          repeat ((first | with_reducible refine branch_true rfl ?_ | with_reducible refine branch_false rfl ?_); conv => whnf)
          refine loop_mono (fun e s => e = .exit 4 ∧ ∃ len2 g2', NamesAt (l.take q) len2 g2' ∧ s = St.mk [(0, encL fl n), (3, .own (.vec 1 len g)), (4, .int .i64 i), (5, .int .i64 q), (6, .own (.vec 1 len2 g2'))] [] [] none) ?_ ?_
          · rintro e s ⟨rfl, len2, g2', hg2, rfl⟩
            have hl2 := hg2.1
            have hl3 := List.length_take_le q l
            conv => whnf
            repeat ((first | with_reducible refine branch_true rfl ?_ | with_reducible refine branch_false rfl ?_); conv => whnf)
            refine st_addr (sz := 4) (len := n) (n := i) (u := 34) (g := fun i => encF (fl i)) rfl rfl rfl rfl rfl (in_range g2) ?_
            conv => whnf
            repeat ((first | with_reducible refine branch_true rfl ?_ | with_reducible refine branch_false rfl ?_); conv => whnf)
            refine st_append (sz := 1) (len := len2) (g := g2') (u := 9) (m := 1) (gg := vlist (zeroElem Try.prog 9) [.str (fl i).m]) rfl rfl rfl rfl rfl (room16 (by omega)) ?_
            conv => whnf
            repeat ((first | with_reducible refine branch_true rfl ?_ | with_reducible refine branch_false rfl ?_); conv => whnf)
            refine loop_mono (fun e s => e = .exit 6 ∧ ∃ len3 g3', NamesAt (l.take q ++ [(fl i).m] ++ l.drop q) len3 g3' ∧ s = St.mk [(0, encL fl n), (4, .int .i64 i), (6, .own (.vec 1 len3 g3'))] [] [] none) ?_ ?_
            · rintro e s ⟨rfl, len3, g3', hg3, rfl⟩
              conv => whnf
              repeat ((first | with_reducible refine branch_true rfl ?_ | with_reducible refine branch_false rfl ?_); conv => whnf)
              exact next _ _ _ hg3 (ins_rise hr hq1 hgt) (fun m => ins_mem) (fun s => SLoop _ _ _ _ _ _ s _) ih
            · refine loop_by (cx := cxM) rfl progOK (ι := CqHd l q (fl i).m) (fun x => l.length - x.k) (fun x => ⟨[(0, encL fl n), (3, .own (.vec 1 len g)), (4, .int .i64 i), (6, .own (.vec 1 x.len x.g)), (8, .int .i64 x.k)], [], [], none⟩) ?_ ⟨q, _, _, Nat.le_refl _, hq, by rw [Nat.sub_self, List.take_zero, List.append_nil]; exact namesAt_snoc hg2 rfl⟩
              rintro ⟨k, len3, g3', hk1, hk2, hg3⟩ ih3
              have hl4 := hg3.1
              have hl5 := List.length_take_le (k - q) (l.drop q)
              simp only [List.length_append, List.length_singleton] at hl4
              conv => whnf
              repeat ((first | with_reducible refine branch_true rfl ?_ | with_reducible refine branch_false rfl ?_); conv => whnf)
              refine branch_of (fun g6 => ?_) (fun g6 => ?_)
              · have g7 : k < l.length := by
                  have := of_decide_eq_true g6
                  simp at this; omega
                have hw3 : IntKind.i64.wrap ((k : Int) + 1) = ((k + 1 : Nat) : Int) := by rw [wrap64 (by omega)]; omega
                obtain ⟨x, hx⟩ : ∃ x, l[k]? = some x := ⟨_, List.getElem?_eq_getElem g7⟩
                conv => whnf
                repeat ((first | with_reducible refine branch_true rfl ?_ | with_reducible refine branch_false rfl ?_); conv => whnf)
                refine st_addr_v (sz := 1) (len := len) (n := (k : Int)) (u := 9) (v := .str x) rfl rfl rfl rfl rfl (in_range (by omega)) (hg.2 k x hx) ?_
                conv => whnf
                repeat ((first | with_reducible refine branch_true rfl ?_ | with_reducible refine branch_false rfl ?_); conv => whnf)
                refine st_append (sz := 1) (len := len3) (g := g3') (u := 9) (m := 1) (gg := vlist (zeroElem Try.prog 9) [.str x]) rfl rfl rfl rfl rfl (room16 (by omega)) ?_
                conv => whnf
                repeat ((first | with_reducible refine branch_true rfl ?_ | with_reducible refine branch_false rfl ?_); conv => whnf)
                refine loop_to ih3 ⟨k + 1, len3 + 1, _, by omega, g7, ?_⟩ (show l.length - (k + 1) < l.length - k by omega) (congrArg (fun t => St.mk [(0, encL fl n), (3, .own (.vec 1 len g)), (4, .int .i64 i), (6, .own (.vec 1 (len3 + 1) _)), (8, .int .i64 t)] [] [] none) hw3)
                have e1 : (l.drop q)[k - q]? = some x := by rw [List.getElem?_drop, show q + (k - q) = k by omega]; exact hx
                rw [show k + 1 - q = (k - q) + 1 by omega, takeN e1, ← List.append_assoc]
                exact namesAt_snoc hg3 rfl
              · have g7 : ¬ k < l.length := by
                  have := of_decide_eq_false g6
                  simp at this; omega
                conv => whnf
                repeat ((first | with_reducible refine branch_true rfl ?_ | with_reducible refine branch_false rfl ?_); conv => whnf)
                refine ⟨rfl, len3, g3', ?_, rfl⟩
                have e1 : (l.drop q).take (k - q) = l.drop q := List.take_of_length_le (by rw [List.length_drop]; omega)
                rw [e1] at hg3; exact hg3
          · refine loop_by (cx := cxM) rfl progOK (ι := CpHd l q) (fun x => q - x.k) (fun x => ⟨[(0, encL fl n), (3, .own (.vec 1 len g)), (4, .int .i64 i), (5, .int .i64 q), (6, .own (.vec 1 x.len x.g)), (7, .int .i64 x.k)], [], [], none⟩) ?_ ⟨0, 0, _, Nat.zero_le _, ⟨rfl, fun j f hj => by simp at hj⟩⟩
            rintro ⟨k, len2, g2', hk, hg2⟩ ih3
            have hl2 := hg2.1
            have hl3 := List.length_take_le k l
            conv => whnf
            repeat ((first | with_reducible refine branch_true rfl ?_ | with_reducible refine branch_false rfl ?_); conv => whnf)
            refine branch_of (fun g6 => ?_) (fun g6 => ?_)
            · have g7 : k < q := by
                have := of_decide_eq_true g6
                simp at this; omega
              have hw3 : IntKind.i64.wrap ((k : Int) + 1) = ((k + 1 : Nat) : Int) := by rw [wrap64 (by omega)]; omega
              obtain ⟨x, hx⟩ : ∃ x, l[k]? = some x := ⟨_, List.getElem?_eq_getElem (by omega)⟩
              conv => whnf
              repeat ((first | with_reducible refine branch_true rfl ?_ | with_reducible refine branch_false rfl ?_); conv => whnf)
              refine st_addr_v (sz := 1) (len := len) (n := (k : Int)) (u := 9) (v := .str x) rfl rfl rfl rfl rfl (in_range (by omega)) (hg.2 k x hx) ?_
              conv => whnf
              repeat ((first | with_reducible refine branch_true rfl ?_ | with_reducible refine branch_false rfl ?_); conv => whnf)
              refine st_append (sz := 1) (len := len2) (g := g2') (u := 9) (m := 1) (gg := vlist (zeroElem Try.prog 9) [.str x]) rfl rfl rfl rfl rfl (room16 (by omega)) ?_
              conv => whnf
              repeat ((first | with_reducible refine branch_true rfl ?_ | with_reducible refine branch_false rfl ?_); conv => whnf)
              exact loop_to ih3 ⟨k + 1, len2 + 1, _, g7, by rw [takeN hx]; exact namesAt_snoc hg2 rfl⟩ (show q - (k + 1) < q - k by omega) (congrArg (fun t => St.mk [(0, encL fl n), (3, .own (.vec 1 len g)), (4, .int .i64 i), (5, .int .i64 q), (6, .own (.vec 1 (len2 + 1) _)), (7, .int .i64 t)] [] [] none) hw3)
            · have g7 : k = q := by
                have := of_decide_eq_false g6
                simp at this; omega
              subst g7
              conv => whnf
              repeat ((first | with_reducible refine branch_true rfl ?_ | with_reducible refine branch_false rfl ?_); conv => whnf)
              exact ⟨rfl, len2, g2', hg2, rfl⟩
      · have g4 : ¬ q < l.length := by
          have := of_decide_eq_false g3
          simp at this; omega
        have hgt : ∀ x, l[q]? = some x → strLt (fl i).m x = true := fun y hy => absurd (List.getElem?_eq_some_iff.1 hy).1 g4
        conv => whnf
        repeat ((first | with_reducible refine branch_true rfl ?_ | with_reducible refine branch_false rfl ?_); conv => whnf)
        refine loop_mono (fun e s => e = .exit 4 ∧ ∃ len2 g2', NamesAt (l.take q) len2 g2' ∧ s = St.mk [(0, encL fl n), (3, .own (.vec 1 len g)), (4, .int .i64 i), (5, .int .i64 q), (6, .own (.vec 1 len2 g2'))] [] [] none) ?_ ?_
        · rintro e s ⟨rfl, len2, g2', hg2, rfl⟩
          have hl2 := hg2.1
          have hl3 := List.length_take_le q l
          conv => whnf
          repeat ((first | with_reducible refine branch_true rfl ?_ | with_reducible refine branch_false rfl ?_); conv => whnf)
          refine st_addr (sz := 4) (len := n) (n := i) (u := 34) (g := fun i => encF (fl i)) rfl rfl rfl rfl rfl (in_range g2) ?_
          conv => whnf
          repeat ((first | with_reducible refine branch_true rfl ?_ | with_reducible refine branch_false rfl ?_); conv => whnf)
          refine st_append (sz := 1) (len := len2) (g := g2') (u := 9) (m := 1) (gg := vlist (zeroElem Try.prog 9) [.str (fl i).m]) rfl rfl rfl rfl rfl (room16 (by omega)) ?_
          conv => whnf
          repeat ((first | with_reducible refine branch_true rfl ?_ | with_reducible refine branch_false rfl ?_); conv => whnf)
          refine loop_mono (fun e s => e = .exit 6 ∧ ∃ len3 g3', NamesAt (l.take q ++ [(fl i).m] ++ l.drop q) len3 g3' ∧ s = St.mk [(0, encL fl n), (4, .int .i64 i), (6, .own (.vec 1 len3 g3'))] [] [] none) ?_ ?_
          · rintro e s ⟨rfl, len3, g3', hg3, rfl⟩
            conv => whnf
            repeat ((first | with_reducible refine branch_true rfl ?_ | with_reducible refine branch_false rfl ?_); conv => whnf)
            exact next _ _ _ hg3 (ins_rise hr hq1 hgt) (fun m => ins_mem) (fun s => SLoop _ _ _ _ _ _ s _) ih
          · refine loop_by (cx := cxM) rfl progOK (ι := CqHd l q (fl i).m) (fun x => l.length - x.k) (fun x => ⟨[(0, encL fl n), (3, .own (.vec 1 len g)), (4, .int .i64 i), (6, .own (.vec 1 x.len x.g)), (8, .int .i64 x.k)], [], [], none⟩) ?_ ⟨q, _, _, Nat.le_refl _, hq, by rw [Nat.sub_self, List.take_zero, List.append_nil]; exact namesAt_snoc hg2 rfl⟩
            rintro ⟨k, len3, g3', hk1, hk2, hg3⟩ ih3
            have hl4 := hg3.1
            have hl5 := List.length_take_le (k - q) (l.drop q)
            simp only [List.length_append, List.length_singleton] at hl4
            conv => whnf
            repeat ((first | with_reducible refine branch_true rfl ?_ | with_reducible refine branch_false rfl ?_); conv => whnf)
            refine branch_of (fun g6 => ?_) (fun g6 => ?_)
            · have g7 : k < l.length := by
                have := of_decide_eq_true g6
                simp at this; omega
              have hw3 : IntKind.i64.wrap ((k : Int) + 1) = ((k + 1 : Nat) : Int) := by rw [wrap64 (by omega)]; omega
              obtain ⟨x, hx⟩ : ∃ x, l[k]? = some x := ⟨_, List.getElem?_eq_getElem g7⟩
              conv => whnf
              repeat ((first | with_reducible refine branch_true rfl ?_ | with_reducible refine branch_false rfl ?_); conv => whnf)
              refine st_addr_v (sz := 1) (len := len) (n := (k : Int)) (u := 9) (v := .str x) rfl rfl rfl rfl rfl (in_range (by omega)) (hg.2 k x hx) ?_
              conv => whnf
              repeat ((first | with_reducible refine branch_true rfl ?_ | with_reducible refine branch_false rfl ?_); conv => whnf)
              refine st_append (sz := 1) (len := len3) (g := g3') (u := 9) (m := 1) (gg := vlist (zeroElem Try.prog 9) [.str x]) rfl rfl rfl rfl rfl (room16 (by omega)) ?_
              conv => whnf
              repeat ((first | with_reducible refine branch_true rfl ?_ | with_reducible refine branch_false rfl ?_); conv => whnf)
              refine loop_to ih3 ⟨k + 1, len3 + 1, _, by omega, g7, ?_⟩ (show l.length - (k + 1) < l.length - k by omega) (congrArg (fun t => St.mk [(0, encL fl n), (3, .own (.vec 1 len g)), (4, .int .i64 i), (6, .own (.vec 1 (len3 + 1) _)), (8, .int .i64 t)] [] [] none) hw3)
              have e1 : (l.drop q)[k - q]? = some x := by rw [List.getElem?_drop, show q + (k - q) = k by omega]; exact hx
              rw [show k + 1 - q = (k - q) + 1 by omega, takeN e1, ← List.append_assoc]
              exact namesAt_snoc hg3 rfl
            · have g7 : ¬ k < l.length := by
                have := of_decide_eq_false g6
                simp at this; omega
              conv => whnf
              repeat ((first | with_reducible refine branch_true rfl ?_ | with_reducible refine branch_false rfl ?_); conv => whnf)
              refine ⟨rfl, len3, g3', ?_, rfl⟩
              have e1 : (l.drop q).take (k - q) = l.drop q := List.take_of_length_le (by rw [List.length_drop]; omega)
              rw [e1] at hg3; exact hg3
        · refine loop_by (cx := cxM) rfl progOK (ι := CpHd l q) (fun x => q - x.k) (fun x => ⟨[(0, encL fl n), (3, .own (.vec 1 len g)), (4, .int .i64 i), (5, .int .i64 q), (6, .own (.vec 1 x.len x.g)), (7, .int .i64 x.k)], [], [], none⟩) ?_ ⟨0, 0, _, Nat.zero_le _, ⟨rfl, fun j f hj => by simp at hj⟩⟩
          rintro ⟨k, len2, g2', hk, hg2⟩ ih3
          have hl2 := hg2.1
          have hl3 := List.length_take_le k l
          conv => whnf
          repeat ((first | with_reducible refine branch_true rfl ?_ | with_reducible refine branch_false rfl ?_); conv => whnf)
          refine branch_of (fun g6 => ?_) (fun g6 => ?_)
          · have g7 : k < q := by
              have := of_decide_eq_true g6
              simp at this; omega
            have hw3 : IntKind.i64.wrap ((k : Int) + 1) = ((k + 1 : Nat) : Int) := by rw [wrap64 (by omega)]; omega
            obtain ⟨x, hx⟩ : ∃ x, l[k]? = some x := ⟨_, List.getElem?_eq_getElem (by omega)⟩
            conv => whnf
            repeat ((first | with_reducible refine branch_true rfl ?_ | with_reducible refine branch_false rfl ?_); conv => whnf)
            refine st_addr_v (sz := 1) (len := len) (n := (k : Int)) (u := 9) (v := .str x) rfl rfl rfl rfl rfl (in_range (by omega)) (hg.2 k x hx) ?_
            conv => whnf
            repeat ((first | with_reducible refine branch_true rfl ?_ | with_reducible refine branch_false rfl ?_); conv => whnf)
            refine st_append (sz := 1) (len := len2) (g := g2') (u := 9) (m := 1) (gg := vlist (zeroElem Try.prog 9) [.str x]) rfl rfl rfl rfl rfl (room16 (by omega)) ?_
            conv => whnf
            repeat ((first | with_reducible refine branch_true rfl ?_ | with_reducible refine branch_false rfl ?_); conv => whnf)
            exact loop_to ih3 ⟨k + 1, len2 + 1, _, g7, by rw [takeN hx]; exact namesAt_snoc hg2 rfl⟩ (show q - (k + 1) < q - k by omega) (congrArg (fun t => St.mk [(0, encL fl n), (3, .own (.vec 1 len g)), (4, .int .i64 i), (5, .int .i64 q), (6, .own (.vec 1 (len2 + 1) _)), (7, .int .i64 t)] [] [] none) hw3)
          · have g7 : k = q := by
              have := of_decide_eq_false g6
              simp at this; omega
            subst g7
            conv => whnf
            repeat ((first | with_reducible refine branch_true rfl ?_ | with_reducible refine branch_false rfl ?_); conv => whnf)
            exact ⟨rfl, len2, g2', hg2, rfl⟩
    · refine loop_by (cx := cxM) rfl progOK (ι := AtHd l (fl i).m) (fun x => l.length - x.q) (fun x => ⟨[(0, encL fl n), (3, .own (.vec 1 len g)), (4, .int .i64 i), (5, .int .i64 x.q)], [], [], none⟩) ?_ ⟨0, Nat.zero_le _, fun j x hj => absurd hj (by omega)⟩
      rintro ⟨q, hq, hl⟩ ih2
      conv => whnf
      repeat ((first | with_reducible refine branch_true rfl ?_ | with_reducible refine branch_false rfl ?_); conv => whnf)
      refine branch_of (fun g3 => ?_) (fun g3 => ?_)
      · have g4 : q < l.length := by
          have := of_decide_eq_true g3
          simp at this; omega
        have hw2 : IntKind.i64.wrap ((q : Int) + 1) = ((q + 1 : Nat) : Int) := by rw [wrap64 (by omega)]; omega
        obtain ⟨x, hx⟩ : ∃ x, l[q]? = some x := ⟨_, List.getElem?_eq_getElem g4⟩
        conv => whnf
        repeat ((first | with_reducible refine branch_true rfl ?_ | with_reducible refine branch_false rfl ?_); conv => whnf)
        refine st_addr_v (sz := 1) (len := len) (n := (q : Int)) (u := 9) (v := .str x) rfl rfl rfl rfl rfl (in_range (by omega)) (hg.2 q x hx) ?_
        conv => whnf
        repeat ((first | with_reducible refine branch_true rfl ?_ | with_reducible refine branch_false rfl ?_); conv => whnf)
        refine st_addr (sz := 4) (len := n) (n := i) (u := 34) (g := fun i => encF (fl i)) rfl rfl rfl rfl rfl (in_range g2) ?_
        conv => whnf
        repeat ((first | with_reducible refine branch_true rfl ?_ | with_reducible refine branch_false rfl ?_); conv => whnf)
        refine branch_of (fun g5 => ?_) (fun g5 => ?_)
        · have g5 : strLt x (fl i).m = true := g5
          conv => whnf
          repeat ((first | with_reducible refine branch_true rfl ?_ | with_reducible refine branch_false rfl ?_); conv => whnf)
          refine loop_to ih2 ⟨q + 1, g4, fun j y hj hy => ?_⟩ (show l.length - (q + 1) < l.length - q by omega) (congrArg (fun t => St.mk [(0, encL fl n), (3, .own (.vec 1 len g)), (4, .int .i64 i), (5, .int .i64 t)] [] [] none) hw2)
          rcases Nat.lt_or_ge j q with h3 | h3
          · exact hl j y h3 hy
          · obtain rfl : j = q := by omega
            rw [hx] at hy; rw [← Option.some.inj hy]; exact g5
        · have g5 : strLt x (fl i).m = false := g5
          conv => whnf
          repeat ((first | with_reducible refine branch_true rfl ?_ | with_reducible refine branch_false rfl ?_); conv => whnf)
          exact ⟨rfl, q, hq, hl, fun y hy => by rw [hx] at hy; rw [← Option.some.inj hy]; exact g5, rfl⟩
      · have g4 : ¬ q < l.length := by
          have := of_decide_eq_false g3
          simp at this; omega
        conv => whnf
        repeat ((first | with_reducible refine branch_true rfl ?_ | with_reducible refine branch_false rfl ?_); conv => whnf)
        exact ⟨rfl, q, hq, hl, fun y hy => absurd (List.getElem?_eq_some_iff.1 hy).1 g4, rfl⟩
  · have g2 : i = n := by simp at g1; omega
    subst g2
    conv => whnf
    repeat ((first | with_reducible refine branch_true rfl ?_ | with_reducible refine branch_false rfl ?_); conv => whnf)
    obtain rfl := riseN_eq hr hns fun m => by rw [hm, hmem]
    exact ⟨len, g, rfl, hg⟩
end Go.Proofs


set_option linter.unusedVariables false
namespace Go.Proofs
open Ax Go
set_option maxRecDepth 10000
/-- All keys of some names. -/
def pairsOf (ns : List ByteArray) : List Key := (List.range (8 * ns.length)).map fun t => (ns.getD (t / 8) ByteArray.empty, ((t % 8 : Nat) : Int))
theorem pairs_at {ns : List ByteArray} {i c : Nat} {m : ByteArray} (hi : ns[i]? = some m) (hc : c < 8) : (pairsOf ns)[8 * i + c]? = some (m, (c : Int)) := by
  have h1 := (List.getElem?_eq_some_iff.1 hi).1
  unfold pairsOf
  rw [List.getElem?_map, List.getElem?_range (by omega)]
  simp only [Option.map_some]
  rw [show (8 * i + c) / 8 = i by omega, show (8 * i + c) % 8 = c by omega, List.getD, hi]; rfl
theorem pairs_len (ns : List ByteArray) : (pairsOf ns).length = 8 * ns.length := by simp [pairsOf]
theorem pairs_rise {ns : List ByteArray} (h : RiseN ns) : RiseK (pairsOf ns) := by
  refine List.pairwise_iff_getElem.2 fun a b ha hb hab => ?_
  rw [pairs_len] at ha hb
  obtain ⟨m, hm⟩ : ∃ m, ns[a / 8]? = some m := ⟨_, List.getElem?_eq_getElem (by omega)⟩
  obtain ⟨m', hm'⟩ : ∃ m, ns[b / 8]? = some m := ⟨_, List.getElem?_eq_getElem (by omega)⟩
  have e1 := pairs_at hm (show a % 8 < 8 by omega)
  have e2 := pairs_at hm' (show b % 8 < 8 by omega)
  rw [show 8 * (a / 8) + a % 8 = a by omega] at e1
  rw [show 8 * (b / 8) + b % 8 = b by omega] at e2
  obtain ⟨_, e1⟩ := List.getElem?_eq_some_iff.1 e1
  obtain ⟨_, e2⟩ := List.getElem?_eq_some_iff.1 e2
  rw [e1, e2, cmpK_lt]
  rcases Nat.lt_or_ge (a / 8) (b / 8) with h3 | h3
  · left
    obtain ⟨q1, q2⟩ := List.getElem?_eq_some_iff.1 hm
    obtain ⟨q3, q4⟩ := List.getElem?_eq_some_iff.1 hm'
    have := List.pairwise_iff_getElem.1 h (a / 8) (b / 8) q1 q3 h3
    rw [q2, q4] at this
    exact this
  · right
    have h4 : a / 8 = b / 8 := by omega
    rw [h4, hm'] at hm
    exact ⟨(Option.some.inj hm).symm, by simp only; omega⟩
theorem pairs_mem {ns : List ByteArray} {k : Key} (h1 : k.1 ∈ ns) (h2 : curOK k.2 = true) : k ∈ pairsOf ns := by
  obtain ⟨i, hi⟩ := List.getElem?_of_mem h1
  have h3 : 0 ≤ k.2 ∧ k.2 < 8 := by simpa [curOK] using h2
  have := List.mem_of_getElem? (pairs_at hi (show k.2.toNat < 8 by omega))
  rw [show ((k.2.toNat : Nat) : Int) = k.2 by omega] at this
  exact this
section
variable {fl : Nat → Fl} {n : Nat} {ks : List Key} {ns : List ByteArray}
theorem tot_none {k : Key} (h : k ∉ keysF fl n) : totK k fl n = 0 := by
  rw [totK, tot]
  have : sel (selP false k.1 k.2) fl n = [] := selK_none h
  rw [this]; rfl
variable (hr : RiseK ks) (hp : ks.Perm (keysF fl n)) (hns : RiseN ns) (hm : ∀ m, m ∈ ns ↔ ∃ j, j < n ∧ (fl j).m = m) (hc : checkE fl n = 0)
open Classical in
include hr hp hns hm hc in
theorem pairs_keys : (pairsOf ns).filter (fun k => decide (k ∈ keysF fl n)) = ks := by
  refine rise_eq (List.Pairwise.filter _ (pairs_rise hns)) hr ?_
  rw [List.perm_ext_iff_of_nodup (rise_nodup (List.Pairwise.filter _ (pairs_rise hns))) (rise_nodup hr)]
  intro k
  rw [List.mem_filter, decide_eq_true_eq, hp.mem_iff]
  refine ⟨fun h => h.2, fun h => ⟨?_, h⟩⟩
  obtain ⟨f, hf, rfl⟩ := mem_keysL.1 h
  obtain ⟨j, hj, rfl⟩ := mem_toL.1 hf
  obtain ⟨_, c2, _⟩ := chk_split.1 ((checkE_zero.1 hc).2 _ hf)
  exact pairs_mem ((hm _).2 ⟨j, hj, rfl⟩) c2
open Classical in
include hr hp hns hm hc in
theorem pairs_net : netF fl n (pairsOf ns) = netF fl n ks ∧ netOK fl n (pairsOf ns) = netOK fl n ks := by
  have e := pairs_keys hr hp hns hm hc
  have : ∀ l : List Key, netF fl n l = netF fl n (l.filter fun k => decide (k ∈ keysF fl n)) ∧ netOK fl n l = netOK fl n (l.filter fun k => decide (k ∈ keysF fl n)) := by
    intro l
    induction l with
    | nil => exact ⟨rfl, rfl⟩
    | cons k r ih =>
      rw [List.filter_cons]
      by_cases h : k ∈ keysF fl n
      · rw [if_pos (decide_eq_true h)]
        refine ⟨?_, ?_⟩
        · have := ih.1
          unfold netF at this ⊢
          rw [List.filterMap_cons, List.filterMap_cons, this]
        · have := ih.2
          unfold netOK at this ⊢
          rw [List.all_cons, List.all_cons, this]
      · have hz := tot_none h
        rw [if_neg (by simp [h])]
        refine ⟨?_, ?_⟩
        · rw [← ih.1]
          unfold netF
          rw [List.filterMap_cons]
          simp [hz]
        · rw [← ih.2]
          unfold netOK
          rw [List.all_cons, hz]; rfl
  have := this (pairsOf ns)
  rw [e] at this
  exact this
end
structure RnHd (fl : Nat → Fl) (n : Nat) (ns : List ByteArray) where
  i : Nat
  len : Nat
  g : Nat → AV
  hi : i ≤ ns.length
  hf : FlowsAt (netF fl n ((pairsOf ns).take (8 * i))) len g
  ho : ∀ k ∈ (pairsOf ns).take (8 * i), fitsI (totK k fl n) = true
structure RnHi (fl : Nat → Fl) (n : Nat) (ns : List ByteArray) (i : Nat) where
  c : Nat
  len : Nat
  g : Nat → AV
  hc : c ≤ 8
  hf : FlowsAt (netF fl n ((pairsOf ns).take (8 * i + c))) len g
  ho : ∀ k ∈ (pairsOf ns).take (8 * i + c), fitsI (totK k fl n) = true
theorem exists_names (fl : Nat → Fl) (n : Nat) : ∃ ns : List ByteArray, RiseN ns ∧ ∀ m, m ∈ ns ↔ ∃ j, j < n ∧ (fl j).m = m := by
  induction n with
  | zero => exact ⟨[], List.Pairwise.nil, fun m => by simp⟩
  | succ n ih =>
    obtain ⟨l, h1, h2⟩ := ih
    have step : ∀ m, (m ∈ l ∨ m = (fl n).m) ↔ ∃ j, j < n + 1 ∧ (fl j).m = m := by
      intro m
      rw [h2]
      constructor
      · rintro (⟨j, a, b⟩ | h)
        · exact ⟨j, by omega, b⟩
        · exact ⟨n, by omega, h.symm⟩
      · rintro ⟨j, a, b⟩
        rcases Nat.lt_or_ge j n with h3 | h3
        · exact .inl ⟨j, h3, b⟩
        · obtain rfl : j = n := by omega
          exact .inr b.symm
    by_cases h : (fl n).m ∈ l
    · exact ⟨l, h1, fun m => by rw [← step]; exact ⟨.inl, fun e => e.elim id fun e => e ▸ h⟩⟩
    · have ex : ∀ r : List ByteArray, RiseN r → (fl n).m ∉ r → ∃ t, RiseN t ∧ ∀ m, m ∈ t ↔ m ∈ r ∨ m = (fl n).m := by
        intro r
        induction r with
        | nil => exact fun _ _ => ⟨[(fl n).m], List.pairwise_singleton _ _, fun m => by simp⟩
        | cons a r ihr =>
          intro hr hn
          have hna : a ≠ (fl n).m := fun e => hn (e ▸ List.mem_cons_self)
          cases hlt : strLt (fl n).m a with
          | true =>
            refine ⟨(fl n).m :: a :: r, List.pairwise_cons.2 ⟨fun b hb => ?_, hr⟩, fun m => by simp [or_comm]⟩
            rcases List.mem_cons.1 hb with rfl | hb
            · exact hlt
            · exact strLt_tr hlt ((List.pairwise_cons.1 hr).1 b hb)
          | false =>
            obtain ⟨t, ht, hm⟩ := ihr (List.pairwise_cons.1 hr).2 (fun e => hn (List.mem_cons_of_mem _ e))
            refine ⟨a :: t, List.pairwise_cons.2 ⟨fun b hb => ?_, ht⟩, fun m => by rw [List.mem_cons, hm, List.mem_cons]; exact or_assoc.symm⟩
            rcases (hm b).1 hb with hb | rfl
            · exact (List.pairwise_cons.1 hr).1 b hb
            · exact strLt_tri hlt (Ne.symm hna)
      obtain ⟨t, ht, hm⟩ := ex l h1 h
      exact ⟨t, ht, fun m => by rw [hm, step]⟩
theorem refNet (fl : Nat → Fl) (n : Nat) (ks : List Key) (hr : RiseK ks) (hp : ks.Perm (keysF fl n)) : CallOK Try.prog 12 [encL fl n] (fun r => ∃ len g, r = .tup [.vec 4 len g, .int .i64 (netE fl n ks)] ∧ FlowsAt (netL fl n ks) len g) := by
  refine okM ?_
  conv => whnf
  repeat ((first | with_reducible refine branch_true rfl ?_ | with_reducible refine branch_false rfl ?_); conv => whnf)
  refine call_is (refCheck fl n) ?_
  conv => whnf
  repeat ((first | with_reducible refine branch_true rfl ?_ | with_reducible refine branch_false rfl ?_); conv => whnf)
  refine branch_of (fun h1 => ?_) (fun h1 => ?_)
  · have h1 : checkE fl n ≠ 0 := by simpa using h1
    conv => whnf
    repeat ((first | with_reducible refine branch_true rfl ?_ | with_reducible refine branch_false rfl ?_); conv => whnf)
    have e : netE fl n ks = checkE fl n := by rw [netE, if_pos h1]
    exact ⟨0, _, congrArg (fun q => AV.tup [AV.vec 4 0 _, AV.int .i64 q]) e.symm, by rw [netL, if_neg (by rw [e]; exact h1)]; exact ⟨rfl, fun j f hj => by simp at hj⟩⟩
  · have h1 : checkE fl n = 0 := by simpa using h1
    obtain ⟨hn, hall⟩ := check_ok h1
    obtain ⟨ns, hns, hm⟩ := exists_names fl n
    have hnl := mem_len hns (fun m h => (hm m).1 h)
    obtain ⟨pn1, pn2⟩ := pairs_net hr hp hns hm h1
    conv => whnf
    repeat ((first | with_reducible refine branch_true rfl ?_ | with_reducible refine branch_false rfl ?_); conv => whnf)
    refine call_by (members fl n hn ns hns hm) ⟨_, _, fun i => .str (ns.getD i ByteArray.empty), rfl, rfl, fun j f hj => by simp only [List.getD, hj]; rfl⟩ ?_
    rintro r ⟨nl, ng, rfl, hng⟩
    have hnl0 := hng.1
    conv => whnf
    repeat ((first | with_reducible refine branch_true rfl ?_ | with_reducible refine branch_false rfl ?_); conv => whnf)
    refine loop_by (cx := cxM) rfl progOK (ι := RnHd fl n ns) (fun x => ns.length - x.i) (fun x => ⟨[(0, encL fl n), (5, .vec 1 nl ng), (6, .own (.vec 4 x.len x.g)), (7, .int .i64 x.i)], [], [], none⟩) ?_ ⟨0, 0, _, Nat.zero_le _, ⟨by simp [netF], fun j f hj => by simp [netF] at hj⟩, by simp⟩
    rintro ⟨i, len, g, hi, hf, ho⟩ ih
    conv => whnf
    repeat ((first | with_reducible refine branch_true rfl ?_ | with_reducible refine branch_false rfl ?_); conv => whnf)
    refine branch_of (fun g1 => ?_) (fun g1 => ?_)
    · have g2 : i < ns.length := by
        have := of_decide_eq_true g1
        simp at this; omega
      have hw : IntKind.i64.wrap ((i : Int) + 1) = ((i + 1 : Nat) : Int) := by rw [wrap64 (by omega)]; omega
      obtain ⟨m, hmi⟩ : ∃ m, ns[i]? = some m := ⟨_, List.getElem?_eq_getElem g2⟩
      conv => whnf
      repeat ((first | with_reducible refine branch_true rfl ?_ | with_reducible refine branch_false rfl ?_); conv => whnf)
      refine loop_by (cx := cxM) rfl progOK (ι := RnHi fl n ns i) (fun x => 8 - x.c) (fun x => ⟨[(0, encL fl n), (5, .vec 1 nl ng), (6, .own (.vec 4 x.len x.g)), (7, .int .i64 i), (8, .int .i64 x.c)], [], [], none⟩) ?_ ⟨0, len, g, by omega, by rw [Nat.add_zero]; exact hf, by rw [Nat.add_zero]; exact ho⟩
      rintro ⟨c, len, g, hc, hf, ho⟩ ih2
      have hfl := hf.1
      have hfl2 := netF_len fl n ((pairsOf ns).take (8 * i + c))
      have hfl3 := List.length_take_le (8 * i + c) (pairsOf ns)
      conv => whnf
      repeat ((first | with_reducible refine branch_true rfl ?_ | with_reducible refine branch_false rfl ?_); conv => whnf)
      refine branch_of (fun g3 => ?_) (fun g3 => ?_)
      · have g4 : c < 8 := by
          have := of_decide_eq_true g3
          simp at this; omega
        have hw2 : IntKind.i64.wrap ((c : Int) + 1) = ((c + 1 : Nat) : Int) := by rw [wrap64 (by omega)]; omega
        have hk := pairs_at hmi g4
        have htk := take_snoc hk
        have hlen := sel_len (selP false m (c : Int)) fl n
        conv => whnf
        repeat ((first | with_reducible refine branch_true rfl ?_ | with_reducible refine branch_false rfl ?_); conv => whnf)
        refine st_addr_v (sz := 1) (len := nl) (n := (i : Int)) (u := 9) (v := .str m) rfl rfl rfl rfl rfl (in_range (by omega)) (hng.2 i m hmi) ?_
        conv => whnf
        repeat ((first | with_reducible refine branch_true rfl ?_ | with_reducible refine branch_false rfl ?_); conv => whnf)
        refine call_by (having fl n hn false m (c : Int)) ⟨_, _, rfl, fun i hi => rfl⟩ ?_
        rintro r ⟨gs, rfl, hgs⟩
        conv => whnf
        repeat ((first | with_reducible refine branch_true rfl ?_ | with_reducible refine branch_false rfl ?_); conv => whnf)
        have hS := ok_same (.cons (.vec hgs) .nil) (refSum (fun i => (sel (selP false m (c : Int)) fl n).getD i 0) _ (by omega) (sel_fits hall))
        have hT : sumZ (fun i => (sel (selP false m (c : Int)) fl n).getD i 0) (sel (selP false m (c : Int)) fl n).length = totK (m, (c : Int)) fl n := rfl
        cases hfit : fitsI (totK (m, (c : Int)) fl n) with
        | true =>
          rw [hT, refSumR, hfit] at hS
          refine call_is (v := .tup [.int .i64 (totK (m, (c : Int)) fl n), .bool true]) hS ?_
          have ho2 : ∀ k ∈ (pairsOf ns).take (8 * i + (c + 1)), fitsI (totK k fl n) = true := by
            intro k' hk'
            rw [← Nat.add_assoc, htk, List.mem_append, List.mem_singleton] at hk'
            rcases hk' with hk' | rfl
            · exact ho k' hk'
            · exact hfit
          conv => whnf
          repeat ((first | with_reducible refine branch_true rfl ?_ | with_reducible refine branch_false rfl ?_); conv => whnf)
          refine branch_of (fun g5 => ?_) (fun g5 => ?_)
          · have g5 : totK (m, (c : Int)) fl n ≠ 0 := by simpa using g5
            conv => whnf
            repeat ((first | with_reducible refine branch_true rfl ?_ | with_reducible refine branch_false rfl ?_); conv => whnf)
            refine st_addr_v (sz := 1) (len := nl) (n := (i : Int)) (u := 9) (v := .str m) rfl rfl rfl rfl rfl (in_range (by omega)) (hng.2 i m hmi) ?_
            conv => whnf
            repeat ((first | with_reducible refine branch_true rfl ?_ | with_reducible refine branch_false rfl ?_); conv => whnf)
            refine st_append (sz := 4) (len := len) (g := g) (u := 34) (m := 1) (gg := vlist (zeroElem Try.prog 34) [encF ⟨m, c, totK (m, (c : Int)) fl n, 0⟩]) rfl rfl rfl rfl rfl (room40 (by omega)) ?_
            conv => whnf
            repeat ((first | with_reducible refine branch_true rfl ?_ | with_reducible refine branch_false rfl ?_); conv => whnf)
            refine loop_to ih2 ⟨c + 1, len + 1, _, g4, ?_, ho2⟩ (show 8 - (c + 1) < 8 - c by omega) (congrArg (fun q => St.mk [(0, encL fl n), (5, .vec 1 nl ng), (6, .own (.vec 4 (len + 1) _)), (7, .int .i64 i), (8, .int .i64 q)] [] [] none) hw2)
            rw [← Nat.add_assoc, htk, netF_snoc g5]
            exact flowsAt_snoc hf rfl
          · have g5 : totK (m, (c : Int)) fl n = 0 := by simpa using g5
            conv => whnf
            repeat ((first | with_reducible refine branch_true rfl ?_ | with_reducible refine branch_false rfl ?_); conv => whnf)
            refine loop_to ih2 ⟨c + 1, len, g, g4, ?_, ho2⟩ (show 8 - (c + 1) < 8 - c by omega) (congrArg (fun q => St.mk [(0, encL fl n), (5, .vec 1 nl ng), (6, .own (.vec 4 len g)), (7, .int .i64 i), (8, .int .i64 q)] [] [] none) hw2)
            rw [← Nat.add_assoc, htk, netF_snoc_zero g5]
            exact hf
        | false =>
          rw [hT, refSumR, hfit] at hS
          refine call_is (v := .tup [.int .i64 0, .bool false]) hS ?_
          conv => whnf
          repeat ((first | with_reducible refine branch_true rfl ?_ | with_reducible refine branch_false rfl ?_); conv => whnf)
          have hno : netOK fl n ks = false := by rw [← pn2]; exact List.all_eq_false.2 ⟨_, List.mem_of_getElem? hk, by simp [hfit]⟩
          have e : netE fl n ks = 3 := by rw [netE, if_neg (by simp [h1]), hno]; rfl
          exact ⟨0, _, congrArg (fun q => AV.tup [AV.vec 4 0 _, AV.int .i64 q]) e.symm, by rw [netL, if_neg (by simp [e])]; exact ⟨rfl, fun j f hj => by simp at hj⟩⟩
      · have g4 : c = 8 := by
          have := of_decide_eq_false g3
          simp at this
          have hc : c ≤ 8 := hc
          omega
        subst g4
        conv => whnf
        repeat ((first | with_reducible refine branch_true rfl ?_ | with_reducible refine branch_false rfl ?_); conv => whnf)
        exact loop_to ih ⟨i + 1, len, g, g2, by rw [Nat.mul_add]; exact hf, by rw [Nat.mul_add]; exact ho⟩ (show ns.length - (i + 1) < ns.length - i by omega) (congrArg (fun q => St.mk [(0, encL fl n), (5, .vec 1 nl ng), (6, .own (.vec 4 len g)), (7, .int .i64 q)] [] [] none) hw)
    · have g2 : i = ns.length := by
        have := of_decide_eq_false g1
        simp at this
        have hi : i ≤ ns.length := hi
        omega
      subst g2
      conv => whnf
      repeat ((first | with_reducible refine branch_true rfl ?_ | with_reducible refine branch_false rfl ?_); conv => whnf)
      rw [← pairs_len, List.take_length] at hf ho
      have hyes : netOK fl n ks = true := by rw [← pn2]; exact List.all_eq_true.2 ho
      have e : netE fl n ks = 0 := by rw [netE, if_neg (by simp [h1]), hyes]; rfl
      exact ⟨len, g, congrArg (fun q => AV.tup [AV.vec 4 len g, AV.int .i64 q]) e.symm, by rw [netL, if_pos e, ← pn1]; exact hf⟩
end Go.Proofs

