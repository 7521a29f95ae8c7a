import Derived.Test.YtemajhloddkifaaLQ
set_option linter.unusedVariables false
namespace Go.Proofs
open Ax Go
set_option maxRecDepth 10000
def keepQ (f r : Nat) : Option (List Nat) := match f, r with
  | 25, 2 => some [2, 3, 6, 7, 8]
  | 26, 2 => some [1, 4, 7, 8, 9]
  | 27, 3 => some [0, 1, 5, 6]
  | 28, 3 => some [0, 3, 4]
  | 29, 3 => some [0, 1, 5, 6]
  | 36, 3 => some [0, 4, 5]
  | 36, 5 => some [0, 4, 5, 6]
  | 36, 12 => some [0, 4, 5, 6, 7, 8]
  | 36, 16 => some [0, 4, 5, 6, 7, 9]
  | 12, 7 => some [0, 5, 6, 7]
  | 12, 9 => some [0, 5, 6, 7, 8]
  | _, _ => none
def keepXQ (f r : Nat) : Option (List Nat) := match f, r with
  | 25, 2 => some [2, 3]
  | 26, 2 => some [4]
  | 27, 3 => some [5]
  | 28, 3 => some [3]
  | 29, 3 => some [5]
  | _, _ => none
noncomputable def cxQ : Ctx where
  P := Try.prog
  inl := fun _ => false
  keep := keepQ
  keepX := keepXQ
  xf := fun _ _ _ => false
  ow := fun _ => false
  gh := fun _ _ => []
  gf := fun _ => []
  ln := fun _ => false
  srt := srtT
theorem okQ {f a Q} (h : stepCall (SX Try.prog yesCalm) cxQ yesCalm f a Q) : CallOK Try.prog f a Q := okOf (cx := cxQ) rfl progOK h
def behindF : Fl := ⟨⟨#[98, 101, 104, 105, 110, 100]⟩, 0, 0, 0⟩
theorem flowOwn (fl : Nat → Fl) (n : Nat) (hn : n ≤ 100000) : CallOK Try.prog 10 [encL fl n] (fun r => ∃ g, r = .wide 4 n (n + 1) g ∧ (∀ i, i < n → g i = encF (fl i)) ∧ g n = encF behindF) := by
  have hb : ∀ d, boundOf d (some (.int .i64 (n : Int))) = some n := fun d => by simp [boundOf]
  refine okQ ?_
  conv => whnf
  repeat ((first | with_reducible refine branch_true rfl ?_ | with_reducible refine branch_false rfl ?_); conv => whnf)
  refine st_append (sz := 4) (len := 0) (u := 34) (m := n) (gg := fun i => encF (fl i)) rfl rfl rfl rfl rfl (room40 (by omega)) ?_
  conv => whnf
  repeat ((first | with_reducible refine branch_true rfl ?_ | with_reducible refine branch_false rfl ?_); conv => whnf)
  refine st_append (sz := 4) (len := 0 + n) (u := 34) (m := 1) (gg := vlist (zeroElem Try.prog 34) [encF behindF]) rfl rfl rfl rfl rfl (room40 (by omega)) ?_
  conv => whnf
  repeat ((first | with_reducible refine branch_true rfl ?_ | with_reducible refine branch_false rfl ?_); conv => whnf)
  refine st_slice_own (sz := 4) (len := 0 + n + 1) (u := 34) (l := 0) (m := n) rfl rfl rfl rfl (hb _) (Nat.zero_le _) (by omega) rfl ?_
  conv => whnf
  repeat ((first | with_reducible refine branch_true rfl ?_ | with_reducible refine branch_false rfl ?_); conv => whnf)
  have hl : 0 + n + 1 - 0 = n + 1 := by omega
  have e : ∀ z z' (g0 : Nat → AV) i, i < n + 1 → vapp z (vapp z' g0 0 (fun i => encF (fl i)) n) (0 + n) (vlist (zeroElem Try.prog 34) [encF behindF]) 1 i = if i < n then encF (fl i) else encF behindF := by
    intro z z' g0 i hi
    rw [Nat.zero_add]
    refine vapp_two (F := fun i => if i < n then encF (fl i) else encF behindF) (fun j hj => ?_) (fun j hj => ?_) i hi
    · rw [if_pos hj]
      exact vapp_two (z := z') (g := g0) (v := fun i => encF (fl i)) (F := fun j => encF (fl j)) (i := 0) (m := n) (fun j hj => absurd hj (by omega)) (fun j hj => by rw [Nat.zero_add]) j (by omega)
    · rw [if_neg (by omega)]
      obtain rfl : j = 0 := by omega
      rfl
  refine ⟨_, congrArg (fun q => AV.wide 4 n q _) hl, fun i hi => (vsub_at i (by omega)).trans ?_, (vsub_at n (by omega)).trans ?_⟩
  · rw [show 0 + i = i by omega]
    refine (e _ _ _ i (by omega)).trans ?_
    rw [if_pos hi]
  · have := e (zeroElem Try.prog 34) (zeroElem Try.prog 34) (vlist (zeroElem Try.prog 34) []) n (by omega)
    rw [if_neg (by omega)] at this
    rw [Nat.zero_add] at this ⊢
    exact this
theorem flowKept (fl : Nat → Fl) (n : Nat) (hn : n ≤ 100000) (g : Nat → AV) (h1 : ∀ i, i < n → g i = encF (fl i)) (h2 : g n = encF behindF) : CallOK Try.prog 16 [.wide 4 n (n + 1) g, encL fl n] (fun r => r = .bool true) := by
  have hw : IntKind.i64.wrap ((n : Int) + 1) = ((n + 1 : Nat) : Int) := by rw [wrap64 (by omega)]; omega
  have hb : ∀ d, boundOf d (some (.int .i64 (IntKind.i64.wrap ((n : Int) + 1)))) = some (n + 1) := fun d => by
    rw [hw]
    show (bif decide (0 ≤ ((n + 1 : Nat) : Int)) then some ((n + 1 : Nat) : Int).toNat else none) = some (n + 1)
    rw [decide_eq_true (Int.natCast_nonneg _)]; rfl
  refine okQ ?_
  conv => whnf
  repeat ((first | with_reducible refine branch_true rfl ?_ | with_reducible refine branch_false rfl ?_); conv => whnf)
  refine call_is (ok_same (.cons (.wide h1) (.cons (.refl _) .nil)) (same_self fl n hn)) ?_
  conv => whnf
  repeat ((first | with_reducible refine branch_true rfl ?_ | with_reducible refine branch_false rfl ?_); conv => whnf)
  refine st_slice_wide (sz := 4) (len := n) (q := n + 1) (g := g) (u := 34) (l := 0) (m := n + 1) rfl rfl rfl rfl (hb _) (Nat.zero_le _) (Nat.le_refl _) rfl ?_
  conv => whnf
  repeat ((first | with_reducible refine branch_true rfl ?_ | with_reducible refine branch_false rfl ?_); conv => whnf)
  refine st_addr_v (sz := 4) (n := (n : Int)) (u := 34) (v := encF behindF) rfl rfl rfl rfl rfl (in_range (by omega)) ?_ ?_
  · show vsub _ g 0 (n + 1 - 0) n = _
    rw [vsub_at n (by omega), Nat.zero_add, h2]
  conv => whnf
  repeat ((first | with_reducible refine branch_true rfl ?_ | with_reducible refine branch_false rfl ?_); conv => whnf)
  show AV.bool (decide (behindF.m = behindF.m)) = _
  rw [decide_eq_true rfl]
/-- Those picked. -/
abbrev pick (p : Fl → Bool) (fl : Nat → Fl) (n : Nat) : List Fl := (toL fl n).filter p
theorem pick_yes {p : Fl → Bool} {fl : Nat → Fl} {i : Nat} (h : p (fl i) = true) : pick p fl (i + 1) = pick p fl i ++ [fl i] := by
  rw [pick, toL_succ, List.filter_append]; simp [h]
theorem pick_no {p : Fl → Bool} {fl : Nat → Fl} {i : Nat} (h : p (fl i) = false) : pick p fl (i + 1) = pick p fl i := by
  rw [pick, toL_succ, List.filter_append]; simp [h]
theorem pick_len (p : Fl → Bool) (fl : Nat → Fl) (i : Nat) : (pick p fl i).length ≤ i := by
  have := List.length_filter_le p (toL fl i)
  rw [toL_len] at this
  exact this
structure PickHd (p : Fl → Bool) (fl : Nat → Fl) (n : Nat) where
  i : Nat
  len : Nat
  g : Nat → AV
  hi : i ≤ n
  hg : FlowsAt (pick p fl i) len g
abbrev whyP (y : Int) (f : Fl) : Bool := decide (f.w = y)
theorem flowWhy (fl : Nat → Fl) (n : Nat) (hn : n ≤ 100000) (y : Int) : CallOK Try.prog 26 [encL fl n, .int .i64 y] (fun r => ∃ len g, r = .vec 4 len g ∧ FlowsAt (pick (whyP y) fl n) len g) := by
  refine okQ ?_
  conv => whnf
  repeat ((first | with_reducible refine branch_true rfl ?_ | with_reducible refine branch_false rfl ?_); conv => whnf)
  refine loop_by (cx := cxQ) rfl progOK (ι := PickHd (whyP y) fl n) (fun x => n - x.i) (fun x => ⟨[(1, .int .i64 y), (4, .own (.vec 4 x.len x.g)), (7, encL fl n), (8, .int .i64 n), (9, .int .i64 x.i)], [], [], none⟩) ?_ ⟨0, 0, _, Nat.zero_le _, rfl, fun j f hj => by simp [pick, toL] at hj⟩
  rintro ⟨i, len, g, hi, hg⟩ ih
  have hlen := pick_len (whyP y) fl i
  have hl0 := hg.1
  conv => whnf
  repeat ((first | with_reducible refine branch_true rfl ?_ | with_reducible refine branch_false rfl ?_); conv => whnf)
  refine branch_of (fun g1 => ?_) (fun g1 => ?_)
  · have g2 : i < n := by simpa using g1
    have hw : IntKind.i64.wrap ((i : Int) + 1) = ((i + 1 : Nat) : Int) := by rw [wrap64 (by omega)]; omega
    conv => whnf
    repeat ((first | with_reducible refine branch_true rfl ?_ | with_reducible refine branch_false rfl ?_); conv => whnf)
    refine st_addr (sz := 4) (len := n) (n := i) (u := 34) (g := fun i => encF (fl i)) rfl rfl rfl rfl rfl (in_range g2) ?_
    conv => whnf
    repeat ((first | with_reducible refine branch_true rfl ?_ | with_reducible refine branch_false rfl ?_); conv => whnf)
    refine branch_of (fun g3 => ?_) (fun g3 => ?_)
    · have g3 : (fl i).w < y := of_decide_eq_true g3
      have g5 : whyP y (fl i) = false := decide_eq_false (by omega)
      conv => whnf
      repeat ((first | with_reducible refine branch_true rfl ?_ | with_reducible refine branch_false rfl ?_); conv => whnf)
      exact loop_to ih ⟨i + 1, len, g, g2, by rw [pick_no g5]; exact hg⟩ (show n - (i + 1) < n - i by omega) (congrArg (fun q => St.mk [(1, .int .i64 y), (4, .own (.vec 4 len g)), (7, encL fl n), (8, .int .i64 n), (9, .int .i64 q)] [] [] none) hw)
    · have g3 : ¬ (fl i).w < y := of_decide_eq_false g3
      conv => whnf
      repeat ((first | with_reducible refine branch_true rfl ?_ | with_reducible refine branch_false rfl ?_); conv => whnf)
      refine branch_of (fun g4 => ?_) (fun g4 => ?_)
      · have g4 : y < (fl i).w := of_decide_eq_true g4
        have g5 : whyP y (fl i) = false := decide_eq_false (by omega)
        conv => whnf
        repeat ((first | with_reducible refine branch_true rfl ?_ | with_reducible refine branch_false rfl ?_); conv => whnf)
        exact loop_to ih ⟨i + 1, len, g, g2, by rw [pick_no g5]; exact hg⟩ (show n - (i + 1) < n - i by omega) (congrArg (fun q => St.mk [(1, .int .i64 y), (4, .own (.vec 4 len g)), (7, encL fl n), (8, .int .i64 n), (9, .int .i64 q)] [] [] none) hw)
      · have g4 : ¬ y < (fl i).w := of_decide_eq_false g4
        have g5 : whyP y (fl i) = true := decide_eq_true (by omega)
        conv => whnf
        repeat ((first | with_reducible refine branch_true rfl ?_ | with_reducible refine branch_false rfl ?_); conv => whnf)
        refine st_append (sz := 4) (len := len) (g := g) (u := 34) (m := 1) (gg := vlist (zeroElem Try.prog 34) [encF (fl i)]) rfl rfl rfl rfl rfl (room40 (by omega)) ?_
        conv => whnf
        repeat ((first | with_reducible refine branch_true rfl ?_ | with_reducible refine branch_false rfl ?_); conv => whnf)
        exact loop_to ih ⟨i + 1, len + 1, _, g2, by rw [pick_yes g5]; exact flowsAt_snoc hg rfl⟩ (show n - (i + 1) < n - i by omega) (congrArg (fun q => St.mk [(1, .int .i64 y), (4, .own (.vec 4 (len + 1) _)), (7, encL fl n), (8, .int .i64 n), (9, .int .i64 q)] [] [] none) hw)
  · have g2 : i = n := by simp at g1; omega
    subst g2
    conv => whnf
    repeat ((first | with_reducible refine branch_true rfl ?_ | with_reducible refine branch_false rfl ?_); conv => whnf)
    exact ⟨len, g, rfl, hg⟩
theorem refWhy (fl : Nat → Fl) (n : Nat) (hn : n ≤ 100000) (y : Int) : CallOK Try.prog 27 [encL fl n, .int .i64 y] (fun r => ∃ len g, r = .vec 4 len g ∧ FlowsAt (pick (whyP y) fl n) len g) := by
  refine okQ ?_
  conv => whnf
  repeat ((first | with_reducible refine branch_true rfl ?_ | with_reducible refine branch_false rfl ?_); conv => whnf)
  refine loop_by (cx := cxQ) rfl progOK (ι := PickHd (whyP y) fl n) (fun x => n - x.i) (fun x => ⟨[(0, encL fl n), (1, .int .i64 y), (5, .own (.vec 4 x.len x.g)), (6, .int .i64 x.i)], [], [], none⟩) ?_ ⟨0, 0, _, Nat.zero_le _, rfl, fun j f hj => by simp [pick, toL] at hj⟩
  rintro ⟨i, len, g, hi, hg⟩ ih
  have hlen := pick_len (whyP y) fl i
  have hl0 := hg.1
  conv => whnf
  repeat ((first | with_reducible refine branch_true rfl ?_ | with_reducible refine branch_false rfl ?_); conv => whnf)
  refine branch_of (fun g1 => ?_) (fun g1 => ?_)
  · have g2 : i < n := by simpa using g1
    have hw : IntKind.i64.wrap ((i : Int) + 1) = ((i + 1 : Nat) : Int) := by rw [wrap64 (by omega)]; omega
    conv => whnf
    repeat ((first | with_reducible refine branch_true rfl ?_ | with_reducible refine branch_false rfl ?_); conv => whnf)
    refine st_addr (sz := 4) (len := n) (n := i) (u := 34) (g := fun i => encF (fl i)) rfl rfl rfl rfl rfl (in_range g2) ?_
    conv => whnf
    repeat ((first | with_reducible refine branch_true rfl ?_ | with_reducible refine branch_false rfl ?_); conv => whnf)
    refine branch_of (fun g3 => ?_) (fun g3 => ?_)
    · have g5 : whyP y (fl i) = true := g3
      conv => whnf
      repeat ((first | with_reducible refine branch_true rfl ?_ | with_reducible refine branch_false rfl ?_); conv => whnf)
      refine st_addr (sz := 4) (len := n) (n := i) (u := 34) (g := fun i => encF (fl i)) rfl rfl rfl rfl rfl (in_range g2) ?_
      conv => whnf
      repeat ((first | with_reducible refine branch_true rfl ?_ | with_reducible refine branch_false rfl ?_); conv => whnf)
      refine st_append (sz := 4) (len := len) (g := g) (u := 34) (m := 1) (gg := vlist (zeroElem Try.prog 34) [encF (fl i)]) rfl rfl rfl rfl rfl (room40 (by omega)) ?_
      conv => whnf
      repeat ((first | with_reducible refine branch_true rfl ?_ | with_reducible refine branch_false rfl ?_); conv => whnf)
      exact loop_to ih ⟨i + 1, len + 1, _, g2, by rw [pick_yes g5]; exact flowsAt_snoc hg rfl⟩ (show n - (i + 1) < n - i by omega) (congrArg (fun q => St.mk [(0, encL fl n), (1, .int .i64 y), (5, .own (.vec 4 (len + 1) _)), (6, .int .i64 q)] [] [] none) hw)
    · have g5 : whyP y (fl i) = false := g3
      conv => whnf
      repeat ((first | with_reducible refine branch_true rfl ?_ | with_reducible refine branch_false rfl ?_); conv => whnf)
      exact loop_to ih ⟨i + 1, len, g, g2, by rw [pick_no g5]; exact hg⟩ (show n - (i + 1) < n - i by omega) (congrArg (fun q => St.mk [(0, encL fl n), (1, .int .i64 y), (5, .own (.vec 4 len g)), (6, .int .i64 q)] [] [] none) hw)
  · have g2 : i = n := by simp at g1; omega
    subst g2
    conv => whnf
    repeat ((first | with_reducible refine branch_true rfl ?_ | with_reducible refine branch_false rfl ?_); conv => whnf)
    exact ⟨len, g, rfl, hg⟩
theorem refTurned (fl : Nat → Fl) (n : Nat) (hn : n ≤ 100000) : CallOK Try.prog 28 [encL fl n] (fun r => ∃ g, r = .vec 4 n g ∧ ∀ i, i < n → g i = encF (turnF (fl i))) := by
  refine okQ ?_
  conv => whnf
  repeat ((first | with_reducible refine branch_true rfl ?_ | with_reducible refine branch_false rfl ?_); conv => whnf)
  refine loop_by (cx := cxQ) rfl progOK (ι := TurnHd fl n) (fun x => n - x.i) (fun x => ⟨[(0, encL fl n), (3, .own (.vec 4 x.i x.g)), (4, .int .i64 x.i)], [], [], none⟩) ?_ ⟨0, _, Nat.zero_le _, fun j hj => absurd hj (by omega)⟩
  rintro ⟨i, g, hi, hg⟩ ih
  conv => whnf
  repeat ((first | with_reducible refine branch_true rfl ?_ | with_reducible refine branch_false rfl ?_); conv => whnf)
  refine branch_of (fun g1 => ?_) (fun g1 => ?_)
  · have g2 : i < n := by simpa using g1
    have hw : IntKind.i64.wrap ((i : Int) + 1) = ((i + 1 : Nat) : Int) := by rw [wrap64 (by omega)]; omega
    conv => whnf
    repeat ((first | with_reducible refine branch_true rfl ?_ | with_reducible refine branch_false rfl ?_); conv => whnf)
    refine st_addr (sz := 4) (len := n) (n := i) (u := 34) (g := fun i => encF (fl i)) rfl rfl rfl rfl rfl (in_range g2) ?_
    conv => whnf
    repeat ((first | with_reducible refine branch_true rfl ?_ | with_reducible refine branch_false rfl ?_); conv => whnf)
    refine st_append (sz := 4) (len := i) (g := g) (u := 34) (m := 1) (gg := vlist (zeroElem Try.prog 34) [encF (turnF (fl i))]) rfl rfl rfl rfl rfl (room40 (by omega)) ?_
    conv => whnf
    repeat ((first | with_reducible refine branch_true rfl ?_ | with_reducible refine branch_false rfl ?_); conv => whnf)
    refine loop_to ih ⟨i + 1, _, g2, vapp_fn (F := fun j => encF (turnF (fl j))) hg rfl⟩ (show n - (i + 1) < n - i by omega) (congrArg (fun q => St.mk [(0, encL fl n), (3, .own (.vec 4 (i + 1) _)), (4, .int .i64 q)] [] [] none) hw)
  · have g2 : i = n := by simp at g1; omega
    subst g2
    conv => whnf
    repeat ((first | with_reducible refine branch_true rfl ?_ | with_reducible refine branch_false rfl ?_); conv => whnf)
    exact ⟨g, rfl, hg⟩
abbrev negP (f : Fl) : Bool := decide (f.n < 0)
abbrev posP (f : Fl) : Bool := decide (0 < f.n)
structure PaysHd (fl : Nat → Fl) (n : Nat) where
  i : Nat
  len : Nat
  g : Nat → AV
  len' : Nat
  g' : Nat → AV
  hi : i ≤ n
  hg : FlowsAt (pick negP fl i) len g
  hg' : FlowsAt (pick posP fl i) len' g'
theorem flowPays (fl : Nat → Fl) (n : Nat) (hn : n ≤ 100000) : CallOK Try.prog 25 [encL fl n] (fun r => ∃ len g len' g', r = .tup [.vec 4 len g, .vec 4 len' g'] ∧ FlowsAt (pick negP fl n) len g ∧ FlowsAt (pick posP fl n) len' g') := by
  refine okQ ?_
  conv => whnf
  repeat ((first | with_reducible refine branch_true rfl ?_ | with_reducible refine branch_false rfl ?_); conv => whnf)
  refine loop_by (cx := cxQ) rfl progOK (ι := PaysHd fl n) (fun x => n - x.i) (fun x => ⟨[(2, .own (.vec 4 x.len x.g)), (3, .own (.vec 4 x.len' x.g')), (6, encL fl n), (7, .int .i64 n), (8, .int .i64 x.i)], [], [], none⟩) ?_ ⟨0, 0, _, 0, _, Nat.zero_le _, ⟨rfl, fun j f hj => by simp [pick, toL] at hj⟩, ⟨rfl, fun j f hj => by simp [pick, toL] at hj⟩⟩
  rintro ⟨i, len, g, len', g', hi, hg, hg'⟩ ih
  have hlen := pick_len negP fl i
  have hlen' := pick_len posP fl i
  have hl0 := hg.1
  have hl0' := hg'.1
  conv => whnf
  repeat ((first | with_reducible refine branch_true rfl ?_ | with_reducible refine branch_false rfl ?_); conv => whnf)
  refine branch_of (fun g1 => ?_) (fun g1 => ?_)
  · have g2 : i < n := by simpa using g1
    have hw : IntKind.i64.wrap ((i : Int) + 1) = ((i + 1 : Nat) : Int) := by rw [wrap64 (by omega)]; omega
    conv => whnf
    repeat ((first | with_reducible refine branch_true rfl ?_ | with_reducible refine branch_false rfl ?_); conv => whnf)
    refine st_addr (sz := 4) (len := n) (n := i) (u := 34) (g := fun i => encF (fl i)) rfl rfl rfl rfl rfl (in_range g2) ?_
    conv => whnf
    repeat ((first | with_reducible refine branch_true rfl ?_ | with_reducible refine branch_false rfl ?_); conv => whnf)
    refine branch_of (fun g3 => ?_) (fun g3 => ?_)
    · have g3 : (fl i).n < 0 := of_decide_eq_true g3
      have g4 : negP (fl i) = true := decide_eq_true g3
      have g5 : posP (fl i) = false := decide_eq_false (by omega)
      conv => whnf
      repeat ((first | with_reducible refine branch_true rfl ?_ | with_reducible refine branch_false rfl ?_); conv => whnf)
      refine st_append (sz := 4) (len := len) (g := g) (u := 34) (m := 1) (gg := vlist (zeroElem Try.prog 34) [encF (fl i)]) rfl rfl rfl rfl rfl (room40 (by omega)) ?_
      conv => whnf
      repeat ((first | with_reducible refine branch_true rfl ?_ | with_reducible refine branch_false rfl ?_); conv => whnf)
      exact loop_to ih ⟨i + 1, len + 1, _, len', g', g2, by rw [pick_yes g4]; exact flowsAt_snoc hg rfl, by rw [pick_no g5]; exact hg'⟩ (show n - (i + 1) < n - i by omega) (congrArg (fun q => St.mk [(2, .own (.vec 4 (len + 1) _)), (3, .own (.vec 4 len' g')), (6, encL fl n), (7, .int .i64 n), (8, .int .i64 q)] [] [] none) hw)
    · have g3 : ¬ (fl i).n < 0 := of_decide_eq_false g3
      have g4 : negP (fl i) = false := decide_eq_false g3
      conv => whnf
      repeat ((first | with_reducible refine branch_true rfl ?_ | with_reducible refine branch_false rfl ?_); conv => whnf)
      refine branch_of (fun g6 => ?_) (fun g6 => ?_)
      · have g6 : 0 < (fl i).n := of_decide_eq_true g6
        have g5 : posP (fl i) = true := decide_eq_true g6
        conv => whnf
        repeat ((first | with_reducible refine branch_true rfl ?_ | with_reducible refine branch_false rfl ?_); conv => whnf)
        refine st_append (sz := 4) (len := len') (g := g') (u := 34) (m := 1) (gg := vlist (zeroElem Try.prog 34) [encF (fl i)]) rfl rfl rfl rfl rfl (room40 (by omega)) ?_
        conv => whnf
        repeat ((first | with_reducible refine branch_true rfl ?_ | with_reducible refine branch_false rfl ?_); conv => whnf)
        exact loop_to ih ⟨i + 1, len, g, len' + 1, _, g2, by rw [pick_no g4]; exact hg, by rw [pick_yes g5]; exact flowsAt_snoc hg' rfl⟩ (show n - (i + 1) < n - i by omega) (congrArg (fun q => St.mk [(2, .own (.vec 4 len g)), (3, .own (.vec 4 (len' + 1) _)), (6, encL fl n), (7, .int .i64 n), (8, .int .i64 q)] [] [] none) hw)
      · have g6 : ¬ 0 < (fl i).n := of_decide_eq_false g6
        have g5 : posP (fl i) = false := decide_eq_false g6
        conv => whnf
        repeat ((first | with_reducible refine branch_true rfl ?_ | with_reducible refine branch_false rfl ?_); conv => whnf)
        exact loop_to ih ⟨i + 1, len, g, len', g', g2, by rw [pick_no g4]; exact hg, by rw [pick_no g5]; exact hg'⟩ (show n - (i + 1) < n - i by omega) (congrArg (fun q => St.mk [(2, .own (.vec 4 len g)), (3, .own (.vec 4 len' g')), (6, encL fl n), (7, .int .i64 n), (8, .int .i64 q)] [] [] none) hw)
  · have g2 : i = n := by simp at g1; omega
    subst g2
    conv => whnf
    repeat ((first | with_reducible refine branch_true rfl ?_ | with_reducible refine branch_false rfl ?_); conv => whnf)
    exact ⟨len, g, len', g', rfl, hg, hg'⟩
theorem refNeg (fl : Nat → Fl) (n : Nat) (hn : n ≤ 100000) : CallOK Try.prog 29 [encL fl n, .int .i64 (-1)] (fun r => ∃ len g, r = .vec 4 len g ∧ FlowsAt (pick negP fl n) len g) := by
  refine okQ ?_
  conv => whnf
  repeat ((first | with_reducible refine branch_true rfl ?_ | with_reducible refine branch_false rfl ?_); conv => whnf)
  refine loop_by (cx := cxQ) rfl progOK (ι := PickHd negP fl n) (fun x => n - x.i) (fun x => ⟨[(0, encL fl n), (1, .int .i64 (-1)), (5, .own (.vec 4 x.len x.g)), (6, .int .i64 x.i)], [], [], none⟩) ?_ ⟨0, 0, _, Nat.zero_le _, rfl, fun j f hj => by simp [pick, toL] at hj⟩
  rintro ⟨i, len, g, hi, hg⟩ ih
  have hlen := pick_len negP fl i
  have hl0 := hg.1
  conv => whnf
  repeat ((first | with_reducible refine branch_true rfl ?_ | with_reducible refine branch_false rfl ?_); conv => whnf)
  refine branch_of (fun g1 => ?_) (fun g1 => ?_)
  · have g2 : i < n := by simpa using g1
    have hw : IntKind.i64.wrap ((i : Int) + 1) = ((i + 1 : Nat) : Int) := by rw [wrap64 (by omega)]; omega
    have yes : negP (fl i) = true → ∀ K : St → Prop, (∀ j : PickHd negP fl n, n - j.i < n - i → K (St.mk [(0, encL fl n), (1, .int .i64 (-1)), (5, .own (.vec 4 j.len j.g)), (6, .int .i64 j.i)] [] [] none)) → K (St.mk [(0, encL fl n), (1, .int .i64 (-1)), (5, .own (.vec 4 (len + 1) (vapp (zeroElem Try.prog 34) g len (vlist (zeroElem Try.prog 34) [encF (fl i)]) 1))), (6, .int .i64 (IntKind.i64.wrap ((i : Int) + 1)))] [] [] none) := by
      intro h K hK
      rw [hw]
      exact hK ⟨i + 1, len + 1, _, g2, by rw [pick_yes h]; exact flowsAt_snoc hg rfl⟩ (show n - (i + 1) < n - i by omega)
    have no : negP (fl i) = false → ∀ K : St → Prop, (∀ j : PickHd negP fl n, n - j.i < n - i → K (St.mk [(0, encL fl n), (1, .int .i64 (-1)), (5, .own (.vec 4 j.len j.g)), (6, .int .i64 j.i)] [] [] none)) → K (St.mk [(0, encL fl n), (1, .int .i64 (-1)), (5, .own (.vec 4 len g)), (6, .int .i64 (IntKind.i64.wrap ((i : Int) + 1)))] [] [] none) := by
      intro h K hK
      rw [hw]
      exact hK ⟨i + 1, len, g, g2, by rw [pick_no h]; exact hg⟩ (show n - (i + 1) < n - i by omega)
    conv => whnf
    repeat ((first | with_reducible refine branch_true rfl ?_ | with_reducible refine branch_false rfl ?_); conv => whnf)
    refine st_addr (sz := 4) (len := n) (n := i) (u := 34) (g := fun i => encF (fl i)) rfl rfl rfl rfl rfl (in_range g2) ?_
    conv => whnf
    repeat ((first | with_reducible refine branch_true rfl ?_ | with_reducible refine branch_false rfl ?_); conv => whnf)
    refine branch_of (fun g3 => ?_) (fun g3 => ?_)
    · have g3 : (fl i).n < 0 := of_decide_eq_true g3
      conv => whnf
      repeat ((first | with_reducible refine branch_true rfl ?_ | with_reducible refine branch_false rfl ?_); conv => whnf)
      refine st_addr (sz := 4) (len := n) (n := i) (u := 34) (g := fun i => encF (fl i)) rfl rfl rfl rfl rfl (in_range g2) ?_
      conv => whnf
      repeat ((first | with_reducible refine branch_true rfl ?_ | with_reducible refine branch_false rfl ?_); conv => whnf)
      refine st_append (sz := 4) (len := len) (g := g) (u := 34) (m := 1) (gg := vlist (zeroElem Try.prog 34) [encF (fl i)]) rfl rfl rfl rfl rfl (room40 (by omega)) ?_
      conv => whnf
      repeat ((first | with_reducible refine branch_true rfl ?_ | with_reducible refine branch_false rfl ?_); conv => whnf)
      exact yes (decide_eq_true (by omega)) (fun s => SLoop _ _ _ _ _ _ s _) ih
    · have g3 : ¬ (fl i).n < 0 := of_decide_eq_false g3
      conv => whnf
      repeat ((first | with_reducible refine branch_true rfl ?_ | with_reducible refine branch_false rfl ?_); conv => whnf)
      refine st_addr (sz := 4) (len := n) (n := i) (u := 34) (g := fun i => encF (fl i)) rfl rfl rfl rfl rfl (in_range g2) ?_
      conv => whnf
      repeat ((first | with_reducible refine branch_true rfl ?_ | with_reducible refine branch_false rfl ?_); conv => whnf)
      refine branch_of (fun g4 => ?_) (fun g4 => ?_)
      · conv => whnf
        repeat ((first | with_reducible refine branch_true rfl ?_ | with_reducible refine branch_false rfl ?_); conv => whnf)
        exact no (decide_eq_false (by omega)) (fun s => SLoop _ _ _ _ _ _ s _) ih
      · conv => whnf
        repeat ((first | with_reducible refine branch_true rfl ?_ | with_reducible refine branch_false rfl ?_); conv => whnf)
        exact no (decide_eq_false (by omega)) (fun s => SLoop _ _ _ _ _ _ s _) ih
  · have g2 : i = n := by simp at g1; omega
    subst g2
    conv => whnf
    repeat ((first | with_reducible refine branch_true rfl ?_ | with_reducible refine branch_false rfl ?_); conv => whnf)
    exact ⟨len, g, rfl, hg⟩
theorem refPos (fl : Nat → Fl) (n : Nat) (hn : n ≤ 100000) : CallOK Try.prog 29 [encL fl n, .int .i64 (1)] (fun r => ∃ len g, r = .vec 4 len g ∧ FlowsAt (pick posP fl n) len g) := by
  refine okQ ?_
  conv => whnf
  repeat ((first | with_reducible refine branch_true rfl ?_ | with_reducible refine branch_false rfl ?_); conv => whnf)
  refine loop_by (cx := cxQ) rfl progOK (ι := PickHd posP fl n) (fun x => n - x.i) (fun x => ⟨[(0, encL fl n), (1, .int .i64 (1)), (5, .own (.vec 4 x.len x.g)), (6, .int .i64 x.i)], [], [], none⟩) ?_ ⟨0, 0, _, Nat.zero_le _, rfl, fun j f hj => by simp [pick, toL] at hj⟩
  rintro ⟨i, len, g, hi, hg⟩ ih
  have hlen := pick_len posP fl i
  have hl0 := hg.1
  conv => whnf
  repeat ((first | with_reducible refine branch_true rfl ?_ | with_reducible refine branch_false rfl ?_); conv => whnf)
  refine branch_of (fun g1 => ?_) (fun g1 => ?_)
  · have g2 : i < n := by simpa using g1
    have hw : IntKind.i64.wrap ((i : Int) + 1) = ((i + 1 : Nat) : Int) := by rw [wrap64 (by omega)]; omega
    have yes : posP (fl i) = true → ∀ K : St → Prop, (∀ j : PickHd posP fl n, n - j.i < n - i → K (St.mk [(0, encL fl n), (1, .int .i64 (1)), (5, .own (.vec 4 j.len j.g)), (6, .int .i64 j.i)] [] [] none)) → K (St.mk [(0, encL fl n), (1, .int .i64 (1)), (5, .own (.vec 4 (len + 1) (vapp (zeroElem Try.prog 34) g len (vlist (zeroElem Try.prog 34) [encF (fl i)]) 1))), (6, .int .i64 (IntKind.i64.wrap ((i : Int) + 1)))] [] [] none) := by
      intro h K hK
      rw [hw]
      exact hK ⟨i + 1, len + 1, _, g2, by rw [pick_yes h]; exact flowsAt_snoc hg rfl⟩ (show n - (i + 1) < n - i by omega)
    have no : posP (fl i) = false → ∀ K : St → Prop, (∀ j : PickHd posP fl n, n - j.i < n - i → K (St.mk [(0, encL fl n), (1, .int .i64 (1)), (5, .own (.vec 4 j.len j.g)), (6, .int .i64 j.i)] [] [] none)) → K (St.mk [(0, encL fl n), (1, .int .i64 (1)), (5, .own (.vec 4 len g)), (6, .int .i64 (IntKind.i64.wrap ((i : Int) + 1)))] [] [] none) := by
      intro h K hK
      rw [hw]
      exact hK ⟨i + 1, len, g, g2, by rw [pick_no h]; exact hg⟩ (show n - (i + 1) < n - i by omega)
    conv => whnf
    repeat ((first | with_reducible refine branch_true rfl ?_ | with_reducible refine branch_false rfl ?_); conv => whnf)
    refine st_addr (sz := 4) (len := n) (n := i) (u := 34) (g := fun i => encF (fl i)) rfl rfl rfl rfl rfl (in_range g2) ?_
    conv => whnf
    repeat ((first | with_reducible refine branch_true rfl ?_ | with_reducible refine branch_false rfl ?_); conv => whnf)
    refine branch_of (fun g3 => ?_) (fun g3 => ?_)
    · have g3 : (fl i).n < 0 := of_decide_eq_true g3
      conv => whnf
      repeat ((first | with_reducible refine branch_true rfl ?_ | with_reducible refine branch_false rfl ?_); conv => whnf)
      refine st_addr (sz := 4) (len := n) (n := i) (u := 34) (g := fun i => encF (fl i)) rfl rfl rfl rfl rfl (in_range g2) ?_
      conv => whnf
      repeat ((first | with_reducible refine branch_true rfl ?_ | with_reducible refine branch_false rfl ?_); conv => whnf)
      refine branch_false (decide_eq_false (show ¬ 0 < (fl i).n by omega)) ?_
      conv => whnf
      repeat ((first | with_reducible refine branch_true rfl ?_ | with_reducible refine branch_false rfl ?_); conv => whnf)
      exact no (decide_eq_false (by omega)) (fun s => SLoop _ _ _ _ _ _ s _) ih
    · have g3 : ¬ (fl i).n < 0 := of_decide_eq_false g3
      conv => whnf
      repeat ((first | with_reducible refine branch_true rfl ?_ | with_reducible refine branch_false rfl ?_); conv => whnf)
      refine st_addr (sz := 4) (len := n) (n := i) (u := 34) (g := fun i => encF (fl i)) rfl rfl rfl rfl rfl (in_range g2) ?_
      conv => whnf
      repeat ((first | with_reducible refine branch_true rfl ?_ | with_reducible refine branch_false rfl ?_); conv => whnf)
      refine branch_of (fun g4 => ?_) (fun g4 => ?_)
      · have g4 : 0 < (fl i).n := of_decide_eq_true g4
        conv => whnf
        repeat ((first | with_reducible refine branch_true rfl ?_ | with_reducible refine branch_false rfl ?_); conv => whnf)
        refine st_addr (sz := 4) (len := n) (n := i) (u := 34) (g := fun i => encF (fl i)) rfl rfl rfl rfl rfl (in_range g2) ?_
        conv => whnf
        repeat ((first | with_reducible refine branch_true rfl ?_ | with_reducible refine branch_false rfl ?_); conv => whnf)
        refine st_append (sz := 4) (len := len) (g := g) (u := 34) (m := 1) (gg := vlist (zeroElem Try.prog 34) [encF (fl i)]) rfl rfl rfl rfl rfl (room40 (by omega)) ?_
        conv => whnf
        repeat ((first | with_reducible refine branch_true rfl ?_ | with_reducible refine branch_false rfl ?_); conv => whnf)
        exact yes (decide_eq_true (by omega)) (fun s => SLoop _ _ _ _ _ _ s _) ih
      · have g4 : ¬ 0 < (fl i).n := of_decide_eq_false g4
        conv => whnf
        repeat ((first | with_reducible refine branch_true rfl ?_ | with_reducible refine branch_false rfl ?_); conv => whnf)
        exact no (decide_eq_false (by omega)) (fun s => SLoop _ _ _ _ _ _ s _) ih
  · have g2 : i = n := by simp at g1; omega
    subst g2
    conv => whnf
    repeat ((first | with_reducible refine branch_true rfl ?_ | with_reducible refine branch_false rfl ?_); conv => whnf)
    exact ⟨len, g, rfl, hg⟩
end Go.Proofs


set_option linter.unusedVariables false
namespace Go.Proofs
open Ax Go
set_option maxRecDepth 10000
theorem lawPicks : ∀ xs, TypedArgs Try.prog 8 Try.f8.params.toList xs → CallOK Try.prog 8 xs (fun r => r = .bool true) := by
  intro xs h
  rw [Try.params8] at h
  obtain ⟨a0, r0, rfl, h0, a1, r1, rfl, h1, rfl⟩ := h
  obtain ⟨fl, n, hs, hn, hok⟩ := arg_flows (d := 5) h0
  obtain ⟨y, rfl, hy⟩ := arg_int (d := 7) h1
  refine ok_same (.cons hs (.cons (.refl _) .nil)) ?_
  refine okQ ?_
  conv => whnf
  repeat ((first | with_reducible refine branch_true rfl ?_ | with_reducible refine branch_false rfl ?_); conv => whnf)
  refine branch_of (fun g1 => ?_) (fun g1 => ?_)
  · conv => whnf
    repeat ((first | with_reducible refine branch_true rfl ?_ | with_reducible refine branch_false rfl ?_); conv => whnf)
    refine call_is goesOK ?_
    conv => whnf
    repeat ((first | with_reducible refine branch_true rfl ?_ | with_reducible refine branch_false rfl ?_); conv => whnf)
  · conv => whnf
    repeat ((first | with_reducible refine branch_true rfl ?_ | with_reducible refine branch_false rfl ?_); conv => whnf)
    have g1 : n ≤ 1100 := by have := of_decide_eq_false g1; omega
    have hn : n ≤ 100000 := by omega
    have pl : ∀ p : Fl → Bool, (pick p fl n).length ≤ 100000 := fun p => Nat.le_trans (pick_len p fl n) hn
    refine call_by (flowOwn fl n hn) ⟨_, fun i => if i < n then encF (fl i) else encF behindF, rfl, fun i hi => by simp [hi], by simp⟩ ?_
    rintro r ⟨g, rfl, k1, k2⟩
    conv => whnf
    repeat ((first | with_reducible refine branch_true rfl ?_ | with_reducible refine branch_false rfl ?_); conv => whnf)
    refine call_by (ok_same (.cons (.wide k1) .nil) (flowPays fl n hn)) ⟨_, _, _, _, _, rfl, flowsAt_self _, flowsAt_self _⟩ ?_
    rintro r ⟨la, ga, lb, gb, rfl, fa, fb⟩
    conv => whnf
    repeat ((first | with_reducible refine branch_true rfl ?_ | with_reducible refine branch_false rfl ?_); conv => whnf)
    refine call_by (ok_same (.cons (.wide k1) (.cons (.refl _) .nil)) (flowWhy fl n hn y)) ⟨_, _, _, rfl, flowsAt_self _⟩ ?_
    rintro r ⟨lc, gc, rfl, fc⟩
    conv => whnf
    repeat ((first | with_reducible refine branch_true rfl ?_ | with_reducible refine branch_false rfl ?_); conv => whnf)
    refine call_by (refWhy fl n hn y) ⟨_, _, _, rfl, flowsAt_self _⟩ ?_
    rintro r ⟨ld, gd, rfl, fd⟩
    obtain rfl : ld = lc := fd.1.trans fc.1.symm
    conv => whnf
    repeat ((first | with_reducible refine branch_true rfl ?_ | with_reducible refine branch_false rfl ?_); conv => whnf)
    refine call_is (same_at fc fd (pl _)) ?_
    conv => whnf
    repeat ((first | with_reducible refine branch_true rfl ?_ | with_reducible refine branch_false rfl ?_); conv => whnf)
    refine call_by (ok_same (.cons (.wide k1) .nil) (flowTurned fl n hn)) ⟨_, _, rfl, fun i hi => rfl⟩ ?_
    rintro r ⟨ge, rfl, fe⟩
    conv => whnf
    repeat ((first | with_reducible refine branch_true rfl ?_ | with_reducible refine branch_false rfl ?_); conv => whnf)
    refine call_by (refTurned fl n hn) ⟨_, _, rfl, fun i hi => rfl⟩ ?_
    rintro r ⟨gf, rfl, ff⟩
    conv => whnf
    repeat ((first | with_reducible refine branch_true rfl ?_ | with_reducible refine branch_false rfl ?_); conv => whnf)
    refine call_is (ok_same (.cons (.vec fe) (.cons (.vec ff) .nil)) (same_self (fun i => turnF (fl i)) n hn)) ?_
    conv => whnf
    repeat ((first | with_reducible refine branch_true rfl ?_ | with_reducible refine branch_false rfl ?_); conv => whnf)
    refine call_by (refNeg fl n hn) ⟨_, _, _, rfl, flowsAt_self _⟩ ?_
    rintro r ⟨lg, gg, rfl, fg⟩
    obtain rfl : lg = la := fg.1.trans fa.1.symm
    conv => whnf
    repeat ((first | with_reducible refine branch_true rfl ?_ | with_reducible refine branch_false rfl ?_); conv => whnf)
    refine call_is (same_at fa fg (pl _)) ?_
    conv => whnf
    repeat ((first | with_reducible refine branch_true rfl ?_ | with_reducible refine branch_false rfl ?_); conv => whnf)
    refine call_by (refPos fl n hn) ⟨_, _, _, rfl, flowsAt_self _⟩ ?_
    rintro r ⟨lh, gh, rfl, fh⟩
    obtain rfl : lh = lb := fh.1.trans fb.1.symm
    conv => whnf
    repeat ((first | with_reducible refine branch_true rfl ?_ | with_reducible refine branch_false rfl ?_); conv => whnf)
    refine call_is (same_at fb fh (pl _)) ?_
    conv => whnf
    repeat ((first | with_reducible refine branch_true rfl ?_ | with_reducible refine branch_false rfl ?_); conv => whnf)
    refine call_is (flowKept fl n hn g k1 k2) ?_
    conv => whnf
    repeat ((first | with_reducible refine branch_true rfl ?_ | with_reducible refine branch_false rfl ?_); conv => whnf)
    refine call_is goesOK ?_
    conv => whnf
    repeat ((first | with_reducible refine branch_true rfl ?_ | with_reducible refine branch_false rfl ?_); conv => whnf)
    rfl
end Go.Proofs

