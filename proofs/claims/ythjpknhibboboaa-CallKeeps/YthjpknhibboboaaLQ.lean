import Derived.Test.YthjpknhibboboaaCaRows
set_option linter.unusedVariables false
set_option linter.unusedSimpArgs false
namespace Go.Proofs
open Ax Go
set_option maxRecDepth 10000
theorem indexLate (l : List Cl) (hl : l.length ≤ 100000) (on : Int) : CallOK Try.prog 58 [encL l, .fn 36 [] [.cptr (.int .i64 on)]] (IdxR (gone on) l) := by
  refine okP ?_
  conv => whnf
  repeat ((first | with_reducible refine branch_true rfl ?_ | with_reducible refine branch_false rfl ?_); conv => whnf)
  refine loop_by (cx := cxP) rfl progOK (ι := {i : Nat // i ≤ l.length ∧ ∀ j, j < i → (gone on) (atC l j) = false}) (fun x => l.length - x.1) (fun x => ⟨[(0, encL l), (1, .fn 36 [] [.cptr (.int .i64 on)]), (6, encL l), (7, .int .i64 l.length), (8, .int .i64 x.1)], [], [], none⟩) ?_ ⟨0, Nat.zero_le _, fun j hj => absurd hj (by omega)⟩
  rintro ⟨i, hi, hj⟩ ih
  conv => whnf
  repeat ((first | with_reducible refine branch_true rfl ?_ | with_reducible refine branch_false rfl ?_); conv => whnf)
  refine branch_of (fun g1 => ?_) (fun g1 => ?_)
  · have g2 : i < l.length := by simpa using g1
    have hw : IntKind.i64.wrap ((i : Int) + 1) = ((i + 1 : Nat) : Int) := by rw [wrap64 (by omega)]; omega
    conv => whnf
    repeat ((first | with_reducible refine branch_true rfl ?_ | with_reducible refine branch_false rfl ?_); conv => whnf)
    refine st_addr (sz := 6) (len := l.length) (n := i) (u := 52) (g := fun i => encC (atC l i)) rfl rfl rfl rfl rfl (in_range g2) ?_
    conv => whnf
    repeat ((first | with_reducible refine branch_true rfl ?_ | with_reducible refine branch_false rfl ?_); conv => whnf)
    refine call_is (v := .bool ((gone on) (atC l i))) (lateF on (atC l i)) ?_
    cases hp : (gone on) (atC l i) with
    | true =>
      conv => whnf
      repeat ((first | with_reducible refine branch_true rfl ?_ | with_reducible refine branch_false rfl ?_); conv => whnf)
      exact .inr ⟨i, g2, rfl, hp, hj⟩
    | false =>
      conv => whnf
      repeat ((first | with_reducible refine branch_true rfl ?_ | with_reducible refine branch_false rfl ?_); conv => whnf)
      exact loop_to ih ⟨i + 1, g2, all_next hj hp⟩ (show l.length - (i + 1) < l.length - i by omega) (congrArg (fun q => St.mk [(0, encL l), (1, .fn 36 [] [.cptr (.int .i64 on)]), (6, encL l), (7, .int .i64 l.length), (8, .int .i64 q)] [] [] none) hw)
  · have g2 : i = l.length := by simp at g1; omega
    subst g2
    conv => whnf
    repeat ((first | with_reducible refine branch_true rfl ?_ | with_reducible refine branch_false rfl ?_); conv => whnf)
    exact .inl ⟨rfl, hj⟩
theorem indexClean (l : List Cl) (hl : l.length ≤ 100000) : CallOK Try.prog 58 [encL l, .fn 37 [] []] (IdxR gone0 l) := by
  refine okP ?_
  conv => whnf
  repeat ((first | with_reducible refine branch_true rfl ?_ | with_reducible refine branch_false rfl ?_); conv => whnf)
  refine loop_by (cx := cxP) rfl progOK (ι := {i : Nat // i ≤ l.length ∧ ∀ j, j < i → gone0 (atC l j) = false}) (fun x => l.length - x.1) (fun x => ⟨[(0, encL l), (1, .fn 37 [] []), (6, encL l), (7, .int .i64 l.length), (8, .int .i64 x.1)], [], [], none⟩) ?_ ⟨0, Nat.zero_le _, fun j hj => absurd hj (by omega)⟩
  rintro ⟨i, hi, hj⟩ ih
  conv => whnf
  repeat ((first | with_reducible refine branch_true rfl ?_ | with_reducible refine branch_false rfl ?_); conv => whnf)
  refine branch_of (fun g1 => ?_) (fun g1 => ?_)
  · have g2 : i < l.length := by simpa using g1
    have hw : IntKind.i64.wrap ((i : Int) + 1) = ((i + 1 : Nat) : Int) := by rw [wrap64 (by omega)]; omega
    conv => whnf
    repeat ((first | with_reducible refine branch_true rfl ?_ | with_reducible refine branch_false rfl ?_); conv => whnf)
    refine st_addr (sz := 6) (len := l.length) (n := i) (u := 52) (g := fun i => encC (atC l i)) rfl rfl rfl rfl rfl (in_range g2) ?_
    conv => whnf
    repeat ((first | with_reducible refine branch_true rfl ?_ | with_reducible refine branch_false rfl ?_); conv => whnf)
    refine call_is (v := .bool (gone0 (atC l i))) (cleanF (atC l i)) ?_
    cases hp : gone0 (atC l i) with
    | true =>
      conv => whnf
      repeat ((first | with_reducible refine branch_true rfl ?_ | with_reducible refine branch_false rfl ?_); conv => whnf)
      exact .inr ⟨i, g2, rfl, hp, hj⟩
    | false =>
      conv => whnf
      repeat ((first | with_reducible refine branch_true rfl ?_ | with_reducible refine branch_false rfl ?_); conv => whnf)
      exact loop_to ih ⟨i + 1, g2, all_next hj hp⟩ (show l.length - (i + 1) < l.length - i by omega) (congrArg (fun q => St.mk [(0, encL l), (1, .fn 37 [] []), (6, encL l), (7, .int .i64 l.length), (8, .int .i64 q)] [] [] none) hw)
  · have g2 : i = l.length := by simp at g1; omega
    subst g2
    conv => whnf
    repeat ((first | with_reducible refine branch_true rfl ?_ | with_reducible refine branch_false rfl ?_); conv => whnf)
    exact .inl ⟨rfl, hj⟩
theorem clear52 : (Nat.beq 6 (tySz Try.prog 52) && Nat.blt 0 6 && hasZero Try.prog 52 && (zeroAV Try.prog 52).isData && (zeroAV Try.prog 52).cells.all AV.scal && Nat.beq (zeroAV Try.prog 52).cells.length 6) = true := by kernel_rfl
theorem late (l : List Cl) (on : Int) : CallOK Try.prog 19 [encL l, .int .i64 on] (Res2 (lateS l on)) := by
  refine okL ?_
  conv => whnf
  repeat ((first | with_reducible refine branch_true rfl ?_ | with_reducible refine branch_false rfl ?_); conv => whnf)
  refine call_is (check l) ?_
  conv => whnf
  repeat ((first | with_reducible refine branch_true rfl ?_ | with_reducible refine branch_false rfl ?_); conv => whnf)
  refine branch_of (fun h1 => ?_) (fun h1 => ?_)
  · have h1 : checkL l ≠ 0 := by simpa using h1
    conv => whnf
    repeat ((first | with_reducible refine branch_true rfl ?_ | with_reducible refine branch_false rfl ?_); conv => whnf)
    exact res2_nil (by simp [lateS, h1])
  · have h1 : checkL l = 0 := by simpa using h1
    have hn := (check_good h1).1
    conv => whnf
    repeat ((first | with_reducible refine branch_true rfl ?_ | with_reducible refine branch_false rfl ?_); conv => whnf)
    refine call_is (day on) ?_
    cases h2 : dayOK on with
    | false =>
      conv => whnf
      repeat ((first | with_reducible refine branch_true rfl ?_ | with_reducible refine branch_false rfl ?_); conv => whnf)
      exact res2_nil (by simp [lateS, h1, h2])
    | true =>
      conv => whnf
      repeat ((first | with_reducible refine branch_true rfl ?_ | with_reducible refine branch_false rfl ?_); conv => whnf)
      refine branch_of (fun n0 => ?_) (fun n0 => ?_)
      · have n0 : l = [] := by
          have : Nat.beq l.length 0 = true := n0
          rw [Nat.beq_eq] at this
          exact List.length_eq_zero_iff.1 this
        subst n0
        intro i hi
        rcases (by omega : i = 0 ∨ i = 1) with rfl | rfl
        all_goals
          conv => whnf
          repeat ((first | with_reducible refine branch_true rfl ?_ | with_reducible refine branch_false rfl ?_); conv => whnf)
          refine call_by (ok_same (.cons (callsAt_same (l := []) ⟨rfl, fun i hi => absurd hi (by simp)⟩) (.cons (.refl _) .nil)) (indexLate [] (by simp) on)) (idxR_some _ _) ?_
          rintro r (⟨rfl, hall⟩ | ⟨k, hk, _⟩)
          · conv => whnf
            repeat ((first | with_reducible refine branch_true rfl ?_ | with_reducible refine branch_false rfl ?_); conv => whnf)
            exact res2_of (by simp [lateS, h1, h2]) callsAt_nil
          · exact absurd hk (by simp)
      · conv => whnf
        repeat ((first | with_reducible refine branch_true rfl ?_ | with_reducible refine branch_false rfl ?_); conv => whnf)
        refine st_append_uni (sz := 6) (len := 0) (u := 52) (m := l.length) (gg := fun i => encC (atC l i)) rfl rfl rfl rfl rfl (room64 (by omega)) ?_
        conv => whnf
        repeat ((first | with_reducible refine branch_true rfl ?_ | with_reducible refine branch_false rfl ?_); conv => whnf)
        refine force_by (lend_row (id := 1) (sz := 6) (n := (0 + l.length)) (n' := (0 + l.length)) rfl (Nat.le_refl _)) ?_
        conv => whnf
        repeat ((first | with_reducible refine branch_true rfl ?_ | with_reducible refine branch_false rfl ?_); conv => whnf)
        have hG : ∀ z (g0 : Nat → AV), CallsAt l (0 + l.length) (vapp z g0 0 (fun i => encC (atC l i)) l.length) := fun z g0 => callsAt_app (z := z) (callsAt_nil (g := g0)) (callsAt_self l)
        have hG := hG (zeroElem Try.prog 52) (vlist (zeroElem Try.prog 52) [])
        have hG' : CallsAt l (0 + l.length) (fun j => vapp (zeroElem Try.prog 52) (vlist (zeroElem Try.prog 52) []) 0 (fun i => encC (atC l i)) l.length (0 + j)) := ⟨hG.1, fun i hi => by show vapp _ _ 0 _ _ (0 + i) = _; rw [Nat.zero_add]; exact hG.2 i hi⟩
        refine call_by (ok_same (.cons (callsAt_same hG') (.cons (.refl _) .nil)) (indexLate l (by omega) on)) (idxR_some _ _) ?_
        rintro r (⟨rfl, hall⟩ | ⟨k, hk, rfl, hpk, hkj⟩)
        · conv => whnf
          repeat ((first | with_reducible refine branch_true rfl ?_ | with_reducible refine branch_false rfl ?_); conv => whnf)
          refine st_ghosts (ghost_freeze (id := 1) (sz := 6) (lo := 0) (m := (0 + l.length)) (n' := (0 + l.length)) rfl rfl (by omega)) ?_
          conv => whnf
          repeat ((first | with_reducible refine branch_true rfl ?_ | with_reducible refine branch_false rfl ?_); conv => whnf)
          have hfl : l.filter (fun c => !gone on c) = l := List.filter_eq_self.2 fun c hc => by
            obtain ⟨j, hj⟩ := List.getElem?_of_mem hc
            have := hall j (List.getElem?_eq_some_iff.1 hj).1
            rw [atC, List.getD, hj] at this
            simp only [Option.getD_some] at this
            rw [this]; rfl
          exact res2_of (by simp only [lateS, h1, h2, filt_gone h1 on, hfl]; rfl) hG'
        · conv => whnf
          repeat ((first | with_reducible refine branch_true rfl ?_ | with_reducible refine branch_false rfl ?_); conv => whnf)
          have hwk : IntKind.i64.wrap ((k : Int) + 1) = ((k + 1 : Nat) : Int) := by rw [wrap64 (by omega)]; omega
          refine loop_start (congrArg (fun q => St.mk [(0, .row 1 6 0 (0 + l.length)), (1, .fn 36 [] [.ptr 0 0]), (5, .int .i64 (k : Int)), (6, .int .i64 q)] [.cells [.int .i64 on], .arr 6 (0 + l.length) _] [] none) hwk) ?_
          have hfk := dfFirst (q := fun c => !gone on c) hk (by rw [hpk]; rfl) (fun j hj => by rw [hkj j hj]; rfl)
          refine loop_by (cx := cxL) rfl progOK (ι := DfHd (fun c => !gone on c) l) (fun x => l.length - x.j) (fun x => St.mk [(0, .row 1 6 0 (0 + l.length)), (1, .fn 36 [] [.ptr 0 0]), (5, .int .i64 x.i), (6, .int .i64 x.j)] [.cells [.int .i64 on], .arr 6 (0 + l.length) x.e] [] none) ?_ ⟨k + 1, k, _, hk, by rw [hfk, List.length_take]; omega, by omega, fun q hq => by rw [hfk, atC_take hq]; exact hG.2 q (by omega), fun q hq1 hq2 => hG.2 q hq2, fun q hq => ⟨_, hG.2 q hq⟩⟩
          intro x ih
          have hxj := x.hj
          have hxi := x.hij
          conv => whnf
          repeat ((first | with_reducible refine branch_true rfl ?_ | with_reducible refine branch_false rfl ?_); conv => whnf)
          refine branch_of (fun g1 => ?_) (fun g1 => ?_)
          · have g2 : x.j < l.length := by
              have := of_decide_eq_true g1
              omega
            have hw : IntKind.i64.wrap ((x.j : Int) + 1) = ((x.j + 1 : Nat) : Int) := by rw [wrap64 (by omega)]; omega
            have hw2 : IntKind.i64.wrap ((x.i : Int) + 1) = ((x.i + 1 : Nat) : Int) := by rw [wrap64 (by omega)]; omega
            conv => whnf
            repeat ((first | with_reducible refine branch_true rfl ?_ | with_reducible refine branch_false rfl ?_); conv => whnf)
            refine st_addr_row (u := 52) (id := 1) (sz := 6) (lo := 0) (len := (0 + l.length)) (n := (x.j : Int)) rfl rfl rfl rfl rfl (in_range (by omega)) ?_
            conv => whnf
            repeat ((first | with_reducible refine branch_true rfl ?_ | with_reducible refine branch_false rfl ?_); conv => whnf)
            refine st_load_e (id := 1) (sz := 6) (j := 0 + x.j) (len := (0 + l.length)) (g := x.e) (cs := [.int .i64 (atC l x.j).id, .str (atC l x.j).m, .str (atC l x.j).a, .int .i64 (atC l x.j).n, .int .i64 (atC l x.j).d, .int .i64 (atC l x.j).t]) rfl rfl rfl (by omega) (by rw [Nat.zero_add]; exact x.h2 x.j (Nat.le_refl _) g2) rfl rfl ?_
            conv => whnf
            repeat ((first | with_reducible refine branch_true rfl ?_ | with_reducible refine branch_false rfl ?_); conv => whnf)
            refine call_is (v := .bool (gone on (atC l x.j))) (lateF on (atC l x.j)) ?_
            cases hp : gone on (atC l x.j) with
            | true =>
              obtain ⟨y, hy1, hy2, hy3⟩ := dfSkip (q := fun c => !gone on c) (x := x) g2 (by rw [hp]; rfl)
              conv => whnf
              repeat ((first | with_reducible refine branch_true rfl ?_ | with_reducible refine branch_false rfl ?_); conv => whnf)
              refine loop_to ih y (by rw [hy1]; omega) ?_
              rw [hy1, hy2, hy3, ← hw]
            | false =>
              obtain ⟨y, hy1, hy2, hy3⟩ := dfKeep (q := fun c => !gone on c) (x := x) g2 (by rw [hp]; rfl)
              conv => whnf
              repeat ((first | with_reducible refine branch_true rfl ?_ | with_reducible refine branch_false rfl ?_); conv => whnf)
              refine st_addr_row (u := 52) (id := 1) (sz := 6) (lo := 0) (len := (0 + l.length)) (n := (x.i : Int)) rfl rfl rfl rfl rfl (in_range (by omega)) ?_
              conv => whnf
              repeat ((first | with_reducible refine branch_true rfl ?_ | with_reducible refine branch_false rfl ?_); conv => whnf)
              refine st_store_e (id := 1) (sz := 6) (j := 0 + x.i) (len := (0 + l.length)) (g := x.e) rfl rfl (by omega) rfl rfl ?_
              conv => whnf
              repeat ((first | with_reducible refine branch_true rfl ?_ | with_reducible refine branch_false rfl ?_); conv => whnf)
              refine loop_to ih y (by rw [hy1]; omega) ?_
              rw [hy1, hy2, hy3, ← hw, ← hw2]
              rfl
          · have g2 : x.j = l.length := by
              have := of_decide_eq_false g1
              omega
            have hb : ∀ d, boundOf d (some (.int .i64 (x.i : Int))) = some x.i := fun d => by simp [boundOf]
            conv => whnf
            repeat ((first | with_reducible refine branch_true rfl ?_ | with_reducible refine branch_false rfl ?_); conv => whnf)
            refine st_slice_row (u := 52) (sz := 6) (id := 1) (l0 := 0) (len := (0 + l.length)) (l := x.i) (m := (0 + l.length)) rfl rfl rfl (hb 0) rfl (by omega) (Nat.le_refl _) rfl ?_
            conv => whnf
            repeat ((first | with_reducible refine branch_true rfl ?_ | with_reducible refine branch_false rfl ?_); conv => whnf)
            refine st_clear (u := 52) (t := 27) (sz := 6) (id := 1) (lo := 0 + x.i) (m := (0 + l.length) - x.i) (n' := (0 + l.length)) (g := x.e) (d := .tmp 38) rfl rfl rfl rfl rfl rfl (by omega) clear52 ?_
            conv => whnf
            repeat ((first | with_reducible refine branch_true rfl ?_ | with_reducible refine branch_false rfl ?_); conv => whnf)
            refine st_slice_row (u := 52) (sz := 6) (id := 1) (l0 := 0) (len := (0 + l.length)) (l := 0) (m := x.i) rfl rfl rfl rfl (hb _) (Nat.zero_le _) (by omega) rfl ?_
            conv => whnf
            repeat ((first | with_reducible refine branch_true rfl ?_ | with_reducible refine branch_false rfl ?_); conv => whnf)
            refine st_ghosts (ghost_freeze (id := 1) (sz := 6) (lo := 0 + 0) (m := x.i - 0) (n' := (0 + l.length)) rfl rfl (by omega)) ?_
            conv => whnf
            repeat ((first | with_reducible refine branch_true rfl ?_ | with_reducible refine branch_false rfl ?_); conv => whnf)
            exact res2_of (by simp only [lateS, h1, h2, filt_gone h1 on]; rfl) (dfEnd g2)
theorem clean (l : List Cl) : CallOK Try.prog 21 [encL l] (Res2 (cleanS l)) := by
  refine okL ?_
  conv => whnf
  repeat ((first | with_reducible refine branch_true rfl ?_ | with_reducible refine branch_false rfl ?_); conv => whnf)
  refine call_is (check l) ?_
  conv => whnf
  repeat ((first | with_reducible refine branch_true rfl ?_ | with_reducible refine branch_false rfl ?_); conv => whnf)
  refine branch_of (fun h1 => ?_) (fun h1 => ?_)
  · have h1 : checkL l ≠ 0 := by simpa using h1
    conv => whnf
    repeat ((first | with_reducible refine branch_true rfl ?_ | with_reducible refine branch_false rfl ?_); conv => whnf)
    exact res2_nil (by simp [cleanS, h1])
  · have h1 : checkL l = 0 := by simpa using h1
    have hn := (check_good h1).1
    have h2 : True := trivial
    conv => whnf
    repeat ((first | with_reducible refine branch_true rfl ?_ | with_reducible refine branch_false rfl ?_); conv => whnf)
    refine branch_of (fun n0 => ?_) (fun n0 => ?_)
    · have n0 : l = [] := by
        have : Nat.beq l.length 0 = true := n0
        rw [Nat.beq_eq] at this
        exact List.length_eq_zero_iff.1 this
      subst n0
      intro i hi
      rcases (by omega : i = 0 ∨ i = 1) with rfl | rfl
      all_goals
        conv => whnf
        repeat ((first | with_reducible refine branch_true rfl ?_ | with_reducible refine branch_false rfl ?_); conv => whnf)
        refine call_by (ok_same (.cons (callsAt_same (l := []) ⟨rfl, fun i hi => absurd hi (by simp)⟩) (.cons (.refl _) .nil)) (indexClean [] (by simp))) (idxR_some _ _) ?_
        rintro r (⟨rfl, hall⟩ | ⟨k, hk, _⟩)
        · conv => whnf
          repeat ((first | with_reducible refine branch_true rfl ?_ | with_reducible refine branch_false rfl ?_); conv => whnf)
          exact res2_of (by simp [cleanS, h1, h2]) callsAt_nil
        · exact absurd hk (by simp)
    · conv => whnf
      repeat ((first | with_reducible refine branch_true rfl ?_ | with_reducible refine branch_false rfl ?_); conv => whnf)
      refine st_append_uni (sz := 6) (len := 0) (u := 52) (m := l.length) (gg := fun i => encC (atC l i)) rfl rfl rfl rfl rfl (room64 (by omega)) ?_
      conv => whnf
      repeat ((first | with_reducible refine branch_true rfl ?_ | with_reducible refine branch_false rfl ?_); conv => whnf)
      refine force_by (lend_row (id := 0) (sz := 6) (n := (0 + l.length)) (n' := (0 + l.length)) rfl (Nat.le_refl _)) ?_
      conv => whnf
      repeat ((first | with_reducible refine branch_true rfl ?_ | with_reducible refine branch_false rfl ?_); conv => whnf)
      have hG : ∀ z (g0 : Nat → AV), CallsAt l (0 + l.length) (vapp z g0 0 (fun i => encC (atC l i)) l.length) := fun z g0 => callsAt_app (z := z) (callsAt_nil (g := g0)) (callsAt_self l)
      have hG := hG (zeroElem Try.prog 52) (vlist (zeroElem Try.prog 52) [])
      have hG' : CallsAt l (0 + l.length) (fun j => vapp (zeroElem Try.prog 52) (vlist (zeroElem Try.prog 52) []) 0 (fun i => encC (atC l i)) l.length (0 + j)) := ⟨hG.1, fun i hi => by show vapp _ _ 0 _ _ (0 + i) = _; rw [Nat.zero_add]; exact hG.2 i hi⟩
      refine call_by (ok_same (.cons (callsAt_same hG') (.cons (.refl _) .nil)) (indexClean l (by omega))) (idxR_some _ _) ?_
      rintro r (⟨rfl, hall⟩ | ⟨k, hk, rfl, hpk, hkj⟩)
      · conv => whnf
        repeat ((first | with_reducible refine branch_true rfl ?_ | with_reducible refine branch_false rfl ?_); conv => whnf)
        refine st_ghosts (ghost_freeze (id := 0) (sz := 6) (lo := 0) (m := (0 + l.length)) (n' := (0 + l.length)) rfl rfl (by omega)) ?_
        conv => whnf
        repeat ((first | with_reducible refine branch_true rfl ?_ | with_reducible refine branch_false rfl ?_); conv => whnf)
        have hfl : l.filter (fun c => !gone0 c) = l := List.filter_eq_self.2 fun c hc => by
          obtain ⟨j, hj⟩ := List.getElem?_of_mem hc
          have := hall j (List.getElem?_eq_some_iff.1 hj).1
          rw [atC, List.getD, hj] at this
          simp only [Option.getD_some] at this
          rw [this]; rfl
        exact res2_of (by simp only [cleanS, h1, h2, filt_gone0 h1, hfl]; rfl) hG'
      · conv => whnf
        repeat ((first | with_reducible refine branch_true rfl ?_ | with_reducible refine branch_false rfl ?_); conv => whnf)
        have hwk : IntKind.i64.wrap ((k : Int) + 1) = ((k + 1 : Nat) : Int) := by rw [wrap64 (by omega)]; omega
        refine loop_start (congrArg (fun q => St.mk [(0, .row 0 6 0 (0 + l.length)), (1, .fn 37 [] []), (5, .int .i64 (k : Int)), (6, .int .i64 q)] [.arr 6 (0 + l.length) _] [] none) hwk) ?_
        have hfk := dfFirst (q := fun c => !gone0 c) hk (by rw [hpk]; rfl) (fun j hj => by rw [hkj j hj]; rfl)
        refine loop_by (cx := cxL) rfl progOK (ι := DfHd (fun c => !gone0 c) l) (fun x => l.length - x.j) (fun x => St.mk [(0, .row 0 6 0 (0 + l.length)), (1, .fn 37 [] []), (5, .int .i64 x.i), (6, .int .i64 x.j)] [.arr 6 (0 + l.length) x.e] [] none) ?_ ⟨k + 1, k, _, hk, by rw [hfk, List.length_take]; omega, by omega, fun q hq => by rw [hfk, atC_take hq]; exact hG.2 q (by omega), fun q hq1 hq2 => hG.2 q hq2, fun q hq => ⟨_, hG.2 q hq⟩⟩
        intro x ih
        have hxj := x.hj
        have hxi := x.hij
        conv => whnf
        repeat ((first | with_reducible refine branch_true rfl ?_ | with_reducible refine branch_false rfl ?_); conv => whnf)
        refine branch_of (fun g1 => ?_) (fun g1 => ?_)
        · have g2 : x.j < l.length := by
            have := of_decide_eq_true g1
            omega
          have hw : IntKind.i64.wrap ((x.j : Int) + 1) = ((x.j + 1 : Nat) : Int) := by rw [wrap64 (by omega)]; omega
          have hw2 : IntKind.i64.wrap ((x.i : Int) + 1) = ((x.i + 1 : Nat) : Int) := by rw [wrap64 (by omega)]; omega
          conv => whnf
          repeat ((first | with_reducible refine branch_true rfl ?_ | with_reducible refine branch_false rfl ?_); conv => whnf)
          refine st_addr_row (u := 52) (id := 0) (sz := 6) (lo := 0) (len := (0 + l.length)) (n := (x.j : Int)) rfl rfl rfl rfl rfl (in_range (by omega)) ?_
          conv => whnf
          repeat ((first | with_reducible refine branch_true rfl ?_ | with_reducible refine branch_false rfl ?_); conv => whnf)
          refine st_load_e (id := 0) (sz := 6) (j := 0 + x.j) (len := (0 + l.length)) (g := x.e) (cs := [.int .i64 (atC l x.j).id, .str (atC l x.j).m, .str (atC l x.j).a, .int .i64 (atC l x.j).n, .int .i64 (atC l x.j).d, .int .i64 (atC l x.j).t]) rfl rfl rfl (by omega) (by rw [Nat.zero_add]; exact x.h2 x.j (Nat.le_refl _) g2) rfl rfl ?_
          conv => whnf
          repeat ((first | with_reducible refine branch_true rfl ?_ | with_reducible refine branch_false rfl ?_); conv => whnf)
          refine call_is (v := .bool (gone0 (atC l x.j))) (cleanF (atC l x.j)) ?_
          cases hp : gone0 (atC l x.j) with
          | true =>
            obtain ⟨y, hy1, hy2, hy3⟩ := dfSkip (q := fun c => !gone0 c) (x := x) g2 (by rw [hp]; rfl)
            conv => whnf
            repeat ((first | with_reducible refine branch_true rfl ?_ | with_reducible refine branch_false rfl ?_); conv => whnf)
            refine loop_to ih y (by rw [hy1]; omega) ?_
            rw [hy1, hy2, hy3, ← hw]
          | false =>
            obtain ⟨y, hy1, hy2, hy3⟩ := dfKeep (q := fun c => !gone0 c) (x := x) g2 (by rw [hp]; rfl)
            conv => whnf
            repeat ((first | with_reducible refine branch_true rfl ?_ | with_reducible refine branch_false rfl ?_); conv => whnf)
            refine st_addr_row (u := 52) (id := 0) (sz := 6) (lo := 0) (len := (0 + l.length)) (n := (x.i : Int)) rfl rfl rfl rfl rfl (in_range (by omega)) ?_
            conv => whnf
            repeat ((first | with_reducible refine branch_true rfl ?_ | with_reducible refine branch_false rfl ?_); conv => whnf)
            refine st_store_e (id := 0) (sz := 6) (j := 0 + x.i) (len := (0 + l.length)) (g := x.e) rfl rfl (by omega) rfl rfl ?_
            conv => whnf
            repeat ((first | with_reducible refine branch_true rfl ?_ | with_reducible refine branch_false rfl ?_); conv => whnf)
            refine loop_to ih y (by rw [hy1]; omega) ?_
            rw [hy1, hy2, hy3, ← hw, ← hw2]
            rfl
        · have g2 : x.j = l.length := by
            have := of_decide_eq_false g1
            omega
          have hb : ∀ d, boundOf d (some (.int .i64 (x.i : Int))) = some x.i := fun d => by simp [boundOf]
          conv => whnf
          repeat ((first | with_reducible refine branch_true rfl ?_ | with_reducible refine branch_false rfl ?_); conv => whnf)
          refine st_slice_row (u := 52) (sz := 6) (id := 0) (l0 := 0) (len := (0 + l.length)) (l := x.i) (m := (0 + l.length)) rfl rfl rfl (hb 0) rfl (by omega) (Nat.le_refl _) rfl ?_
          conv => whnf
          repeat ((first | with_reducible refine branch_true rfl ?_ | with_reducible refine branch_false rfl ?_); conv => whnf)
          refine st_clear (u := 52) (t := 27) (sz := 6) (id := 0) (lo := 0 + x.i) (m := (0 + l.length) - x.i) (n' := (0 + l.length)) (g := x.e) (d := .tmp 38) rfl rfl rfl rfl rfl rfl (by omega) clear52 ?_
          conv => whnf
          repeat ((first | with_reducible refine branch_true rfl ?_ | with_reducible refine branch_false rfl ?_); conv => whnf)
          refine st_slice_row (u := 52) (sz := 6) (id := 0) (l0 := 0) (len := (0 + l.length)) (l := 0) (m := x.i) rfl rfl rfl rfl (hb _) (Nat.zero_le _) (by omega) rfl ?_
          conv => whnf
          repeat ((first | with_reducible refine branch_true rfl ?_ | with_reducible refine branch_false rfl ?_); conv => whnf)
          refine st_ghosts (ghost_freeze (id := 0) (sz := 6) (lo := 0 + 0) (m := x.i - 0) (n' := (0 + l.length)) rfl rfl (by omega)) ?_
          conv => whnf
          repeat ((first | with_reducible refine branch_true rfl ?_ | with_reducible refine branch_false rfl ?_); conv => whnf)
          exact res2_of (by simp only [cleanS, h1, h2, filt_gone0 h1]; rfl) (dfEnd g2)
end Go.Proofs


set_option linter.unusedVariables false
set_option linter.unusedSimpArgs false
namespace Go.Proofs
open Ax Go
/-! ### the order in which calls are met -/
def ahead (x y : Cl) : Bool := decide (x.d < y.d) || (decide (x.d = y.d) && decide (x.id < y.id))
theorem ahead_iff {x y : Cl} : ahead x y = true ↔ x.d < y.d ∨ x.d = y.d ∧ x.id < y.id := by simp [ahead]
theorem ahead_irr (x : Cl) : ahead x x = false := by simp [ahead]
theorem ahead_tr {x y z : Cl} (h1 : ahead x y = true) (h2 : ahead y z = true) : ahead x z = true := by
  rw [ahead_iff] at *; omega
theorem ahead_ntr {x y z : Cl} (h1 : ¬ ahead x y = true) (h2 : ¬ ahead y z = true) : ¬ ahead x z = true := by
  rw [ahead_iff] at *; omega
theorem ahead_tri {x y : Cl} (h1 : ¬ ahead x y = true) (h2 : x.id ≠ y.id) : ahead y x = true := by
  rw [ahead_iff] at *; omega
abbrev AheadP (l : List Cl) : Prop := l.Pairwise fun a b => ahead a b = true
theorem aheadP_eq {l l' : List Cl} (h : AheadP l) (h' : AheadP l') (hp : l.Perm l') : l = l' :=
  List.Perm.eq_of_pairwise (le := fun a b => ahead a b = true) (fun a b _ _ h1 h2 => by
    have := ahead_tr h1 h2
    rw [ahead_irr] at this; cases this) h h' hp
theorem exists_srt (l : List Cl) (hd : l.Pairwise fun a b => a.id ≠ b.id) : ∃ s, AheadP s ∧ s.Perm l := by
  induction l with
  | nil => exact ⟨[], List.Pairwise.nil, .refl _⟩
  | cons k l ih =>
    obtain ⟨d1, d2⟩ := List.pairwise_cons.1 hd
    obtain ⟨ks, h1, h2⟩ := ih d2
    have hk : ∀ x ∈ ks, k.id ≠ x.id := fun x hx => d1 x (h2.mem_iff.1 hx)
    have ins : ∀ ks : List Cl, AheadP ks → (∀ x ∈ ks, k.id ≠ x.id) → ∃ t, AheadP t ∧ t.Perm (k :: ks) := by
      intro ks
      induction ks with
      | nil => exact fun _ _ => ⟨[k], List.pairwise_singleton _ _, .refl _⟩
      | cons a r ihr =>
        intro hr hk
        by_cases h : ahead k a = true
        · refine ⟨k :: a :: r, List.pairwise_cons.2 ⟨fun b hb => ?_, hr⟩, .refl _⟩
          rcases List.mem_cons.1 hb with rfl | hb
          · exact h
          · exact ahead_tr h ((List.pairwise_cons.1 hr).1 b hb)
        · obtain ⟨t, ht, hp⟩ := ihr (List.pairwise_cons.1 hr).2 (fun x hx => hk x (List.mem_cons_of_mem _ hx))
          refine ⟨a :: t, List.pairwise_cons.2 ⟨fun b hb => ?_, ht⟩, ?_⟩
          · rcases List.mem_cons.1 (hp.mem_iff.1 hb) with rfl | hb
            · exact ahead_tri h (hk a List.mem_cons_self)
            · exact (List.pairwise_cons.1 hr).1 b hb
          · exact (List.Perm.cons a hp).trans (List.Perm.swap _ _ _)
    obtain ⟨t, ht, hp⟩ := ins ks h1 hk
    exact ⟨t, ht, hp.trans (List.Perm.cons _ h2)⟩
def decC : AV → Cl
  | .agg [.int _ id, .str m, .str a, .int _ n, .int _ d, .int _ t] => ⟨id, m, a, n, d, t⟩
  | _ => c0
theorem decC_enc (c : Cl) : decC (encC c) = c := rfl
open Classical in
noncomputable def cmpC (x y : Cl) : Int := if x = y then 0 else if ahead x y = true then -1 else 1
theorem cmpC_lt {x y : Cl} : cmpC x y < 0 ↔ ahead x y = true := by
  unfold cmpC
  by_cases h : x = y
  · subst h; rw [if_pos rfl, ahead_irr]; simp
  · rw [if_neg h]
    by_cases h2 : ahead x y = true <;> simp [h2]
noncomputable def cAVC (a b : AV) : Int := cmpC (decC a) (decC b)
theorem swoC : Swo cAVC := ⟨fun a => by unfold cAVC; rw [cmpC_lt, ahead_irr]; simp, fun a b d h1 h2 => by unfold cAVC at *; rw [cmpC_lt] at *; exact ahead_tr h1 h2, fun a b d h1 h2 => by unfold cAVC at *; rw [cmpC_lt] at *; exact ahead_ntr h1 h2⟩
theorem sortedC_eq {ks l : List Cl} {l' : List AV} (hr : AheadP ks) (hk : ks.Perm l) (hd : l.Pairwise fun a b => a.id ≠ b.id) (hp : l'.Perm (l.map encC)) (hs : l'.Pairwise fun a b => ¬ cAVC b a < 0) : l' = ks.map encC := by
  have e1 : ∀ a ∈ l', encC (decC a) = a := fun a ha => by
    obtain ⟨k, _, rfl⟩ := List.mem_map.1 (hp.mem_iff.1 ha); rfl
  have e2 : (l'.map decC).map encC = l' := by
    rw [List.map_map]
    calc l'.map (encC ∘ decC) = l'.map id := List.map_congr_left e1
      _ = l' := List.map_id _
  have e3 : (l'.map decC).Perm l := by
    have := hp.map decC
    rw [List.map_map, show decC ∘ encC = id from funext decC_enc, List.map_id] at this
    exact this
  have nd : (l'.map decC).Pairwise fun a b => a.id ≠ b.id := e3.symm.pairwise hd (fun h => Ne.symm h)
  have rs : AheadP (l'.map decC) := by
    have h1 : (l'.map decC).Pairwise fun a b => ¬ cmpC b a < 0 := List.pairwise_map.2 hs
    refine (h1.and nd).imp ?_
    rintro a b ⟨h2, h3⟩
    rw [cmpC_lt] at h2
    exact ahead_tri h2 (Ne.symm h3)
  rw [← e2, aheadP_eq rs hr (e3.trans hk.symm)]
/-! ### what comes meets them -/
def owed (m a : ByteArray) (c : Cl) : Bool := mine m a c && decide (0 < lack c)
def minI (x y : Int) : Int := if y < x then y else x
theorem minI_b {x y : Int} (hx : 0 ≤ x) (hy : 0 ≤ y) : 0 ≤ minI x y ∧ minI x y ≤ x ∧ minI x y ≤ y := by unfold minI; split <;> omega
def bump (out : List Cl) (id n : Int) : List Cl := out.map fun x => if x.id = id then { x with t := x.t + n } else x
def meetF : List Cl → List Cl × Int → List Cl × Int
  | [], p => p
  | c :: r, p => meetF r (bump p.1 c.id (minI p.2 (lack c)), p.2 - minI p.2 (lack c))
theorem bump_zero (out : List Cl) (i : Int) : bump out i 0 = out := by
  unfold bump
  have : ∀ x ∈ out, (if x.id = i then { x with t := x.t + 0 } else x) = (id x : Cl) := fun x _ => by
    split
    · simp only [Int.add_zero, id]
    · rfl
  rw [List.map_congr_left this]
  exact List.map_id _
theorem meetF_nil (r out : List Cl) (h : ∀ c ∈ r, 0 < lack c) : meetF r (out, 0) = (out, 0) := by
  induction r generalizing out with
  | nil => rfl
  | cons c r ih =>
    have h0 := h c List.mem_cons_self
    have e : minI 0 (lack c) = 0 := by unfold minI; rw [if_neg (by omega)]
    rw [meetF]
    simp only [e, bump_zero]
    exact ih out fun x hx => h x (List.mem_cons_of_mem _ hx)
abbrev Ids (l : List Cl) : Prop := l.Pairwise fun a b => a.id < b.id
theorem ids_at {l : List Cl} (h : Ids l) {i j : Nat} (hi : i < l.length) (hj : j < l.length) (e : (atC l i).id = (atC l j).id) : i = j := by
  have key : ∀ i j, i < l.length → j < l.length → i < j → (atC l i).id < (atC l j).id := fun i j hi hj hij => by
    have := List.pairwise_iff_getElem.1 h i j hi hj hij
    rw [atC, atC, List.getD, List.getD, List.getElem?_eq_getElem hi, List.getElem?_eq_getElem hj]
    exact this
  rcases Nat.lt_trichotomy i j with h1 | h1 | h1
  · have := key i j hi hj h1; omega
  · exact h1
  · have := key j i hj hi h1; omega
theorem at_mem {l : List Cl} {c : Cl} (h : c ∈ l) : ∃ k, k < l.length ∧ atC l k = c := by
  obtain ⟨k, hk⟩ := List.getElem?_of_mem h
  exact ⟨k, (List.getElem?_eq_some_iff.1 hk).1, by rw [atC, List.getD, hk]; rfl⟩
theorem bump_len (out : List Cl) (id n : Int) : (bump out id n).length = out.length := by simp [bump]
theorem bump_at {out : List Cl} {id n : Int} {k : Nat} (hk : k < out.length) : atC (bump out id n) k = if (atC out k).id = id then { atC out k with t := (atC out k).t + n } else atC out k := by
  unfold bump
  rw [atC, List.getD, List.getElem?_map, List.getElem?_eq_getElem hk, atC, List.getD, List.getElem?_eq_getElem hk]
  rfl
theorem bump_ids (out : List Cl) (id n : Int) : (bump out id n).map Cl.id = out.map Cl.id := by
  unfold bump
  rw [List.map_map]
  refine List.map_congr_left fun x _ => ?_
  show (if x.id = id then { x with t := x.t + n } else x).id = x.id
  split <;> rfl
theorem ids_of {l l' : List Cl} (h : Ids l) (e : l'.map Cl.id = l.map Cl.id) : Ids l' := by
  have h1 : (l.map Cl.id).Pairwise (· < ·) := List.pairwise_map.2 h
  rw [← e] at h1
  exact List.pairwise_map.1 h1
theorem bump_keeps {out : List Cl} {c x : Cl} {n : Int} (hx : x ∈ out) (hne : x.id ≠ c.id) : x ∈ bump out c.id n := by
  unfold bump
  exact List.mem_map.2 ⟨x, hx, by rw [if_neg hne]⟩
def mineL (l : List Cl) (m a : ByteArray) : List Cl := l.filter (owed m a)
theorem mineL_ids {l : List Cl} (h : Ids l) (m a : ByteArray) : (mineL l m a).Pairwise fun a b => a.id ≠ b.id := (List.Pairwise.filter _ h).imp fun h => by omega
def meetS (l : List Cl) (cents : Int) (srt : List Cl) : List Cl × Int × Int :=
  bif decide (checkL l ≠ 0) then ([], 0, checkL l) else
  bif decide (cents < 0) || decide (1152921504606846976 < cents) then ([], 0, 2) else
  ((meetF srt (l, cents)).1, (meetF srt (l, cents)).2, 0)
end Go.Proofs


set_option linter.unusedVariables false
set_option linter.unusedSimpArgs false
namespace Ax
open Go Go.RowKit
section
variable {P : Program} {cx : Ctx} {calm : List Oper → Bool}
variable {o : Oper} {env : Env} {h : Heap} {k : AV → Prop} {e : Prop} {t u : TypeId} {x i : Operand} {n : Int} {len sz : Nat} {g : Nat → AV} {s : ByteArray}
theorem st_load_ef {p : Operand} {id j off : Nat} {cs : List AV} {v : AV} (ho : o.op = .load t p) (hp : evo P 0 env p = .eptr id sz j off) (hh : h.get id = .arr sz len g) (hj : j < len) (hg : g j = .agg cs) (ht : tyAgg P t = false) (hu : ((P.underlying t).isSome && Nat.beq (tySz P t) 1) = true) (hv : oneAV cs[off]? = some v) (hk : k v.strip) :
    (match evalOp P o env h with | some v => k v | none => e) := by
  refine st_some (v := v.strip) ?_ hk
  have e1 : Nat.beq sz sz = true := Nat.beq_refl sz
  have e2 : Nat.blt j len = true := by rw [Nat.blt_eq]; exact hj
  simp only [Bool.and_eq_true] at hu
  unfold evalOp
  simp only [ho, hp, loadAV, readCells, hh, e1, e2, Bool.and_self, cond_true, hg, AV.cells, partAV, ht, cond_false, hu.1, hu.2, hv, Option.map_some]
theorem st_store_off {A : Heap → Prop} {C : Prop} {id j off : Nat} {pv x : AV} (hp : pv = .eptr id sz j off) (hh : h.get id = .arr sz len g) (hj : j < len) (hc : (!(Nat.beq x.cells.length (tySz P t)) || !(x.cells.all AV.scal)) = false) (hd : (Nat.ble (off + x.cells.length) sz && x.isData) = true)
    (hk : A (h.set id (.arr sz len (upd g j (setElem (g j) off sz x.strip))))) : (match storeAV P h t pv x with | some h => A h | none => C) := by
  have e1 : Nat.beq sz sz = true := Nat.beq_refl sz
  have e2 : Nat.blt j len = true := by rw [Nat.blt_eq]; exact hj
  simp only [Bool.and_eq_true] at hd
  have : storeAV P h t pv x = some (h.set id (.arr sz len (upd g j (setElem (g j) off sz x.strip)))) := by
    unfold storeAV
    rw [hc, hp]
    simp only [cond_false, storeArr, hh, e1, e2, hd.1, hd.2, Bool.and_self, cond_true]
  rw [this]; exact hk
end
end Ax
namespace Go.Proofs
open Ax Go
set_option maxRecDepth 10000
theorem aheadC (x y : Cl) : CallOK Try.prog 27 [encC x, encC y] (fun r => r = .bool (ahead x y)) := by
  refine okP ?_
  conv => whnf
  repeat ((first | with_reducible refine branch_true rfl ?_ | with_reducible refine branch_false rfl ?_); conv => whnf)
  refine branch_of (fun h1 => ?_) (fun h1 => ?_)
  · have h1 : x.d < y.d := of_decide_eq_true h1
    conv => whnf
    repeat ((first | with_reducible refine branch_true rfl ?_ | with_reducible refine branch_false rfl ?_); conv => whnf)
    simp [ahead, h1]
  · have h1 : ¬ x.d < y.d := of_decide_eq_false h1
    conv => whnf
    repeat ((first | with_reducible refine branch_true rfl ?_ | with_reducible refine branch_false rfl ?_); conv => whnf)
    refine branch_of (fun h2 => ?_) (fun h2 => ?_)
    · have h2 : x.d = y.d := of_decide_eq_true h2
      conv => whnf
      repeat ((first | with_reducible refine branch_true rfl ?_ | with_reducible refine branch_false rfl ?_); conv => whnf)
      simp [ahead, h2]
    · have h2 : ¬ x.d = y.d := of_decide_eq_false h2
      conv => whnf
      repeat ((first | with_reducible refine branch_true rfl ?_ | with_reducible refine branch_false rfl ?_); conv => whnf)
      simp [ahead, h1, h2]
def eqB (a b : Cl) : Bool := decide (a.id = b.id) && ((decide (a.m = b.m) && (decide (a.a = b.a) && true)) && (decide (a.n = b.n) && (decide (a.d = b.d) && (decide (a.t = b.t) && true))))
theorem eqB_iff {a b : Cl} : eqB a b = true ↔ a = b := by
  cases a; cases b
  simp [eqB, and_assoc]
theorem eqC (a b : Cl) : binAV Try.prog .eql 52 (encC a) (encC b) = some (.bool (eqB a b)) := by kernel_rfl
theorem cmpT (x y : Cl) : CallOK Try.prog 29 [encC x, encC y, .cptr (.fn 27 [] [])] (fun r => r = .int .i64 (cmpC x y)) := by
  refine okP ?_
  conv => whnf
  repeat ((first | with_reducible refine branch_true rfl ?_ | with_reducible refine branch_false rfl ?_); conv => whnf)
  refine st_bin (a := encC x) (b := encC y) rfl rfl rfl (eqC x y) ?_
  cases h1 : eqB x y with
  | true =>
    conv => whnf
    repeat ((first | with_reducible refine branch_true rfl ?_ | with_reducible refine branch_false rfl ?_); conv => whnf)
    rw [cmpC, if_pos (eqB_iff.1 h1)]
  | false =>
    have h1 : ¬ x = y := fun e => by rw [eqB_iff.2 e] at h1; cases h1
    conv => whnf
    repeat ((first | with_reducible refine branch_true rfl ?_ | with_reducible refine branch_false rfl ?_); conv => whnf)
    refine call_is (aheadC x y) ?_
    cases h2 : ahead x y with
    | true =>
      conv => whnf
      repeat ((first | with_reducible refine branch_true rfl ?_ | with_reducible refine branch_false rfl ?_); conv => whnf)
      rw [cmpC, if_neg h1, if_pos h2]
    | false =>
      conv => whnf
      repeat ((first | with_reducible refine branch_true rfl ?_ | with_reducible refine branch_false rfl ?_); conv => whnf)
      rw [cmpC, if_neg h1, if_neg (by rw [h2]; decide)]
theorem index (l : List Cl) (hl : l.length ≤ 100000) (c : Cl) (hc : c ∈ l) : CallOK Try.prog 30 [encL l, encC c] (fun r => ∃ k : Nat, k < l.length ∧ r = .int .i64 k ∧ atC l k = c) := by
  refine okP ?_
  conv => whnf
  repeat ((first | with_reducible refine branch_true rfl ?_ | with_reducible refine branch_false rfl ?_); conv => whnf)
  refine loop_by (cx := cxP) rfl progOK (ι := {i : Nat // i ≤ l.length ∧ ∀ j, j < i → atC l j ≠ c}) (fun x => l.length - x.1) (fun x => ⟨[(0, encL l), (3, .ptr 0 0), (6, encL l), (7, .int .i64 l.length), (8, .int .i64 x.1)], [.cells [.int .i64 c.id, .str c.m, .str c.a, .int .i64 c.n, .int .i64 c.d, .int .i64 c.t]], [], none⟩) ?_ ⟨0, Nat.zero_le _, fun j hj => absurd hj (by omega)⟩
  rintro ⟨i, hi, hj⟩ ih
  conv => whnf
  repeat ((first | with_reducible refine branch_true rfl ?_ | with_reducible refine branch_false rfl ?_); conv => whnf)
  refine branch_of (fun g1 => ?_) (fun g1 => ?_)
  · have g2 : i < l.length := by simpa using g1
    have hw : IntKind.i64.wrap ((i : Int) + 1) = ((i + 1 : Nat) : Int) := by rw [wrap64 (by omega)]; omega
    conv => whnf
    repeat ((first | with_reducible refine branch_true rfl ?_ | with_reducible refine branch_false rfl ?_); conv => whnf)
    refine st_addr (sz := 6) (len := l.length) (n := i) (u := 52) (g := fun i => encC (atC l i)) rfl rfl rfl rfl rfl (in_range g2) ?_
    conv => whnf
    repeat ((first | with_reducible refine branch_true rfl ?_ | with_reducible refine branch_false rfl ?_); conv => whnf)
    refine st_bin (a := encC c) (b := encC (atC l i)) rfl rfl rfl (eqC c (atC l i)) ?_
    cases h1 : eqB c (atC l i) with
    | true =>
      conv => whnf
      repeat ((first | with_reducible refine branch_true rfl ?_ | with_reducible refine branch_false rfl ?_); conv => whnf)
      exact ⟨i, g2, rfl, (eqB_iff.1 h1).symm⟩
    | false =>
      have h1 : atC l i ≠ c := fun e => by rw [eqB_iff.2 e.symm] at h1; cases h1
      conv => whnf
      repeat ((first | with_reducible refine branch_true rfl ?_ | with_reducible refine branch_false rfl ?_); conv => whnf)
      exact loop_to ih ⟨i + 1, g2, all_next hj h1⟩ (show l.length - (i + 1) < l.length - i by omega) (congrArg (fun q => St.mk [(0, encL l), (3, .ptr 0 0), (6, encL l), (7, .int .i64 l.length), (8, .int .i64 q)] [.cells [.int .i64 c.id, .str c.m, .str c.a, .int .i64 c.n, .int .i64 c.d, .int .i64 c.t]] [] none) hw)
  · have g2 : i = l.length := by simp at g1; omega
    subst g2
    obtain ⟨k, hk, e⟩ := at_mem hc
    exact absurd e (hj k hk)
theorem callsAt_list {l : List Cl} {len : Nat} {g : Nat → AV} (h : CallsAt l len g) : ((List.range len).map fun i => oneOf 6 (g i)) = l.map encC := by
  obtain ⟨rfl, h⟩ := h
  apply List.ext_getElem?
  intro i
  by_cases hi : i < l.length
  · have e := h i hi
    have e2 : atC l i = l[i] := by rw [atC, List.getD, List.getElem?_eq_getElem hi]; rfl
    simp [hi, e, e2]; rfl
  · simp [hi]
structure MtHd (l : List Cl) (cents0 : Int) (srt : List Cl) where
  i : Nat
  out : List Cl
  cents : Int
  e : Nat → AV
  hi : i ≤ srt.length
  hm : meetF (srt.drop i) (out, cents) = meetF srt (l, cents0)
  hin : ∀ x ∈ srt.drop i, x ∈ out
  hid : out.map Cl.id = l.map Cl.id
  hc : 0 ≤ cents ∧ cents ≤ 1152921504606846976
  he : CallsAt out (0 + l.length) e
theorem mtStep {l : List Cl} {cents0 : Int} {srt : List Cl} {x : MtHd l cents0 srt} (hj : x.i < srt.length) (hids : Ids l) (hs : srt.Pairwise fun a b => a.id ≠ b.id) (hg : ∀ c ∈ srt, 0 < lack c ∧ lack c ≤ 1152921504606846976 ∧ 0 ≤ c.t ∧ c.n ≤ 1152921504606846976) {k : Nat} (hk : k < x.out.length) (hat : atC x.out k = atC srt x.i) :
    ∃ y : MtHd l cents0 srt, y.i = x.i + 1 ∧ y.cents = x.cents - minI x.cents (lack (atC srt x.i)) ∧ y.e = upd x.e (0 + k) (setElem (x.e (0 + k)) 5 6 (.int .i64 ((atC srt x.i).t + minI x.cents (lack (atC srt x.i))))) := by
  obtain ⟨i, out, cents, e, hi, hm, hin, hid, hc, he⟩ := x
  simp only at hj hk hat
  have hcm := atC_mem hj
  obtain ⟨q1, q2, q3, q4⟩ := hg _ hcm
  have hb := minI_b (x := cents) (y := lack (atC srt i)) hc.1 (by omega)
  have hd := drop_at hj
  have hout := ids_of hids hid
  have hlen : out.length = l.length := by have := congrArg List.length hid; simpa using this
  rw [hd] at hm hin
  refine ⟨⟨i + 1, bump out (atC srt i).id (minI cents (lack (atC srt i))), cents - minI cents (lack (atC srt i)), upd e (0 + k) (setElem (e (0 + k)) 5 6 (.int .i64 ((atC srt i).t + minI cents (lack (atC srt i))))), hj, ?_, fun x hx => ?_, by rw [bump_ids]; exact hid, by omega, ?_⟩, rfl, rfl, rfl⟩
  · rw [← hm]; rfl
  · refine bump_keeps (hin x (List.mem_cons_of_mem _ hx)) ?_
    have h1 : (srt.drop i).Pairwise fun a b => a.id ≠ b.id := List.Pairwise.sublist (List.drop_sublist _ _) hs
    rw [hd] at h1
    exact Ne.symm ((List.pairwise_cons.1 h1).1 x hx)
  · obtain ⟨h1, h2⟩ := he
    refine ⟨by rw [bump_len]; exact h1, fun q hq => ?_⟩
    rw [bump_len] at hq
    rw [bump_at hq]
    unfold upd
    by_cases hqk : q = k
    · subst hqk
      rw [show Nat.beq q (0 + q) = true by rw [Nat.beq_eq]; omega, cond_true, Nat.zero_add, h2 q hq, hat, if_pos rfl]
      rfl
    · rw [show Nat.beq q (0 + k) = false by rw [Bool.eq_false_iff, ne_eq, Nat.beq_eq]; omega, cond_false, h2 q hq, if_neg]
      intro e
      rw [← hat] at e
      exact hqk (ids_at hout hq hk e)
end Go.Proofs


set_option linter.unusedVariables false
set_option linter.unusedSimpArgs false
namespace Go.Proofs
open Ax Go
set_option maxRecDepth 10000
structure MnHd (l : List Cl) (m a : ByteArray) where
  i : Nat
  len : Nat
  g : Nat → AV
  hi : i ≤ l.length
  hg : CallsAt ((l.take i).filter (owed m a)) len g
theorem meet (l : List Cl) (m a : ByteArray) (cents : Int) (srt : List Cl) (hr : checkL l = 0 → AheadP srt) (hp : checkL l = 0 → srt.Perm (mineL l m a)) : CallOK Try.prog 15 [encL l, encA m a, .int .i64 cents] (Res3 (meetS l cents srt)) := by
  refine okL ?_
  conv => whnf
  repeat ((first | with_reducible refine branch_true rfl ?_ | with_reducible refine branch_false rfl ?_); conv => whnf)
  refine call_is (check l) ?_
  conv => whnf
  repeat ((first | with_reducible refine branch_true rfl ?_ | with_reducible refine branch_false rfl ?_); conv => whnf)
  refine branch_of (fun h1 => ?_) (fun h1 => ?_)
  · have h1 : checkL l ≠ 0 := by simpa using h1
    conv => whnf
    repeat ((first | with_reducible refine branch_true rfl ?_ | with_reducible refine branch_false rfl ?_); conv => whnf)
    exact res3_nil (by simp [meetS, h1])
  · have h1 : checkL l = 0 := by simpa using h1
    replace hr := hr h1
    replace hp := hp h1
    obtain ⟨hn, hgd, hids⟩ := check_good h1
    conv => whnf
    repeat ((first | with_reducible refine branch_true rfl ?_ | with_reducible refine branch_false rfl ?_); conv => whnf)
    refine branch_of (fun k1 => ?_) (fun k1 => ?_)
    · have k1 : cents < 0 := of_decide_eq_true k1
      conv => whnf
      repeat ((first | with_reducible refine branch_true rfl ?_ | with_reducible refine branch_false rfl ?_); conv => whnf)
      exact res3_nil (by simp [meetS, h1, k1])
    · have k1 : ¬ cents < 0 := of_decide_eq_false k1
      conv => whnf
      repeat ((first | with_reducible refine branch_true rfl ?_ | with_reducible refine branch_false rfl ?_); conv => whnf)
      refine branch_of (fun k2 => ?_) (fun k2 => ?_)
      · have k2 : 1152921504606846976 < cents := of_decide_eq_true k2
        conv => whnf
        repeat ((first | with_reducible refine branch_true rfl ?_ | with_reducible refine branch_false rfl ?_); conv => whnf)
        exact res3_nil (by simp [meetS, h1, k2])
      · have k2 : ¬ 1152921504606846976 < cents := of_decide_eq_false k2
        have hS : meetS l cents srt = ((meetF srt (l, cents)).1, (meetF srt (l, cents)).2, 0) := by simp [meetS, h1, k1, k2]
        have hsl : srt.length ≤ l.length := by rw [hp.length_eq]; exact List.length_filter_le _ _
        have hsd : srt.Pairwise fun a b => a.id ≠ b.id := hp.symm.pairwise (mineL_ids hids m a) (fun h => Ne.symm h)
        have hsm : ∀ c ∈ srt, c ∈ l ∧ owed m a c = true := fun c hc => List.mem_filter.1 (hp.mem_iff.1 hc)
        have hsg : ∀ c ∈ srt, 0 < lack c ∧ lack c ≤ 1152921504606846976 ∧ 0 ≤ c.t ∧ c.n ≤ 1152921504606846976 := fun c hc => by
          obtain ⟨q1, q2⟩ := hsm c hc
          have := good_at h1 q1
          unfold owed at q2
          simp at q2
          unfold lack at q2 ⊢
          omega
        conv => whnf
        repeat ((first | with_reducible refine branch_true rfl ?_ | with_reducible refine branch_false rfl ?_); conv => whnf)
        refine loop_by (cx := cxL) rfl progOK (ι := MnHd l m a) (fun x => l.length - x.i) (fun x => ⟨[(0, encL l), (2, .int .i64 cents), (4, .ptr 0 0), (9, .uni (.vec 6 x.len x.g)), (27, encL l), (28, .int .i64 l.length), (29, .int .i64 x.i)], [.cells [.str m, .str a]], [], none⟩) ?_ ⟨0, 0, _, Nat.zero_le _, callsAt_nil⟩
        rintro ⟨i, len, g, hi, hg⟩ ih
        have hlen := hg.1
        have hlen2 := List.length_filter_le (owed m a) (l.take i)
        have hlen3 := List.length_take_le i l
        conv => whnf
        repeat ((first | with_reducible refine branch_true rfl ?_ | with_reducible refine branch_false rfl ?_); conv => whnf)
        refine branch_of (fun g1 => ?_) (fun g1 => ?_)
        · have g2 : i < l.length := by simpa using g1
          have hw : IntKind.i64.wrap ((i : Int) + 1) = ((i + 1 : Nat) : Int) := by rw [wrap64 (by omega)]; omega
          have hgood := good_at h1 (atC_mem g2)
          have hwl : IntKind.i64.wrap (lack (atC l i)) = lack (atC l i) := wrap64 (by unfold lack; omega)
          have no : owed m a (atC l i) = false → ∀ K : St → Prop, (∀ j : MnHd l m a, l.length - j.i < l.length - i → K (St.mk [(0, encL l), (2, .int .i64 cents), (4, .ptr 0 0), (9, .uni (.vec 6 j.len j.g)), (27, encL l), (28, .int .i64 l.length), (29, .int .i64 j.i)] [.cells [.str m, .str a]] [] none)) → K (St.mk [(0, encL l), (2, .int .i64 cents), (4, .ptr 0 0), (9, .uni (.vec 6 len g)), (27, encL l), (28, .int .i64 l.length), (29, .int .i64 (IntKind.i64.wrap ((i : Int) + 1)))] [.cells [.str m, .str a]] [] none) := by
            intro h K hK
            rw [hw]
            exact hK ⟨i + 1, len, g, g2, by rw [filt_no g2 h]; exact hg⟩ (show l.length - (i + 1) < l.length - i by omega)
          conv => whnf
          repeat ((first | with_reducible refine branch_true rfl ?_ | with_reducible refine branch_false rfl ?_); conv => whnf)
          refine st_addr (sz := 6) (len := l.length) (n := i) (u := 52) (g := fun i => encC (atC l i)) rfl rfl rfl rfl rfl (in_range g2) ?_
          conv => whnf
          repeat ((first | with_reducible refine branch_true rfl ?_ | with_reducible refine branch_false rfl ?_); conv => whnf)
          refine st_bin (a := encA (atC l i).m (atC l i).a) (b := encA m a) rfl rfl rfl (mine_eq m a (atC l i)) ?_
          cases hm : mine m a (atC l i) with
          | false =>
            conv => whnf
            repeat ((first | with_reducible refine branch_true rfl ?_ | with_reducible refine branch_false rfl ?_); conv => whnf)
            exact no (by simp [owed, hm]) (fun s => SLoop _ _ _ _ _ _ s _) ih
          | true =>
            conv => whnf
            repeat ((first | with_reducible refine branch_true rfl ?_ | with_reducible refine branch_false rfl ?_); conv => whnf)
            refine call_is (lacks (atC l i)) ?_
            conv => whnf
            repeat ((first | with_reducible refine branch_true rfl ?_ | with_reducible refine branch_false rfl ?_); conv => whnf)
            refine branch_of (fun g3 => ?_) (fun g3 => ?_)
            · have g3 : 0 < lack (atC l i) := by
                have : 0 < IntKind.i64.wrap (lack (atC l i)) := of_decide_eq_true g3
                rw [hwl] at this; exact this
              conv => whnf
              repeat ((first | with_reducible refine branch_true rfl ?_ | with_reducible refine branch_false rfl ?_); conv => whnf)
              refine st_append_uni (sz := 6) (len := len) (g := g) (u := 52) (m := 1) (gg := vlist (zeroElem Try.prog 52) [encC (atC l i)]) rfl rfl rfl rfl rfl (room64 (by omega)) ?_
              conv => whnf
              repeat ((first | with_reducible refine branch_true rfl ?_ | with_reducible refine branch_false rfl ?_); conv => whnf)
              exact loop_to ih ⟨i + 1, len + 1, _, g2, by rw [filt_yes g2 (by simp [owed, hm, g3])]; exact callsAt_app hg (callsAt_one rfl)⟩ (show l.length - (i + 1) < l.length - i by omega) (congrArg (fun q => St.mk [(0, encL l), (2, .int .i64 cents), (4, .ptr 0 0), (9, .uni (.vec 6 (len + 1) _)), (27, encL l), (28, .int .i64 l.length), (29, .int .i64 q)] [.cells [.str m, .str a]] [] none) hw)
            · have g3 : ¬ 0 < lack (atC l i) := by
                have : ¬ 0 < IntKind.i64.wrap (lack (atC l i)) := of_decide_eq_false g3
                rw [hwl] at this; exact this
              conv => whnf
              repeat ((first | with_reducible refine branch_true rfl ?_ | with_reducible refine branch_false rfl ?_); conv => whnf)
              exact no (by simp [owed, g3]) (fun s => SLoop _ _ _ _ _ _ s _) ih
        · have g2 : i = l.length := by simp at g1; omega
          subst g2
          clear ih
          rw [List.take_length] at hg hlen
          conv => whnf
          repeat ((first | with_reducible refine branch_true rfl ?_ | with_reducible refine branch_false rfl ?_); conv => whnf)
          refine cond_t (show (Nat.beq 6 6 && Nat.beq 6 6 && Nat.beq 0 0 && Nat.beq len len) = true by simp) ?_
          conv => whnf
          repeat ((first | with_reducible refine branch_true rfl ?_ | with_reducible refine branch_false rfl ?_); conv => whnf)
          have hl : (List.range len).map (fun i => oneOf 6 (g i)) = (mineL l m a).map encC := callsAt_list hg
          refine ⟨?_, cAVC, ?_, swoC, ?_⟩
          · show ((List.range len).map (fun i => oneOf 6 (g i))).length < _
            simp
            have hfl := List.length_filter_le (owed m a) l
            omega
          · intro x hx y hy
            replace hx : x ∈ (List.range len).map (fun i => oneOf 6 (g i)) := hx
            replace hy : y ∈ (List.range len).map (fun i => oneOf 6 (g i)) := hy
            rw [hl] at hx hy
            obtain ⟨kx, _, rfl⟩ := List.mem_map.1 hx
            obtain ⟨ky, _, rfl⟩ := List.mem_map.1 hy
            exact call_is (v := .int .i64 (cmpC kx ky)) (cmpT kx ky) rfl
          · intro l' hp' hs'
            replace hp' : l'.Perm ((List.range len).map (fun i => oneOf 6 (g i))) := hp'
            rw [hl] at hp'
            obtain rfl := sortedC_eq hr hp (mineL_ids hids m a) hp' hs'
            have hks : len = srt.length := by rw [hlen, hp.length_eq]; rfl
            have hes : ∀ j, j < srt.length → splice g 0 len (vlist .undef (srt.map encC)) (0 + j) = encC (atC srt j) := by
              intro j hj
              have e1 : Nat.blt j (0 + len) = true := by rw [Nat.blt_eq]; omega
              rw [Nat.zero_add]
              unfold splice
              rw [e1, show Nat.ble 0 j = true from Nat.ble_eq_true_of_le (Nat.zero_le _)]
              simp only [Bool.and_self, cond_true, vlist, Nat.sub_zero]
              rw [List.getD, List.getElem?_map, List.getElem?_eq_getElem hj, atC, List.getD, List.getElem?_eq_getElem hj]; rfl
            generalize splice g 0 len (vlist .undef (srt.map encC)) = e at hes
            subst hks
            conv => whnf
            repeat ((first | with_reducible refine branch_true rfl ?_ | with_reducible refine branch_false rfl ?_); conv => whnf)
            refine branch_of (fun n0 => ?_) (fun n0 => ?_)
            · have n0 : l = [] := by
                have : Nat.beq l.length 0 = true := n0
                rw [Nat.beq_eq] at this
                exact List.length_eq_zero_iff.1 this
              subst n0
              obtain rfl : srt = [] := List.length_eq_zero_iff.1 (by simpa using hsl)
              intro i hi
              rcases (by omega : i = 0 ∨ i = 1) with rfl | rfl
              · conv => whnf
                repeat ((first | with_reducible refine branch_true rfl ?_ | with_reducible refine branch_false rfl ?_); conv => whnf)
                refine loop_by (cx := cxL) rfl progOK (ι := Unit) (fun _ => 0) (fun _ => _) ?_ ()
                intro _ _
                conv => whnf
                repeat ((first | with_reducible refine branch_true rfl ?_ | with_reducible refine branch_false rfl ?_); conv => whnf)
                rw [hS]
                exact ⟨0, _, rfl, callsAt_nil⟩
              · conv => whnf
                repeat ((first | with_reducible refine branch_true rfl ?_ | with_reducible refine branch_false rfl ?_); conv => whnf)
                refine loop_by (cx := cxL) rfl progOK (ι := Unit) (fun _ => 0) (fun _ => _) ?_ ()
                intro _ _
                conv => whnf
                repeat ((first | with_reducible refine branch_true rfl ?_ | with_reducible refine branch_false rfl ?_); conv => whnf)
                rw [hS]
                exact ⟨0, _, rfl, callsAt_nil⟩
            · conv => whnf
              repeat ((first | with_reducible refine branch_true rfl ?_ | with_reducible refine branch_false rfl ?_); conv => whnf)
              refine st_append_uni (sz := 6) (len := 0) (u := 52) (m := l.length) (gg := fun i => encC (atC l i)) rfl rfl rfl rfl rfl (room64 (by omega)) ?_
              conv => whnf
              repeat ((first | with_reducible refine branch_true rfl ?_ | with_reducible refine branch_false rfl ?_); conv => whnf)
              have hG : ∀ z (g0 : Nat → AV), CallsAt l (0 + l.length) (vapp z g0 0 (fun i => encC (atC l i)) l.length) := fun z g0 => callsAt_app (z := z) (callsAt_nil (g := g0)) (callsAt_self l)
              refine loop_by (cx := cxL) rfl progOK (ι := MtHd l cents srt) (fun x => srt.length - x.i) (fun x => ⟨[(2, .int .i64 x.cents), (6, .row 3 6 0 (0 + l.length)), (52, .row 2 6 0 srt.length), (53, .int .i64 srt.length), (54, .int .i64 x.i)], [.cells [.str m, .str a], .cells [.fn 27 [] []], .arr 6 srt.length e, .arr 6 (0 + l.length) x.e], [], none⟩) ?_ ⟨0, l, cents, vapp (zeroElem Try.prog 52) (vlist (zeroElem Try.prog 52) []) 0 (fun i => encC (atC l i)) l.length, Nat.zero_le _, rfl, fun x hx => (hsm x hx).1, rfl, by omega, hG _ _⟩
              intro x ih
              have hxi := x.hi
              have hxc := x.hc
              have hlen := x.he.1
              conv => whnf
              repeat ((first | with_reducible refine branch_true rfl ?_ | with_reducible refine branch_false rfl ?_); conv => whnf)
              refine branch_of (fun g3 => ?_) (fun g3 => ?_)
              · have g4 : x.i < srt.length := by
                  have := of_decide_eq_true g3
                  omega
                have hw : IntKind.i64.wrap ((x.i : Int) + 1) = ((x.i + 1 : Nat) : Int) := by rw [wrap64 (by omega)]; omega
                have hcm := atC_mem g4
                obtain ⟨q1, q2, q3, q4⟩ := hsg _ hcm
                have hwl : IntKind.i64.wrap (lack (atC srt x.i)) = lack (atC srt x.i) := wrap64 (by omega)
                have hb := minI_b (x := x.cents) (y := lack (atC srt x.i)) hxc.1 (by omega)
                have hin : atC srt x.i ∈ x.out := x.hin _ (by rw [drop_at g4]; exact List.mem_cons_self)
                conv => whnf
                repeat ((first | with_reducible refine branch_true rfl ?_ | with_reducible refine branch_false rfl ?_); conv => whnf)
                refine st_addr_row (u := 52) (id := 2) (sz := 6) (lo := 0) (len := srt.length) (n := (x.i : Int)) rfl rfl rfl rfl rfl (in_range g4) ?_
                conv => whnf
                repeat ((first | with_reducible refine branch_true rfl ?_ | with_reducible refine branch_false rfl ?_); conv => whnf)
                refine st_load_e (id := 2) (sz := 6) (j := 0 + x.i) (len := srt.length) (g := e) (cs := [.int .i64 (atC srt x.i).id, .str (atC srt x.i).m, .str (atC srt x.i).a, .int .i64 (atC srt x.i).n, .int .i64 (atC srt x.i).d, .int .i64 (atC srt x.i).t]) rfl rfl rfl (by omega) (hes x.i g4) rfl rfl ?_
                conv => whnf
                repeat ((first | with_reducible refine branch_true rfl ?_ | with_reducible refine branch_false rfl ?_); conv => whnf)
                refine call_is (lacks (atC srt x.i)) ?_
                conv => whnf
                repeat ((first | with_reducible refine branch_true rfl ?_ | with_reducible refine branch_false rfl ?_); conv => whnf)
                refine force_by (lend_row (id := 3) (sz := 6) (n := 0 + l.length) (n' := 0 + l.length) rfl (Nat.le_refl _)) ?_
                conv => whnf
                repeat ((first | with_reducible refine branch_true rfl ?_ | with_reducible refine branch_false rfl ?_); conv => whnf)
                have he' : CallsAt x.out (0 + l.length) (fun j => x.e (0 + j)) := ⟨x.he.1, fun i hi => by show x.e (0 + i) = _; rw [Nat.zero_add]; exact x.he.2 i hi⟩
                refine call_by (ok_same (.cons (callsAt_same he') (.cons (.refl _) .nil)) (index x.out (by omega) (atC srt x.i) hin)) (let ⟨k, a, b⟩ := at_mem hin; ⟨_, k, a, rfl, b⟩) ?_
                rintro r ⟨k, hk, rfl, hat⟩
                have hek : x.e (0 + k) = encC (atC srt x.i) := by rw [Nat.zero_add, x.he.2 k hk, hat]
                obtain ⟨y, hy1, hy2, hy3⟩ := mtStep g4 hids hsd hsg hk hat
                have hwt : IntKind.i64.wrap ((atC srt x.i).t + minI x.cents (lack (atC srt x.i))) = (atC srt x.i).t + minI x.cents (lack (atC srt x.i)) := by
                  have : (atC srt x.i).n = lack (atC srt x.i) + (atC srt x.i).t := by unfold lack; omega
                  rw [wrap64 (by omega)]
                have hwc : IntKind.i64.wrap (x.cents - minI x.cents (lack (atC srt x.i))) = x.cents - minI x.cents (lack (atC srt x.i)) := by rw [wrap64 (by omega)]
                conv => whnf
                repeat ((first | with_reducible refine branch_true rfl ?_ | with_reducible refine branch_false rfl ?_); conv => whnf)
                refine st_addr_row (u := 52) (id := 3) (sz := 6) (lo := 0) (len := 0 + l.length) (n := (k : Int)) rfl rfl rfl rfl rfl (in_range (by omega)) ?_
                conv => whnf
                repeat ((first | with_reducible refine branch_true rfl ?_ | with_reducible refine branch_false rfl ?_); conv => whnf)
                refine st_load_ef (id := 3) (sz := 6) (j := 0 + k) (off := 5) (len := 0 + l.length) (g := x.e) (v := .int .i64 (atC srt x.i).t) (cs := [.int .i64 (atC srt x.i).id, .str (atC srt x.i).m, .str (atC srt x.i).a, .int .i64 (atC srt x.i).n, .int .i64 (atC srt x.i).d, .int .i64 (atC srt x.i).t]) rfl rfl rfl (by omega) hek rfl rfl rfl ?_
                conv => whnf
                repeat ((first | with_reducible refine branch_true rfl ?_ | with_reducible refine branch_false rfl ?_); conv => whnf)
                refine st_addr_row (u := 52) (id := 3) (sz := 6) (lo := 0) (len := 0 + l.length) (n := (k : Int)) rfl rfl rfl rfl rfl (in_range (by omega)) ?_
                conv => whnf
                repeat ((first | with_reducible refine branch_true rfl ?_ | with_reducible refine branch_false rfl ?_); conv => whnf)
                refine st_store_off (id := 3) (sz := 6) (j := 0 + k) (off := 5) (len := 0 + l.length) (g := x.e) rfl rfl (by omega) rfl rfl ?_
                conv => whnf
                repeat ((first | with_reducible refine branch_true rfl ?_ | with_reducible refine branch_false rfl ?_); conv => whnf)
                refine loop_to ih y (by rw [hy1]; omega) ?_
                have hmin : (if IntKind.i64.wrap (lack (atC srt x.i)) < x.cents then IntKind.i64.wrap (lack (atC srt x.i)) else x.cents) = minI x.cents (lack (atC srt x.i)) := by rw [hwl]; rfl
                rw [hy1, hy2, hy3, ← hw]
                show St.mk [(2, .int .i64 (IntKind.i64.wrap (x.cents - (if IntKind.i64.wrap (lack (atC srt x.i)) < x.cents then IntKind.i64.wrap (lack (atC srt x.i)) else x.cents)))), (6, .row 3 6 0 (0 + l.length)), (52, .row 2 6 0 srt.length), (53, .int .i64 srt.length), (54, .int .i64 (IntKind.i64.wrap ((x.i : Int) + 1)))] [.cells [.str m, .str a], .cells [.fn 27 [] []], .arr 6 srt.length e, .arr 6 (0 + l.length) (upd x.e (0 + k) (setElem (x.e (0 + k)) 5 6 (.int .i64 (IntKind.i64.wrap ((atC srt x.i).t + (if IntKind.i64.wrap (lack (atC srt x.i)) < x.cents then IntKind.i64.wrap (lack (atC srt x.i)) else x.cents))))))] [] none = _
                rw [hmin, hwt, hwc]
              · have g4 : x.i = srt.length := by
                  have := of_decide_eq_false g3
                  omega
                conv => whnf
                repeat ((first | with_reducible refine branch_true rfl ?_ | with_reducible refine branch_false rfl ?_); conv => whnf)
                refine st_ghosts (ghost_freeze (id := 3) (sz := 6) (lo := 0) (m := 0 + l.length) (n' := 0 + l.length) rfl rfl (by omega)) ?_
                conv => whnf
                repeat ((first | with_reducible refine branch_true rfl ?_ | with_reducible refine branch_false rfl ?_); conv => whnf)
                have hfin := x.hm
                rw [g4, List.drop_length] at hfin
                rw [hS, ← hfin]
                exact ⟨_, _, rfl, x.he.1, fun i hi => by show x.e (0 + i) = _; rw [Nat.zero_add]; exact x.he.2 i hi⟩
end Go.Proofs


set_option linter.unusedVariables false
set_option linter.unusedSimpArgs false
namespace Go.Proofs
open Ax Go
set_option maxRecDepth 10000
def lk (m a : ByteArray) (c : Cl) : Bool := mine m a c && decide (c.t < c.n)
def Best (m a : ByteArray) (l : List Cl) (i : Nat) : Option Nat → Prop
  | none => ∀ j, j < i → lk m a (atC l j) = false
  | some k => k < i ∧ lk m a (atC l k) = true ∧ ∀ j, j < i → lk m a (atC l j) = true → (atC l k).d ≤ (atC l j).d ∧ (j < k → (atC l k).d < (atC l j).d)
def atI : Option Nat → Int
  | none => -1
  | some k => (k : Int)
theorem best_no {m a : ByteArray} {l : List Cl} {i : Nat} {b : Option Nat} (h : Best m a l i b) (hn : lk m a (atC l i) = false) : Best m a l (i + 1) b := by
  cases b with
  | none => exact all_next h hn
  | some k =>
    obtain ⟨h1, h2, h3⟩ := h
    refine ⟨by omega, h2, fun j hj hl => ?_⟩
    rcases Nat.lt_or_ge j i with h | h
    · exact h3 j h hl
    · obtain rfl : j = i := by omega
      rw [hn] at hl; cases hl
theorem best_new {m a : ByteArray} {l : List Cl} {i : Nat} (h : Best m a l i none) (hn : lk m a (atC l i) = true) : Best m a l (i + 1) (some i) := by
  refine ⟨by omega, hn, fun j hj hl => ?_⟩
  rcases Nat.lt_or_ge j i with h' | h'
  · rw [h j h'] at hl; cases hl
  · obtain rfl : j = i := by omega
    exact ⟨by omega, fun h => by omega⟩
theorem best_better {m a : ByteArray} {l : List Cl} {i k : Nat} (h : Best m a l i (some k)) (hn : lk m a (atC l i) = true) (hd : (atC l i).d < (atC l k).d) : Best m a l (i + 1) (some i) := by
  obtain ⟨h1, h2, h3⟩ := h
  refine ⟨by omega, hn, fun j hj hl => ?_⟩
  rcases Nat.lt_or_ge j i with h' | h'
  · have := h3 j h' hl
    omega
  · obtain rfl : j = i := by omega
    exact ⟨by omega, fun h => by omega⟩
theorem best_worse {m a : ByteArray} {l : List Cl} {i k : Nat} (h : Best m a l i (some k)) (hd : ¬ (atC l i).d < (atC l k).d) : Best m a l (i + 1) (some k) := by
  obtain ⟨h1, h2, h3⟩ := h
  refine ⟨by omega, h2, fun j hj hl => ?_⟩
  rcases Nat.lt_or_ge j i with h' | h'
  · exact h3 j h' hl
  · obtain rfl : j = i := by omega
    exact ⟨by omega, fun h => by omega⟩
theorem best_some (m a : ByteArray) (l : List Cl) (i : Nat) : ∃ b, Best m a l i b := by
  induction i with
  | zero => exact ⟨none, fun j hj => absurd hj (by omega)⟩
  | succ i ih =>
    obtain ⟨b, hb⟩ := ih
    cases hl : lk m a (atC l i) with
    | false => exact ⟨b, best_no hb hl⟩
    | true =>
      cases b with
      | none => exact ⟨_, best_new hb hl⟩
      | some k =>
        by_cases hd : (atC l i).d < (atC l k).d
        · exact ⟨_, best_better hb hl hd⟩
        · exact ⟨_, best_worse hb hd⟩
def keepR (f r : Nat) : Option (List Nat) := match f, r with
  | 16, 8 => some [2, 4, 10]
  | _, _ => keepT f r
def keepXR (f r : Nat) : Option (List Nat) := match f, r with
  | 16, 8 => some [2, 10]
  | _, _ => keepXT f r
def ghR (f r : Nat) : List Ghost := match f, r with
  | 16, 7 => [.fresh 10]
  | 16, 16 => [.freeze 10]
  | _, _ => []
def glR (f r : Nat) : List Ghost := match f, r with
  | 16, 8 => [.adopt 10]
  | _, _ => []
noncomputable def cxR : Ctx where
  P := Try.prog
  inl := fun _ => false
  keep := keepR
  keepX := keepXR
  xf := fun _ _ _ => false
  ow := fun _ => false
  gh := ghR
  gf := fun _ => []
  ln := fun f => Nat.beq f 31
  srt := srtT
  gl := glR
theorem okR {f a Q} (h : stepCall (SX Try.prog yesCalm) cxR yesCalm f a Q) : CallOK Try.prog f a Q := okOf (cx := cxR) rfl progOK h
def FirstR (m a : ByteArray) (l : List Cl) (r : AV) : Prop := ∃ b, Best m a l l.length b ∧ r = .int .i64 (atI b)
theorem first (l : List Cl) (hl : l.length ≤ 100000) (m a : ByteArray) : CallOK Try.prog 31 [encL l, encA m a] (FirstR m a l) := by
  refine okR ?_
  conv => whnf
  repeat ((first | with_reducible refine branch_true rfl ?_ | with_reducible refine branch_false rfl ?_); conv => whnf)
  refine loop_by (cx := cxR) rfl progOK (ι := {x : Nat × Option Nat // x.1 ≤ l.length ∧ Best m a l x.1 x.2}) (fun x => l.length - x.1.1) (fun x => ⟨[(0, encL l), (3, .ptr 0 0), (5, .int .i64 (atI x.1.2)), (6, .int .i64 x.1.1)], [.cells [.str m, .str a]], [], none⟩) ?_ ⟨⟨0, none⟩, Nat.zero_le _, fun j hj => absurd hj (by omega)⟩
  rintro ⟨⟨i, b⟩, hi, hb⟩ ih
  have hi : i ≤ l.length := hi
  have hb : Best m a l i b := hb
  cases b with
  | none =>
    conv => whnf
    repeat ((first | with_reducible refine branch_true rfl ?_ | with_reducible refine branch_false rfl ?_); conv => whnf)
    refine branch_of (fun g1 => ?_) (fun g1 => ?_)
    · have g2 : i < l.length := by simpa using g1
      have hw : IntKind.i64.wrap ((i : Int) + 1) = ((i + 1 : Nat) : Int) := by rw [wrap64 (by omega)]; omega
      have next : ∀ b', Best m a l (i + 1) b' → ∀ K : St → Prop, (∀ j : {x : Nat × Option Nat // x.1 ≤ l.length ∧ Best m a l x.1 x.2}, l.length - j.1.1 < l.length - i → K (St.mk [(0, encL l), (3, .ptr 0 0), (5, .int .i64 (atI j.1.2)), (6, .int .i64 j.1.1)] [.cells [.str m, .str a]] [] none)) → K (St.mk [(0, encL l), (3, .ptr 0 0), (5, .int .i64 (atI b')), (6, .int .i64 (IntKind.i64.wrap ((i : Int) + 1)))] [.cells [.str m, .str a]] [] none) := by
        intro b' hb' K hK
        rw [hw]
        exact hK ⟨⟨i + 1, b'⟩, g2, hb'⟩ (show l.length - (i + 1) < l.length - i by omega)
      conv => whnf
      repeat ((first | with_reducible refine branch_true rfl ?_ | with_reducible refine branch_false rfl ?_); conv => whnf)
      refine st_addr (sz := 6) (len := l.length) (n := i) (u := 59) (g := fun i => encC (atC l i)) rfl rfl rfl rfl rfl (in_range g2) ?_
      conv => whnf
      repeat ((first | with_reducible refine branch_true rfl ?_ | with_reducible refine branch_false rfl ?_); conv => whnf)
      refine st_bin (a := encA (atC l i).m (atC l i).a) (b := encA m a) rfl rfl rfl (mine_eq m a (atC l i)) ?_
      cases hm : mine m a (atC l i) with
      | false =>
        conv => whnf
        repeat ((first | with_reducible refine branch_true rfl ?_ | with_reducible refine branch_false rfl ?_); conv => whnf)
        exact next none (best_no hb (by simp [lk, hm])) (fun s => SLoop _ _ _ _ _ _ s _) ih
      | true =>
        conv => whnf
        repeat ((first | with_reducible refine branch_true rfl ?_ | with_reducible refine branch_false rfl ?_); conv => whnf)
        refine st_addr (sz := 6) (len := l.length) (n := i) (u := 59) (g := fun i => encC (atC l i)) rfl rfl rfl rfl rfl (in_range g2) ?_
        conv => whnf
        repeat ((first | with_reducible refine branch_true rfl ?_ | with_reducible refine branch_false rfl ?_); conv => whnf)
        refine st_addr (sz := 6) (len := l.length) (n := i) (u := 59) (g := fun i => encC (atC l i)) rfl rfl rfl rfl rfl (in_range g2) ?_
        conv => whnf
        repeat ((first | with_reducible refine branch_true rfl ?_ | with_reducible refine branch_false rfl ?_); conv => whnf)
        refine branch_of (fun g3 => ?_) (fun g3 => ?_)
        · have g3 : (atC l i).t < (atC l i).n := of_decide_eq_true g3
          have hlk : lk m a (atC l i) = true := by simp [lk, hm, g3]
          conv => whnf
          repeat ((first | with_reducible refine branch_true rfl ?_ | with_reducible refine branch_false rfl ?_); conv => whnf)
          exact next (some i) (best_new hb hlk) (fun s => SLoop _ _ _ _ _ _ s _) ih
        · have g3 : ¬ (atC l i).t < (atC l i).n := of_decide_eq_false g3
          conv => whnf
          repeat ((first | with_reducible refine branch_true rfl ?_ | with_reducible refine branch_false rfl ?_); conv => whnf)
          exact next none (best_no hb (by simp [lk, g3])) (fun s => SLoop _ _ _ _ _ _ s _) ih
    · have g2 : i = l.length := by simp at g1; omega
      subst g2
      conv => whnf
      repeat ((first | with_reducible refine branch_true rfl ?_ | with_reducible refine branch_false rfl ?_); conv => whnf)
      exact ⟨none, hb, rfl⟩
  | some k =>
    conv => whnf
    repeat ((first | with_reducible refine branch_true rfl ?_ | with_reducible refine branch_false rfl ?_); conv => whnf)
    refine branch_of (fun g1 => ?_) (fun g1 => ?_)
    · have g2 : i < l.length := by simpa using g1
      have hw : IntKind.i64.wrap ((i : Int) + 1) = ((i + 1 : Nat) : Int) := by rw [wrap64 (by omega)]; omega
      have next : ∀ b', Best m a l (i + 1) b' → ∀ K : St → Prop, (∀ j : {x : Nat × Option Nat // x.1 ≤ l.length ∧ Best m a l x.1 x.2}, l.length - j.1.1 < l.length - i → K (St.mk [(0, encL l), (3, .ptr 0 0), (5, .int .i64 (atI j.1.2)), (6, .int .i64 j.1.1)] [.cells [.str m, .str a]] [] none)) → K (St.mk [(0, encL l), (3, .ptr 0 0), (5, .int .i64 (atI b')), (6, .int .i64 (IntKind.i64.wrap ((i : Int) + 1)))] [.cells [.str m, .str a]] [] none) := by
        intro b' hb' K hK
        rw [hw]
        exact hK ⟨⟨i + 1, b'⟩, g2, hb'⟩ (show l.length - (i + 1) < l.length - i by omega)
      conv => whnf
      repeat ((first | with_reducible refine branch_true rfl ?_ | with_reducible refine branch_false rfl ?_); conv => whnf)
      refine st_addr (sz := 6) (len := l.length) (n := i) (u := 59) (g := fun i => encC (atC l i)) rfl rfl rfl rfl rfl (in_range g2) ?_
      conv => whnf
      repeat ((first | with_reducible refine branch_true rfl ?_ | with_reducible refine branch_false rfl ?_); conv => whnf)
      refine st_bin (a := encA (atC l i).m (atC l i).a) (b := encA m a) rfl rfl rfl (mine_eq m a (atC l i)) ?_
      cases hm : mine m a (atC l i) with
      | false =>
        conv => whnf
        repeat ((first | with_reducible refine branch_true rfl ?_ | with_reducible refine branch_false rfl ?_); conv => whnf)
        exact next (some k) (best_no hb (by simp [lk, hm])) (fun s => SLoop _ _ _ _ _ _ s _) ih
      | true =>
        conv => whnf
        repeat ((first | with_reducible refine branch_true rfl ?_ | with_reducible refine branch_false rfl ?_); conv => whnf)
        refine st_addr (sz := 6) (len := l.length) (n := i) (u := 59) (g := fun i => encC (atC l i)) rfl rfl rfl rfl rfl (in_range g2) ?_
        conv => whnf
        repeat ((first | with_reducible refine branch_true rfl ?_ | with_reducible refine branch_false rfl ?_); conv => whnf)
        refine st_addr (sz := 6) (len := l.length) (n := i) (u := 59) (g := fun i => encC (atC l i)) rfl rfl rfl rfl rfl (in_range g2) ?_
        conv => whnf
        repeat ((first | with_reducible refine branch_true rfl ?_ | with_reducible refine branch_false rfl ?_); conv => whnf)
        refine branch_of (fun g3 => ?_) (fun g3 => ?_)
        · have g3 : (atC l i).t < (atC l i).n := of_decide_eq_true g3
          have hlk : lk m a (atC l i) = true := by simp [lk, hm, g3]
          conv => whnf
          repeat ((first | with_reducible refine branch_true rfl ?_ | with_reducible refine branch_false rfl ?_); conv => whnf)
          refine st_addr (sz := 6) (len := l.length) (n := i) (u := 59) (g := fun i => encC (atC l i)) rfl rfl rfl rfl rfl (in_range g2) ?_
          conv => whnf
          repeat ((first | with_reducible refine branch_true rfl ?_ | with_reducible refine branch_false rfl ?_); conv => whnf)
          have hk : k < l.length := by have := hb.1; omega
          refine st_addr (sz := 6) (len := l.length) (n := k) (u := 59) (g := fun i => encC (atC l i)) rfl rfl rfl rfl rfl (in_range hk) ?_
          conv => whnf
          repeat ((first | with_reducible refine branch_true rfl ?_ | with_reducible refine branch_false rfl ?_); conv => whnf)
          refine branch_of (fun g4 => ?_) (fun g4 => ?_)
          · have g4 : (atC l i).d < (atC l k).d := of_decide_eq_true g4
            conv => whnf
            repeat ((first | with_reducible refine branch_true rfl ?_ | with_reducible refine branch_false rfl ?_); conv => whnf)
            exact next (some i) (best_better hb hlk g4) (fun s => SLoop _ _ _ _ _ _ s _) ih
          · have g4 : ¬ (atC l i).d < (atC l k).d := of_decide_eq_false g4
            conv => whnf
            repeat ((first | with_reducible refine branch_true rfl ?_ | with_reducible refine branch_false rfl ?_); conv => whnf)
            exact next (some k) (best_worse hb g4) (fun s => SLoop _ _ _ _ _ _ s _) ih
        · have g3 : ¬ (atC l i).t < (atC l i).n := of_decide_eq_false g3
          conv => whnf
          repeat ((first | with_reducible refine branch_true rfl ?_ | with_reducible refine branch_false rfl ?_); conv => whnf)
          exact next (some k) (best_no hb (by simp [lk, g3])) (fun s => SLoop _ _ _ _ _ _ s _) ih
    · have g2 : i = l.length := by simp at g1; omega
      subst g2
      conv => whnf
      repeat ((first | with_reducible refine branch_true rfl ?_ | with_reducible refine branch_false rfl ?_); conv => whnf)
      exact ⟨(some k), hb, rfl⟩
end Go.Proofs

