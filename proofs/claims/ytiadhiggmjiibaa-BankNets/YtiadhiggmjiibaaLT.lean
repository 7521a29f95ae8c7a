import Derived.Test.YtiadhiggmjiibaaLS
set_option linter.unusedVariables false
set_option linter.unusedSimpArgs false
namespace Go.Proofs
open Ax Go
set_option maxRecDepth 10000
theorem turn_three (l : List Py) (id : Int) (hl : l.length ≤ 1100) :
    (∃ e, e ≠ 0 ∧ turnS l id 2 = ([], e) ∧ turnS l id 3 = ([], e) ∧ lateS l = ([], 0, e)) ∨
    (∃ e L N, e ≠ 0 ∧ turnS l id 2 = ([], e) ∧ turnS l id 3 = ([], e) ∧ lateS l = (L, N, 0) ∧ L.length ≤ 100000) ∨
    ∃ A C L N, turnS l id 2 = (A, 0) ∧ turnS l id 3 = (C, 0) ∧ lateS l = (L, N, 0) ∧ A.length ≤ 100000 ∧ C.length ≤ 100000 ∧ L.length ≤ 100000 := by
  by_cases h1 : checkL l ≠ 0
  · exact .inl ⟨checkL l, h1, by simp [turnS, h1], by simp [turnS, h1], by simp [lateS, h1]⟩
  · have h1 : checkL l = 0 := by simpa using h1
    have hL : lateS l = (l.map lateP, lateN l, 0) := by simp [lateS, h1]
    have hT : ∀ s, turnS l id s = match idxOf id l with
      | none => ([], 11)
      | some i => bif comes (atP l i) then (setS l i s, 0) else ([], 13) := fun s => by simp only [turnS, h1]; rfl
    have hml : (l.map lateP).length ≤ 100000 := by simp; omega
    right
    cases hx : idxOf id l with
    | none =>
      rw [hx] at hT
      exact .inl ⟨11, _, _, by decide, hT 2, hT 3, hL, hml⟩
    | some i =>
      rw [hx] at hT
      replace hT : ∀ s, turnS l id s = bif comes (atP l i) then (setS l i s, 0) else ([], 13) := hT
      cases hc : comes (atP l i) with
      | false =>
        rw [hc] at hT
        exact .inl ⟨13, _, _, by decide, hT 2, hT 3, hL, hml⟩
      | true =>
        rw [hc] at hT
        exact .inr ⟨_, _, _, _, hT 2, hT 3, hL, by rw [set_len]; omega, by rw [set_len]; omega, hml⟩
set_option maxHeartbeats 8000000 in
theorem lawTurns : ∀ xs, TypedArgs Try.prog 8 Try.f5.params.toList xs → CallOK Try.prog 5 xs (fun r => r = .bool true) := by
  intro xs h
  rw [Try.params5] at h
  obtain ⟨a0, r0, rfl, h0, a1, r1, rfl, h1, rfl⟩ := h
  obtain ⟨l, hs, hz, hn⟩ := arg_pays (d := 5) h0
  obtain ⟨id, rfl, hc⟩ := arg_int (d := 7) h1
  refine ok_same (.cons hs (.cons (.refl _) .nil)) ?_
  refine okW ?_
  conv => whnf
  repeat ((first | with_reducible refine branch_true rfl ?_ | with_reducible refine branch_false rfl ?_); conv => whnf)
  refine branch_of (fun g1 => ?_) (fun g1 => ?_)
  · conv => whnf
    repeat ((first | with_reducible refine branch_true rfl ?_ | with_reducible refine branch_false rfl ?_); conv => whnf)
    refine call_is goesOK ?_
    conv => whnf
    repeat ((first | with_reducible refine branch_true rfl ?_ | with_reducible refine branch_false rfl ?_); conv => whnf)
  · have g1 : l.length ≤ 1100 := by have := of_decide_eq_false g1; omega
    have vD := done l id
    have vRD := refDone l hz id
    have vF := fail l id
    have vRF := refFail l hz id
    have vL := late l
    have vRL := refLate l hz
    have hO : PaysAt l (0 + l.length) (vapp (zeroElem Try.prog 51) (vlist (zeroElem Try.prog 51) []) 0 (fun i => encP (atP l i)) l.length) := paysAt_app (paysAt_nil (g := vlist (zeroElem Try.prog 51) [])) (paysAt_self l)
    conv => whnf
    repeat ((first | with_reducible refine branch_true rfl ?_ | with_reducible refine branch_false rfl ?_); conv => whnf)
    refine st_append (sz := 5) (len := 0) (u := 51) (m := l.length) (gg := fun i => encP (atP l i)) rfl rfl rfl rfl rfl (room56 (by omega)) ?_
    conv => whnf
    repeat ((first | with_reducible refine branch_true rfl ?_ | with_reducible refine branch_false rfl ?_); conv => whnf)
    rcases turn_three l id g1 with ⟨e, he, e1, e2, e3⟩ | ⟨e, L, N, he, e1, e2, e3, lL⟩ | ⟨A, C, L, N, e1, e2, e3, lD, lF, lL⟩
    all_goals
      rw [e1] at vD vRD
      rw [e2] at vF vRF
      rw [e3] at vL vRL
    · refine call_by (ok_same (.cons (paysAt_same hO) (.cons (.refl _) .nil)) vD) (turnR_some _ (fun _ => rfl)) ?_
      intro r hr
      obtain ⟨ga, rfl⟩ := hr.elim (fun h => absurd h.1 he) (fun h => h.2.2)
      have ha : PaysAt [] 0 ga := paysAt_nil
      have hal : 0 ≤ 100000 := by omega
      conv => whnf
      repeat ((first | with_reducible refine branch_true rfl ?_ | with_reducible refine branch_false rfl ?_); conv => whnf)
      refine call_by vRD (turnV_some _) ?_
      rintro r ⟨lb, gb, rfl, hb⟩
      conv => whnf
      repeat ((first | with_reducible refine branch_true rfl ?_ | with_reducible refine branch_false rfl ?_); conv => whnf)
      refine call_by (ok_same (.cons (paysAt_same hO) (.cons (.refl _) .nil)) vF) (turnR_some _ (fun _ => rfl)) ?_
      intro r hr
      obtain ⟨gc, rfl⟩ := hr.elim (fun h => absurd h.1 he) (fun h => h.2.2)
      have hc : PaysAt [] 0 gc := paysAt_nil
      have hcl : 0 ≤ 100000 := by omega
      conv => whnf
      repeat ((first | with_reducible refine branch_true rfl ?_ | with_reducible refine branch_false rfl ?_); conv => whnf)
      refine call_by vRF (turnV_some _) ?_
      rintro r ⟨ld, gd, rfl, hd⟩
      conv => whnf
      repeat ((first | with_reducible refine branch_true rfl ?_ | with_reducible refine branch_false rfl ?_); conv => whnf)
      refine call_by (ok_same (.cons (paysAt_same hO) .nil) vL) ⟨_, .inr ⟨he, rfl, fun _ => .undef, rfl⟩⟩ ?_
      intro r hr
      obtain ⟨gx, rfl⟩ := hr.elim (fun h => absurd h.1 he) (fun h => h.2.2)
      have hx : PaysAt [] 0 gx := paysAt_nil
      have hxl : 0 ≤ 100000 := by omega
      conv => whnf
      repeat ((first | with_reducible refine branch_true rfl ?_ | with_reducible refine branch_false rfl ?_); conv => whnf)
      refine call_by vRL (lateV_some _) ?_
      rintro r ⟨ly, gy, rfl, hy⟩
      conv => whnf
      repeat ((first | with_reducible refine branch_true rfl ?_ | with_reducible refine branch_false rfl ?_); conv => whnf)
      refine call_is (same_at (paysAt_shift ha) hb (by have := ha.1; omega)) ?_
      conv => whnf
      repeat ((first | with_reducible refine branch_true rfl ?_ | with_reducible refine branch_false rfl ?_); conv => whnf)
      refine branch_false (by simp) ?_
      conv => whnf
      repeat ((first | with_reducible refine branch_true rfl ?_ | with_reducible refine branch_false rfl ?_); conv => whnf)
      refine call_is (same_at (paysAt_shift hc) hd (by have := hc.1; omega)) ?_
      conv => whnf
      repeat ((first | with_reducible refine branch_true rfl ?_ | with_reducible refine branch_false rfl ?_); conv => whnf)
      refine branch_false (by simp) ?_
      conv => whnf
      repeat ((first | with_reducible refine branch_true rfl ?_ | with_reducible refine branch_false rfl ?_); conv => whnf)
      refine call_is (same_at (paysAt_shift hx) hy (by have := hx.1; omega)) ?_
      conv => whnf
      repeat ((first | with_reducible refine branch_true rfl ?_ | with_reducible refine branch_false rfl ?_); conv => whnf)
      refine branch_false (by simp) ?_
      conv => whnf
      repeat ((first | with_reducible refine branch_true rfl ?_ | with_reducible refine branch_false rfl ?_); conv => whnf)
      refine loop_by (cx := cxW) rfl progOK (ι := {i : Nat // i ≤ 0} × (Nat → AV)) (fun x => 0 - x.1.1) (fun x => ⟨[(0, .row 0 5 0 0), (4, .int .i64 0), (5, .int .i64 x.1.1)], [.arr 5 0 x.2, .arr 5 0 gc, .arr 5 0 gx], [], none⟩) ?_ (⟨0, Nat.zero_le _⟩, _)
      rintro ⟨⟨i, hi⟩, e⟩ ih
      clear ih
      conv => whnf
      repeat ((first | with_reducible refine branch_true rfl ?_ | with_reducible refine branch_false rfl ?_); conv => whnf)
      generalize e = e0
      refine loop_by (cx := cxW) rfl progOK (ι := {i : Nat // i ≤ 0} × (Nat → AV)) (fun x => 0 - x.1.1) (fun x => ⟨[(0, .row 1 5 0 0), (4, .int .i64 0), (5, .int .i64 x.1.1)], [.arr 5 0 e0, .arr 5 0 x.2, .arr 5 0 gx], [], none⟩) ?_ (⟨0, Nat.zero_le _⟩, _)
      rintro ⟨⟨i, hi⟩, e⟩ ih
      clear ih
      conv => whnf
      repeat ((first | with_reducible refine branch_true rfl ?_ | with_reducible refine branch_false rfl ?_); conv => whnf)
      generalize e = e1
      refine loop_by (cx := cxW) rfl progOK (ι := {i : Nat // i ≤ 0} × (Nat → AV)) (fun x => 0 - x.1.1) (fun x => ⟨[(0, .row 2 5 0 0), (4, .int .i64 0), (5, .int .i64 x.1.1)], [.arr 5 0 e0, .arr 5 0 e1, .arr 5 0 x.2], [], none⟩) ?_ (⟨0, Nat.zero_le _⟩, _)
      rintro ⟨⟨i, hi⟩, e⟩ ih
      clear ih
      conv => whnf
      repeat ((first | with_reducible refine branch_true rfl ?_ | with_reducible refine branch_false rfl ?_); conv => whnf)
      refine call_is (same_at hO (paysAt_self l) (by omega)) ?_
      conv => whnf
      repeat ((first | with_reducible refine branch_true rfl ?_ | with_reducible refine branch_false rfl ?_); conv => whnf)
      refine call_is goesOK ?_
      conv => whnf
      repeat ((first | with_reducible refine branch_true rfl ?_ | with_reducible refine branch_false rfl ?_); conv => whnf)
      rfl
    · refine call_by (ok_same (.cons (paysAt_same hO) (.cons (.refl _) .nil)) vD) (turnR_some _ (fun _ => rfl)) ?_
      intro r hr
      obtain ⟨ga, rfl⟩ := hr.elim (fun h => absurd h.1 he) (fun h => h.2.2)
      have ha : PaysAt [] 0 ga := paysAt_nil
      have hal : 0 ≤ 100000 := by omega
      conv => whnf
      repeat ((first | with_reducible refine branch_true rfl ?_ | with_reducible refine branch_false rfl ?_); conv => whnf)
      refine call_by vRD (turnV_some _) ?_
      rintro r ⟨lb, gb, rfl, hb⟩
      conv => whnf
      repeat ((first | with_reducible refine branch_true rfl ?_ | with_reducible refine branch_false rfl ?_); conv => whnf)
      refine call_by (ok_same (.cons (paysAt_same hO) (.cons (.refl _) .nil)) vF) (turnR_some _ (fun _ => rfl)) ?_
      intro r hr
      obtain ⟨gc, rfl⟩ := hr.elim (fun h => absurd h.1 he) (fun h => h.2.2)
      have hc : PaysAt [] 0 gc := paysAt_nil
      have hcl : 0 ≤ 100000 := by omega
      conv => whnf
      repeat ((first | with_reducible refine branch_true rfl ?_ | with_reducible refine branch_false rfl ?_); conv => whnf)
      refine call_by vRF (turnV_some _) ?_
      rintro r ⟨ld, gd, rfl, hd⟩
      conv => whnf
      repeat ((first | with_reducible refine branch_true rfl ?_ | with_reducible refine branch_false rfl ?_); conv => whnf)
      refine call_by (ok_same (.cons (paysAt_same hO) .nil) vL) ⟨_, .inl ⟨rfl, _, _, rfl, paysAt_self _⟩⟩ ?_
      intro r hr
      obtain ⟨lx, gx, rfl, hx⟩ := hr.elim (fun h => h.2) (fun h => absurd rfl h.1)
      have hxl : lx ≤ 100000 := by rw [hx.1]; exact lL
      conv => whnf
      repeat ((first | with_reducible refine branch_true rfl ?_ | with_reducible refine branch_false rfl ?_); conv => whnf)
      refine call_by vRL (lateV_some _) ?_
      rintro r ⟨ly, gy, rfl, hy⟩
      conv => whnf
      repeat ((first | with_reducible refine branch_true rfl ?_ | with_reducible refine branch_false rfl ?_); conv => whnf)
      refine call_is (same_at (paysAt_shift ha) hb (by have := ha.1; omega)) ?_
      conv => whnf
      repeat ((first | with_reducible refine branch_true rfl ?_ | with_reducible refine branch_false rfl ?_); conv => whnf)
      refine branch_false (by simp) ?_
      conv => whnf
      repeat ((first | with_reducible refine branch_true rfl ?_ | with_reducible refine branch_false rfl ?_); conv => whnf)
      refine call_is (same_at (paysAt_shift hc) hd (by have := hc.1; omega)) ?_
      conv => whnf
      repeat ((first | with_reducible refine branch_true rfl ?_ | with_reducible refine branch_false rfl ?_); conv => whnf)
      refine branch_false (by simp) ?_
      conv => whnf
      repeat ((first | with_reducible refine branch_true rfl ?_ | with_reducible refine branch_false rfl ?_); conv => whnf)
      refine force_by (lend_row (id := 2) (sz := 5) (n := lx) (n' := lx) rfl (Nat.le_refl _)) ?_
      conv => whnf
      repeat ((first | with_reducible refine branch_true rfl ?_ | with_reducible refine branch_false rfl ?_); conv => whnf)
      refine call_is (same_at (paysAt_shift hx) hy (by have := hx.1; omega)) ?_
      conv => whnf
      repeat ((first | with_reducible refine branch_true rfl ?_ | with_reducible refine branch_false rfl ?_); conv => whnf)
      refine branch_false (by simp) ?_
      conv => whnf
      repeat ((first | with_reducible refine branch_true rfl ?_ | with_reducible refine branch_false rfl ?_); conv => whnf)
      refine loop_by (cx := cxW) rfl progOK (ι := {i : Nat // i ≤ 0} × (Nat → AV)) (fun x => 0 - x.1.1) (fun x => ⟨[(0, .row 0 5 0 0), (4, .int .i64 0), (5, .int .i64 x.1.1)], [.arr 5 0 x.2, .arr 5 0 gc, .arr 5 lx gx], [], none⟩) ?_ (⟨0, Nat.zero_le _⟩, _)
      rintro ⟨⟨i, hi⟩, e⟩ ih
      clear ih
      conv => whnf
      repeat ((first | with_reducible refine branch_true rfl ?_ | with_reducible refine branch_false rfl ?_); conv => whnf)
      generalize e = e0
      refine loop_by (cx := cxW) rfl progOK (ι := {i : Nat // i ≤ 0} × (Nat → AV)) (fun x => 0 - x.1.1) (fun x => ⟨[(0, .row 1 5 0 0), (4, .int .i64 0), (5, .int .i64 x.1.1)], [.arr 5 0 e0, .arr 5 0 x.2, .arr 5 lx gx], [], none⟩) ?_ (⟨0, Nat.zero_le _⟩, _)
      rintro ⟨⟨i, hi⟩, e⟩ ih
      clear ih
      conv => whnf
      repeat ((first | with_reducible refine branch_true rfl ?_ | with_reducible refine branch_false rfl ?_); conv => whnf)
      generalize e = e1
      refine loop_by (cx := cxW) rfl progOK (ι := {i : Nat // i ≤ lx} × (Nat → AV)) (fun x => lx - x.1.1) (fun x => ⟨[(0, .row 2 5 0 lx), (4, .int .i64 lx), (5, .int .i64 x.1.1)], [.arr 5 0 e0, .arr 5 0 e1, .arr 5 lx x.2], [], none⟩) ?_ (⟨0, Nat.zero_le _⟩, _)
      rintro ⟨⟨i, hi⟩, e⟩ ih
      conv => whnf
      repeat ((first | with_reducible refine branch_true rfl ?_ | with_reducible refine branch_false rfl ?_); conv => whnf)
      refine branch_of (fun t1 => ?_) (fun t1 => ?_)
      · have t2 : i < lx := by
          have t1 : (i : Int) < (lx : Int) := of_decide_eq_true t1
          omega
        have hw : IntKind.i64.wrap ((i : Int) + 1) = ((i + 1 : Nat) : Int) := by rw [wrap64 (by omega)]; omega
        conv => whnf
        repeat ((first | with_reducible refine branch_true rfl ?_ | with_reducible refine branch_false rfl ?_); conv => whnf)
        refine st_addr_row (u := 51) (id := 2) (sz := 5) (lo := 0) (len := lx) (n := (i : Int)) rfl rfl rfl rfl rfl (in_range t2) ?_
        conv => whnf
        repeat ((first | with_reducible refine branch_true rfl ?_ | with_reducible refine branch_false rfl ?_); conv => whnf)
        refine st_store_e (id := 2) (sz := 5) (j := 0 + i) (len := lx) (g := e) rfl rfl (by omega) rfl rfl ?_
        conv => whnf
        repeat ((first | with_reducible refine branch_true rfl ?_ | with_reducible refine branch_false rfl ?_); conv => whnf)
        exact loop_to ih (⟨i + 1, t2⟩, _) (show lx - (i + 1) < lx - i by omega) (congrArg (fun q => St.mk [(0, .row 2 5 0 lx), (4, .int .i64 lx), (5, .int .i64 q)] [.arr 5 0 e0, .arr 5 0 e1, .arr 5 lx _] [] none) hw)
      · clear ih t1
        conv => whnf
        repeat ((first | with_reducible refine branch_true rfl ?_ | with_reducible refine branch_false rfl ?_); conv => whnf)
        refine call_is (same_at hO (paysAt_self l) (by omega)) ?_
        conv => whnf
        repeat ((first | with_reducible refine branch_true rfl ?_ | with_reducible refine branch_false rfl ?_); conv => whnf)
        refine call_is goesOK ?_
        conv => whnf
        repeat ((first | with_reducible refine branch_true rfl ?_ | with_reducible refine branch_false rfl ?_); conv => whnf)
        rfl
    · refine call_by (ok_same (.cons (paysAt_same hO) (.cons (.refl _) .nil)) vD) (turnR_some _ (fun h => absurd rfl h)) ?_
      intro r hr
      obtain ⟨la, ga, rfl, ha⟩ := hr.elim (fun h => h.2) (fun h => absurd rfl h.1)
      have hal : la ≤ 100000 := by rw [ha.1]; exact lD
      conv => whnf
      repeat ((first | with_reducible refine branch_true rfl ?_ | with_reducible refine branch_false rfl ?_); conv => whnf)
      refine call_by vRD (turnV_some _) ?_
      rintro r ⟨lb, gb, rfl, hb⟩
      conv => whnf
      repeat ((first | with_reducible refine branch_true rfl ?_ | with_reducible refine branch_false rfl ?_); conv => whnf)
      refine call_by (ok_same (.cons (paysAt_same hO) (.cons (.refl _) .nil)) vF) (turnR_some _ (fun h => absurd rfl h)) ?_
      intro r hr
      obtain ⟨lc, gc, rfl, hc⟩ := hr.elim (fun h => h.2) (fun h => absurd rfl h.1)
      have hcl : lc ≤ 100000 := by rw [hc.1]; exact lF
      conv => whnf
      repeat ((first | with_reducible refine branch_true rfl ?_ | with_reducible refine branch_false rfl ?_); conv => whnf)
      refine call_by vRF (turnV_some _) ?_
      rintro r ⟨ld, gd, rfl, hd⟩
      conv => whnf
      repeat ((first | with_reducible refine branch_true rfl ?_ | with_reducible refine branch_false rfl ?_); conv => whnf)
      refine call_by (ok_same (.cons (paysAt_same hO) .nil) vL) ⟨_, .inl ⟨rfl, _, _, rfl, paysAt_self _⟩⟩ ?_
      intro r hr
      obtain ⟨lx, gx, rfl, hx⟩ := hr.elim (fun h => h.2) (fun h => absurd rfl h.1)
      have hxl : lx ≤ 100000 := by rw [hx.1]; exact lL
      conv => whnf
      repeat ((first | with_reducible refine branch_true rfl ?_ | with_reducible refine branch_false rfl ?_); conv => whnf)
      refine call_by vRL (lateV_some _) ?_
      rintro r ⟨ly, gy, rfl, hy⟩
      conv => whnf
      repeat ((first | with_reducible refine branch_true rfl ?_ | with_reducible refine branch_false rfl ?_); conv => whnf)
      refine force_by (lend_row (id := 0) (sz := 5) (n := la) (n' := la) rfl (Nat.le_refl _)) ?_
      conv => whnf
      repeat ((first | with_reducible refine branch_true rfl ?_ | with_reducible refine branch_false rfl ?_); conv => whnf)
      refine call_is (same_at (paysAt_shift ha) hb (by have := ha.1; omega)) ?_
      conv => whnf
      repeat ((first | with_reducible refine branch_true rfl ?_ | with_reducible refine branch_false rfl ?_); conv => whnf)
      refine force_by (lend_row (id := 1) (sz := 5) (n := lc) (n' := lc) rfl (Nat.le_refl _)) ?_
      conv => whnf
      repeat ((first | with_reducible refine branch_true rfl ?_ | with_reducible refine branch_false rfl ?_); conv => whnf)
      refine call_is (same_at (paysAt_shift hc) hd (by have := hc.1; omega)) ?_
      conv => whnf
      repeat ((first | with_reducible refine branch_true rfl ?_ | with_reducible refine branch_false rfl ?_); conv => whnf)
      refine force_by (lend_row (id := 2) (sz := 5) (n := lx) (n' := lx) rfl (Nat.le_refl _)) ?_
      conv => whnf
      repeat ((first | with_reducible refine branch_true rfl ?_ | with_reducible refine branch_false rfl ?_); conv => whnf)
      refine call_is (same_at (paysAt_shift hx) hy (by have := hx.1; omega)) ?_
      conv => whnf
      repeat ((first | with_reducible refine branch_true rfl ?_ | with_reducible refine branch_false rfl ?_); conv => whnf)
      refine branch_false (by simp) ?_
      conv => whnf
      repeat ((first | with_reducible refine branch_true rfl ?_ | with_reducible refine branch_false rfl ?_); conv => whnf)
      refine loop_by (cx := cxW) rfl progOK (ι := {i : Nat // i ≤ la} × (Nat → AV)) (fun x => la - x.1.1) (fun x => ⟨[(0, .row 0 5 0 la), (4, .int .i64 la), (5, .int .i64 x.1.1)], [.arr 5 la x.2, .arr 5 lc gc, .arr 5 lx gx], [], none⟩) ?_ (⟨0, Nat.zero_le _⟩, _)
      rintro ⟨⟨i, hi⟩, e⟩ ih
      conv => whnf
      repeat ((first | with_reducible refine branch_true rfl ?_ | with_reducible refine branch_false rfl ?_); conv => whnf)
      refine branch_of (fun t1 => ?_) (fun t1 => ?_)
      · have t2 : i < la := by
          have t1 : (i : Int) < (la : Int) := of_decide_eq_true t1
          omega
        have hw : IntKind.i64.wrap ((i : Int) + 1) = ((i + 1 : Nat) : Int) := by rw [wrap64 (by omega)]; omega
        conv => whnf
        repeat ((first | with_reducible refine branch_true rfl ?_ | with_reducible refine branch_false rfl ?_); conv => whnf)
        refine st_addr_row (u := 51) (id := 0) (sz := 5) (lo := 0) (len := la) (n := (i : Int)) rfl rfl rfl rfl rfl (in_range t2) ?_
        conv => whnf
        repeat ((first | with_reducible refine branch_true rfl ?_ | with_reducible refine branch_false rfl ?_); conv => whnf)
        refine st_store_e (id := 0) (sz := 5) (j := 0 + i) (len := la) (g := e) rfl rfl (by omega) rfl rfl ?_
        conv => whnf
        repeat ((first | with_reducible refine branch_true rfl ?_ | with_reducible refine branch_false rfl ?_); conv => whnf)
        exact loop_to ih (⟨i + 1, t2⟩, _) (show la - (i + 1) < la - i by omega) (congrArg (fun q => St.mk [(0, .row 0 5 0 la), (4, .int .i64 la), (5, .int .i64 q)] [.arr 5 la _, .arr 5 lc gc, .arr 5 lx gx] [] none) hw)
      · clear ih t1
        conv => whnf
        repeat ((first | with_reducible refine branch_true rfl ?_ | with_reducible refine branch_false rfl ?_); conv => whnf)
        generalize e = e0
        refine loop_by (cx := cxW) rfl progOK (ι := {i : Nat // i ≤ lc} × (Nat → AV)) (fun x => lc - x.1.1) (fun x => ⟨[(0, .row 1 5 0 lc), (4, .int .i64 lc), (5, .int .i64 x.1.1)], [.arr 5 la e0, .arr 5 lc x.2, .arr 5 lx gx], [], none⟩) ?_ (⟨0, Nat.zero_le _⟩, _)
        rintro ⟨⟨i, hi⟩, e⟩ ih
        conv => whnf
        repeat ((first | with_reducible refine branch_true rfl ?_ | with_reducible refine branch_false rfl ?_); conv => whnf)
        refine branch_of (fun t1 => ?_) (fun t1 => ?_)
        · have t2 : i < lc := by
            have t1 : (i : Int) < (lc : Int) := of_decide_eq_true t1
            omega
          have hw : IntKind.i64.wrap ((i : Int) + 1) = ((i + 1 : Nat) : Int) := by rw [wrap64 (by omega)]; omega
          conv => whnf
          repeat ((first | with_reducible refine branch_true rfl ?_ | with_reducible refine branch_false rfl ?_); conv => whnf)
          refine st_addr_row (u := 51) (id := 1) (sz := 5) (lo := 0) (len := lc) (n := (i : Int)) rfl rfl rfl rfl rfl (in_range t2) ?_
          conv => whnf
          repeat ((first | with_reducible refine branch_true rfl ?_ | with_reducible refine branch_false rfl ?_); conv => whnf)
          refine st_store_e (id := 1) (sz := 5) (j := 0 + i) (len := lc) (g := e) rfl rfl (by omega) rfl rfl ?_
          conv => whnf
          repeat ((first | with_reducible refine branch_true rfl ?_ | with_reducible refine branch_false rfl ?_); conv => whnf)
          exact loop_to ih (⟨i + 1, t2⟩, _) (show lc - (i + 1) < lc - i by omega) (congrArg (fun q => St.mk [(0, .row 1 5 0 lc), (4, .int .i64 lc), (5, .int .i64 q)] [.arr 5 la e0, .arr 5 lc _, .arr 5 lx gx] [] none) hw)
        · clear ih t1
          conv => whnf
          repeat ((first | with_reducible refine branch_true rfl ?_ | with_reducible refine branch_false rfl ?_); conv => whnf)
          generalize e = e1
          refine loop_by (cx := cxW) rfl progOK (ι := {i : Nat // i ≤ lx} × (Nat → AV)) (fun x => lx - x.1.1) (fun x => ⟨[(0, .row 2 5 0 lx), (4, .int .i64 lx), (5, .int .i64 x.1.1)], [.arr 5 la e0, .arr 5 lc e1, .arr 5 lx x.2], [], none⟩) ?_ (⟨0, Nat.zero_le _⟩, _)
          rintro ⟨⟨i, hi⟩, e⟩ ih
          conv => whnf
          repeat ((first | with_reducible refine branch_true rfl ?_ | with_reducible refine branch_false rfl ?_); conv => whnf)
          refine branch_of (fun t1 => ?_) (fun t1 => ?_)
          · have t2 : i < lx := by
              have t1 : (i : Int) < (lx : Int) := of_decide_eq_true t1
              omega
            have hw : IntKind.i64.wrap ((i : Int) + 1) = ((i + 1 : Nat) : Int) := by rw [wrap64 (by omega)]; omega
            conv => whnf
            repeat ((first | with_reducible refine branch_true rfl ?_ | with_reducible refine branch_false rfl ?_); conv => whnf)
            refine st_addr_row (u := 51) (id := 2) (sz := 5) (lo := 0) (len := lx) (n := (i : Int)) rfl rfl rfl rfl rfl (in_range t2) ?_
            conv => whnf
            repeat ((first | with_reducible refine branch_true rfl ?_ | with_reducible refine branch_false rfl ?_); conv => whnf)
            refine st_store_e (id := 2) (sz := 5) (j := 0 + i) (len := lx) (g := e) rfl rfl (by omega) rfl rfl ?_
            conv => whnf
            repeat ((first | with_reducible refine branch_true rfl ?_ | with_reducible refine branch_false rfl ?_); conv => whnf)
            exact loop_to ih (⟨i + 1, t2⟩, _) (show lx - (i + 1) < lx - i by omega) (congrArg (fun q => St.mk [(0, .row 2 5 0 lx), (4, .int .i64 lx), (5, .int .i64 q)] [.arr 5 la e0, .arr 5 lc e1, .arr 5 lx _] [] none) hw)
          · clear ih t1
            conv => whnf
            repeat ((first | with_reducible refine branch_true rfl ?_ | with_reducible refine branch_false rfl ?_); conv => whnf)
            refine call_is (same_at hO (paysAt_self l) (by omega)) ?_
            conv => whnf
            repeat ((first | with_reducible refine branch_true rfl ?_ | with_reducible refine branch_false rfl ?_); conv => whnf)
            refine call_is goesOK ?_
            conv => whnf
            repeat ((first | with_reducible refine branch_true rfl ?_ | with_reducible refine branch_false rfl ?_); conv => whnf)
            rfl
end Go.Proofs


set_option linter.unusedVariables false
set_option linter.unusedSimpArgs false
namespace Go.Proofs
open Ax Go
set_option maxRecDepth 10000
theorem from_of {l : List Py} {last : Int} (h1 : ∀ c ∈ l, last < c.id ∧ c.id ≤ 1152921504606846976 ∧ restE c = 0) (h2 : l.Pairwise fun a b => a.id < b.id) : checkFrom last l = 0 := by
  induction l generalizing last with
  | nil => rfl
  | cons c r ih =>
    obtain ⟨a1, a2, a3⟩ := h1 c List.mem_cons_self
    obtain ⟨b1, b2⟩ := List.pairwise_cons.1 h2
    rw [from_good (by rw [one_mid a1 a2]; exact a3)]
    exact ih (fun q hq => ⟨b1 q hq, (h1 q (List.mem_cons_of_mem _ hq)).2⟩) b2
theorem check_of {l : List Py} (h0 : l.length ≤ 1024) (h1 : ∀ c ∈ l, 0 < c.id ∧ c.id ≤ 1152921504606846976 ∧ restE c = 0) (h2 : l.Pairwise fun a b => a.id < b.id) : checkL l = 0 := by
  rw [checkL_from h0]; exact from_of h1 h2
theorem rest_st {p : Py} (h : restE p = 0) {s : Int} (h1 : 1 ≤ s) (h2 : s ≤ 4) : restE { p with s := s } = 0 := by
  obtain ⟨a1, a2, a3, a4, a5, _, _⟩ := rest_ok h
  simp [restE, a1, a2, a3, a4, a5, h1, h2]
theorem set_id {l : List Py} {j q : Nat} {s : Int} (hq : q < l.length) : (atP (setS l j s) q).id = (atP l q).id := by
  rw [set_at hq]
  split
  · rename_i e; rw [e]
  · rfl
theorem getElem_atP {l : List Py} {i : Nat} (h : i < l.length) : l[i] = atP l i := by
  rw [atP, List.getD, List.getElem?_eq_getElem h]; rfl
theorem set_check {l : List Py} {j : Nat} {s : Int} (h : checkL l = 0) (hj : j < l.length) (h1 : 1 ≤ s) (h2 : s ≤ 4) : checkL (setS l j s) = 0 := by
  obtain ⟨k1, k2, k3⟩ := check_good h
  refine check_of (by rw [set_len]; exact k1) (fun c hc => ?_) ?_
  · rcases List.mem_or_eq_of_mem_set hc with hc | rfl
    · exact k2 c hc
    · obtain ⟨q1, q2, q3⟩ := k2 _ (atP_mem hj)
      exact ⟨q1, q2, rest_st q3 h1 h2⟩
  · refine List.pairwise_iff_getElem.2 fun a b ha hb hab => ?_
    have ha' : a < l.length := by rw [set_len] at ha; exact ha
    have hb' : b < l.length := by rw [set_len] at hb; exact hb
    rw [getElem_atP ha, getElem_atP hb, set_id ha', set_id hb']
    exact ids_ne k3 hb' hab
structure Once (l : List Py) (id s : Int) (A : List Py) where
  j : Nat
  hj : j < l.length
  hid : (atP l j).id = id
  hc : comes (atP l j) = true
  hA : A = setS l j s
  one : ∀ k, k < l.length → (atP l k).id = id → k = j
  hl : l.length ≤ 1024
  t2 : turnS A id 2 = ([], 13)
  t3 : turnS A id 3 = ([], 13)
  lt : lateS A = (A.map lateP, lateN A, 0)
theorem once_of {l : List Py} {id s : Int} {A : List Py} (hs : s = 2 ∨ s = 3) (h : turnS l id s = (A, 0)) : ∃ x : Once l id s A, True := by
  by_cases h1 : checkL l ≠ 0
  · have e : turnS l id s = ([], checkL l) := by simp [turnS, h1]
    rw [e] at h
    exact absurd (congrArg Prod.snd h) h1
  · have h1 : checkL l = 0 := by simpa using h1
    obtain ⟨k1, k2, k3⟩ := check_good h1
    have hT : turnS l id s = match idxOf id l with
      | none => ([], 11)
      | some i => bif comes (atP l i) then (setS l i s, 0) else ([], 13) := by simp only [turnS, h1]; rfl
    cases hx : idxOf id l with
    | none => rw [hT, hx] at h; exact absurd (congrArg Prod.snd h) (by show ¬ (11 : Int) = 0; decide)
    | some j =>
      rw [hx] at hT
      replace hT : turnS l id s = bif comes (atP l j) then (setS l j s, 0) else ([], 13) := hT
      cases hc : comes (atP l j) with
      | false => rw [hT, hc] at h; exact absurd (congrArg Prod.snd h) (by show ¬ (13 : Int) = 0; decide)
      | true =>
        rw [hT, hc] at h
        have hA : A = setS l j s := (congrArg Prod.fst h).symm
        obtain ⟨j1, j2, j3⟩ := idx_some hx
        have hone : ∀ k, k < l.length → (atP l k).id = id → k = j := fun k hk e => by
          rcases Nat.lt_trichotomy k j with h4 | h4 | h4
          · exact absurd e (j3 k h4)
          · exact h4
          · have := ids_ne k3 hk h4; omega
        have hck : checkL (setS l j s) = 0 := set_check h1 j1 (by omega) (by omega)
        have hi : idxOf id (setS l j s) = some j := idx_at (by rw [set_len]; exact j1) (by rw [set_id j1]; exact j2) (fun k hk => by rw [set_id (by omega)]; exact j3 k hk)
        have hcm : comes (atP (setS l j s) j) = false := by
          rw [set_at j1, if_pos rfl]
          rcases hs with rfl | rfl <;> rfl
        have tt : ∀ q, turnS (setS l j s) id q = ([], 13) := fun q => by
          have : turnS (setS l j s) id q = match idxOf id (setS l j s) with
            | none => ([], 11)
            | some i => bif comes (atP (setS l j s) i) then (setS (setS l j s) i q, 0) else ([], 13) := by simp only [turnS, hck]; rfl
          rw [this, hi]
          show (bif comes (atP (setS l j s) j) then (setS (setS l j s) j q, (0 : Int)) else ([], 13)) = ([], 13)
          rw [hcm]; rfl
        exact ⟨⟨j, j1, j2, hc, hA, hone, k1, by rw [hA]; exact tt 2, by rw [hA]; exact tt 3, by rw [hA]; simp [lateS, hck]⟩, trivial⟩
theorem ghost_af {q sz n m : Nat} {g : Nat → AV} {env : Env} {h : Heap} (hq : env.get q = .uni (.wide sz n m g)) : ghosts [.adopt q, .freeze q] env h = some ((env.set q (.row h.length sz 0 n)).set q (.vec sz n (fun j => g (0 + j))), Heap.set (h ++ [AObj.arr sz n g]) h.length AObj.dead) := by
  have e1 : (env.set q (.row h.length sz 0 n)).get q = .row h.length sz 0 n := by rw [get_set, if_pos rfl]
  have e2 : Heap.get (h ++ [.arr sz n g]) h.length = .arr sz n g := by rw [heap_get_append, if_neg (by omega)]; simp [Heap.get]
  have e3 : Nat.ble (0 + n) n = true := Nat.ble_eq_true_of_le (by omega)
  simp only [ghosts, ghost1, hq, e1, e2, Nat.beq_refl, e3, Bool.and_self, cond_true]
end Go.Proofs


set_option linter.unusedVariables false
set_option linter.unusedSimpArgs false
namespace Ax
open Go Go.RowKit
section
variable {P : Program} {cx : Ctx} {calm : List Oper → Bool}
variable {o : Oper} {env : Env} {h : Heap} {k : AV → Prop} {e : Prop} {t u : TypeId} {x i : Operand} {n : Int} {len sz : Nat} {g : Nat → AV} {s : ByteArray}
theorem st_addr_arr {id off N : Nat} (ho : o.op = .indexAddr t x i) (hx : evo P t env x = .ptr id off) (hi : intNat (evo P 0 env i) = some n) (ht : tyD P t = .array N u) (hN : Nat.ble N 1 = false) (hs : Nat.blt 0 (tySz P u) = true) (hr : inRange n N = true) {q : Nat} (hq : off + n.toNat * tySz P u = q) (hk : k (.ptr id q)) :
    (match evalOp P o env h with | some v => k v | none => e) := by
  subst hq
  refine st_some (v := .ptr id (off + n.toNat * tySz P u)) ?_ hk
  unfold evalOp
  simp only [ho, hi, hx, indexAddrAV, ht, hs, hr, hN, cond_true, cond_false]
theorem st_load_c {p : Operand} {id off : Nat} {cs : List AV} {v : AV} (ho : o.op = .load t p) (hp : evo P 0 env p = .ptr id off) (hh : h.get id = .cells cs) (ht : tyAgg P t = false) (hu : ((P.underlying t).isSome && Nat.beq (tySz P t) 1) = true) (hv : oneAV cs[off]? = some v) (hk : k v.strip) :
    (match evalOp P o env h with | some v => k v | none => e) := by
  refine st_some (v := v.strip) ?_ hk
  simp only [Bool.and_eq_true] at hu
  unfold evalOp
  simp only [ho, hp, loadAV, readCells, hh, partAV, ht, cond_false, hu.1, hu.2, Bool.and_self, cond_true, hv, Option.map_some]
theorem st_store_c {A : Heap → Prop} {C : Prop} {id off : Nat} {pv x : AV} {cs cs' : List AV} (hp : pv = .ptr id off) (hh : h.get id = .cells cs) (hc : (!(Nat.beq x.cells.length (tySz P t)) || !(x.cells.all AV.scal)) = false) (hl : off + tySz P t ≤ cs.length) (hs : setRange cs off x.cells = cs')
    (hk : A (h.set id (.cells cs'))) : (match storeAV P h t pv x with | some h => A h | none => C) := by
  subst hs
  have : storeAV P h t pv x = some (h.set id (.cells (setRange cs off x.cells))) := by
    unfold storeAV
    rw [hc, hp]
    simp only [cond_false, hh, Nat.ble_eq_true_of_le hl, cond_true]
  rw [this]; exact hk
theorem ghost_afu {q sz n : Nat} {g : Nat → AV} {env : Env} {h : Heap} (hq : env.get q = .uni (.vec sz n g)) : ghosts [.adopt q, .freeze q] env h = some ((env.set q (.row h.length sz 0 n)).set q (.vec sz n (fun j => g (0 + j))), Heap.set (h ++ [AObj.arr sz n g]) h.length AObj.dead) := by
  have e1 : (env.set q (.row h.length sz 0 n)).get q = .row h.length sz 0 n := by rw [get_set, if_pos rfl]
  have e2 : Heap.get (h ++ [.arr sz n g]) h.length = .arr sz n g := by rw [heap_get_append, if_neg (by omega)]; simp [Heap.get]
  have e3 : Nat.ble (0 + n) n = true := Nat.ble_eq_true_of_le (by omega)
  simp only [ghosts, ghost1, hq, e1, e2, Nat.beq_refl, e3, Bool.and_self, cond_true]
end
end Ax
namespace Go.Proofs
open Ax Go
set_option maxRecDepth 10000
/-! ### eight sums -/
def sumsC (S : Nat → Int) : List AV := [.int .i64 (S 0), .int .i64 (S 1), .int .i64 (S 2), .int .i64 (S 3), .int .i64 (S 4), .int .i64 (S 5), .int .i64 (S 6), .int .i64 (S 7)]
theorem sums_at {S : Nat → Int} {q : Nat} (hq : q < 8) : oneAV (sumsC S)[q]? = some (.int .i64 (S q)) := by
  rcases (by omega : q = 0 ∨ q = 1 ∨ q = 2 ∨ q = 3 ∨ q = 4 ∨ q = 5 ∨ q = 6 ∨ q = 7) with rfl | rfl | rfl | rfl | rfl | rfl | rfl | rfl <;> rfl
def addS (S : Nat → Int) (q : Nat) (v : Int) : Nat → Int := fun c => bif Nat.beq c q then v else S c
theorem sums_set {S : Nat → Int} {q : Nat} {v : Int} (hq : q < 8) : setRange (sumsC S) q [.int .i64 v] = sumsC (addS S q v) := by
  rcases (by omega : q = 0 ∨ q = 1 ∨ q = 2 ∨ q = 3 ∨ q = 4 ∨ q = 5 ∨ q = 6 ∨ q = 7) with rfl | rfl | rfl | rfl | rfl | rfl | rfl | rfl <;> rfl
/-! ### the flows that the law makes -/
def let4 (k : Nat) : ByteArray := ⟨#[UInt8.ofNat (97 + k % 4)]⟩
theorem let4_name (k : Nat) : nameOK (let4 k) = true := by
  unfold let4
  rcases (by omega : k % 4 = 0 ∨ k % 4 = 1 ∨ k % 4 = 2 ∨ k % 4 = 3) with h | h | h | h <;> rw [h] <;> decide +kernel
def ownF (f : Fw.Fl) : Fw.Fl := ⟨let4 f.m.size, f.c % 8, f.n.tmod 1000000, f.w⟩
theorem tmod_b (x : Int) : -1000000 < x.tmod 1000000 ∧ x.tmod 1000000 < 1000000 := by
  have h1 := Int.tmod_lt_of_pos x (show (0 : Int) < 1000000 by decide)
  by_cases h : x < 0
  · have e : x = -(-x) := by omega
    have h' : 0 ≤ -x := by omega
    rw [e, Int.neg_tmod, Int.tmod_eq_emod_of_nonneg h']
    omega
  · rw [Int.tmod_eq_emod_of_nonneg (by omega)]
    omega
theorem own_chk (f : Fw.Fl) : Fw.chk (ownF f) = 0 := by
  have := tmod_b f.n
  refine Fw.chk_split.2 ⟨let4_name _, ?_, fitsI_iff.2 (by show -1152921504606846976 ≤ f.n.tmod 1000000 ∧ f.n.tmod 1000000 ≤ 1152921504606846976; omega)⟩
  show Fw.curOK (f.c % 8) = true
  simp [Fw.curOK]; omega
def ownL (fl : Nat → Fw.Fl) (n : Nat) : List Fw.Fl := Fw.toL (fun i => ownF (fl i)) n
theorem ownL_succ (fl : Nat → Fw.Fl) (n : Nat) : ownL fl (n + 1) = ownL fl n ++ [ownF (fl n)] := Fw.toL_succ _ _
theorem ownL_len (fl : Nat → Fw.Fl) (n : Nat) : (ownL fl n).length = n := Fw.toL_len _ _
def curQ (c : Int) (f : Fw.Fl) : Bool := decide (f.c = c)
def curS (L : List Fw.Fl) (c : Int) : Int := Fw.sumI ((L.filter (curQ c)).map Fw.Fl.n)
theorem curS_snoc (L : List Fw.Fl) (f : Fw.Fl) (c : Int) : curS (L ++ [f]) c = curS L c + if f.c = c then f.n else 0 := by
  unfold curS
  rw [List.filter_append, List.map_append, Fw.sumI_app]
  by_cases h : f.c = c <;> simp [curQ, h, Fw.sumI]
theorem sumI_b {l : List Int} {b : Int} (hb : 0 ≤ b) (h : ∀ x ∈ l, -b ≤ x ∧ x ≤ b) : -(b * l.length) ≤ Fw.sumI l ∧ Fw.sumI l ≤ b * l.length := by
  induction l with
  | nil => simp [Fw.sumI]
  | cons x r ih =>
    have h1 := ih fun y hy => h y (List.mem_cons_of_mem _ hy)
    have h2 := h x List.mem_cons_self
    simp only [Fw.sumI, List.length_cons]
    have e : b * ((r.length + 1 : Nat) : Int) = b * r.length + b := by rw [Int.natCast_add, Int.mul_add]; simp
    rw [e]; omega
theorem sumI_nn {l : List Int} (h : ∀ x ∈ l, 0 ≤ x) : 0 ≤ Fw.sumI l := by
  induction l with
  | nil => simp [Fw.sumI]
  | cons x r ih =>
    have h1 := ih fun y hy => h y (List.mem_cons_of_mem _ hy)
    have h2 := h x List.mem_cons_self
    simp only [Fw.sumI]; omega
theorem curS_b (fl : Nat → Fw.Fl) {n : Nat} (hn : n ≤ 300) (c : Int) : -300000000 ≤ curS (ownL fl n) c ∧ curS (ownL fl n) c ≤ 300000000 := by
  have h1 := sumI_b (l := ((ownL fl n).filter (curQ c)).map Fw.Fl.n) (b := 1000000) (by decide) (fun x hx => by
    obtain ⟨f, hf, rfl⟩ := List.mem_map.1 hx
    obtain ⟨j, _, rfl⟩ := Fw.mem_toL.1 (List.mem_filter.1 hf).1
    have := tmod_b (fl j).n
    show -1000000 ≤ (fl j).n.tmod 1000000 ∧ (fl j).n.tmod 1000000 ≤ 1000000
    omega)
  have h2 : (((ownL fl n).filter (curQ c)).map Fw.Fl.n).length ≤ n := by
    rw [List.length_map]
    exact Nat.le_trans (List.length_filter_le _ _) (by rw [ownL_len]; exact Nat.le_refl _)
  unfold curS
  omega
/-! ### what Make makes of them -/
section
variable (fl : Nat → Fw.Fl) (n : Nat) (ks : List Key)
abbrev oFl : Nat → Fw.Fl := Fw.flOf (ownL fl n)
theorem oL : Fw.toL (oFl fl n) n = ownL fl n := by
  have := Fw.toL_flOf (ownL fl n)
  rw [ownL_len] at this
  exact this
end
section
variable {fl : Nat → Fw.Fl} {n : Nat} {ks : List Key} (hn : n ≤ 300) (hr : RiseK ks) (hp : ks.Perm (Fw.keysF (oFl fl n) n))
theorem own_check (hn : n ≤ 300) : Fw.checkE (oFl fl n) n = 0 := by
  refine Fw.checkE_zero.2 ⟨by omega, fun f hf => ?_⟩
  rw [oL] at hf
  obtain ⟨j, _, rfl⟩ := Fw.mem_toL.1 hf
  exact own_chk _
theorem tot_b (hn : n ≤ 300) (k : Key) : -300000000 ≤ Fw.totK k (oFl fl n) n ∧ Fw.totK k (oFl fl n) n ≤ 300000000 := by
  rw [Fw.totK, Fw.tot_toL, oL]
  have h1 := sumI_b (l := ((ownL fl n).filter (Fw.selP false k.1 k.2)).map Fw.Fl.n) (b := 1000000) (by decide) (fun x hx => by
    obtain ⟨f, hf, rfl⟩ := List.mem_map.1 hx
    obtain ⟨j, _, rfl⟩ := Fw.mem_toL.1 (List.mem_filter.1 hf).1
    have := tmod_b (fl j).n
    show -1000000 ≤ (fl j).n.tmod 1000000 ∧ (fl j).n.tmod 1000000 ≤ 1000000
    omega)
  have h2 : (((ownL fl n).filter (Fw.selP false k.1 k.2)).map Fw.Fl.n).length ≤ n := by
    rw [List.length_map]
    exact Nat.le_trans (List.length_filter_le _ _) (by rw [ownL_len]; exact Nat.le_refl _)
  omega
theorem own_netE (hn : n ≤ 300) : Fw.netE (oFl fl n) n ks = 0 := by
  refine Fw.netE_zero.2 ⟨own_check hn, ?_⟩
  unfold Fw.netOK
  rw [List.all_eq_true]
  intro k _
  have := tot_b (fl := fl) hn k
  exact fitsI_iff.2 (by omega)
abbrev oNet (fl : Nat → Fw.Fl) (n : Nat) (ks : List Key) : List Fw.Fl := Fw.netF (oFl fl n) n ks
theorem own_netL (hn : n ≤ 300) : Fw.netL (oFl fl n) n ks = oNet fl n ks := by rw [Fw.netL, if_pos (own_netE hn)]
include hp in
theorem oNet_len (hn : n ≤ 300) : (oNet fl n ks).length ≤ 300 := by
  have h2 := Fw.netF_len (oFl fl n) n ks
  have h3 := hp.length_eq
  have h4 := Fw.keysF_len (oFl fl n) n
  show (Fw.netF (oFl fl n) n ks).length ≤ 300
  omega
include hp in
theorem own_make (hn : n ≤ 300) : makeS [] (oFl fl n) n ks = (newP 0 (oNet fl n ks), 0) := by
  have h1 := oNet_len hp hn
  unfold makeS
  rw [own_netE hn, own_netL hn]
  have e1 : checkL [] = 0 := by decide +kernel
  have e2 : lastId [] = 0 := by decide +kernel
  rw [e1, e2]
  simp only [ne_eq, not_true_eq_false, decide_false, cond_false, List.length_nil, Nat.zero_add, List.nil_append]
  rw [decide_eq_false (by omega), decide_eq_false (by omega)]
  rfl
include hp in
theorem oNet_good (hn : n ≤ 300) : ∀ f ∈ oNet fl n ks, nameOK f.m = true ∧ 0 ≤ f.c ∧ f.c ≤ 7 ∧ f.n ≠ 0 ∧ -300000000 ≤ f.n ∧ f.n ≤ 300000000 := by
  intro f hf
  obtain ⟨k, hk, h0, rfl⟩ := Fw.mem_netF.1 hf
  obtain ⟨f0, hf0, e⟩ := Fw.mem_keysL.1 (hp.mem_iff.1 hk)
  rw [oL] at hf0
  obtain ⟨j, _, rfl⟩ := Fw.mem_toL.1 hf0
  have e1 : k.1 = let4 (fl j).m.size := (congrArg Prod.fst e).symm
  have e2 : k.2 = (fl j).c % 8 := (congrArg Prod.snd e).symm
  have hb := tot_b (fl := fl) hn k
  refine ⟨by show nameOK k.1 = true; rw [e1]; exact let4_name _, by show 0 ≤ k.2; omega, by show k.2 ≤ 7; omega, h0, hb.1, hb.2⟩
theorem newP_mem {id : Int} {L : List Fw.Fl} {p : Py} (h : p ∈ newP id L) : id < p.id ∧ p.id ≤ id + L.length ∧ p.s = 1 ∧ ∃ f ∈ L, p.m = f.m ∧ p.c = f.c ∧ p.n = f.n := by
  induction L generalizing id with
  | nil => simp [newP] at h
  | cons f r ih =>
    rw [newP] at h
    rcases List.mem_cons.1 h with rfl | h
    · refine ⟨by show id < id + 1; omega, by show id + 1 ≤ _; simp only [List.length_cons]; omega, rfl, f, List.mem_cons_self, rfl, rfl, rfl⟩
    · obtain ⟨a1, a2, a3, g, hg, a4⟩ := ih h
      exact ⟨by omega, by simp only [List.length_cons]; omega, a3, g, List.mem_cons_of_mem _ hg, a4⟩
theorem newP_rise (id : Int) (L : List Fw.Fl) : (newP id L).Pairwise fun a b => a.id < b.id := by
  induction L generalizing id with
  | nil => exact List.Pairwise.nil
  | cons f r ih => exact List.pairwise_cons.2 ⟨fun p hp => (newP_mem hp).1, ih _⟩
include hp in
theorem made_check (hn : n ≤ 300) : checkL (newP 0 (oNet fl n ks)) = 0 := by
  have hl := oNet_len hp hn
  refine check_of (by rw [newP_len]; omega) (fun p hpp => ?_) (newP_rise _ _)
  obtain ⟨a1, a2, a3, f, hf, a4, a5, a6⟩ := newP_mem hpp
  obtain ⟨b1, b2, b3, b4, b5, b6⟩ := oNet_good hp hn f hf
  refine ⟨a1, by omega, ?_⟩
  have hfit : fitsI p.n = true := fitsI_iff.2 (by omega)
  simp [restE, a4, a5, b1, b2, b3, a3, a6, b4]
  rw [← a6, hfit]; rfl
theorem sum_split {l : List Py} (h : ∀ p ∈ l, comes p = true) (cur : Int) : Fw.sumI (getL cur l) - Fw.sumI (payL cur l) = Fw.sumI ((l.filter fun p => decide (p.c = cur)).map Py.n) := by
  induction l with
  | nil => rfl
  | cons p r ih =>
    have h1 := ih fun q hq => h q (List.mem_cons_of_mem _ hq)
    have h2 := h p List.mem_cons_self
    unfold getL payL at h1 ⊢
    by_cases hc : p.c = cur
    · by_cases hneg : p.n < 0
      · simp [getQ, payQ, hc, h2, hneg, Fw.sumI] at h1 ⊢
        omega
      · simp [getQ, payQ, hc, h2, hneg, Fw.sumI] at h1 ⊢
        omega
    · simp [getQ, payQ, hc, Fw.sumI] at h1 ⊢
      exact h1
theorem newP_sum (id : Int) (L : List Fw.Fl) (cur : Int) : Fw.sumI (((newP id L).filter fun p => decide (p.c = cur)).map Py.n) = curS L cur := by
  induction L generalizing id with
  | nil => rfl
  | cons f r ih =>
    have h1 := ih (id + 1)
    unfold curS at h1 ⊢
    rw [newP]
    by_cases hc : f.c = cur
    · simp [curQ, hc, Fw.sumI] at h1 ⊢
      exact h1
    · simp [curQ, hc] at h1 ⊢
      exact h1
include hr hp in
theorem net_sum (cur : Int) : curS (oNet fl n ks) cur = curS (ownL fl n) cur := by
  have e : ∀ L : List Fw.Fl, L.filter (curQ cur) = L.filter (Fw.selP true ByteArray.empty cur) := fun L => by
    refine List.filter_congr fun f _ => ?_
    simp [curQ, Fw.selP]
  unfold curS
  rw [e, e]
  show Fw.sumI (((Fw.netF (oFl fl n) n ks).filter (Fw.selP true ByteArray.empty cur)).map Fw.Fl.n) = _
  rw [Fw.sum_netF, ← oL fl n, ← Fw.sum_keys (Fw.toL (oFl fl n) n) (Fw.rise_nodup hr) (fun f hf => hp.mem_iff.2 (Fw.mem_keysL.2 ⟨f, hf, rfl⟩))]
  congr 2
  funext k
  rw [Fw.totK, Fw.tot_toL]
include hr hp in
theorem made_open (hn : n ≤ 300) (cur : Int) (h0 : 0 ≤ cur) (h7 : cur ≤ 7) : ∃ p g : Int, openS (newP 0 (oNet fl n ks)) cur = (p, g, 0) ∧ 0 ≤ p ∧ p ≤ 100000000000 ∧ 0 ≤ g ∧ g ≤ 100000000000 ∧ g - p = curS (ownL fl n) cur := by
  have hl := oNet_len hp hn
  have hmem : ∀ q ∈ newP 0 (oNet fl n ks), comes q = true ∧ -300000000 ≤ q.n ∧ q.n ≤ 300000000 := fun q hq => by
    obtain ⟨a1, a2, a3, f, hf, a4, a5, a6⟩ := newP_mem hq
    obtain ⟨b1, b2, b3, b4, b5, b6⟩ := oNet_good hp hn f hf
    exact ⟨by simp [comes, a3], by omega, by omega⟩
  have hsl : ∀ L : List Int, sumL L = Fw.sumI L := fun L => Fw.sumZ_list L
  have hpl : (payL cur (newP 0 (oNet fl n ks))).length ≤ 300 := Nat.le_trans (pay_len _ _) (by rw [newP_len]; exact hl)
  have hgl : (getL cur (newP 0 (oNet fl n ks))).length ≤ 300 := Nat.le_trans (get_len _ _) (by rw [newP_len]; exact hl)
  have p1 := sumI_b (l := payL cur (newP 0 (oNet fl n ks))) (b := 300000000) (by decide) (fun x hx => by
    obtain ⟨q, hq, rfl⟩ := List.mem_map.1 hx
    have := hmem q (List.mem_filter.1 hq).1
    omega)
  have g1 := sumI_b (l := getL cur (newP 0 (oNet fl n ks))) (b := 300000000) (by decide) (fun x hx => by
    obtain ⟨q, hq, rfl⟩ := List.mem_map.1 hx
    have := hmem q (List.mem_filter.1 hq).1
    omega)
  have p2 : 0 ≤ Fw.sumI (payL cur (newP 0 (oNet fl n ks))) := sumI_nn fun x hx => by
    obtain ⟨q, hq, rfl⟩ := List.mem_map.1 hx
    have := (List.mem_filter.1 hq).2
    simp [payQ] at this
    omega
  have g2 : 0 ≤ Fw.sumI (getL cur (newP 0 (oNet fl n ks))) := sumI_nn fun x hx => by
    obtain ⟨q, hq, rfl⟩ := List.mem_map.1 hx
    have := (List.mem_filter.1 hq).2
    simp [getQ] at this
    omega
  have hs := sum_split (fun q hq => (hmem q hq).1) cur
  rw [newP_sum, net_sum hr hp] at hs
  have f1 : fitsI (Fw.sumI (payL cur (newP 0 (oNet fl n ks)))) = true := fitsI_iff.2 (by omega)
  have f2 : fitsI (Fw.sumI (getL cur (newP 0 (oNet fl n ks)))) = true := fitsI_iff.2 (by omega)
  refine ⟨_, _, ?_, p2, by omega, g2, by omega, hs⟩
  unfold openS
  rw [made_check hp hn, hsl, hsl, f1, f2]
  have : (decide (cur < 0) || decide (7 < cur)) = false := by simp; omega
  rw [this]
  rfl
end
end Go.Proofs


set_option linter.unusedVariables false
set_option linter.unusedSimpArgs false
namespace Go.Proofs
open Ax Go
set_option maxRecDepth 10000
def keepN (f r : Nat) : Option (List Nat) := match f, r with
  | 4, 4 => some [0, 3, 4, 5]
  | 4, 13 => some [4, 7, 83]
  | _, _ => none
def keepXN (f r : Nat) : Option (List Nat) := match f, r with
  | 4, 4 => some [3, 4]
  | 4, 13 => some [2]
  | _, _ => none
def ghN (f r : Nat) : List Ghost := match f, r with
  | 4, 10 => [.adopt 7, .freeze 7]
  | _, _ => []
def xfN (f r o : Nat) : Bool := match f, r, o with
  | 4, 9, 2 => true
  | _, _, _ => false
noncomputable def cxN : Ctx where
  P := Try.prog
  inl := fun _ => false
  keep := keepN
  keepX := keepXN
  xf := xfN
  ow := fun _ => false
  gh := ghN
  gf := fun _ => []
  ln := fun _ => false
  srt := srtT
theorem okN {f a Q} (h : stepCall (SX Try.prog calmT) cxN calmT f a Q) : CallOK Try.prog f a Q := okOf (cx := cxN) rfl progOK h
/-- What stands at the head of the loop that makes the flows. -/
structure NtHd (fl : Nat → Fw.Fl) (n : Nat) where
  i : Nat
  g : Nat → AV
  hi : i ≤ n
  hl : i ≤ 300
  hg : Fw.FlowsAt (ownL fl i) i g
def ntS (fl : Nat → Fw.Fl) (n len : Nat) (g : Nat → AV) (i : Int) (S : Nat → Int) : St := ⟨[(0, Fw.encL fl n), (3, .own (.vec 4 len g)), (4, .ptr 0 0), (5, .int .i64 i)], [.cells (sumsC S)], [], none⟩
theorem ntS_eq {fl : Nat → Fw.Fl} {n len : Nat} {g : Nat → AV} {i i' : Int} {S S' : Nat → Int} (h1 : i = i') (h2 : S = S') : ntS fl n len g i S = ntS fl n len g i' S' := by subst h1 h2; rfl
def oS (fl : Nat → Fw.Fl) (i : Nat) (q : Nat) : Int := curS (ownL fl i) q
theorem wrapU (x : Int) : IntKind.u64.wrap x = x % 18446744073709551616 := by simp [IntKind.wrap, IntKind.signed, IntKind.bits]
set_option maxHeartbeats 8000000 in
theorem lawNets : ∀ xs, TypedArgs Try.prog 8 Try.f4.params.toList xs → CallOK Try.prog 4 xs (fun r => r = .bool true) := by
  intro xs h
  rw [Try.params4] at h
  obtain ⟨a0, r0, rfl, h0, rfl⟩ := h
  obtain ⟨fl, n, hs, hn⟩ := arg_flows (d := 5) h0
  refine ok_same (.cons hs .nil) ?_
  refine okN ?_
  conv => whnf
  repeat ((first | with_reducible refine branch_true rfl ?_ | with_reducible refine branch_false rfl ?_); conv => whnf)
  refine loop_mono (fun e s => ∃ N g, N ≤ 300 ∧ Fw.FlowsAt (ownL fl N) N g ∧ e = .exit 0 ∧ s = ⟨[(3, .own (.vec 4 N g)), (4, .ptr 0 0)], [.cells (sumsC (oS fl N))], [], none⟩) ?_ ?_
  · rintro e s ⟨N, g, hN, hg, rfl, rfl⟩
    conv => whnf
    repeat ((first | with_reducible refine branch_true rfl ?_ | with_reducible refine branch_false rfl ?_); conv => whnf)
    obtain ⟨ks, hks, hp⟩ := exists_rise (Fw.keysF (oFl fl N) N) (Fw.keysF_nodup (oFl fl N) N)
    have vM := make [] (oFl fl N) N ks hks hp
    rw [own_make hp hN] at vM
    have hF : Same (.vec 4 N g) (Fw.encL (oFl fl N) N) := .vec fun i hi => by
      have hlt : i < (ownL fl N).length := by rw [ownL_len]; exact hi
      refine hg.2 i _ ?_
      show (ownL fl N)[i]? = some (Fw.flOf (ownL fl N) i)
      unfold Fw.flOf
      rw [List.getD, List.getElem?_eq_getElem hlt]; rfl
    refine call_by (ok_same (.cons (paysAt_same (l := []) paysAt_nil) (.cons hF .nil)) vM) (makeR_some _ (fun h => absurd rfl h)) ?_
    intro r hr
    obtain ⟨len, gp, rfl, ha⟩ := hr.elim (fun h => h.2) (fun h => absurd rfl h.1)
    conv => whnf
    repeat ((first | with_reducible refine branch_true rfl ?_ | with_reducible refine branch_false rfl ?_); conv => whnf)
    refine st_ghosts (ghost_afu (sz := 5) (n := len) (g := gp) rfl) ?_
    conv => whnf
    repeat ((first | with_reducible refine branch_true rfl ?_ | with_reducible refine branch_false rfl ?_); conv => whnf)
    have ha := paysAt_shift ha
    generalize (fun j => gp (0 + j)) = gA at ha
    have vC := ok_same (.cons (paysAt_same ha) .nil) (check (newP 0 (oNet fl N ks)))
    rw [made_check hp hN] at vC
    refine call_is vC ?_
    conv => whnf
    repeat ((first | with_reducible refine branch_true rfl ?_ | with_reducible refine branch_false rfl ?_); conv => whnf)
    refine loop_by (cx := cxN) rfl progOK (ι := {c : Nat // c ≤ 8}) (fun x => 8 - x.1) (fun x => ⟨[(4, .ptr 0 0), (7, .vec 5 len gA), (83, .int .i64 x.1)], [.cells (sumsC (oS fl N)), .dead], [], none⟩) ?_ ⟨0, Nat.zero_le _⟩
    rintro ⟨c, hc⟩ ih
    conv => whnf
    repeat ((first | with_reducible refine branch_true rfl ?_ | with_reducible refine branch_false rfl ?_); conv => whnf)
    refine branch_of (fun g1 => ?_) (fun g1 => ?_)
    · have g2 : c < 8 := by
        have g1 : (c : Int) < 8 := of_decide_eq_true g1
        omega
      obtain ⟨p, q, ho, h1, h2, h3, h4, h5⟩ := made_open hks hp hN (c : Int) (by omega) (by omega)
      have vO := ok_same (.cons (paysAt_same ha) (.cons (.refl _) .nil)) (openOK (newP 0 (oNet fl N ks)) c)
      rw [ho] at vO
      have hsub : IntKind.i64.wrap (q - p) = oS fl N c := by rw [wrap64 (by omega), h5]; rfl
      have hw : IntKind.i64.wrap ((c : Int) + 1) = ((c + 1 : Nat) : Int) := by rw [wrap64 (by omega)]; omega
      conv => whnf
      repeat ((first | with_reducible refine branch_true rfl ?_ | with_reducible refine branch_false rfl ?_); conv => whnf)
      refine call_is vO ?_
      conv => whnf
      repeat ((first | with_reducible refine branch_true rfl ?_ | with_reducible refine branch_false rfl ?_); conv => whnf)
      refine branch_false (decide_eq_false (show ¬ p < 0 by omega)) ?_
      conv => whnf
      repeat ((first | with_reducible refine branch_true rfl ?_ | with_reducible refine branch_false rfl ?_); conv => whnf)
      refine branch_false (decide_eq_false (show ¬ q < 0 by omega)) ?_
      conv => whnf
      repeat ((first | with_reducible refine branch_true rfl ?_ | with_reducible refine branch_false rfl ?_); conv => whnf)
      refine st_addr_arr (id := 0) (off := 0) (N := 8) (u := 3) (n := (c : Int)) (q := c) rfl rfl rfl rfl rfl rfl (in_range g2) (show 0 + (c : Int).toNat * 1 = c by omega) ?_
      conv => whnf
      repeat ((first | with_reducible refine branch_true rfl ?_ | with_reducible refine branch_false rfl ?_); conv => whnf)
      refine st_load_c (id := 0) (off := c) (cs := sumsC (oS fl N)) (v := .int .i64 (oS fl N c)) rfl rfl rfl rfl rfl (sums_at g2) ?_
      conv => whnf
      repeat ((first | with_reducible refine branch_true rfl ?_ | with_reducible refine branch_false rfl ?_); conv => whnf)
      refine branch_false (by rw [hsub]; simp) ?_
      conv => whnf
      repeat ((first | with_reducible refine branch_true rfl ?_ | with_reducible refine branch_false rfl ?_); conv => whnf)
      exact loop_to ih ⟨c + 1, g2⟩ (show 8 - (c + 1) < 8 - c by omega) (congrArg (fun q => St.mk [(4, .ptr 0 0), (7, .vec 5 len gA), (83, .int .i64 q)] [.cells (sumsC (oS fl N)), .dead] [] none) hw)
    · clear ih
      conv => whnf
      repeat ((first | with_reducible refine branch_true rfl ?_ | with_reducible refine branch_false rfl ?_); conv => whnf)
      refine call_is goesOK ?_
      conv => whnf
      repeat ((first | with_reducible refine branch_true rfl ?_ | with_reducible refine branch_false rfl ?_); conv => whnf)
  · refine loop_by (cx := cxN) rfl progOK (ι := NtHd fl n) (fun x => n - x.i) (fun x => ⟨[(0, Fw.encL fl n), (3, .own (.vec 4 x.i x.g)), (4, .ptr 0 0), (5, .int .i64 x.i)], [.cells (sumsC (oS fl x.i))], [], none⟩) ?_ ⟨0, _, Nat.zero_le _, Nat.zero_le _, ⟨rfl, fun j f hj => by simp [ownL, Fw.toL] at hj⟩⟩
    intro x ih
    have hxi := x.hi
    have hxl := x.hl
    have hxg := x.hg
    conv => whnf
    repeat ((first | with_reducible refine branch_true rfl ?_ | with_reducible refine branch_false rfl ?_); conv => whnf)
    refine branch_of (fun g1 => ?_) (fun g1 => ?_)
    · have g2 : x.i < n := by
        have g1 : (x.i : Int) < (n : Int) := of_decide_eq_true g1
        omega
      conv => whnf
      repeat ((first | with_reducible refine branch_true rfl ?_ | with_reducible refine branch_false rfl ?_); conv => whnf)
      refine branch_of (fun g3 => ?_) (fun g3 => ?_)
      · have g4 : x.i < 300 := by
          have g3 : (x.i : Int) < 300 := of_decide_eq_true g3
          omega
        conv => whnf
        repeat ((first | with_reducible refine branch_true rfl ?_ | with_reducible refine branch_false rfl ?_); conv => whnf)
        refine st_addr_v (sz := 4) (len := n) (n := (x.i : Int)) (u := 38) (v := Fw.encF (fl x.i)) rfl rfl rfl rfl rfl (in_range g2) rfl ?_
        conv => whnf
        repeat ((first | with_reducible refine branch_true rfl ?_ | with_reducible refine branch_false rfl ?_); conv => whnf)
        refine st_addr_v (sz := 4) (len := n) (n := (x.i : Int)) (u := 38) (v := Fw.encF (fl x.i)) rfl rfl rfl rfl rfl (in_range g2) rfl ?_
        conv => whnf
        repeat ((first | with_reducible refine branch_true rfl ?_ | with_reducible refine branch_false rfl ?_); conv => whnf)
        refine st_addr_v (sz := 4) (len := n) (n := (x.i : Int)) (u := 38) (v := Fw.encF (fl x.i)) rfl rfl rfl rfl rfl (in_range g2) rfl ?_
        conv => whnf
        repeat ((first | with_reducible refine branch_true rfl ?_ | with_reducible refine branch_false rfl ?_); conv => whnf)
        refine st_addr_v (sz := 4) (len := n) (n := (x.i : Int)) (u := 38) (v := Fw.encF (fl x.i)) rfl rfl rfl rfl rfl (in_range g2) rfl ?_
        generalize hf : fl x.i = f
        obtain ⟨q, hq8, hqc⟩ : ∃ q : Nat, q < 8 ∧ f.c % 8 = (q : Int) := ⟨(f.c % 8).toNat, by omega, by omega⟩
        have hc : IntKind.i64.wrap ((IntKind.u64.wrap f.c).tmod 8) = (q : Int) := by
          rw [wrapU, Int.tmod_eq_emod_of_nonneg (by omega), wrap64 (by omega)]
          omega
        have hm : IntKind.u8.wrap (IntKind.u64.wrap (97 + (IntKind.u64.wrap (f.m.size : Int)).tmod 4)) = ((97 + f.m.size % 4 : Nat) : Int) := by
          rw [wrapU, wrapU, Int.tmod_eq_emod_of_nonneg (by omega)]
          simp [IntKind.wrap, IntKind.signed, IntKind.bits]
          omega
        have hb := tmod_b f.n
        have hS := curS_b fl (show x.i ≤ 300 by omega) (f.c % 8)
        conv => whnf
        repeat ((first | with_reducible refine branch_true rfl ?_ | with_reducible refine branch_false rfl ?_); conv => whnf)
        refine st_addr_arr (id := 0) (off := 0) (N := 8) (u := 3) (n := IntKind.i64.wrap ((IntKind.u64.wrap f.c).tmod 8)) (q := q) rfl rfl rfl rfl rfl rfl (by rw [hc]; exact in_range hq8) (by rw [hc]; show 0 + (q : Int).toNat * 1 = q; omega) ?_
        conv => whnf
        repeat ((first | with_reducible refine branch_true rfl ?_ | with_reducible refine branch_false rfl ?_); conv => whnf)
        refine st_load_c (id := 0) (off := q) (cs := sumsC (oS fl x.i)) (v := .int .i64 (oS fl x.i q)) rfl rfl rfl rfl rfl (sums_at hq8) ?_
        conv => whnf
        repeat ((first | with_reducible refine branch_true rfl ?_ | with_reducible refine branch_false rfl ?_); conv => whnf)
        refine st_addr_arr (id := 0) (off := 0) (N := 8) (u := 3) (n := IntKind.i64.wrap ((IntKind.u64.wrap f.c).tmod 8)) (q := q) rfl rfl rfl rfl rfl rfl (by rw [hc]; exact in_range hq8) (by rw [hc]; show 0 + (q : Int).toNat * 1 = q; omega) ?_
        conv => whnf
        repeat ((first | with_reducible refine branch_true rfl ?_ | with_reducible refine branch_false rfl ?_); conv => whnf)
        refine st_store_c (id := 0) (off := q) (cs := sumsC (oS fl x.i)) (cs' := sumsC (addS (oS fl x.i) q (IntKind.i64.wrap (oS fl x.i q + f.n.tmod 1000000)))) rfl rfl rfl (show q + 1 ≤ 8 by omega) (sums_set hq8) ?_
        conv => whnf
        repeat ((first | with_reducible refine branch_true rfl ?_ | with_reducible refine branch_false rfl ?_); conv => whnf)
        refine st_append (sz := 4) (len := x.i) (g := x.g) (u := 38) (m := 1) rfl rfl rfl rfl rfl (roomF (by omega)) ?_
        conv => whnf
        repeat ((first | with_reducible refine branch_true rfl ?_ | with_reducible refine branch_false rfl ?_); conv => whnf)
        have hw : IntKind.i64.wrap ((x.i : Int) + 1) = ((x.i + 1 : Nat) : Int) := by rw [wrap64 (by omega)]; omega
        have hSS : addS (oS fl x.i) q (IntKind.i64.wrap (oS fl x.i q + f.n.tmod 1000000)) = oS fl (x.i + 1) := by
          funext c
          have h1 : oS fl (x.i + 1) c = oS fl x.i c + if f.c % 8 = (c : Int) then f.n.tmod 1000000 else 0 := by
            unfold oS
            rw [ownL_succ, curS_snoc, hf]; rfl
          rw [h1]
          have h2 := hS
          rw [hqc] at h2 ⊢
          unfold addS
          by_cases e : c = q
          · subst e
            rw [Nat.beq_refl, cond_true, if_pos rfl, wrap64 (by unfold oS; omega)]
          · have e1 : Nat.beq c q = false := by rw [Bool.eq_false_iff]; exact fun h => e (Nat.eq_of_beq_eq_true h)
            rw [e1, cond_false, if_neg (by omega)]; omega
        refine loop_to ih ⟨x.i + 1, _, g2, by omega, ?_⟩ (show n - (x.i + 1) < n - x.i by omega) (show ntS fl n (x.i + 1) _ _ _ = ntS fl n (x.i + 1) _ _ _ from ntS_eq hw hSS)
        rw [ownL_succ]
        refine Fw.flowsAt_snoc hxg ?_
        rw [hf]
        show AV.agg [.str (ByteArray.empty.push (UInt8.ofNat (IntKind.u8.wrap (IntKind.u64.wrap (97 + (IntKind.u64.wrap (f.m.size : Int)).tmod 4))).toNat)), .int .i64 (IntKind.i64.wrap ((IntKind.u64.wrap f.c).tmod 8)), .int .i64 (f.n.tmod 1000000), .int .i64 f.w] = AV.agg [.str (let4 f.m.size), .int .i64 (f.c % 8), .int .i64 (f.n.tmod 1000000), .int .i64 f.w]
        rw [hm, hc, hqc]
        rfl
      · conv => whnf
        repeat ((first | with_reducible refine branch_true rfl ?_ | with_reducible refine branch_false rfl ?_); conv => whnf)
        exact ⟨x.i, x.g, hxl, hxg, rfl, rfl⟩
    · conv => whnf
      repeat ((first | with_reducible refine branch_true rfl ?_ | with_reducible refine branch_false rfl ?_); conv => whnf)
      exact ⟨x.i, x.g, hxl, hxg, rfl, rfl⟩
end Go.Proofs

