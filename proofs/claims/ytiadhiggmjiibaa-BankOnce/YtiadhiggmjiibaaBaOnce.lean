import Derived.Test.YtiadhiggmjiibaaLS
set_option linter.unusedVariables false
set_option linter.unusedSimpArgs false
namespace Go.Proofs
open Ax Go
set_option maxRecDepth 10000
def keepO (f r : Nat) : Option (List Nat) := match f, r with
  | 6, 16 => some [0, 1, 7, 9, 10, 52, 53]
  | 6, 31 => some [1, 7, 9, 10, 14, 16, 17, 19, 131, 132]
  | _, _ => none
def keepXO (f r : Nat) : Option (List Nat) := match f, r with
  | 6, 16 => some [0, 1, 6, 7, 9, 10]
  | 6, 31 => some [6, 7, 10, 14, 16, 17, 19]
  | _, _ => none
def ghO (f r : Nat) : List Ghost := match f, r with
  | 6, 12 => [.adopt 7, .freeze 7]
  | 6, 30 => [.adopt 17, .freeze 17]
  | _, _ => []
def xfO (f r o : Nat) : Bool := match f, r, o with
  | 6, 7, 3 => true
  | 6, 9, 3 => true
  | 6, 29, 2 => true
  | _, _, _ => false
noncomputable def cxO : Ctx where
  P := Try.prog
  inl := fun _ => false
  keep := keepO
  keepX := keepXO
  xf := xfO
  ow := fun _ => false
  gh := ghO
  gf := fun _ => []
  ln := fun _ => false
  srt := srtT
theorem okO {f a Q} (h : stepCall (SX Try.prog calmT) cxO calmT f a Q) : CallOK Try.prog f a Q := okOf (cx := cxO) rfl progOK h
set_option maxHeartbeats 8000000 in
theorem lawOnce : ∀ xs, TypedArgs Try.prog 8 Try.f6.params.toList xs → CallOK Try.prog 6 xs (fun r => r = .bool true) := by
  intro xs h
  rw [Try.params6] at h
  obtain ⟨a0, r0, rfl, h0, a1, r1, rfl, h1, a2, r2, rfl, h2, rfl⟩ := h
  obtain ⟨l, hs, hz, hn⟩ := arg_pays (d := 5) h0
  obtain ⟨id, rfl, hc⟩ := arg_int (d := 7) h1
  obtain ⟨b, rfl⟩ := arg_bool (d := 7) h2
  refine ok_same (.cons hs (.cons (.refl _) (.cons (.refl _) .nil))) ?_
  refine okO ?_
  conv => whnf
  repeat ((first | with_reducible refine branch_true rfl ?_ | with_reducible refine branch_false rfl ?_); conv => whnf)
  refine branch_of (fun g1 => ?_) (fun g1 => ?_)
  · conv => whnf
    repeat ((first | with_reducible refine branch_true rfl ?_ | with_reducible refine branch_false rfl ?_); conv => whnf)
    refine call_is goesOK ?_
    conv => whnf
    repeat ((first | with_reducible refine branch_true rfl ?_ | with_reducible refine branch_false rfl ?_); conv => whnf)
  · have g1 : l.length ≤ 1100 := by have := of_decide_eq_false g1; omega
    cases b
    · have vT := done l id
      obtain ⟨A, e, hT⟩ : ∃ A e, turnS l id 2 = (A, e) := ⟨_, _, rfl⟩
      have hnil := turnS_nil l id 2
      rw [hT] at vT hnil
      conv => whnf
      repeat ((first | with_reducible refine branch_true rfl ?_ | with_reducible refine branch_false rfl ?_); conv => whnf)
      by_cases he : e = 0
      · subst he
        obtain ⟨x, -⟩ := once_of (.inl rfl : (2 : Int) = 2 ∨ (2 : Int) = 3) hT
        obtain ⟨j, hj, hjid, hcj, hA, hone, hl, t2, t3, hlt⟩ := x
        have hAl : A.length = l.length := by rw [hA, set_len]
        have hAt : ∀ q, q < l.length → atP A q = if q = j then { atP l j with s := 2 } else atP l q := fun q hq => by rw [hA, set_at hq]
        refine call_by vT (turnR_some _ (fun h => absurd rfl h)) ?_
        intro r hr
        obtain ⟨la, ga, rfl, ha⟩ := hr.elim (fun h => h.2) (fun h => absurd rfl h.1)
        obtain rfl : la = l.length := ha.1.trans hAl
        conv => whnf
        repeat ((first | with_reducible refine branch_true rfl ?_ | with_reducible refine branch_false rfl ?_); conv => whnf)
        refine st_ghosts (ghost_af (sz := 5) (n := l.length) (m := l.length) (g := ga) rfl) ?_
        conv => whnf
        repeat ((first | with_reducible refine branch_true rfl ?_ | with_reducible refine branch_false rfl ?_); conv => whnf)
        have ha := paysAt_shift ha
        generalize (fun j => ga (0 + j)) = gA at ha
        have hat : ∀ q, q < l.length → gA q = encP (if q = j then { atP l j with s := 2 } else atP l q) := fun q hq => by rw [ha.2 q (by show q < A.length; omega), hAt q hq]
        refine branch_false (by simp) ?_
        conv => whnf
        repeat ((first | with_reducible refine branch_true rfl ?_ | with_reducible refine branch_false rfl ?_); conv => whnf)
        refine loop_by (cx := cxO) rfl progOK (ι := {i : Nat // i ≤ l.length}) (fun x => l.length - x.1) (fun x => ⟨[(0, encL l), (1, .int .i64 id), (7, .vec 5 l.length gA), (9, .int .i64 2), (10, .int .i64 (if j < x.1 then 1 else 0)), (52, .int .i64 l.length), (53, .int .i64 x.1)], [.dead], [], none⟩) ?_ ⟨0, Nat.zero_le _⟩
        rintro ⟨i, hi⟩ ih
        conv => whnf
        repeat ((first | with_reducible refine branch_true rfl ?_ | with_reducible refine branch_false rfl ?_); conv => whnf)
        refine branch_of (fun t1 => ?_) (fun t1 => ?_)
        · have t4 : i < l.length := by
            have t1 : (i : Int) < (l.length : Int) := of_decide_eq_true t1
            omega
          have hw : IntKind.i64.wrap ((i : Int) + 1) = ((i + 1 : Nat) : Int) := by rw [wrap64 (by omega)]; omega
          conv => whnf
          repeat ((first | with_reducible refine branch_true rfl ?_ | with_reducible refine branch_false rfl ?_); conv => whnf)
          refine st_addr (sz := 5) (len := l.length) (n := i) (u := 51) (g := fun i => encP (atP l i)) rfl rfl rfl rfl rfl (in_range t4) ?_
          conv => whnf
          repeat ((first | with_reducible refine branch_true rfl ?_ | with_reducible refine branch_false rfl ?_); conv => whnf)
          refine branch_of (fun t5 => ?_) (fun t5 => ?_)
          · have t5 : ¬ (atP l i).id = id := by
              have : (!decide ((atP l i).id = id)) = true := t5
              simpa using this
            have hij : ¬ i = j := fun e => t5 (by rw [e]; exact hjid)
            have hgi : gA i = encP (atP l i) := by rw [hat i t4, if_neg hij]
            conv => whnf
            repeat ((first | with_reducible refine branch_true rfl ?_ | with_reducible refine branch_false rfl ?_); conv => whnf)
            refine st_addr_v (sz := 5) (len := l.length) (n := (i : Int)) (u := 51) (v := encP (atP l i)) rfl rfl rfl rfl rfl (in_range t4) hgi ?_
            conv => whnf
            repeat ((first | with_reducible refine branch_true rfl ?_ | with_reducible refine branch_false rfl ?_); conv => whnf)
            refine st_addr (sz := 5) (len := l.length) (n := i) (u := 51) (g := fun i => encP (atP l i)) rfl rfl rfl rfl rfl (in_range t4) ?_
            conv => whnf
            repeat ((first | with_reducible refine branch_true rfl ?_ | with_reducible refine branch_false rfl ?_); conv => whnf)
            refine st_bin (a := encP (atP l i)) (b := encP (atP l i)) rfl rfl rfl (neqP_same (atP l i)) ?_
            conv => whnf
            repeat ((first | with_reducible refine branch_true rfl ?_ | with_reducible refine branch_false rfl ?_); conv => whnf)
            refine st_addr (sz := 5) (len := l.length) (n := i) (u := 51) (g := fun i => encP (atP l i)) rfl rfl rfl rfl rfl (in_range t4) ?_
            conv => whnf
            repeat ((first | with_reducible refine branch_true rfl ?_ | with_reducible refine branch_false rfl ?_); conv => whnf)
            refine branch_false (decide_eq_false t5) ?_
            conv => whnf
            repeat ((first | with_reducible refine branch_true rfl ?_ | with_reducible refine branch_false rfl ?_); conv => whnf)
            refine loop_to ih ⟨i + 1, t4⟩ (show l.length - (i + 1) < l.length - i by omega) ?_
            have e1 : (if j < i + 1 then (1 : Int) else 0) = if j < i then 1 else 0 := by
              by_cases h : j < i
              · rw [if_pos h, if_pos (by omega)]
              · rw [if_neg h, if_neg (by omega)]
            show St.mk [(0, encL l), (1, .int .i64 id), (7, .vec 5 l.length gA), (9, .int .i64 2), (10, .int .i64 (if j < i then 1 else 0)), (52, .int .i64 l.length), (53, .int .i64 (IntKind.i64.wrap ((i : Int) + 1)))] [.dead] [] none = St.mk [(0, encL l), (1, .int .i64 id), (7, .vec 5 l.length gA), (9, .int .i64 2), (10, .int .i64 (if j < i + 1 then 1 else 0)), (52, .int .i64 l.length), (53, .int .i64 ((i + 1 : Nat) : Int))] [.dead] [] none
            rw [e1, hw]
          · have t5 : (atP l i).id = id := by
              have : (!decide ((atP l i).id = id)) = false := t5
              simpa using this
            obtain rfl : i = j := hone i t4 t5
            have hgi : gA i = encP { atP l i with s := 2 } := by rw [hat i t4, if_pos rfl]
            have hn2 : ¬ (atP l i).s = 2 := fun e => by simp [comes, e] at hcj
            have hn3 : ¬ (atP l i).s = 3 := fun e => by simp [comes, e] at hcj
            conv => whnf
            repeat ((first | with_reducible refine branch_true rfl ?_ | with_reducible refine branch_false rfl ?_); conv => whnf)
            refine st_addr (sz := 5) (len := l.length) (n := i) (u := 51) (g := fun i => encP (atP l i)) rfl rfl rfl rfl rfl (in_range t4) ?_
            conv => whnf
            repeat ((first | with_reducible refine branch_true rfl ?_ | with_reducible refine branch_false rfl ?_); conv => whnf)
            refine branch_true (decide_eq_true t5) ?_
            conv => whnf
            repeat ((first | with_reducible refine branch_true rfl ?_ | with_reducible refine branch_false rfl ?_); conv => whnf)
            refine st_addr (sz := 5) (len := l.length) (n := i) (u := 51) (g := fun i => encP (atP l i)) rfl rfl rfl rfl rfl (in_range t4) ?_
            conv => whnf
            repeat ((first | with_reducible refine branch_true rfl ?_ | with_reducible refine branch_false rfl ?_); conv => whnf)
            refine st_addr_v (sz := 5) (len := l.length) (n := (i : Int)) (u := 51) (v := encP { atP l i with s := 2 }) rfl rfl rfl rfl rfl (in_range t4) hgi ?_
            conv => whnf
            repeat ((first | with_reducible refine branch_true rfl ?_ | with_reducible refine branch_false rfl ?_); conv => whnf)
            refine st_bin (a := encP { atP l i with s := 2 }) (b := encP { atP l i with s := 2 }) rfl rfl rfl (neqP_same _) ?_
            conv => whnf
            repeat ((first | with_reducible refine branch_true rfl ?_ | with_reducible refine branch_false rfl ?_); conv => whnf)
            refine st_addr (sz := 5) (len := l.length) (n := i) (u := 51) (g := fun i => encP (atP l i)) rfl rfl rfl rfl rfl (in_range t4) ?_
            conv => whnf
            repeat ((first | with_reducible refine branch_true rfl ?_ | with_reducible refine branch_false rfl ?_); conv => whnf)
            refine branch_false (decide_eq_false hn2) ?_
            conv => whnf
            repeat ((first | with_reducible refine branch_true rfl ?_ | with_reducible refine branch_false rfl ?_); conv => whnf)
            refine st_addr (sz := 5) (len := l.length) (n := i) (u := 51) (g := fun i => encP (atP l i)) rfl rfl rfl rfl rfl (in_range t4) ?_
            conv => whnf
            repeat ((first | with_reducible refine branch_true rfl ?_ | with_reducible refine branch_false rfl ?_); conv => whnf)
            refine branch_false (decide_eq_false hn3) ?_
            conv => whnf
            repeat ((first | with_reducible refine branch_true rfl ?_ | with_reducible refine branch_false rfl ?_); conv => whnf)
            refine loop_to ih ⟨i + 1, t4⟩ (show l.length - (i + 1) < l.length - i by omega) ?_
            show St.mk [(0, encL l), (1, .int .i64 id), (7, .vec 5 l.length gA), (9, .int .i64 2), (10, .int .i64 (IntKind.i64.wrap ((if i < i then 1 else 0) + 1))), (52, .int .i64 l.length), (53, .int .i64 (IntKind.i64.wrap ((i : Int) + 1)))] [.dead] [] none = St.mk [(0, encL l), (1, .int .i64 id), (7, .vec 5 l.length gA), (9, .int .i64 2), (10, .int .i64 (if i < i + 1 then 1 else 0)), (52, .int .i64 l.length), (53, .int .i64 ((i + 1 : Nat) : Int))] [.dead] [] none
            rw [if_neg (Nat.lt_irrefl i), if_pos (Nat.lt_succ_self i), hw]
            rfl
        · have t4 : i = l.length := by
            have t1 : ¬ (i : Int) < (l.length : Int) := of_decide_eq_false t1
            omega
          subst t4
          clear ih t1
          have h1 : (if j < l.length then (1 : Int) else 0) = 1 := if_pos hj
          have haA : PaysAt A l.length gA := ha
          have v2 := ok_same (.cons (paysAt_same haA) (.cons (.refl _) .nil)) (done A id)
          have v3 := ok_same (.cons (paysAt_same haA) (.cons (.refl _) .nil)) (fail A id)
          have vl := ok_same (.cons (paysAt_same haA) .nil) (late A)
          rw [t2] at v2
          rw [t3] at v3
          rw [hlt] at vl
          conv => whnf
          repeat ((first | with_reducible refine branch_true rfl ?_ | with_reducible refine branch_false rfl ?_); conv => whnf)
          refine call_by v2 ⟨_, .inr ⟨by decide, rfl, fun _ => .undef, rfl⟩⟩ ?_
          intro r hr
          obtain ⟨g5, rfl⟩ := hr.elim (fun h => absurd h.1 (by decide)) (fun h => h.2.2)
          conv => whnf
          repeat ((first | with_reducible refine branch_true rfl ?_ | with_reducible refine branch_false rfl ?_); conv => whnf)
          refine call_by v3 ⟨_, .inr ⟨by decide, rfl, fun _ => .undef, rfl⟩⟩ ?_
          intro r hr
          obtain ⟨g6, rfl⟩ := hr.elim (fun h => absurd h.1 (by decide)) (fun h => h.2.2)
          conv => whnf
          repeat ((first | with_reducible refine branch_true rfl ?_ | with_reducible refine branch_false rfl ?_); conv => whnf)
          refine call_by vl ⟨_, .inl ⟨rfl, _, _, rfl, paysAt_self _⟩⟩ ?_
          intro r hr
          obtain ⟨lx, gx, rfl, hx⟩ := hr.elim (fun h => h.2) (fun h => absurd rfl h.1)
          have hxl : lx = l.length := by rw [hx.1, List.length_map, hAl]
          subst hxl
          conv => whnf
          repeat ((first | with_reducible refine branch_true rfl ?_ | with_reducible refine branch_false rfl ?_); conv => whnf)
          refine st_ghosts (ghost_af (sz := 5) (n := l.length) (m := l.length) (g := gx) rfl) ?_
          conv => whnf
          repeat ((first | with_reducible refine branch_true rfl ?_ | with_reducible refine branch_false rfl ?_); conv => whnf)
          have hx := paysAt_shift hx
          generalize (fun j => gx (0 + j)) = gL at hx
          have hxt : ∀ q, q < l.length → gL q = encP (lateP (atP A q)) := fun q hq => by rw [hx.2 q (by rw [List.length_map]; omega), atP_map (by omega)]
          rw [h1]
          refine loop_by (cx := cxO) rfl progOK (ι := {i : Nat // i ≤ l.length}) (fun x => l.length - x.1) (fun x => ⟨[(1, .int .i64 id), (7, .vec 5 l.length gA), (9, .int .i64 2), (10, .int .i64 1), (14, .int .i64 13), (16, .int .i64 13), (17, .vec 5 l.length gL), (19, .int .i64 0), (131, .int .i64 l.length), (132, .int .i64 x.1)], [.dead, .dead], [], none⟩) ?_ ⟨0, Nat.zero_le _⟩
          rintro ⟨i, hi⟩ ih
          conv => whnf
          repeat ((first | with_reducible refine branch_true rfl ?_ | with_reducible refine branch_false rfl ?_); conv => whnf)
          refine branch_of (fun t1 => ?_) (fun t1 => ?_)
          · have t4 : i < l.length := by
              have t1 : (i : Int) < (l.length : Int) := of_decide_eq_true t1
              omega
            have hw : IntKind.i64.wrap ((i : Int) + 1) = ((i + 1 : Nat) : Int) := by rw [wrap64 (by omega)]; omega
            have hlid : (lateP (atP A i)).id = (atP l i).id := by
              have : ∀ p : Py, (lateP p).id = p.id := fun p => by unfold lateP; cases isLate p <;> rfl
              rw [this, hA, set_id t4]
            conv => whnf
            repeat ((first | with_reducible refine branch_true rfl ?_ | with_reducible refine branch_false rfl ?_); conv => whnf)
            refine st_addr_v (sz := 5) (len := l.length) (n := (i : Int)) (u := 51) (v := encP (lateP (atP A i))) rfl rfl rfl rfl rfl (in_range t4) (hxt i t4) ?_
            conv => whnf
            repeat ((first | with_reducible refine branch_true rfl ?_ | with_reducible refine branch_false rfl ?_); conv => whnf)
            refine branch_of (fun t5 => ?_) (fun t5 => ?_)
            · have t5 : (lateP (atP A i)).id = id := of_decide_eq_true t5
              obtain rfl : i = j := hone i t4 (by rw [← hlid]; exact t5)
              have hs : (lateP (atP A i)).s = 2 := by rw [hAt i t4, if_pos rfl]; rfl
              conv => whnf
              repeat ((first | with_reducible refine branch_true rfl ?_ | with_reducible refine branch_false rfl ?_); conv => whnf)
              refine st_addr_v (sz := 5) (len := l.length) (n := (i : Int)) (u := 51) (v := encP (lateP (atP A i))) rfl rfl rfl rfl rfl (in_range t4) (hxt i t4) ?_
              conv => whnf
              repeat ((first | with_reducible refine branch_true rfl ?_ | with_reducible refine branch_false rfl ?_); conv => whnf)
              refine branch_false (by rw [hs]; rfl) ?_
              conv => whnf
              repeat ((first | with_reducible refine branch_true rfl ?_ | with_reducible refine branch_false rfl ?_); conv => whnf)
              exact loop_to ih ⟨i + 1, t4⟩ (show l.length - (i + 1) < l.length - i by omega) (congrArg (fun q => St.mk [(1, .int .i64 id), (7, .vec 5 l.length gA), (9, .int .i64 2), (10, .int .i64 1), (14, .int .i64 13), (16, .int .i64 13), (17, .vec 5 l.length gL), (19, .int .i64 0), (131, .int .i64 l.length), (132, .int .i64 q)] [.dead, .dead] [] none) hw)
            · conv => whnf
              repeat ((first | with_reducible refine branch_true rfl ?_ | with_reducible refine branch_false rfl ?_); conv => whnf)
              exact loop_to ih ⟨i + 1, t4⟩ (show l.length - (i + 1) < l.length - i by omega) (congrArg (fun q => St.mk [(1, .int .i64 id), (7, .vec 5 l.length gA), (9, .int .i64 2), (10, .int .i64 1), (14, .int .i64 13), (16, .int .i64 13), (17, .vec 5 l.length gL), (19, .int .i64 0), (131, .int .i64 l.length), (132, .int .i64 q)] [.dead, .dead] [] none) hw)
          · clear ih
            conv => whnf
            repeat ((first | with_reducible refine branch_true rfl ?_ | with_reducible refine branch_false rfl ?_); conv => whnf)
            refine branch_true (decide_eq_true rfl) ?_
            conv => whnf
            repeat ((first | with_reducible refine branch_true rfl ?_ | with_reducible refine branch_false rfl ?_); conv => whnf)
            refine call_is goesOK ?_
            conv => whnf
            repeat ((first | with_reducible refine branch_true rfl ?_ | with_reducible refine branch_false rfl ?_); conv => whnf)
            rfl
      · obtain rfl : A = [] := hnil he
        refine call_by vT (turnR_some _ (fun _ => rfl)) ?_
        intro r hr
        obtain ⟨ga, rfl⟩ := hr.elim (fun h => absurd h.1 he) (fun h => h.2.2)
        conv => whnf
        repeat ((first | with_reducible refine branch_true rfl ?_ | with_reducible refine branch_false rfl ?_); conv => whnf)
        refine branch_true (by simpa using he) ?_
        conv => whnf
        repeat ((first | with_reducible refine branch_true rfl ?_ | with_reducible refine branch_false rfl ?_); conv => whnf)
        refine call_is goesOK ?_
        conv => whnf
        repeat ((first | with_reducible refine branch_true rfl ?_ | with_reducible refine branch_false rfl ?_); conv => whnf)
        rfl
    · have vT := fail l id
      obtain ⟨A, e, hT⟩ : ∃ A e, turnS l id 3 = (A, e) := ⟨_, _, rfl⟩
      have hnil := turnS_nil l id 3
      rw [hT] at vT hnil
      conv => whnf
      repeat ((first | with_reducible refine branch_true rfl ?_ | with_reducible refine branch_false rfl ?_); conv => whnf)
      by_cases he : e = 0
      · subst he
        obtain ⟨x, -⟩ := once_of (.inr rfl : (3 : Int) = 2 ∨ (3 : Int) = 3) hT
        obtain ⟨j, hj, hjid, hcj, hA, hone, hl, t2, t3, hlt⟩ := x
        have hAl : A.length = l.length := by rw [hA, set_len]
        have hAt : ∀ q, q < l.length → atP A q = if q = j then { atP l j with s := 3 } else atP l q := fun q hq => by rw [hA, set_at hq]
        refine call_by vT (turnR_some _ (fun h => absurd rfl h)) ?_
        intro r hr
        obtain ⟨la, ga, rfl, ha⟩ := hr.elim (fun h => h.2) (fun h => absurd rfl h.1)
        obtain rfl : la = l.length := ha.1.trans hAl
        conv => whnf
        repeat ((first | with_reducible refine branch_true rfl ?_ | with_reducible refine branch_false rfl ?_); conv => whnf)
        refine st_ghosts (ghost_af (sz := 5) (n := l.length) (m := l.length) (g := ga) rfl) ?_
        conv => whnf
        repeat ((first | with_reducible refine branch_true rfl ?_ | with_reducible refine branch_false rfl ?_); conv => whnf)
        have ha := paysAt_shift ha
        generalize (fun j => ga (0 + j)) = gA at ha
        have hat : ∀ q, q < l.length → gA q = encP (if q = j then { atP l j with s := 3 } else atP l q) := fun q hq => by rw [ha.2 q (by show q < A.length; omega), hAt q hq]
        refine branch_false (by simp) ?_
        conv => whnf
        repeat ((first | with_reducible refine branch_true rfl ?_ | with_reducible refine branch_false rfl ?_); conv => whnf)
        refine loop_by (cx := cxO) rfl progOK (ι := {i : Nat // i ≤ l.length}) (fun x => l.length - x.1) (fun x => ⟨[(0, encL l), (1, .int .i64 id), (7, .vec 5 l.length gA), (9, .int .i64 3), (10, .int .i64 (if j < x.1 then 1 else 0)), (52, .int .i64 l.length), (53, .int .i64 x.1)], [.dead], [], none⟩) ?_ ⟨0, Nat.zero_le _⟩
        rintro ⟨i, hi⟩ ih
        conv => whnf
        repeat ((first | with_reducible refine branch_true rfl ?_ | with_reducible refine branch_false rfl ?_); conv => whnf)
        refine branch_of (fun t1 => ?_) (fun t1 => ?_)
        · have t4 : i < l.length := by
            have t1 : (i : Int) < (l.length : Int) := of_decide_eq_true t1
            omega
          have hw : IntKind.i64.wrap ((i : Int) + 1) = ((i + 1 : Nat) : Int) := by rw [wrap64 (by omega)]; omega
          conv => whnf
          repeat ((first | with_reducible refine branch_true rfl ?_ | with_reducible refine branch_false rfl ?_); conv => whnf)
          refine st_addr (sz := 5) (len := l.length) (n := i) (u := 51) (g := fun i => encP (atP l i)) rfl rfl rfl rfl rfl (in_range t4) ?_
          conv => whnf
          repeat ((first | with_reducible refine branch_true rfl ?_ | with_reducible refine branch_false rfl ?_); conv => whnf)
          refine branch_of (fun t5 => ?_) (fun t5 => ?_)
          · have t5 : ¬ (atP l i).id = id := by
              have : (!decide ((atP l i).id = id)) = true := t5
              simpa using this
            have hij : ¬ i = j := fun e => t5 (by rw [e]; exact hjid)
            have hgi : gA i = encP (atP l i) := by rw [hat i t4, if_neg hij]
            conv => whnf
            repeat ((first | with_reducible refine branch_true rfl ?_ | with_reducible refine branch_false rfl ?_); conv => whnf)
            refine st_addr_v (sz := 5) (len := l.length) (n := (i : Int)) (u := 51) (v := encP (atP l i)) rfl rfl rfl rfl rfl (in_range t4) hgi ?_
            conv => whnf
            repeat ((first | with_reducible refine branch_true rfl ?_ | with_reducible refine branch_false rfl ?_); conv => whnf)
            refine st_addr (sz := 5) (len := l.length) (n := i) (u := 51) (g := fun i => encP (atP l i)) rfl rfl rfl rfl rfl (in_range t4) ?_
            conv => whnf
            repeat ((first | with_reducible refine branch_true rfl ?_ | with_reducible refine branch_false rfl ?_); conv => whnf)
            refine st_bin (a := encP (atP l i)) (b := encP (atP l i)) rfl rfl rfl (neqP_same (atP l i)) ?_
            conv => whnf
            repeat ((first | with_reducible refine branch_true rfl ?_ | with_reducible refine branch_false rfl ?_); conv => whnf)
            refine st_addr (sz := 5) (len := l.length) (n := i) (u := 51) (g := fun i => encP (atP l i)) rfl rfl rfl rfl rfl (in_range t4) ?_
            conv => whnf
            repeat ((first | with_reducible refine branch_true rfl ?_ | with_reducible refine branch_false rfl ?_); conv => whnf)
            refine branch_false (decide_eq_false t5) ?_
            conv => whnf
            repeat ((first | with_reducible refine branch_true rfl ?_ | with_reducible refine branch_false rfl ?_); conv => whnf)
            refine loop_to ih ⟨i + 1, t4⟩ (show l.length - (i + 1) < l.length - i by omega) ?_
            have e1 : (if j < i + 1 then (1 : Int) else 0) = if j < i then 1 else 0 := by
              by_cases h : j < i
              · rw [if_pos h, if_pos (by omega)]
              · rw [if_neg h, if_neg (by omega)]
            show St.mk [(0, encL l), (1, .int .i64 id), (7, .vec 5 l.length gA), (9, .int .i64 3), (10, .int .i64 (if j < i then 1 else 0)), (52, .int .i64 l.length), (53, .int .i64 (IntKind.i64.wrap ((i : Int) + 1)))] [.dead] [] none = St.mk [(0, encL l), (1, .int .i64 id), (7, .vec 5 l.length gA), (9, .int .i64 3), (10, .int .i64 (if j < i + 1 then 1 else 0)), (52, .int .i64 l.length), (53, .int .i64 ((i + 1 : Nat) : Int))] [.dead] [] none
            rw [e1, hw]
          · have t5 : (atP l i).id = id := by
              have : (!decide ((atP l i).id = id)) = false := t5
              simpa using this
            obtain rfl : i = j := hone i t4 t5
            have hgi : gA i = encP { atP l i with s := 3 } := by rw [hat i t4, if_pos rfl]
            have hn2 : ¬ (atP l i).s = 2 := fun e => by simp [comes, e] at hcj
            have hn3 : ¬ (atP l i).s = 3 := fun e => by simp [comes, e] at hcj
            conv => whnf
            repeat ((first | with_reducible refine branch_true rfl ?_ | with_reducible refine branch_false rfl ?_); conv => whnf)
            refine st_addr (sz := 5) (len := l.length) (n := i) (u := 51) (g := fun i => encP (atP l i)) rfl rfl rfl rfl rfl (in_range t4) ?_
            conv => whnf
            repeat ((first | with_reducible refine branch_true rfl ?_ | with_reducible refine branch_false rfl ?_); conv => whnf)
            refine branch_true (decide_eq_true t5) ?_
            conv => whnf
            repeat ((first | with_reducible refine branch_true rfl ?_ | with_reducible refine branch_false rfl ?_); conv => whnf)
            refine st_addr (sz := 5) (len := l.length) (n := i) (u := 51) (g := fun i => encP (atP l i)) rfl rfl rfl rfl rfl (in_range t4) ?_
            conv => whnf
            repeat ((first | with_reducible refine branch_true rfl ?_ | with_reducible refine branch_false rfl ?_); conv => whnf)
            refine st_addr_v (sz := 5) (len := l.length) (n := (i : Int)) (u := 51) (v := encP { atP l i with s := 3 }) rfl rfl rfl rfl rfl (in_range t4) hgi ?_
            conv => whnf
            repeat ((first | with_reducible refine branch_true rfl ?_ | with_reducible refine branch_false rfl ?_); conv => whnf)
            refine st_bin (a := encP { atP l i with s := 3 }) (b := encP { atP l i with s := 3 }) rfl rfl rfl (neqP_same _) ?_
            conv => whnf
            repeat ((first | with_reducible refine branch_true rfl ?_ | with_reducible refine branch_false rfl ?_); conv => whnf)
            refine st_addr (sz := 5) (len := l.length) (n := i) (u := 51) (g := fun i => encP (atP l i)) rfl rfl rfl rfl rfl (in_range t4) ?_
            conv => whnf
            repeat ((first | with_reducible refine branch_true rfl ?_ | with_reducible refine branch_false rfl ?_); conv => whnf)
            refine branch_false (decide_eq_false hn2) ?_
            conv => whnf
            repeat ((first | with_reducible refine branch_true rfl ?_ | with_reducible refine branch_false rfl ?_); conv => whnf)
            refine st_addr (sz := 5) (len := l.length) (n := i) (u := 51) (g := fun i => encP (atP l i)) rfl rfl rfl rfl rfl (in_range t4) ?_
            conv => whnf
            repeat ((first | with_reducible refine branch_true rfl ?_ | with_reducible refine branch_false rfl ?_); conv => whnf)
            refine branch_false (decide_eq_false hn3) ?_
            conv => whnf
            repeat ((first | with_reducible refine branch_true rfl ?_ | with_reducible refine branch_false rfl ?_); conv => whnf)
            refine loop_to ih ⟨i + 1, t4⟩ (show l.length - (i + 1) < l.length - i by omega) ?_
            show St.mk [(0, encL l), (1, .int .i64 id), (7, .vec 5 l.length gA), (9, .int .i64 3), (10, .int .i64 (IntKind.i64.wrap ((if i < i then 1 else 0) + 1))), (52, .int .i64 l.length), (53, .int .i64 (IntKind.i64.wrap ((i : Int) + 1)))] [.dead] [] none = St.mk [(0, encL l), (1, .int .i64 id), (7, .vec 5 l.length gA), (9, .int .i64 3), (10, .int .i64 (if i < i + 1 then 1 else 0)), (52, .int .i64 l.length), (53, .int .i64 ((i + 1 : Nat) : Int))] [.dead] [] none
            rw [if_neg (Nat.lt_irrefl i), if_pos (Nat.lt_succ_self i), hw]
            rfl
        · have t4 : i = l.length := by
            have t1 : ¬ (i : Int) < (l.length : Int) := of_decide_eq_false t1
            omega
          subst t4
          clear ih t1
          have h1 : (if j < l.length then (1 : Int) else 0) = 1 := if_pos hj
          have haA : PaysAt A l.length gA := ha
          have v2 := ok_same (.cons (paysAt_same haA) (.cons (.refl _) .nil)) (done A id)
          have v3 := ok_same (.cons (paysAt_same haA) (.cons (.refl _) .nil)) (fail A id)
          have vl := ok_same (.cons (paysAt_same haA) .nil) (late A)
          rw [t2] at v2
          rw [t3] at v3
          rw [hlt] at vl
          conv => whnf
          repeat ((first | with_reducible refine branch_true rfl ?_ | with_reducible refine branch_false rfl ?_); conv => whnf)
          refine call_by v2 ⟨_, .inr ⟨by decide, rfl, fun _ => .undef, rfl⟩⟩ ?_
          intro r hr
          obtain ⟨g5, rfl⟩ := hr.elim (fun h => absurd h.1 (by decide)) (fun h => h.2.2)
          conv => whnf
          repeat ((first | with_reducible refine branch_true rfl ?_ | with_reducible refine branch_false rfl ?_); conv => whnf)
          refine call_by v3 ⟨_, .inr ⟨by decide, rfl, fun _ => .undef, rfl⟩⟩ ?_
          intro r hr
          obtain ⟨g6, rfl⟩ := hr.elim (fun h => absurd h.1 (by decide)) (fun h => h.2.2)
          conv => whnf
          repeat ((first | with_reducible refine branch_true rfl ?_ | with_reducible refine branch_false rfl ?_); conv => whnf)
          refine call_by vl ⟨_, .inl ⟨rfl, _, _, rfl, paysAt_self _⟩⟩ ?_
          intro r hr
          obtain ⟨lx, gx, rfl, hx⟩ := hr.elim (fun h => h.2) (fun h => absurd rfl h.1)
          have hxl : lx = l.length := by rw [hx.1, List.length_map, hAl]
          subst hxl
          conv => whnf
          repeat ((first | with_reducible refine branch_true rfl ?_ | with_reducible refine branch_false rfl ?_); conv => whnf)
          refine st_ghosts (ghost_af (sz := 5) (n := l.length) (m := l.length) (g := gx) rfl) ?_
          conv => whnf
          repeat ((first | with_reducible refine branch_true rfl ?_ | with_reducible refine branch_false rfl ?_); conv => whnf)
          have hx := paysAt_shift hx
          generalize (fun j => gx (0 + j)) = gL at hx
          have hxt : ∀ q, q < l.length → gL q = encP (lateP (atP A q)) := fun q hq => by rw [hx.2 q (by rw [List.length_map]; omega), atP_map (by omega)]
          rw [h1]
          refine loop_by (cx := cxO) rfl progOK (ι := {i : Nat // i ≤ l.length}) (fun x => l.length - x.1) (fun x => ⟨[(1, .int .i64 id), (7, .vec 5 l.length gA), (9, .int .i64 3), (10, .int .i64 1), (14, .int .i64 13), (16, .int .i64 13), (17, .vec 5 l.length gL), (19, .int .i64 0), (131, .int .i64 l.length), (132, .int .i64 x.1)], [.dead, .dead], [], none⟩) ?_ ⟨0, Nat.zero_le _⟩
          rintro ⟨i, hi⟩ ih
          conv => whnf
          repeat ((first | with_reducible refine branch_true rfl ?_ | with_reducible refine branch_false rfl ?_); conv => whnf)
          refine branch_of (fun t1 => ?_) (fun t1 => ?_)
          · have t4 : i < l.length := by
              have t1 : (i : Int) < (l.length : Int) := of_decide_eq_true t1
              omega
            have hw : IntKind.i64.wrap ((i : Int) + 1) = ((i + 1 : Nat) : Int) := by rw [wrap64 (by omega)]; omega
            have hlid : (lateP (atP A i)).id = (atP l i).id := by
              have : ∀ p : Py, (lateP p).id = p.id := fun p => by unfold lateP; cases isLate p <;> rfl
              rw [this, hA, set_id t4]
            conv => whnf
            repeat ((first | with_reducible refine branch_true rfl ?_ | with_reducible refine branch_false rfl ?_); conv => whnf)
            refine st_addr_v (sz := 5) (len := l.length) (n := (i : Int)) (u := 51) (v := encP (lateP (atP A i))) rfl rfl rfl rfl rfl (in_range t4) (hxt i t4) ?_
            conv => whnf
            repeat ((first | with_reducible refine branch_true rfl ?_ | with_reducible refine branch_false rfl ?_); conv => whnf)
            refine branch_of (fun t5 => ?_) (fun t5 => ?_)
            · have t5 : (lateP (atP A i)).id = id := of_decide_eq_true t5
              obtain rfl : i = j := hone i t4 (by rw [← hlid]; exact t5)
              have hs : (lateP (atP A i)).s = 3 := by rw [hAt i t4, if_pos rfl]; rfl
              conv => whnf
              repeat ((first | with_reducible refine branch_true rfl ?_ | with_reducible refine branch_false rfl ?_); conv => whnf)
              refine st_addr_v (sz := 5) (len := l.length) (n := (i : Int)) (u := 51) (v := encP (lateP (atP A i))) rfl rfl rfl rfl rfl (in_range t4) (hxt i t4) ?_
              conv => whnf
              repeat ((first | with_reducible refine branch_true rfl ?_ | with_reducible refine branch_false rfl ?_); conv => whnf)
              refine branch_false (by rw [hs]; rfl) ?_
              conv => whnf
              repeat ((first | with_reducible refine branch_true rfl ?_ | with_reducible refine branch_false rfl ?_); conv => whnf)
              exact loop_to ih ⟨i + 1, t4⟩ (show l.length - (i + 1) < l.length - i by omega) (congrArg (fun q => St.mk [(1, .int .i64 id), (7, .vec 5 l.length gA), (9, .int .i64 3), (10, .int .i64 1), (14, .int .i64 13), (16, .int .i64 13), (17, .vec 5 l.length gL), (19, .int .i64 0), (131, .int .i64 l.length), (132, .int .i64 q)] [.dead, .dead] [] none) hw)
            · conv => whnf
              repeat ((first | with_reducible refine branch_true rfl ?_ | with_reducible refine branch_false rfl ?_); conv => whnf)
              exact loop_to ih ⟨i + 1, t4⟩ (show l.length - (i + 1) < l.length - i by omega) (congrArg (fun q => St.mk [(1, .int .i64 id), (7, .vec 5 l.length gA), (9, .int .i64 3), (10, .int .i64 1), (14, .int .i64 13), (16, .int .i64 13), (17, .vec 5 l.length gL), (19, .int .i64 0), (131, .int .i64 l.length), (132, .int .i64 q)] [.dead, .dead] [] none) hw)
          · clear ih
            conv => whnf
            repeat ((first | with_reducible refine branch_true rfl ?_ | with_reducible refine branch_false rfl ?_); conv => whnf)
            refine branch_true (decide_eq_true rfl) ?_
            conv => whnf
            repeat ((first | with_reducible refine branch_true rfl ?_ | with_reducible refine branch_false rfl ?_); conv => whnf)
            refine call_is goesOK ?_
            conv => whnf
            repeat ((first | with_reducible refine branch_true rfl ?_ | with_reducible refine branch_false rfl ?_); conv => whnf)
            rfl
      · obtain rfl : A = [] := hnil he
        refine call_by vT (turnR_some _ (fun _ => rfl)) ?_
        intro r hr
        obtain ⟨ga, rfl⟩ := hr.elim (fun h => absurd h.1 he) (fun h => h.2.2)
        conv => whnf
        repeat ((first | with_reducible refine branch_true rfl ?_ | with_reducible refine branch_false rfl ?_); conv => whnf)
        refine branch_true (by simpa using he) ?_
        conv => whnf
        repeat ((first | with_reducible refine branch_true rfl ?_ | with_reducible refine branch_false rfl ?_); conv => whnf)
        refine call_is goesOK ?_
        conv => whnf
        repeat ((first | with_reducible refine branch_true rfl ?_ | with_reducible refine branch_false rfl ?_); conv => whnf)
        rfl
end Go.Proofs

