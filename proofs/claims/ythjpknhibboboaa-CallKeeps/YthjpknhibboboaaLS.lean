import Derived.Test.YthjpknhibboboaaLR
set_option linter.unusedVariables false
set_option linter.unusedSimpArgs false
namespace Go.Proofs
open Ax Go
set_option maxRecDepth 10000
def keepK (f r : Nat) : Option (List Nat) := match f, r with
  | 6, 12 => some [4, 7, 10, 15]
  | 6, 17 => some [4, 7, 10, 15, 16]
  | 7, 5 => some [0, 3, 4]
  | _, _ => none
def keepXK (f r : Nat) : Option (List Nat) := match f, r with
  | 6, 12 => some [6]
  | 6, 17 => some [4, 6, 7, 10, 15]
  | 7, 5 => some [2]
  | _, _ => none
noncomputable def cxK : Ctx where
  P := Try.prog
  inl := fun _ => false
  keep := keepK
  keepX := keepXK
  xf := fun _ _ _ => false
  ow := fun _ => false
  gh := fun _ _ => []
  gf := fun _ => []
  ln := fun _ => false
  srt := srtT
theorem okK {f a Q} (h : stepCall (SX Try.prog yesCalm) cxK yesCalm f a Q) : CallOK Try.prog f a Q := okOf (cx := cxK) rfl progOK h
theorem neqAcc (m a m' a' : ByteArray) : binAV Try.prog .neq 24 (encA m a) (encA m' a') = some (.bool (!(decide (m = m') && (decide (a = a') && true)))) := by kernel_rfl
theorem mine_neq (m a : ByteArray) (c : Cl) : binAV Try.prog .neq 24 (encA c.m c.a) (encA m a) = some (.bool (!mine m a c)) := by
  rw [neqAcc, mine]; simp
theorem open_good {l : List Cl} {m a : ByteArray} (h : checkL l = 0) (hf : fitsI (totC m a l) = true) : openS l m a = (totC m a l, 0) := by simp [openS, h, hf]
set_option maxHeartbeats 4000000 in
theorem lawPays : ∀ xs, TypedArgs Try.prog 8 Try.f6.params.toList xs → CallOK Try.prog 6 xs (fun r => r = .bool true) := by
  intro xs h
  rw [Try.params6] at h
  obtain ⟨a0, r0, rfl, h0, a1, r1, rfl, h1, a2, r2, rfl, h2, rfl⟩ := h
  obtain ⟨l, hs, hz, hn⟩ := arg_calls (d := 4) h0
  obtain ⟨m, a, rfl, hm, ha⟩ := arg_acc (d := 6) h1
  obtain ⟨cents, rfl, hc⟩ := arg_int (d := 7) h2
  refine ok_same (.cons hs (.cons (.refl _) (.cons (.refl _) .nil))) ?_
  refine okK ?_
  conv => whnf
  repeat ((first | with_reducible refine branch_true rfl ?_ | with_reducible refine branch_false rfl ?_); conv => whnf)
  refine branch_of (fun g1 => ?_) (fun g1 => ?_)
  · conv => whnf
    repeat ((first | with_reducible refine branch_true rfl ?_ | with_reducible refine branch_false rfl ?_); conv => whnf)
    refine call_is goesOK ?_
    conv => whnf
    repeat ((first | with_reducible refine branch_true rfl ?_ | with_reducible refine branch_false rfl ?_); conv => whnf)
  · have g1 : l.length ≤ 200 := by have := of_decide_eq_false g1; omega
    obtain ⟨srt, hr, hp⟩ : ∃ srt, (checkL l = 0 → AheadP srt) ∧ (checkL l = 0 → srt.Perm (mineL l m a)) := exists_srt' l m a
    have hO := openC l m a
    have hM := meet l m a cents srt hr hp
    conv => whnf
    repeat ((first | with_reducible refine branch_true rfl ?_ | with_reducible refine branch_false rfl ?_); conv => whnf)
    refine call_by (toCalls l (by omega)) ⟨_, _, _, rfl, callsAt_self _⟩ ?_
    rintro r ⟨len, g, rfl, hg⟩
    by_cases hbad : ∃ e : Int, e ≠ 0 ∧ meetS l cents srt = ([], 0, e)
    · obtain ⟨e, he, hS⟩ := hbad
      rw [hS] at hM
      generalize openS l m a = V at hO
      conv => whnf
      repeat ((first | with_reducible refine branch_true rfl ?_ | with_reducible refine branch_false rfl ?_); conv => whnf)
      refine call_is (ok_same (.cons (callsAt_same hg) (.cons (.refl _) .nil)) hO) ?_
      conv => whnf
      repeat ((first | with_reducible refine branch_true rfl ?_ | with_reducible refine branch_false rfl ?_); conv => whnf)
      refine call_by (ok_same (.cons (callsAt_same hg) (.cons (.refl _) (.cons (.refl _) .nil))) hM) ⟨_, _, _, rfl, callsAt_self _⟩ ?_
      rintro r ⟨len2, g2, rfl, hg2⟩
      obtain rfl : len2 = 0 := hg2.1
      have hO2 := openC [] m a
      generalize openS [] m a = V2 at hO2
      conv => whnf
      repeat ((first | with_reducible refine branch_true rfl ?_ | with_reducible refine branch_false rfl ?_); conv => whnf)
      refine call_is (ok_same (.cons (callsAt_same hg2) (.cons (.refl _) .nil)) hO2) ?_
      conv => whnf
      repeat ((first | with_reducible refine branch_true rfl ?_ | with_reducible refine branch_false rfl ?_); conv => whnf)
      refine branch_true (by simp [he]) ?_
      conv => whnf
      repeat ((first | with_reducible refine branch_true rfl ?_ | with_reducible refine branch_false rfl ?_); conv => whnf)
      refine branch_false (by simp [he]) ?_
      conv => whnf
      repeat ((first | with_reducible refine branch_true rfl ?_ | with_reducible refine branch_false rfl ?_); conv => whnf)
      refine call_is goesOK ?_
      conv => whnf
      repeat ((first | with_reducible refine branch_true rfl ?_ | with_reducible refine branch_false rfl ?_); conv => whnf)
      rfl
    · have hk : checkL l = 0 := Decidable.byContradiction fun h => hbad ⟨checkL l, h, by simp [meetS, h]⟩
      have hc0 : 0 ≤ cents := Decidable.byContradiction fun h => hbad ⟨2, by decide, by simp [meetS, hk, show cents < 0 by omega]⟩
      have hc1 : cents ≤ 1152921504606846976 := Decidable.byContradiction fun h => hbad ⟨2, by decide, by simp [meetS, hk, show 1152921504606846976 < cents by omega]⟩
      have hS : meetS l cents srt = ((meetF srt (l, cents)).1, (meetF srt (l, cents)).2, 0) := by simp [meetS, hk, show ¬ cents < 0 by omega, show ¬ 1152921504606846976 < cents by omega]
      have L := meet_leftS hk (hr hk) (hp hk) hc0
      rw [hS] at hM
      generalize (meetF srt (l, cents)).1 = out at hM L
      generalize (meetF srt (l, cents)).2 = rest at hM L
      have hlen := L.len
      cases hf : fitsI (totC m a l) with
      | false =>
        have hV : openS l m a = (0, 3) := by simp [openS, hk, hf]
        rw [hV] at hO
        have hO2 := openC out m a
        generalize openS out m a = V2 at hO2
        conv => whnf
        repeat ((first | with_reducible refine branch_true rfl ?_ | with_reducible refine branch_false rfl ?_); conv => whnf)
        refine call_is (ok_same (.cons (callsAt_same hg) (.cons (.refl _) .nil)) hO) ?_
        conv => whnf
        repeat ((first | with_reducible refine branch_true rfl ?_ | with_reducible refine branch_false rfl ?_); conv => whnf)
        refine call_by (ok_same (.cons (callsAt_same hg) (.cons (.refl _) (.cons (.refl _) .nil))) hM) ⟨_, _, _, rfl, callsAt_self _⟩ ?_
        rintro r ⟨len2, g2, rfl, hg2⟩
        conv => whnf
        repeat ((first | with_reducible refine branch_true rfl ?_ | with_reducible refine branch_false rfl ?_); conv => whnf)
        refine call_is (ok_same (.cons (callsAt_same hg2) (.cons (.refl _) .nil)) hO2) ?_
        conv => whnf
        repeat ((first | with_reducible refine branch_true rfl ?_ | with_reducible refine branch_false rfl ?_); conv => whnf)
        refine call_is goesOK ?_
        conv => whnf
        repeat ((first | with_reducible refine branch_true rfl ?_ | with_reducible refine branch_false rfl ?_); conv => whnf)
        rfl
      | true =>
        rw [open_good hk hf] at hO
        have hf' := fitsI_iff.1 hf
        have hko := left_check hk L
        have hnn : ∀ c ∈ out, 0 ≤ lack c := fun c hc => by have := good_at hko hc; unfold lack; omega
        have h0 := tot_nonneg m a hnn
        have hsum := L.sum
        have hrest := L.pos
        have hr2 : rest ≤ cents := by
          have hnl : ∀ c ∈ l, 0 ≤ lack c := fun c hc => by have := good_at hk hc; unfold lack; omega
          by_cases hz : 0 < rest
          · have hz0 : totC m a out = 0 := tot_zero m a fun c hc hmc => by
              obtain ⟨k, hk2, rfl⟩ := at_mem hc
              rw [hlen] at hk2
              obtain ⟨f1, f2, f3, f4, f5, f6, f7⟩ := L.fr k hk2
              have : mine m a (atC l k) = true := by unfold mine at hmc ⊢; rw [← f2, ← f3]; exact hmc
              have := L.rest hz k hk2 this
              unfold lack; omega
            have := tot_nonneg m a hnl
            omega
          · omega
        have hfo : fitsI (totC m a out) = true := fitsI_iff.2 (by omega)
        have hO2 := openC out m a
        rw [open_good hko hfo] at hO2
        conv => whnf
        repeat ((first | with_reducible refine branch_true rfl ?_ | with_reducible refine branch_false rfl ?_); conv => whnf)
        refine call_is (ok_same (.cons (callsAt_same hg) (.cons (.refl _) .nil)) hO) ?_
        conv => whnf
        repeat ((first | with_reducible refine branch_true rfl ?_ | with_reducible refine branch_false rfl ?_); conv => whnf)
        refine call_by (ok_same (.cons (callsAt_same hg) (.cons (.refl _) (.cons (.refl _) .nil))) hM) ⟨_, _, _, rfl, callsAt_self _⟩ ?_
        rintro r ⟨len2, g2, rfl, hg2⟩
        conv => whnf
        repeat ((first | with_reducible refine branch_true rfl ?_ | with_reducible refine branch_false rfl ?_); conv => whnf)
        refine call_is (ok_same (.cons (callsAt_same hg2) (.cons (.refl _) .nil)) hO2) ?_
        have hl1 : len = l.length := hg.1
        have hl2 : len2 = l.length := hg2.1.trans hlen
        subst hl1
        subst hl2
        conv => whnf
        repeat ((first | with_reducible refine branch_true rfl ?_ | with_reducible refine branch_false rfl ?_); conv => whnf)
        refine branch_false ?_ ?_
        · show (!decide (IntKind.i64.wrap (totC m a l - totC m a out) = IntKind.i64.wrap (cents - rest))) = false
          rw [show totC m a l - totC m a out = cents - rest by omega]; simp
        conv => whnf
        repeat ((first | with_reducible refine branch_true rfl ?_ | with_reducible refine branch_false rfl ?_); conv => whnf)
        refine branch_of (fun z1 => ?_) (fun z1 => ?_)
        · have z1 : 0 < rest := of_decide_eq_true z1
          have hz0 : totC m a out = 0 := tot_zero m a fun c hc hmc => by
            obtain ⟨k, hk2, rfl⟩ := at_mem hc
            rw [hlen] at hk2
            obtain ⟨f1, f2, f3, f4, f5, f6, f7⟩ := L.fr k hk2
            have : mine m a (atC l k) = true := by unfold mine at hmc ⊢; rw [← f2, ← f3]; exact hmc
            have := L.rest z1 k hk2 this
            unfold lack; omega
          conv => whnf
          repeat ((first | with_reducible refine branch_true rfl ?_ | with_reducible refine branch_false rfl ?_); conv => whnf)
          refine branch_false (decide_eq_false (show ¬ 0 < totC m a out by omega)) ?_
          conv => whnf
          repeat ((first | with_reducible refine branch_true rfl ?_ | with_reducible refine branch_false rfl ?_); conv => whnf)
          refine branch_false (show decide (rest < 0) = false from decide_eq_false (by omega)) ?_
          conv => whnf
          repeat ((first | with_reducible refine branch_true rfl ?_ | with_reducible refine branch_false rfl ?_); conv => whnf)
          refine branch_false (show (!decide ((l.length : Int) = (l.length : Int))) = false by simp) ?_
          conv => whnf
          repeat ((first | with_reducible refine branch_true rfl ?_ | with_reducible refine branch_false rfl ?_); conv => whnf)
          have hl : ∀ i, i < l.length → g i = encC (atC l i) := fun i hi => hg.2 i hi
          have hout : ∀ i, i < l.length → g2 i = encC (atC out i) := fun i hi => hg2.2 i (by show i < out.length; omega)
          refine loop_by (cx := cxK) rfl progOK (ι := {i : Nat // i ≤ l.length}) (fun x => l.length - x.1) (fun x => ⟨[(4, .ptr 0 0), (7, .vec 6 l.length g), (10, .vec 6 l.length g2), (15, .int .i64 x.1)], [.cells [.str m, .str a]], [], none⟩) ?_ ⟨0, Nat.zero_le _⟩
          rintro ⟨i, hi0⟩ ih
          conv => whnf
          repeat ((first | with_reducible refine branch_true rfl ?_ | with_reducible refine branch_false rfl ?_); conv => whnf)
          refine branch_of (fun b1 => ?_) (fun b1 => ?_)
          · have g2i : i < l.length := by
              have : (i : Int) < l.length := of_decide_eq_true b1
              omega
            have hw : IntKind.i64.wrap ((i : Int) + 1) = ((i + 1 : Nat) : Int) := by rw [wrap64 (by omega)]; omega
            obtain ⟨f1, f2, f3, f4, f5, f6, f7⟩ := L.fr i g2i
            conv => whnf
            repeat ((first | with_reducible refine branch_true rfl ?_ | with_reducible refine branch_false rfl ?_); conv => whnf)
            refine st_addr_v (sz := 6) (len := l.length) (n := (i : Int)) (u := 52) (v := encC (atC out i)) rfl rfl rfl rfl rfl (in_range (by omega)) (hout i (by omega)) ?_
            conv => whnf
            repeat ((first | with_reducible refine branch_true rfl ?_ | with_reducible refine branch_false rfl ?_); conv => whnf)
            refine st_addr_v (sz := 6) (len := l.length) (n := (i : Int)) (u := 52) (v := encC (atC l i)) rfl rfl rfl rfl rfl (in_range (by omega)) (hl i (by omega)) ?_
            conv => whnf
            repeat ((first | with_reducible refine branch_true rfl ?_ | with_reducible refine branch_false rfl ?_); conv => whnf)
            refine branch_false (show decide ((atC out i).t < (atC l i).t) = false from decide_eq_false (by omega)) ?_
            conv => whnf
            repeat ((first | with_reducible refine branch_true rfl ?_ | with_reducible refine branch_false rfl ?_); conv => whnf)
            refine st_addr_v (sz := 6) (len := l.length) (n := (i : Int)) (u := 52) (v := encC (atC out i)) rfl rfl rfl rfl rfl (in_range (by omega)) (hout i (by omega)) ?_
            conv => whnf
            repeat ((first | with_reducible refine branch_true rfl ?_ | with_reducible refine branch_false rfl ?_); conv => whnf)
            refine st_addr_v (sz := 6) (len := l.length) (n := (i : Int)) (u := 52) (v := encC (atC l i)) rfl rfl rfl rfl rfl (in_range (by omega)) (hl i (by omega)) ?_
            conv => whnf
            repeat ((first | with_reducible refine branch_true rfl ?_ | with_reducible refine branch_false rfl ?_); conv => whnf)
            refine branch_of (fun b2 => ?_) (fun b2 => ?_)
            · have b2 : (atC l i).t < (atC out i).t := of_decide_eq_true b2
              have hmi : mine m a (atC out i) = true := by
                have := L.own i g2i b2
                unfold mine at this ⊢
                rw [f2, f3]; exact this
              conv => whnf
              repeat ((first | with_reducible refine branch_true rfl ?_ | with_reducible refine branch_false rfl ?_); conv => whnf)
              refine st_addr_v (sz := 6) (len := l.length) (n := (i : Int)) (u := 52) (v := encC (atC out i)) rfl rfl rfl rfl rfl (in_range (by omega)) (hout i (by omega)) ?_
              conv => whnf
              repeat ((first | with_reducible refine branch_true rfl ?_ | with_reducible refine branch_false rfl ?_); conv => whnf)
              refine st_bin (a := encA (atC out i).m (atC out i).a) (b := encA m a) (v := .bool false) rfl rfl rfl (by have := mine_neq m a (atC out i); rw [hmi] at this; exact this) ?_
              conv => whnf
              repeat ((first | with_reducible refine branch_true rfl ?_ | with_reducible refine branch_false rfl ?_); conv => whnf)
              refine loop_by (cx := cxK) rfl progOK (ι := {k : Nat // k ≤ l.length}) (fun x => l.length - x.1) (fun x => ⟨[(4, .ptr 0 0), (7, .vec 6 l.length g), (10, .vec 6 l.length g2), (15, .int .i64 i), (16, .int .i64 x.1)], [.cells [.str m, .str a]], [], none⟩) ?_ ⟨0, Nat.zero_le _⟩
              rintro ⟨k, hk0⟩ ih2
              conv => whnf
              repeat ((first | with_reducible refine branch_true rfl ?_ | with_reducible refine branch_false rfl ?_); conv => whnf)
              refine branch_of (fun e1 => ?_) (fun e1 => ?_)
              · have e2 : k < l.length := by
                  have : (k : Int) < l.length := of_decide_eq_true e1
                  omega
                have hw2 : IntKind.i64.wrap ((k : Int) + 1) = ((k + 1 : Nat) : Int) := by rw [wrap64 (by omega)]; omega
                have next2 : ∀ K : St → Prop, (∀ j : {k : Nat // k ≤ l.length}, l.length - j.1 < l.length - k → K (St.mk [(4, .ptr 0 0), (7, .vec 6 l.length g), (10, .vec 6 l.length g2), (15, .int .i64 i), (16, .int .i64 j.1)] [.cells [.str m, .str a]] [] none)) → K (St.mk [(4, .ptr 0 0), (7, .vec 6 l.length g), (10, .vec 6 l.length g2), (15, .int .i64 i), (16, .int .i64 (IntKind.i64.wrap ((k : Int) + 1)))] [.cells [.str m, .str a]] [] none) := by
                  intro K hK
                  rw [hw2]
                  exact hK ⟨k + 1, e2⟩ (show l.length - (k + 1) < l.length - k by omega)
                obtain ⟨q1, q2, q3, q4, q5, q6, q7⟩ := L.fr k e2
                conv => whnf
                repeat ((first | with_reducible refine branch_true rfl ?_ | with_reducible refine branch_false rfl ?_); conv => whnf)
                refine st_addr_v (sz := 6) (len := l.length) (n := (i : Int)) (u := 52) (v := encC (atC out i)) rfl rfl rfl rfl rfl (in_range (by omega)) (hout i (by omega)) ?_
                conv => whnf
                repeat ((first | with_reducible refine branch_true rfl ?_ | with_reducible refine branch_false rfl ?_); conv => whnf)
                refine st_addr_v (sz := 6) (len := l.length) (n := (i : Int)) (u := 52) (v := encC (atC l i)) rfl rfl rfl rfl rfl (in_range (by omega)) (hl i (by omega)) ?_
                conv => whnf
                repeat ((first | with_reducible refine branch_true rfl ?_ | with_reducible refine branch_false rfl ?_); conv => whnf)
                refine branch_of (fun d1 => ?_) (fun d1 => ?_)
                · have d1 : (atC l i).t < (atC out i).t := of_decide_eq_true d1
                  conv => whnf
                  repeat ((first | with_reducible refine branch_true rfl ?_ | with_reducible refine branch_false rfl ?_); conv => whnf)
                  refine st_addr_v (sz := 6) (len := l.length) (n := (k : Int)) (u := 52) (v := encC (atC out k)) rfl rfl rfl rfl rfl (in_range (by omega)) (hout k (by omega)) ?_
                  conv => whnf
                  repeat ((first | with_reducible refine branch_true rfl ?_ | with_reducible refine branch_false rfl ?_); conv => whnf)
                  refine st_bin (a := encA (atC out k).m (atC out k).a) (b := encA m a) rfl rfl rfl (mine_eq m a (atC out k)) ?_
                  have hmk : mine m a (atC out k) = mine m a (atC l k) := by unfold mine; rw [q2, q3]
                  cases hm2 : mine m a (atC out k) with
                  | false =>
                    conv => whnf
                    repeat ((first | with_reducible refine branch_true rfl ?_ | with_reducible refine branch_false rfl ?_); conv => whnf)
                    exact next2 (fun s => SLoop _ _ _ _ _ _ s _) ih2
                  | true =>
                    conv => whnf
                    repeat ((first | with_reducible refine branch_true rfl ?_ | with_reducible refine branch_false rfl ?_); conv => whnf)
                    refine st_addr_v (sz := 6) (len := l.length) (n := (k : Int)) (u := 52) (v := encC (atC out k)) rfl rfl rfl rfl rfl (in_range (by omega)) (hout k (by omega)) ?_
                    conv => whnf
                    repeat ((first | with_reducible refine branch_true rfl ?_ | with_reducible refine branch_false rfl ?_); conv => whnf)
                    refine st_addr_v (sz := 6) (len := l.length) (n := (k : Int)) (u := 52) (v := encC (atC out k)) rfl rfl rfl rfl rfl (in_range (by omega)) (hout k (by omega)) ?_
                    conv => whnf
                    repeat ((first | with_reducible refine branch_true rfl ?_ | with_reducible refine branch_false rfl ?_); conv => whnf)
                    refine branch_of (fun d2 => ?_) (fun d2 => ?_)
                    · have d2 : (atC out k).t < (atC out k).n := of_decide_eq_true d2
                      conv => whnf
                      repeat ((first | with_reducible refine branch_true rfl ?_ | with_reducible refine branch_false rfl ?_); conv => whnf)
                      refine st_addr_v (sz := 6) (len := l.length) (n := (k : Int)) (u := 52) (v := encC (atC out k)) rfl rfl rfl rfl rfl (in_range (by omega)) (hout k (by omega)) ?_
                      conv => whnf
                      repeat ((first | with_reducible refine branch_true rfl ?_ | with_reducible refine branch_false rfl ?_); conv => whnf)
                      refine st_addr_v (sz := 6) (len := l.length) (n := (i : Int)) (u := 52) (v := encC (atC out i)) rfl rfl rfl rfl rfl (in_range (by omega)) (hout i (by omega)) ?_
                      conv => whnf
                      repeat ((first | with_reducible refine branch_true rfl ?_ | with_reducible refine branch_false rfl ?_); conv => whnf)
                      have hord := L.ord i k g2i e2 d1 (by rw [← hmk]; exact hm2) (by rw [← q4]; exact d2)
                      refine branch_false (show decide ((atC out k).d < (atC out i).d) = false from decide_eq_false (by rw [q5, f5]; exact hord)) ?_
                      conv => whnf
                      repeat ((first | with_reducible refine branch_true rfl ?_ | with_reducible refine branch_false rfl ?_); conv => whnf)
                      exact next2 (fun s => SLoop _ _ _ _ _ _ s _) ih2
                    · have d2 : ¬ (atC out k).t < (atC out k).n := of_decide_eq_false d2
                      conv => whnf
                      repeat ((first | with_reducible refine branch_true rfl ?_ | with_reducible refine branch_false rfl ?_); conv => whnf)
                      exact next2 (fun s => SLoop _ _ _ _ _ _ s _) ih2
                · conv => whnf
                  repeat ((first | with_reducible refine branch_true rfl ?_ | with_reducible refine branch_false rfl ?_); conv => whnf)
                  exact next2 (fun s => SLoop _ _ _ _ _ _ s _) ih2
              · conv => whnf
                repeat ((first | with_reducible refine branch_true rfl ?_ | with_reducible refine branch_false rfl ?_); conv => whnf)
                exact loop_to ih ⟨i + 1, g2i⟩ (show l.length - (i + 1) < l.length - i by omega) (congrArg (fun q => St.mk [(4, .ptr 0 0), (7, .vec 6 l.length g), (10, .vec 6 l.length g2), (15, .int .i64 q)] [.cells [.str m, .str a]] [] none) hw)
            · conv => whnf
              repeat ((first | with_reducible refine branch_true rfl ?_ | with_reducible refine branch_false rfl ?_); conv => whnf)
              refine loop_by (cx := cxK) rfl progOK (ι := {k : Nat // k ≤ l.length}) (fun x => l.length - x.1) (fun x => ⟨[(4, .ptr 0 0), (7, .vec 6 l.length g), (10, .vec 6 l.length g2), (15, .int .i64 i), (16, .int .i64 x.1)], [.cells [.str m, .str a]], [], none⟩) ?_ ⟨0, Nat.zero_le _⟩
              rintro ⟨k, hk0⟩ ih2
              conv => whnf
              repeat ((first | with_reducible refine branch_true rfl ?_ | with_reducible refine branch_false rfl ?_); conv => whnf)
              refine branch_of (fun e1 => ?_) (fun e1 => ?_)
              · have e2 : k < l.length := by
                  have : (k : Int) < l.length := of_decide_eq_true e1
                  omega
                have hw2 : IntKind.i64.wrap ((k : Int) + 1) = ((k + 1 : Nat) : Int) := by rw [wrap64 (by omega)]; omega
                have next2 : ∀ K : St → Prop, (∀ j : {k : Nat // k ≤ l.length}, l.length - j.1 < l.length - k → K (St.mk [(4, .ptr 0 0), (7, .vec 6 l.length g), (10, .vec 6 l.length g2), (15, .int .i64 i), (16, .int .i64 j.1)] [.cells [.str m, .str a]] [] none)) → K (St.mk [(4, .ptr 0 0), (7, .vec 6 l.length g), (10, .vec 6 l.length g2), (15, .int .i64 i), (16, .int .i64 (IntKind.i64.wrap ((k : Int) + 1)))] [.cells [.str m, .str a]] [] none) := by
                  intro K hK
                  rw [hw2]
                  exact hK ⟨k + 1, e2⟩ (show l.length - (k + 1) < l.length - k by omega)
                obtain ⟨q1, q2, q3, q4, q5, q6, q7⟩ := L.fr k e2
                conv => whnf
                repeat ((first | with_reducible refine branch_true rfl ?_ | with_reducible refine branch_false rfl ?_); conv => whnf)
                refine st_addr_v (sz := 6) (len := l.length) (n := (i : Int)) (u := 52) (v := encC (atC out i)) rfl rfl rfl rfl rfl (in_range (by omega)) (hout i (by omega)) ?_
                conv => whnf
                repeat ((first | with_reducible refine branch_true rfl ?_ | with_reducible refine branch_false rfl ?_); conv => whnf)
                refine st_addr_v (sz := 6) (len := l.length) (n := (i : Int)) (u := 52) (v := encC (atC l i)) rfl rfl rfl rfl rfl (in_range (by omega)) (hl i (by omega)) ?_
                conv => whnf
                repeat ((first | with_reducible refine branch_true rfl ?_ | with_reducible refine branch_false rfl ?_); conv => whnf)
                refine branch_of (fun d1 => ?_) (fun d1 => ?_)
                · have d1 : (atC l i).t < (atC out i).t := of_decide_eq_true d1
                  conv => whnf
                  repeat ((first | with_reducible refine branch_true rfl ?_ | with_reducible refine branch_false rfl ?_); conv => whnf)
                  refine st_addr_v (sz := 6) (len := l.length) (n := (k : Int)) (u := 52) (v := encC (atC out k)) rfl rfl rfl rfl rfl (in_range (by omega)) (hout k (by omega)) ?_
                  conv => whnf
                  repeat ((first | with_reducible refine branch_true rfl ?_ | with_reducible refine branch_false rfl ?_); conv => whnf)
                  refine st_bin (a := encA (atC out k).m (atC out k).a) (b := encA m a) rfl rfl rfl (mine_eq m a (atC out k)) ?_
                  have hmk : mine m a (atC out k) = mine m a (atC l k) := by unfold mine; rw [q2, q3]
                  cases hm2 : mine m a (atC out k) with
                  | false =>
                    conv => whnf
                    repeat ((first | with_reducible refine branch_true rfl ?_ | with_reducible refine branch_false rfl ?_); conv => whnf)
                    exact next2 (fun s => SLoop _ _ _ _ _ _ s _) ih2
                  | true =>
                    conv => whnf
                    repeat ((first | with_reducible refine branch_true rfl ?_ | with_reducible refine branch_false rfl ?_); conv => whnf)
                    refine st_addr_v (sz := 6) (len := l.length) (n := (k : Int)) (u := 52) (v := encC (atC out k)) rfl rfl rfl rfl rfl (in_range (by omega)) (hout k (by omega)) ?_
                    conv => whnf
                    repeat ((first | with_reducible refine branch_true rfl ?_ | with_reducible refine branch_false rfl ?_); conv => whnf)
                    refine st_addr_v (sz := 6) (len := l.length) (n := (k : Int)) (u := 52) (v := encC (atC out k)) rfl rfl rfl rfl rfl (in_range (by omega)) (hout k (by omega)) ?_
                    conv => whnf
                    repeat ((first | with_reducible refine branch_true rfl ?_ | with_reducible refine branch_false rfl ?_); conv => whnf)
                    refine branch_of (fun d2 => ?_) (fun d2 => ?_)
                    · have d2 : (atC out k).t < (atC out k).n := of_decide_eq_true d2
                      conv => whnf
                      repeat ((first | with_reducible refine branch_true rfl ?_ | with_reducible refine branch_false rfl ?_); conv => whnf)
                      refine st_addr_v (sz := 6) (len := l.length) (n := (k : Int)) (u := 52) (v := encC (atC out k)) rfl rfl rfl rfl rfl (in_range (by omega)) (hout k (by omega)) ?_
                      conv => whnf
                      repeat ((first | with_reducible refine branch_true rfl ?_ | with_reducible refine branch_false rfl ?_); conv => whnf)
                      refine st_addr_v (sz := 6) (len := l.length) (n := (i : Int)) (u := 52) (v := encC (atC out i)) rfl rfl rfl rfl rfl (in_range (by omega)) (hout i (by omega)) ?_
                      conv => whnf
                      repeat ((first | with_reducible refine branch_true rfl ?_ | with_reducible refine branch_false rfl ?_); conv => whnf)
                      have hord := L.ord i k g2i e2 d1 (by rw [← hmk]; exact hm2) (by rw [← q4]; exact d2)
                      refine branch_false (show decide ((atC out k).d < (atC out i).d) = false from decide_eq_false (by rw [q5, f5]; exact hord)) ?_
                      conv => whnf
                      repeat ((first | with_reducible refine branch_true rfl ?_ | with_reducible refine branch_false rfl ?_); conv => whnf)
                      exact next2 (fun s => SLoop _ _ _ _ _ _ s _) ih2
                    · have d2 : ¬ (atC out k).t < (atC out k).n := of_decide_eq_false d2
                      conv => whnf
                      repeat ((first | with_reducible refine branch_true rfl ?_ | with_reducible refine branch_false rfl ?_); conv => whnf)
                      exact next2 (fun s => SLoop _ _ _ _ _ _ s _) ih2
                · conv => whnf
                  repeat ((first | with_reducible refine branch_true rfl ?_ | with_reducible refine branch_false rfl ?_); conv => whnf)
                  exact next2 (fun s => SLoop _ _ _ _ _ _ s _) ih2
              · conv => whnf
                repeat ((first | with_reducible refine branch_true rfl ?_ | with_reducible refine branch_false rfl ?_); conv => whnf)
                exact loop_to ih ⟨i + 1, g2i⟩ (show l.length - (i + 1) < l.length - i by omega) (congrArg (fun q => St.mk [(4, .ptr 0 0), (7, .vec 6 l.length g), (10, .vec 6 l.length g2), (15, .int .i64 q)] [.cells [.str m, .str a]] [] none) hw)
          · conv => whnf
            repeat ((first | with_reducible refine branch_true rfl ?_ | with_reducible refine branch_false rfl ?_); conv => whnf)
            refine call_is goesOK ?_
            conv => whnf
            repeat ((first | with_reducible refine branch_true rfl ?_ | with_reducible refine branch_false rfl ?_); conv => whnf)
        · conv => whnf
          repeat ((first | with_reducible refine branch_true rfl ?_ | with_reducible refine branch_false rfl ?_); conv => whnf)
          conv => whnf
          repeat ((first | with_reducible refine branch_true rfl ?_ | with_reducible refine branch_false rfl ?_); conv => whnf)
          refine branch_false (show decide (rest < 0) = false from decide_eq_false (by omega)) ?_
          conv => whnf
          repeat ((first | with_reducible refine branch_true rfl ?_ | with_reducible refine branch_false rfl ?_); conv => whnf)
          refine branch_false (show (!decide ((l.length : Int) = (l.length : Int))) = false by simp) ?_
          conv => whnf
          repeat ((first | with_reducible refine branch_true rfl ?_ | with_reducible refine branch_false rfl ?_); conv => whnf)
          have hl : ∀ i, i < l.length → g i = encC (atC l i) := fun i hi => hg.2 i hi
          have hout : ∀ i, i < l.length → g2 i = encC (atC out i) := fun i hi => hg2.2 i (by show i < out.length; omega)
          refine loop_by (cx := cxK) rfl progOK (ι := {i : Nat // i ≤ l.length}) (fun x => l.length - x.1) (fun x => ⟨[(4, .ptr 0 0), (7, .vec 6 l.length g), (10, .vec 6 l.length g2), (15, .int .i64 x.1)], [.cells [.str m, .str a]], [], none⟩) ?_ ⟨0, Nat.zero_le _⟩
          rintro ⟨i, hi0⟩ ih
          conv => whnf
          repeat ((first | with_reducible refine branch_true rfl ?_ | with_reducible refine branch_false rfl ?_); conv => whnf)
          refine branch_of (fun b1 => ?_) (fun b1 => ?_)
          · have g2i : i < l.length := by
              have : (i : Int) < l.length := of_decide_eq_true b1
              omega
            have hw : IntKind.i64.wrap ((i : Int) + 1) = ((i + 1 : Nat) : Int) := by rw [wrap64 (by omega)]; omega
            obtain ⟨f1, f2, f3, f4, f5, f6, f7⟩ := L.fr i g2i
            conv => whnf
            repeat ((first | with_reducible refine branch_true rfl ?_ | with_reducible refine branch_false rfl ?_); conv => whnf)
            refine st_addr_v (sz := 6) (len := l.length) (n := (i : Int)) (u := 52) (v := encC (atC out i)) rfl rfl rfl rfl rfl (in_range (by omega)) (hout i (by omega)) ?_
            conv => whnf
            repeat ((first | with_reducible refine branch_true rfl ?_ | with_reducible refine branch_false rfl ?_); conv => whnf)
            refine st_addr_v (sz := 6) (len := l.length) (n := (i : Int)) (u := 52) (v := encC (atC l i)) rfl rfl rfl rfl rfl (in_range (by omega)) (hl i (by omega)) ?_
            conv => whnf
            repeat ((first | with_reducible refine branch_true rfl ?_ | with_reducible refine branch_false rfl ?_); conv => whnf)
            refine branch_false (show decide ((atC out i).t < (atC l i).t) = false from decide_eq_false (by omega)) ?_
            conv => whnf
            repeat ((first | with_reducible refine branch_true rfl ?_ | with_reducible refine branch_false rfl ?_); conv => whnf)
            refine st_addr_v (sz := 6) (len := l.length) (n := (i : Int)) (u := 52) (v := encC (atC out i)) rfl rfl rfl rfl rfl (in_range (by omega)) (hout i (by omega)) ?_
            conv => whnf
            repeat ((first | with_reducible refine branch_true rfl ?_ | with_reducible refine branch_false rfl ?_); conv => whnf)
            refine st_addr_v (sz := 6) (len := l.length) (n := (i : Int)) (u := 52) (v := encC (atC l i)) rfl rfl rfl rfl rfl (in_range (by omega)) (hl i (by omega)) ?_
            conv => whnf
            repeat ((first | with_reducible refine branch_true rfl ?_ | with_reducible refine branch_false rfl ?_); conv => whnf)
            refine branch_of (fun b2 => ?_) (fun b2 => ?_)
            · have b2 : (atC l i).t < (atC out i).t := of_decide_eq_true b2
              have hmi : mine m a (atC out i) = true := by
                have := L.own i g2i b2
                unfold mine at this ⊢
                rw [f2, f3]; exact this
              conv => whnf
              repeat ((first | with_reducible refine branch_true rfl ?_ | with_reducible refine branch_false rfl ?_); conv => whnf)
              refine st_addr_v (sz := 6) (len := l.length) (n := (i : Int)) (u := 52) (v := encC (atC out i)) rfl rfl rfl rfl rfl (in_range (by omega)) (hout i (by omega)) ?_
              conv => whnf
              repeat ((first | with_reducible refine branch_true rfl ?_ | with_reducible refine branch_false rfl ?_); conv => whnf)
              refine st_bin (a := encA (atC out i).m (atC out i).a) (b := encA m a) (v := .bool false) rfl rfl rfl (by have := mine_neq m a (atC out i); rw [hmi] at this; exact this) ?_
              conv => whnf
              repeat ((first | with_reducible refine branch_true rfl ?_ | with_reducible refine branch_false rfl ?_); conv => whnf)
              refine loop_by (cx := cxK) rfl progOK (ι := {k : Nat // k ≤ l.length}) (fun x => l.length - x.1) (fun x => ⟨[(4, .ptr 0 0), (7, .vec 6 l.length g), (10, .vec 6 l.length g2), (15, .int .i64 i), (16, .int .i64 x.1)], [.cells [.str m, .str a]], [], none⟩) ?_ ⟨0, Nat.zero_le _⟩
              rintro ⟨k, hk0⟩ ih2
              conv => whnf
              repeat ((first | with_reducible refine branch_true rfl ?_ | with_reducible refine branch_false rfl ?_); conv => whnf)
              refine branch_of (fun e1 => ?_) (fun e1 => ?_)
              · have e2 : k < l.length := by
                  have : (k : Int) < l.length := of_decide_eq_true e1
                  omega
                have hw2 : IntKind.i64.wrap ((k : Int) + 1) = ((k + 1 : Nat) : Int) := by rw [wrap64 (by omega)]; omega
                have next2 : ∀ K : St → Prop, (∀ j : {k : Nat // k ≤ l.length}, l.length - j.1 < l.length - k → K (St.mk [(4, .ptr 0 0), (7, .vec 6 l.length g), (10, .vec 6 l.length g2), (15, .int .i64 i), (16, .int .i64 j.1)] [.cells [.str m, .str a]] [] none)) → K (St.mk [(4, .ptr 0 0), (7, .vec 6 l.length g), (10, .vec 6 l.length g2), (15, .int .i64 i), (16, .int .i64 (IntKind.i64.wrap ((k : Int) + 1)))] [.cells [.str m, .str a]] [] none) := by
                  intro K hK
                  rw [hw2]
                  exact hK ⟨k + 1, e2⟩ (show l.length - (k + 1) < l.length - k by omega)
                obtain ⟨q1, q2, q3, q4, q5, q6, q7⟩ := L.fr k e2
                conv => whnf
                repeat ((first | with_reducible refine branch_true rfl ?_ | with_reducible refine branch_false rfl ?_); conv => whnf)
                refine st_addr_v (sz := 6) (len := l.length) (n := (i : Int)) (u := 52) (v := encC (atC out i)) rfl rfl rfl rfl rfl (in_range (by omega)) (hout i (by omega)) ?_
                conv => whnf
                repeat ((first | with_reducible refine branch_true rfl ?_ | with_reducible refine branch_false rfl ?_); conv => whnf)
                refine st_addr_v (sz := 6) (len := l.length) (n := (i : Int)) (u := 52) (v := encC (atC l i)) rfl rfl rfl rfl rfl (in_range (by omega)) (hl i (by omega)) ?_
                conv => whnf
                repeat ((first | with_reducible refine branch_true rfl ?_ | with_reducible refine branch_false rfl ?_); conv => whnf)
                refine branch_of (fun d1 => ?_) (fun d1 => ?_)
                · have d1 : (atC l i).t < (atC out i).t := of_decide_eq_true d1
                  conv => whnf
                  repeat ((first | with_reducible refine branch_true rfl ?_ | with_reducible refine branch_false rfl ?_); conv => whnf)
                  refine st_addr_v (sz := 6) (len := l.length) (n := (k : Int)) (u := 52) (v := encC (atC out k)) rfl rfl rfl rfl rfl (in_range (by omega)) (hout k (by omega)) ?_
                  conv => whnf
                  repeat ((first | with_reducible refine branch_true rfl ?_ | with_reducible refine branch_false rfl ?_); conv => whnf)
                  refine st_bin (a := encA (atC out k).m (atC out k).a) (b := encA m a) rfl rfl rfl (mine_eq m a (atC out k)) ?_
                  have hmk : mine m a (atC out k) = mine m a (atC l k) := by unfold mine; rw [q2, q3]
                  cases hm2 : mine m a (atC out k) with
                  | false =>
                    conv => whnf
                    repeat ((first | with_reducible refine branch_true rfl ?_ | with_reducible refine branch_false rfl ?_); conv => whnf)
                    exact next2 (fun s => SLoop _ _ _ _ _ _ s _) ih2
                  | true =>
                    conv => whnf
                    repeat ((first | with_reducible refine branch_true rfl ?_ | with_reducible refine branch_false rfl ?_); conv => whnf)
                    refine st_addr_v (sz := 6) (len := l.length) (n := (k : Int)) (u := 52) (v := encC (atC out k)) rfl rfl rfl rfl rfl (in_range (by omega)) (hout k (by omega)) ?_
                    conv => whnf
                    repeat ((first | with_reducible refine branch_true rfl ?_ | with_reducible refine branch_false rfl ?_); conv => whnf)
                    refine st_addr_v (sz := 6) (len := l.length) (n := (k : Int)) (u := 52) (v := encC (atC out k)) rfl rfl rfl rfl rfl (in_range (by omega)) (hout k (by omega)) ?_
                    conv => whnf
                    repeat ((first | with_reducible refine branch_true rfl ?_ | with_reducible refine branch_false rfl ?_); conv => whnf)
                    refine branch_of (fun d2 => ?_) (fun d2 => ?_)
                    · have d2 : (atC out k).t < (atC out k).n := of_decide_eq_true d2
                      conv => whnf
                      repeat ((first | with_reducible refine branch_true rfl ?_ | with_reducible refine branch_false rfl ?_); conv => whnf)
                      refine st_addr_v (sz := 6) (len := l.length) (n := (k : Int)) (u := 52) (v := encC (atC out k)) rfl rfl rfl rfl rfl (in_range (by omega)) (hout k (by omega)) ?_
                      conv => whnf
                      repeat ((first | with_reducible refine branch_true rfl ?_ | with_reducible refine branch_false rfl ?_); conv => whnf)
                      refine st_addr_v (sz := 6) (len := l.length) (n := (i : Int)) (u := 52) (v := encC (atC out i)) rfl rfl rfl rfl rfl (in_range (by omega)) (hout i (by omega)) ?_
                      conv => whnf
                      repeat ((first | with_reducible refine branch_true rfl ?_ | with_reducible refine branch_false rfl ?_); conv => whnf)
                      have hord := L.ord i k g2i e2 d1 (by rw [← hmk]; exact hm2) (by rw [← q4]; exact d2)
                      refine branch_false (show decide ((atC out k).d < (atC out i).d) = false from decide_eq_false (by rw [q5, f5]; exact hord)) ?_
                      conv => whnf
                      repeat ((first | with_reducible refine branch_true rfl ?_ | with_reducible refine branch_false rfl ?_); conv => whnf)
                      exact next2 (fun s => SLoop _ _ _ _ _ _ s _) ih2
                    · have d2 : ¬ (atC out k).t < (atC out k).n := of_decide_eq_false d2
                      conv => whnf
                      repeat ((first | with_reducible refine branch_true rfl ?_ | with_reducible refine branch_false rfl ?_); conv => whnf)
                      exact next2 (fun s => SLoop _ _ _ _ _ _ s _) ih2
                · conv => whnf
                  repeat ((first | with_reducible refine branch_true rfl ?_ | with_reducible refine branch_false rfl ?_); conv => whnf)
                  exact next2 (fun s => SLoop _ _ _ _ _ _ s _) ih2
              · conv => whnf
                repeat ((first | with_reducible refine branch_true rfl ?_ | with_reducible refine branch_false rfl ?_); conv => whnf)
                exact loop_to ih ⟨i + 1, g2i⟩ (show l.length - (i + 1) < l.length - i by omega) (congrArg (fun q => St.mk [(4, .ptr 0 0), (7, .vec 6 l.length g), (10, .vec 6 l.length g2), (15, .int .i64 q)] [.cells [.str m, .str a]] [] none) hw)
            · conv => whnf
              repeat ((first | with_reducible refine branch_true rfl ?_ | with_reducible refine branch_false rfl ?_); conv => whnf)
              refine loop_by (cx := cxK) rfl progOK (ι := {k : Nat // k ≤ l.length}) (fun x => l.length - x.1) (fun x => ⟨[(4, .ptr 0 0), (7, .vec 6 l.length g), (10, .vec 6 l.length g2), (15, .int .i64 i), (16, .int .i64 x.1)], [.cells [.str m, .str a]], [], none⟩) ?_ ⟨0, Nat.zero_le _⟩
              rintro ⟨k, hk0⟩ ih2
              conv => whnf
              repeat ((first | with_reducible refine branch_true rfl ?_ | with_reducible refine branch_false rfl ?_); conv => whnf)
              refine branch_of (fun e1 => ?_) (fun e1 => ?_)
              · have e2 : k < l.length := by
                  have : (k : Int) < l.length := of_decide_eq_true e1
                  omega
                have hw2 : IntKind.i64.wrap ((k : Int) + 1) = ((k + 1 : Nat) : Int) := by rw [wrap64 (by omega)]; omega
                have next2 : ∀ K : St → Prop, (∀ j : {k : Nat // k ≤ l.length}, l.length - j.1 < l.length - k → K (St.mk [(4, .ptr 0 0), (7, .vec 6 l.length g), (10, .vec 6 l.length g2), (15, .int .i64 i), (16, .int .i64 j.1)] [.cells [.str m, .str a]] [] none)) → K (St.mk [(4, .ptr 0 0), (7, .vec 6 l.length g), (10, .vec 6 l.length g2), (15, .int .i64 i), (16, .int .i64 (IntKind.i64.wrap ((k : Int) + 1)))] [.cells [.str m, .str a]] [] none) := by
                  intro K hK
                  rw [hw2]
                  exact hK ⟨k + 1, e2⟩ (show l.length - (k + 1) < l.length - k by omega)
                obtain ⟨q1, q2, q3, q4, q5, q6, q7⟩ := L.fr k e2
                conv => whnf
                repeat ((first | with_reducible refine branch_true rfl ?_ | with_reducible refine branch_false rfl ?_); conv => whnf)
                refine st_addr_v (sz := 6) (len := l.length) (n := (i : Int)) (u := 52) (v := encC (atC out i)) rfl rfl rfl rfl rfl (in_range (by omega)) (hout i (by omega)) ?_
                conv => whnf
                repeat ((first | with_reducible refine branch_true rfl ?_ | with_reducible refine branch_false rfl ?_); conv => whnf)
                refine st_addr_v (sz := 6) (len := l.length) (n := (i : Int)) (u := 52) (v := encC (atC l i)) rfl rfl rfl rfl rfl (in_range (by omega)) (hl i (by omega)) ?_
                conv => whnf
                repeat ((first | with_reducible refine branch_true rfl ?_ | with_reducible refine branch_false rfl ?_); conv => whnf)
                refine branch_of (fun d1 => ?_) (fun d1 => ?_)
                · have d1 : (atC l i).t < (atC out i).t := of_decide_eq_true d1
                  conv => whnf
                  repeat ((first | with_reducible refine branch_true rfl ?_ | with_reducible refine branch_false rfl ?_); conv => whnf)
                  refine st_addr_v (sz := 6) (len := l.length) (n := (k : Int)) (u := 52) (v := encC (atC out k)) rfl rfl rfl rfl rfl (in_range (by omega)) (hout k (by omega)) ?_
                  conv => whnf
                  repeat ((first | with_reducible refine branch_true rfl ?_ | with_reducible refine branch_false rfl ?_); conv => whnf)
                  refine st_bin (a := encA (atC out k).m (atC out k).a) (b := encA m a) rfl rfl rfl (mine_eq m a (atC out k)) ?_
                  have hmk : mine m a (atC out k) = mine m a (atC l k) := by unfold mine; rw [q2, q3]
                  cases hm2 : mine m a (atC out k) with
                  | false =>
                    conv => whnf
                    repeat ((first | with_reducible refine branch_true rfl ?_ | with_reducible refine branch_false rfl ?_); conv => whnf)
                    exact next2 (fun s => SLoop _ _ _ _ _ _ s _) ih2
                  | true =>
                    conv => whnf
                    repeat ((first | with_reducible refine branch_true rfl ?_ | with_reducible refine branch_false rfl ?_); conv => whnf)
                    refine st_addr_v (sz := 6) (len := l.length) (n := (k : Int)) (u := 52) (v := encC (atC out k)) rfl rfl rfl rfl rfl (in_range (by omega)) (hout k (by omega)) ?_
                    conv => whnf
                    repeat ((first | with_reducible refine branch_true rfl ?_ | with_reducible refine branch_false rfl ?_); conv => whnf)
                    refine st_addr_v (sz := 6) (len := l.length) (n := (k : Int)) (u := 52) (v := encC (atC out k)) rfl rfl rfl rfl rfl (in_range (by omega)) (hout k (by omega)) ?_
                    conv => whnf
                    repeat ((first | with_reducible refine branch_true rfl ?_ | with_reducible refine branch_false rfl ?_); conv => whnf)
                    refine branch_of (fun d2 => ?_) (fun d2 => ?_)
                    · have d2 : (atC out k).t < (atC out k).n := of_decide_eq_true d2
                      conv => whnf
                      repeat ((first | with_reducible refine branch_true rfl ?_ | with_reducible refine branch_false rfl ?_); conv => whnf)
                      refine st_addr_v (sz := 6) (len := l.length) (n := (k : Int)) (u := 52) (v := encC (atC out k)) rfl rfl rfl rfl rfl (in_range (by omega)) (hout k (by omega)) ?_
                      conv => whnf
                      repeat ((first | with_reducible refine branch_true rfl ?_ | with_reducible refine branch_false rfl ?_); conv => whnf)
                      refine st_addr_v (sz := 6) (len := l.length) (n := (i : Int)) (u := 52) (v := encC (atC out i)) rfl rfl rfl rfl rfl (in_range (by omega)) (hout i (by omega)) ?_
                      conv => whnf
                      repeat ((first | with_reducible refine branch_true rfl ?_ | with_reducible refine branch_false rfl ?_); conv => whnf)
                      have hord := L.ord i k g2i e2 d1 (by rw [← hmk]; exact hm2) (by rw [← q4]; exact d2)
                      refine branch_false (show decide ((atC out k).d < (atC out i).d) = false from decide_eq_false (by rw [q5, f5]; exact hord)) ?_
                      conv => whnf
                      repeat ((first | with_reducible refine branch_true rfl ?_ | with_reducible refine branch_false rfl ?_); conv => whnf)
                      exact next2 (fun s => SLoop _ _ _ _ _ _ s _) ih2
                    · have d2 : ¬ (atC out k).t < (atC out k).n := of_decide_eq_false d2
                      conv => whnf
                      repeat ((first | with_reducible refine branch_true rfl ?_ | with_reducible refine branch_false rfl ?_); conv => whnf)
                      exact next2 (fun s => SLoop _ _ _ _ _ _ s _) ih2
                · conv => whnf
                  repeat ((first | with_reducible refine branch_true rfl ?_ | with_reducible refine branch_false rfl ?_); conv => whnf)
                  exact next2 (fun s => SLoop _ _ _ _ _ _ s _) ih2
              · conv => whnf
                repeat ((first | with_reducible refine branch_true rfl ?_ | with_reducible refine branch_false rfl ?_); conv => whnf)
                exact loop_to ih ⟨i + 1, g2i⟩ (show l.length - (i + 1) < l.length - i by omega) (congrArg (fun q => St.mk [(4, .ptr 0 0), (7, .vec 6 l.length g), (10, .vec 6 l.length g2), (15, .int .i64 q)] [.cells [.str m, .str a]] [] none) hw)
          · conv => whnf
            repeat ((first | with_reducible refine branch_true rfl ?_ | with_reducible refine branch_false rfl ?_); conv => whnf)
            refine call_is goesOK ?_
            conv => whnf
            repeat ((first | with_reducible refine branch_true rfl ?_ | with_reducible refine branch_false rfl ?_); conv => whnf)
end Go.Proofs


set_option linter.unusedVariables false
set_option linter.unusedSimpArgs false
namespace Go.Proofs
open Ax Go
set_option maxRecDepth 10000
structure Tn where
  w : Int
  m : ByteArray
  a : ByteArray
  n : Int
  d : Int
def encT (x : Tn) : AV := .agg [.int .i64 x.w, .str x.m, .str x.a, .int .i64 x.n, .int .i64 x.d]
theorem arg_turn {d : Nat} {a : AV} (h : TypedAV Try.prog (d + 3) 55 a) : ∃ x : Tn, a = encT x := by
  obtain ⟨es, h1, h2, h3⟩ := h
  obtain ⟨a0, r0, rfl, k0, a1, r1, rfl, k1, a2, r2, rfl, k2, a3, r3, rfl, k3, rfl⟩ := typed_struct Try.underlying55 h3
  obtain ⟨id, rfl, _⟩ := typed_int Try.underlying3 k0
  obtain ⟨b0, s0, rfl, j0, b1, s1, rfl, j1, rfl⟩ := typed_struct Try.underlying24 k1
  obtain ⟨m, rfl, hm⟩ := typed_str Try.underlying9 j0
  obtain ⟨a, rfl, ha⟩ := typed_str Try.underlying9 j1
  obtain ⟨n, rfl, _⟩ := typed_int Try.underlying3 k2
  obtain ⟨d, rfl, _⟩ := typed_int Try.underlying3 k3
  exact ⟨⟨id, m, a, n, d⟩, h1⟩
theorem arg_turns {d : Nat} {a : AV} (h : TypedAV Try.prog (d + 4) 53 a) : ∃ (n : Nat) (T : Nat → Tn), Same a (.vec 5 n fun i => encT (T i)) := by
  obtain ⟨es, h1, h2, h3⟩ := h
  obtain ⟨n, g, rfl, hn, hg⟩ := typed_slice Try.underlying53 h3
  have h1 : a = .vec 5 n g := h1
  have each : ∀ i, ∃ c : Tn, i < n → g i = encT c := by
    intro i
    by_cases hi : i < n
    · obtain ⟨f, hf⟩ := arg_turn (hg i hi)
      exact ⟨f, fun _ => hf⟩
    · exact ⟨⟨0, ByteArray.empty, ByteArray.empty, 0, 0⟩, fun h => absurd h hi⟩
  obtain ⟨T, hT⟩ := Classical.axiomOfChoice each
  subst h1
  exact ⟨n, T, .vec fun i hi => hT i hi⟩
/-- An answer that keeps: a refusal is empty, what is given may be. -/
def Kept (p : List Cl × Int) : Prop := (p.2 ≠ 0 → p.1 = []) ∧ (p.2 = 0 → checkL p.1 = 0)
theorem kept_make {l : List Cl} (h : checkL l = 0) (m a : ByteArray) (n d : Int) : Kept ((makeS l m a n d).1, (makeS l m a n d).2.2) := by
  obtain ⟨hn, hg, hi⟩ := check_good h
  have hb := lastId_b h
  by_cases h1 : askE m a n 0 d = 0
  · by_cases h2 : l.length = 1024 ∨ lastId l = 1152921504606846976
    · have e : makeS l m a n d = ([], 0, 8) := by
        rcases h2 with h2 | h2 <;> simp [makeS, h, h1, h2]
      rw [e]
      exact ⟨fun _ => rfl, fun h => by cases h⟩
    · have h3 : l.length ≠ 1024 := fun e => h2 (.inl e)
      have h4 : lastId l ≠ 1152921504606846976 := fun e => h2 (.inr e)
      have e : makeS l m a n d = (l ++ [⟨lastId l + 1, m, a, n, d, 0⟩], lastId l + 1, 0) := by simp [makeS, h, h1, h3, h4]
      rw [e]
      refine ⟨fun h => absurd rfl h, fun _ => check_back (by simp; omega) (fun c hc => ?_) ?_⟩
      · rcases List.mem_append.1 hc with hc | hc
        · exact hg c hc
        · simp at hc; subst hc
          exact ⟨by simp only; omega, by simp only; omega, h1⟩
      · refine List.pairwise_append.2 ⟨hi, List.pairwise_singleton _ _, fun x hx y hy => ?_⟩
        simp at hy; subst hy
        obtain ⟨k, hk, rfl⟩ := at_mem hx
        have e2 : lastId l = (atC l (l.length - 1)).id := by rw [lastId, decide_eq_true (by omega)]; rfl
        have : (atC l k).id ≤ (atC l (l.length - 1)).id := by
          rcases Nat.lt_or_ge k (l.length - 1) with h5 | h5
          · have := List.pairwise_iff_getElem.1 hi k (l.length - 1) hk (by omega) h5
            rw [atC, atC, List.getD, List.getD, List.getElem?_eq_getElem hk, List.getElem?_eq_getElem (by omega)]
            exact Int.le_of_lt this
          · rw [show k = l.length - 1 by omega]; exact Int.le_refl _
        simp only; omega
  · have e : makeS l m a n d = ([], 0, askE m a n 0 d) := by simp [makeS, h, h1]
    rw [e]
    exact ⟨fun _ => rfl, fun h => absurd h h1⟩
theorem kept_meet {l : List Cl} (h : checkL l = 0) {m a : ByteArray} {cents : Int} {srt : List Cl} (hr : AheadP srt) (hp : srt.Perm (mineL l m a)) : Kept ((meetS l cents srt).1, (meetS l cents srt).2.2) := by
  by_cases h1 : cents < 0 ∨ 1152921504606846976 < cents
  · have e : meetS l cents srt = ([], 0, 2) := by
      rcases h1 with h1 | h1 <;> simp [meetS, h, h1]
    rw [e]
    exact ⟨fun _ => rfl, fun h => by cases h⟩
  · have e : meetS l cents srt = ((meetF srt (l, cents)).1, (meetF srt (l, cents)).2, 0) := by
      simp [meetS, h, show ¬ cents < 0 from fun e => h1 (.inl e), show ¬ 1152921504606846976 < cents from fun e => h1 (.inr e)]
    rw [e]
    exact ⟨fun h => absurd rfl h, fun _ => left_check h (meet_leftS h hr hp (by omega))⟩
theorem kept_clean {l : List Cl} (h : checkL l = 0) : Kept (cleanS l) := by
  obtain ⟨hn, hg, hi⟩ := check_good h
  have e : cleanS l = (l.filter cleanP, 0) := by simp [cleanS, h]
  rw [e]
  exact ⟨fun h => absurd rfl h, fun _ => check_back (Nat.le_trans (List.length_filter_le _ _) hn) (fun c hc => hg c (List.mem_filter.1 hc).1) (List.Pairwise.filter _ hi)⟩
structure KpHd (n : Nat) where
  i : Nat
  l : List Cl
  v : AV
  hi : i ≤ n
  hk : checkL l = 0
  hv : (∃ g, v = .own (.vec 6 0 g) ∧ l = []) ∨ ∃ len g, v = .vec 6 len g ∧ CallsAt l len g
set_option maxHeartbeats 4000000 in
theorem lawKeeps : ∀ xs, TypedArgs Try.prog 8 Try.f7.params.toList xs → CallOK Try.prog 7 xs (fun r => r = .bool true) := by
  intro xs h
  rw [Try.params7] at h
  obtain ⟨a0, r0, rfl, h0, rfl⟩ := h
  obtain ⟨n, T, hs⟩ := arg_turns (d := 4) h0
  refine ok_same (.cons hs .nil) ?_
  refine okK ?_
  conv => whnf
  repeat ((first | with_reducible refine branch_true rfl ?_ | with_reducible refine branch_false rfl ?_); conv => whnf)
  refine branch_of (fun g1 => ?_) (fun g1 => ?_)
  · conv => whnf
    repeat ((first | with_reducible refine branch_true rfl ?_ | with_reducible refine branch_false rfl ?_); conv => whnf)
    refine call_is goesOK ?_
    conv => whnf
    repeat ((first | with_reducible refine branch_true rfl ?_ | with_reducible refine branch_false rfl ?_); conv => whnf)
  · have g1 : n ≤ 60 := by
      have : ¬ (60 : Int) < n := of_decide_eq_false g1
      omega
    conv => whnf
    repeat ((first | with_reducible refine branch_true rfl ?_ | with_reducible refine branch_false rfl ?_); conv => whnf)
    refine loop_by (cx := cxK) rfl progOK (ι := KpHd n) (fun x => n - x.i) (fun x => ⟨[(0, .vec 5 n fun i => encT (T i)), (3, x.v), (4, .int .i64 x.i)], [], [], none⟩) ?_ ⟨0, [], _, Nat.zero_le _, rfl, .inl ⟨_, rfl, rfl⟩⟩
    rintro ⟨i, l, v, hi, hk, hv⟩ ih
    have hn := (check_good hk).1
    rcases hv with ⟨g, rfl, rfl⟩ | ⟨len, g, rfl, hg⟩
    · have hg : CallsAt [] 0 g := callsAt_nil
      conv => whnf
      repeat ((first | with_reducible refine branch_true rfl ?_ | with_reducible refine branch_false rfl ?_); conv => whnf)
      refine branch_of (fun g3 => ?_) (fun g3 => ?_)
      · have g2 : i < n := by
          have : (i : Int) < n := of_decide_eq_true g3
          omega
        have hw : IntKind.i64.wrap ((i : Int) + 1) = ((i + 1 : Nat) : Int) := by rw [wrap64 (by omega)]; omega
        have skip : ∀ K : St → Prop, (∀ j : KpHd n, n - j.i < n - i → K (St.mk [(0, .vec 5 n fun i => encT (T i)), (3, j.v), (4, .int .i64 j.i)] [] [] none)) → K (St.mk [(0, .vec 5 n fun i => encT (T i)), (3, .own (.vec 6 0 g)), (4, .int .i64 (IntKind.i64.wrap ((i : Int) + 1)))] [] [] none) := by
          intro K hK
          rw [hw]
          exact hK ⟨i + 1, [], .own (.vec 6 0 g), g2, hk, .inl ⟨g, rfl, rfl⟩⟩ (show n - (i + 1) < n - i by omega)
        have next : ∀ L, checkL L = 0 → ∀ len2 g2', CallsAt L len2 g2' → ∀ K : St → Prop, (∀ j : KpHd n, n - j.i < n - i → K (St.mk [(0, .vec 5 n fun i => encT (T i)), (3, j.v), (4, .int .i64 j.i)] [] [] none)) → K (St.mk [(0, .vec 5 n fun i => encT (T i)), (3, .vec 6 len2 g2'), (4, .int .i64 (IntKind.i64.wrap ((i : Int) + 1)))] [] [] none) := by
          intro L hL len2 g2' hc2 K hK
          rw [hw]
          exact hK ⟨i + 1, L, .vec 6 len2 g2', g2, hL, .inr ⟨len2, g2', rfl, hc2⟩⟩ (show n - (i + 1) < n - i by omega)
        conv => whnf
        repeat ((first | with_reducible refine branch_true rfl ?_ | with_reducible refine branch_false rfl ?_); conv => whnf)
        refine st_addr (sz := 5) (len := n) (n := i) (u := 55) (g := fun i => encT (T i)) rfl rfl rfl rfl rfl (in_range g2) ?_
        conv => whnf
        repeat ((first | with_reducible refine branch_true rfl ?_ | with_reducible refine branch_false rfl ?_); conv => whnf)
        have hM := make [] (T i).m (T i).a (T i).n (T i).d
        have kM := kept_make hk (T i).m (T i).a (T i).n (T i).d
        generalize makeS [] (T i).m (T i).a (T i).n (T i).d = pM at hM kM
        refine call_by (ok_same (.cons (callsAt_same hg) (.cons (.refl _) (.cons (.refl _) (.cons (.refl _) .nil)))) hM) ⟨_, _, _, rfl, callsAt_self _⟩ ?_
        rintro r ⟨len2, g2', rfl, hc2⟩
        conv => whnf
        repeat ((first | with_reducible refine branch_true rfl ?_ | with_reducible refine branch_false rfl ?_); conv => whnf)
        refine branch_of (fun w1 => ?_) (fun w1 => ?_)
        · obtain ⟨srt, hr, hp⟩ : ∃ srt, (checkL [] = 0 → AheadP srt) ∧ (checkL [] = 0 → srt.Perm (mineL [] (T i).m (T i).a)) := exists_srt' [] (T i).m (T i).a
          have hE := meet [] (T i).m (T i).a (T i).n srt hr hp
          have kE := kept_meet (cents := (T i).n) hk (hr hk) (hp hk)
          generalize meetS [] (T i).n srt = pE at hE kE
          clear hc2
          conv => whnf
          repeat ((first | with_reducible refine branch_true rfl ?_ | with_reducible refine branch_false rfl ?_); conv => whnf)
          refine call_by (ok_same (.cons (callsAt_same hg) (.cons (.refl _) (.cons (.refl _) .nil))) hE) ⟨_, _, _, rfl, callsAt_self _⟩ ?_
          rintro r ⟨len2, g2', rfl, hc2⟩
          conv => whnf
          repeat ((first | with_reducible refine branch_true rfl ?_ | with_reducible refine branch_false rfl ?_); conv => whnf)
          refine branch_of (fun e1 => ?_) (fun e1 => ?_)
          · have e1 : pE.2.2 ≠ 0 := by simpa using e1
            have hnil := (kE).1 e1
            rw [hnil] at hc2
            obtain rfl : len2 = 0 := hc2.1
            conv => whnf
            repeat ((first | with_reducible refine branch_true rfl ?_ | with_reducible refine branch_false rfl ?_); conv => whnf)
            exact skip (fun s => SLoop _ _ _ _ _ _ s _) ih
          · have e1 : pE.2.2 = 0 := by simpa using e1
            have hck := check pE.1
            have hgood := (kE).2 e1
            rw [hgood] at hck
            conv => whnf
            repeat ((first | with_reducible refine branch_true rfl ?_ | with_reducible refine branch_false rfl ?_); conv => whnf)
            refine call_is (ok_same (.cons (callsAt_same hc2) .nil) hck) ?_
            conv => whnf
            repeat ((first | with_reducible refine branch_true rfl ?_ | with_reducible refine branch_false rfl ?_); conv => whnf)
            exact next pE.1 hgood len2 g2' hc2 (fun s => SLoop _ _ _ _ _ _ s _) ih
        · conv => whnf
          repeat ((first | with_reducible refine branch_true rfl ?_ | with_reducible refine branch_false rfl ?_); conv => whnf)
          refine branch_of (fun w2 => ?_) (fun w2 => ?_)
          · have hE := clean []
            have kE := kept_clean hk
            generalize cleanS [] = pE at hE kE
            clear hc2
            conv => whnf
            repeat ((first | with_reducible refine branch_true rfl ?_ | with_reducible refine branch_false rfl ?_); conv => whnf)
            refine call_by (ok_same (.cons (callsAt_same hg) .nil) hE) ⟨_, _, _, rfl, callsAt_self _⟩ ?_
            rintro r ⟨len2, g2', rfl, hc2⟩
            conv => whnf
            repeat ((first | with_reducible refine branch_true rfl ?_ | with_reducible refine branch_false rfl ?_); conv => whnf)
            refine branch_of (fun e1 => ?_) (fun e1 => ?_)
            · have e1 : pE.2 ≠ 0 := by simpa using e1
              have hnil := (kE).1 e1
              rw [hnil] at hc2
              obtain rfl : len2 = 0 := hc2.1
              conv => whnf
              repeat ((first | with_reducible refine branch_true rfl ?_ | with_reducible refine branch_false rfl ?_); conv => whnf)
              exact skip (fun s => SLoop _ _ _ _ _ _ s _) ih
            · have e1 : pE.2 = 0 := by simpa using e1
              have hck := check pE.1
              have hgood := (kE).2 e1
              rw [hgood] at hck
              conv => whnf
              repeat ((first | with_reducible refine branch_true rfl ?_ | with_reducible refine branch_false rfl ?_); conv => whnf)
              refine call_is (ok_same (.cons (callsAt_same hc2) .nil) hck) ?_
              conv => whnf
              repeat ((first | with_reducible refine branch_true rfl ?_ | with_reducible refine branch_false rfl ?_); conv => whnf)
              exact next pE.1 hgood len2 g2' hc2 (fun s => SLoop _ _ _ _ _ _ s _) ih
          · conv => whnf
            repeat ((first | with_reducible refine branch_true rfl ?_ | with_reducible refine branch_false rfl ?_); conv => whnf)
            refine branch_of (fun e1 => ?_) (fun e1 => ?_)
            · have e1 : pM.2.2 ≠ 0 := by simpa using e1
              have hnil := (kM).1 e1
              rw [hnil] at hc2
              obtain rfl : len2 = 0 := hc2.1
              conv => whnf
              repeat ((first | with_reducible refine branch_true rfl ?_ | with_reducible refine branch_false rfl ?_); conv => whnf)
              exact skip (fun s => SLoop _ _ _ _ _ _ s _) ih
            · have e1 : pM.2.2 = 0 := by simpa using e1
              have hck := check pM.1
              have hgood := (kM).2 e1
              rw [hgood] at hck
              conv => whnf
              repeat ((first | with_reducible refine branch_true rfl ?_ | with_reducible refine branch_false rfl ?_); conv => whnf)
              refine call_is (ok_same (.cons (callsAt_same hc2) .nil) hck) ?_
              conv => whnf
              repeat ((first | with_reducible refine branch_true rfl ?_ | with_reducible refine branch_false rfl ?_); conv => whnf)
              exact next pM.1 hgood len2 g2' hc2 (fun s => SLoop _ _ _ _ _ _ s _) ih
      · conv => whnf
        repeat ((first | with_reducible refine branch_true rfl ?_ | with_reducible refine branch_false rfl ?_); conv => whnf)
        refine call_is goesOK ?_
        conv => whnf
        repeat ((first | with_reducible refine branch_true rfl ?_ | with_reducible refine branch_false rfl ?_); conv => whnf)
    · conv => whnf
      repeat ((first | with_reducible refine branch_true rfl ?_ | with_reducible refine branch_false rfl ?_); conv => whnf)
      refine branch_of (fun g3 => ?_) (fun g3 => ?_)
      · have g2 : i < n := by
          have : (i : Int) < n := of_decide_eq_true g3
          omega
        have hw : IntKind.i64.wrap ((i : Int) + 1) = ((i + 1 : Nat) : Int) := by rw [wrap64 (by omega)]; omega
        have skip : ∀ K : St → Prop, (∀ j : KpHd n, n - j.i < n - i → K (St.mk [(0, .vec 5 n fun i => encT (T i)), (3, j.v), (4, .int .i64 j.i)] [] [] none)) → K (St.mk [(0, .vec 5 n fun i => encT (T i)), (3, .vec 6 len g), (4, .int .i64 (IntKind.i64.wrap ((i : Int) + 1)))] [] [] none) := by
          intro K hK
          rw [hw]
          exact hK ⟨i + 1, l, .vec 6 len g, g2, hk, .inr ⟨len, g, rfl, hg⟩⟩ (show n - (i + 1) < n - i by omega)
        have next : ∀ L, checkL L = 0 → ∀ len2 g2', CallsAt L len2 g2' → ∀ K : St → Prop, (∀ j : KpHd n, n - j.i < n - i → K (St.mk [(0, .vec 5 n fun i => encT (T i)), (3, j.v), (4, .int .i64 j.i)] [] [] none)) → K (St.mk [(0, .vec 5 n fun i => encT (T i)), (3, .vec 6 len2 g2'), (4, .int .i64 (IntKind.i64.wrap ((i : Int) + 1)))] [] [] none) := by
          intro L hL len2 g2' hc2 K hK
          rw [hw]
          exact hK ⟨i + 1, L, .vec 6 len2 g2', g2, hL, .inr ⟨len2, g2', rfl, hc2⟩⟩ (show n - (i + 1) < n - i by omega)
        conv => whnf
        repeat ((first | with_reducible refine branch_true rfl ?_ | with_reducible refine branch_false rfl ?_); conv => whnf)
        refine st_addr (sz := 5) (len := n) (n := i) (u := 55) (g := fun i => encT (T i)) rfl rfl rfl rfl rfl (in_range g2) ?_
        conv => whnf
        repeat ((first | with_reducible refine branch_true rfl ?_ | with_reducible refine branch_false rfl ?_); conv => whnf)
        have hM := make l (T i).m (T i).a (T i).n (T i).d
        have kM := kept_make hk (T i).m (T i).a (T i).n (T i).d
        generalize makeS l (T i).m (T i).a (T i).n (T i).d = pM at hM kM
        refine call_by (ok_same (.cons (callsAt_same hg) (.cons (.refl _) (.cons (.refl _) (.cons (.refl _) .nil)))) hM) ⟨_, _, _, rfl, callsAt_self _⟩ ?_
        rintro r ⟨len2, g2', rfl, hc2⟩
        conv => whnf
        repeat ((first | with_reducible refine branch_true rfl ?_ | with_reducible refine branch_false rfl ?_); conv => whnf)
        refine branch_of (fun w1 => ?_) (fun w1 => ?_)
        · obtain ⟨srt, hr, hp⟩ : ∃ srt, (checkL l = 0 → AheadP srt) ∧ (checkL l = 0 → srt.Perm (mineL l (T i).m (T i).a)) := exists_srt' l (T i).m (T i).a
          have hE := meet l (T i).m (T i).a (T i).n srt hr hp
          have kE := kept_meet (cents := (T i).n) hk (hr hk) (hp hk)
          generalize meetS l (T i).n srt = pE at hE kE
          clear hc2
          conv => whnf
          repeat ((first | with_reducible refine branch_true rfl ?_ | with_reducible refine branch_false rfl ?_); conv => whnf)
          refine call_by (ok_same (.cons (callsAt_same hg) (.cons (.refl _) (.cons (.refl _) .nil))) hE) ⟨_, _, _, rfl, callsAt_self _⟩ ?_
          rintro r ⟨len2, g2', rfl, hc2⟩
          conv => whnf
          repeat ((first | with_reducible refine branch_true rfl ?_ | with_reducible refine branch_false rfl ?_); conv => whnf)
          refine branch_of (fun e1 => ?_) (fun e1 => ?_)
          · have e1 : pE.2.2 ≠ 0 := by simpa using e1
            have hnil := (kE).1 e1
            rw [hnil] at hc2
            obtain rfl : len2 = 0 := hc2.1
            conv => whnf
            repeat ((first | with_reducible refine branch_true rfl ?_ | with_reducible refine branch_false rfl ?_); conv => whnf)
            exact skip (fun s => SLoop _ _ _ _ _ _ s _) ih
          · have e1 : pE.2.2 = 0 := by simpa using e1
            have hck := check pE.1
            have hgood := (kE).2 e1
            rw [hgood] at hck
            conv => whnf
            repeat ((first | with_reducible refine branch_true rfl ?_ | with_reducible refine branch_false rfl ?_); conv => whnf)
            refine call_is (ok_same (.cons (callsAt_same hc2) .nil) hck) ?_
            conv => whnf
            repeat ((first | with_reducible refine branch_true rfl ?_ | with_reducible refine branch_false rfl ?_); conv => whnf)
            exact next pE.1 hgood len2 g2' hc2 (fun s => SLoop _ _ _ _ _ _ s _) ih
        · conv => whnf
          repeat ((first | with_reducible refine branch_true rfl ?_ | with_reducible refine branch_false rfl ?_); conv => whnf)
          refine branch_of (fun w2 => ?_) (fun w2 => ?_)
          · have hE := clean l
            have kE := kept_clean hk
            generalize cleanS l = pE at hE kE
            clear hc2
            conv => whnf
            repeat ((first | with_reducible refine branch_true rfl ?_ | with_reducible refine branch_false rfl ?_); conv => whnf)
            refine call_by (ok_same (.cons (callsAt_same hg) .nil) hE) ⟨_, _, _, rfl, callsAt_self _⟩ ?_
            rintro r ⟨len2, g2', rfl, hc2⟩
            conv => whnf
            repeat ((first | with_reducible refine branch_true rfl ?_ | with_reducible refine branch_false rfl ?_); conv => whnf)
            refine branch_of (fun e1 => ?_) (fun e1 => ?_)
            · have e1 : pE.2 ≠ 0 := by simpa using e1
              have hnil := (kE).1 e1
              rw [hnil] at hc2
              obtain rfl : len2 = 0 := hc2.1
              conv => whnf
              repeat ((first | with_reducible refine branch_true rfl ?_ | with_reducible refine branch_false rfl ?_); conv => whnf)
              exact skip (fun s => SLoop _ _ _ _ _ _ s _) ih
            · have e1 : pE.2 = 0 := by simpa using e1
              have hck := check pE.1
              have hgood := (kE).2 e1
              rw [hgood] at hck
              conv => whnf
              repeat ((first | with_reducible refine branch_true rfl ?_ | with_reducible refine branch_false rfl ?_); conv => whnf)
              refine call_is (ok_same (.cons (callsAt_same hc2) .nil) hck) ?_
              conv => whnf
              repeat ((first | with_reducible refine branch_true rfl ?_ | with_reducible refine branch_false rfl ?_); conv => whnf)
              exact next pE.1 hgood len2 g2' hc2 (fun s => SLoop _ _ _ _ _ _ s _) ih
          · conv => whnf
            repeat ((first | with_reducible refine branch_true rfl ?_ | with_reducible refine branch_false rfl ?_); conv => whnf)
            refine branch_of (fun e1 => ?_) (fun e1 => ?_)
            · have e1 : pM.2.2 ≠ 0 := by simpa using e1
              have hnil := (kM).1 e1
              rw [hnil] at hc2
              obtain rfl : len2 = 0 := hc2.1
              conv => whnf
              repeat ((first | with_reducible refine branch_true rfl ?_ | with_reducible refine branch_false rfl ?_); conv => whnf)
              exact skip (fun s => SLoop _ _ _ _ _ _ s _) ih
            · have e1 : pM.2.2 = 0 := by simpa using e1
              have hck := check pM.1
              have hgood := (kM).2 e1
              rw [hgood] at hck
              conv => whnf
              repeat ((first | with_reducible refine branch_true rfl ?_ | with_reducible refine branch_false rfl ?_); conv => whnf)
              refine call_is (ok_same (.cons (callsAt_same hc2) .nil) hck) ?_
              conv => whnf
              repeat ((first | with_reducible refine branch_true rfl ?_ | with_reducible refine branch_false rfl ?_); conv => whnf)
              exact next pM.1 hgood len2 g2' hc2 (fun s => SLoop _ _ _ _ _ _ s _) ih
      · conv => whnf
        repeat ((first | with_reducible refine branch_true rfl ?_ | with_reducible refine branch_false rfl ?_); conv => whnf)
        refine call_is goesOK ?_
        conv => whnf
        repeat ((first | with_reducible refine branch_true rfl ?_ | with_reducible refine branch_false rfl ?_); conv => whnf)
end Go.Proofs

