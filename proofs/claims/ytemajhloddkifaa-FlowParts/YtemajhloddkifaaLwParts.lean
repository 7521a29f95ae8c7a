import Derived.Test.YtemajhloddkifaaLL
import Derived.Test.YtemajhloddkifaaLwGoes
namespace Go.Proofs
open Ax Go
set_option maxRecDepth 10000
theorem sel_split (p : Fl → Bool) (fl : Nat → Fl) (k j : Nat) : sel p fl (k + j) = sel p fl k ++ sel p (fun i => fl (k + i)) j := by
  induction j with
  | zero => simp [sel]
  | succ j ih =>
    rw [Nat.add_succ, sel, sel, ih]
    split <;> simp
theorem sumZ_congr {z z' : Nat → Int} {n : Nat} (h : ∀ i, i < n → z i = z' i) : sumZ z n = sumZ z' n := by
  induction n with
  | zero => rfl
  | succ n ih => simp only [sumZ]; rw [ih fun i hi => h i (by omega), h n (by omega)]
theorem sumZ_app (a b : List Int) : sumZ (fun i => (a ++ b).getD i 0) (a ++ b).length = sumZ (fun i => a.getD i 0) a.length + sumZ (fun i => b.getD i 0) b.length := by
  have key : ∀ j, j ≤ b.length → sumZ (fun i => (a ++ b).getD i 0) (a.length + j) = sumZ (fun i => a.getD i 0) a.length + sumZ (fun i => b.getD i 0) j := by
    intro j
    induction j with
    | zero =>
      intro _
      simp only [Nat.add_zero, sumZ, Int.add_zero]
      refine sumZ_congr fun i hi => ?_
      simp [List.getD, List.getElem?_append_left hi]
    | succ j ih =>
      intro hj
      rw [Nat.add_succ, sumZ, sumZ, ih (by omega)]
      have : (a ++ b).getD (a.length + j) 0 = b.getD j 0 := by simp [List.getD, List.getElem?_append_right (Nat.le_add_right _ _)]
      rw [this, Int.add_assoc]
  rw [List.length_append]
  exact key _ (Nat.le_refl _)
theorem tot_split (p : Fl → Bool) (fl : Nat → Fl) (k j : Nat) : tot p fl (k + j) = tot p fl k + tot p (fun i => fl (k + i)) j := by
  unfold tot
  rw [sel_split, sumZ_app]
theorem totV_bad {all : Bool} {m : ByteArray} {c : Int} {fl : Nat → Fl} {n : Nat} (h : (totV all m c fl n).2 ≠ 0) : (totV all m c fl n).1 = 0 := by
  unfold totV at h ⊢
  split
  · rfl
  · rename_i hc
    rw [if_neg hc] at h
    cases h1 : curOK c
    · rfl
    · rw [h1] at h
      simp only [cond_true] at h ⊢
      cases h2 : fitsI (tot (selP all m c) fl n)
      · rfl
      · rw [h2] at h; exact absurd rfl h
theorem totV_good {all : Bool} {m : ByteArray} {c : Int} {fl : Nat → Fl} {n : Nat} (h : (totV all m c fl n).2 = 0) : (totV all m c fl n).1 = tot (selP all m c) fl n ∧ fitsI (tot (selP all m c) fl n) = true := by
  unfold totV at h ⊢
  split at h
  · rename_i hc; exact absurd h hc
  · rename_i hc
    rw [if_neg hc]
    cases h1 : curOK c
    · rw [h1] at h; simp at h
    · rw [h1] at h
      simp only [cond_true] at h ⊢
      cases h2 : fitsI (tot (selP all m c) fl n)
      · rw [h2] at h; simp at h
      · exact ⟨rfl, rfl⟩
theorem lawParts : ∀ xs, TypedArgs Try.prog 8 Try.f6.params.toList xs → CallOK Try.prog 6 xs (fun r => r = .bool true) := by
  intro xs h
  rw [Try.params6] at h
  obtain ⟨a0, r0, rfl, h0, a1, r1, rfl, h1, a2, r2, rfl, h2, a3, r3, rfl, h3, rfl⟩ := h
  obtain ⟨fl, n, hs, hn, hok⟩ := arg_flows (d := 5) h0
  obtain ⟨at', rfl, hat⟩ := arg_int (d := 7) h1
  obtain ⟨m, rfl, hm⟩ := arg_str (d := 7) h2
  obtain ⟨c, rfl, hc⟩ := arg_int (d := 7) h3
  refine ok_same (.cons hs (.cons (.refl _) (.cons (.refl _) (.cons (.refl _) .nil)))) ?_
  refine okP ?_
  conv => whnf
  repeat ((first | with_reducible refine branch_true rfl ?_ | with_reducible refine branch_false rfl ?_); conv => whnf)
  refine branch_of (fun g1 => ?_) (fun g1 => ?_)
  · conv => whnf
    repeat ((first | with_reducible refine branch_true rfl ?_ | with_reducible refine branch_false rfl ?_); conv => whnf)
    refine call_is goesOK ?_
    conv => whnf
    repeat ((first | with_reducible refine branch_true rfl ?_ | with_reducible refine branch_false rfl ?_); conv => whnf)
  · conv => whnf
    repeat ((first | with_reducible refine branch_true rfl ?_ | with_reducible refine branch_false rfl ?_); conv => whnf)
    have g1 : n ≤ 300 := by have := of_decide_eq_false g1; omega
    obtain ⟨k, hk, hkn⟩ : ∃ k : Nat, (IntKind.u64.wrap at').tmod (IntKind.u64.wrap (IntKind.i64.wrap ((n : Int) + 1))) = (k : Int) ∧ k ≤ n := by
      have e1 : IntKind.u64.wrap (IntKind.i64.wrap ((n : Int) + 1)) = (n : Int) + 1 := by
        rw [wrap64 (by omega)]
        simp [IntKind.wrap, IntKind.signed, IntKind.bits]
        omega
      have e2 : 0 ≤ IntKind.u64.wrap at' := by
        simp [IntKind.wrap, IntKind.signed, IntKind.bits]
        omega
      rw [e1, Int.tmod_eq_emod_of_nonneg e2]
      have q1 := Int.emod_nonneg (IntKind.u64.wrap at') (show (n : Int) + 1 ≠ 0 by omega)
      have q2 := Int.emod_lt_of_pos (IntKind.u64.wrap at') (show (0 : Int) < (n : Int) + 1 by omega)
      exact ⟨(IntKind.u64.wrap at' % ((n : Int) + 1)).toNat, by omega, by omega⟩
    have hb : IntKind.u64.wrap (IntKind.i64.wrap ((n : Int) + 1)) ≠ 0 := by
      rw [wrap64 (by omega)]
      simp [IntKind.wrap, IntKind.signed, IntKind.bits]
      omega
    refine st_rem (kk := .u64) rfl rfl rfl hb hk ?_
    conv => whnf
    repeat ((first | with_reducible refine branch_true rfl ?_ | with_reducible refine branch_false rfl ?_); conv => whnf)
    have hbk : ∀ d, boundOf d (some (.int .i64 (IntKind.i64.wrap (k : Int)))) = some k := fun d => by
      rw [wrap64 (by omega)]
      simp [boundOf]
    refine st_slice (sz := 4) (len := n) (g := fun i => encF (fl i)) (u := 34) (l := 0) (m := k) rfl rfl rfl rfl (hbk n) (Nat.zero_le _) hkn rfl ?_
    conv => whnf
    repeat ((first | with_reducible refine branch_true rfl ?_ | with_reducible refine branch_false rfl ?_); conv => whnf)
    have V1 : CallOK Try.prog 20 [.vec 4 (k - 0) (vsub (zeroElem Try.prog 34) (fun i => encF (fl i)) 0 (k - 0)), .str m, .int .i64 c] (fun r => r = pairV (totV false m c fl k)) :=
      ok_same (.cons (.vec (fun i hi => by rw [vsub_at i hi, Nat.zero_add])) (.cons (.refl _) (.cons (.refl _) .nil))) (flowOf fl k m c)
    refine call_is (v := pairV (totV false m c fl k)) V1 ?_
    conv => whnf
    repeat ((first | with_reducible refine branch_true rfl ?_ | with_reducible refine branch_false rfl ?_); conv => whnf)
    refine st_slice (sz := 4) (len := n) (g := fun i => encF (fl i)) (u := 34) (l := k) (m := n) rfl rfl rfl (hbk 0) rfl hkn (Nat.le_refl _) rfl ?_
    conv => whnf
    repeat ((first | with_reducible refine branch_true rfl ?_ | with_reducible refine branch_false rfl ?_); conv => whnf)
    have V2 : CallOK Try.prog 20 [.vec 4 (n - k) (vsub (zeroElem Try.prog 34) (fun i => encF (fl i)) k (n - k)), .str m, .int .i64 c] (fun r => r = pairV (totV false m c (fun i => fl (k + i)) (n - k))) :=
      ok_same (.cons (.vec (fun i hi => vsub_at i hi)) (.cons (.refl _) (.cons (.refl _) .nil))) (flowOf (fun i => fl (k + i)) (n - k) m c)
    refine call_is (v := pairV (totV false m c (fun i => fl (k + i)) (n - k))) V2 ?_
    conv => whnf
    repeat ((first | with_reducible refine branch_true rfl ?_ | with_reducible refine branch_false rfl ?_); conv => whnf)
    refine call_is (v := pairV (totV false m c fl n)) (flowOf fl n m c) ?_
    have b1 := @totV_bad false m c fl k
    have b2 := @totV_bad false m c (fun i => fl (k + i)) (n - k)
    have b3 := @totV_bad false m c fl n
    have y1 := @totV_good false m c fl k
    have y2 := @totV_good false m c (fun i => fl (k + i)) (n - k)
    have y3 := @totV_good false m c fl n
    have hsp : tot (selP false m c) fl n = tot (selP false m c) fl k + tot (selP false m c) (fun i => fl (k + i)) (n - k) := by
      have := tot_split (selP false m c) fl k (n - k)
      rw [Nat.add_sub_cancel' hkn] at this
      exact this
    generalize totV false m c fl k = v1 at *
    generalize totV false m c (fun i => fl (k + i)) (n - k) = v2 at *
    generalize totV false m c fl n = v3 at *
    conv => whnf
    repeat ((first | with_reducible refine branch_true rfl ?_ | with_reducible refine branch_false rfl ?_); conv => whnf)
    refine branch_of (fun c1 => ?_) (fun c1 => ?_)
    · have c1 : v1.2 ≠ 0 := by simpa using c1
      conv => whnf
      repeat ((first | with_reducible refine branch_true rfl ?_ | with_reducible refine branch_false rfl ?_); conv => whnf)
      refine branch_true (by simp [c1]) ?_
      conv => whnf
      repeat ((first | with_reducible refine branch_true rfl ?_ | with_reducible refine branch_false rfl ?_); conv => whnf)
      refine branch_true (by simp [b1 c1]) ?_
      conv => whnf
      repeat ((first | with_reducible refine branch_true rfl ?_ | with_reducible refine branch_false rfl ?_); conv => whnf)
      refine call_is goesOK ?_
      conv => whnf
      repeat ((first | with_reducible refine branch_true rfl ?_ | with_reducible refine branch_false rfl ?_); conv => whnf)
      rfl
    · have c1 : v1.2 = 0 := by simpa using c1
      conv => whnf
      repeat ((first | with_reducible refine branch_true rfl ?_ | with_reducible refine branch_false rfl ?_); conv => whnf)
      refine branch_of (fun c2 => ?_) (fun c2 => ?_)
      · have c2 : v2.2 ≠ 0 := by simpa using c2
        conv => whnf
        repeat ((first | with_reducible refine branch_true rfl ?_ | with_reducible refine branch_false rfl ?_); conv => whnf)
        refine branch_false (by simp [c1]) ?_
        conv => whnf
        repeat ((first | with_reducible refine branch_true rfl ?_ | with_reducible refine branch_false rfl ?_); conv => whnf)
        refine branch_true (by simp [c2]) ?_
        conv => whnf
        repeat ((first | with_reducible refine branch_true rfl ?_ | with_reducible refine branch_false rfl ?_); conv => whnf)
        refine branch_true (by simp [b2 c2]) ?_
        conv => whnf
        repeat ((first | with_reducible refine branch_true rfl ?_ | with_reducible refine branch_false rfl ?_); conv => whnf)
        refine call_is goesOK ?_
        conv => whnf
        repeat ((first | with_reducible refine branch_true rfl ?_ | with_reducible refine branch_false rfl ?_); conv => whnf)
        rfl
      · have c2 : v2.2 = 0 := by simpa using c2
        conv => whnf
        repeat ((first | with_reducible refine branch_true rfl ?_ | with_reducible refine branch_false rfl ?_); conv => whnf)
        refine branch_of (fun c3 => ?_) (fun c3 => ?_)
        · have c3 : v3.2 ≠ 0 := by simpa using c3
          conv => whnf
          repeat ((first | with_reducible refine branch_true rfl ?_ | with_reducible refine branch_false rfl ?_); conv => whnf)
          refine branch_false (by simp [c1]) ?_
          conv => whnf
          repeat ((first | with_reducible refine branch_true rfl ?_ | with_reducible refine branch_false rfl ?_); conv => whnf)
          refine branch_false (by simp [c2]) ?_
          conv => whnf
          repeat ((first | with_reducible refine branch_true rfl ?_ | with_reducible refine branch_false rfl ?_); conv => whnf)
          refine branch_true (by simp [c3]) ?_
          conv => whnf
          repeat ((first | with_reducible refine branch_true rfl ?_ | with_reducible refine branch_false rfl ?_); conv => whnf)
          refine branch_true (by simp [b3 c3]) ?_
          conv => whnf
          repeat ((first | with_reducible refine branch_true rfl ?_ | with_reducible refine branch_false rfl ?_); conv => whnf)
          refine call_is goesOK ?_
          conv => whnf
          repeat ((first | with_reducible refine branch_true rfl ?_ | with_reducible refine branch_false rfl ?_); conv => whnf)
          rfl
        · have c3 : v3.2 = 0 := by simpa using c3
          obtain ⟨p1, q1⟩ := y1 c1
          obtain ⟨p2, q2⟩ := y2 c2
          obtain ⟨p3, q3⟩ := y3 c3
          have q3' := fitsI_iff.1 q3
          have hw : IntKind.i64.wrap (v1.1 + v2.1) = v3.1 := by rw [p1, p2, p3, ← hsp, wrap64 (by omega)]
          conv => whnf
          repeat ((first | with_reducible refine branch_true rfl ?_ | with_reducible refine branch_false rfl ?_); conv => whnf)
          refine branch_true (by rw [hw]; exact decide_eq_true rfl) ?_
          conv => whnf
          repeat ((first | with_reducible refine branch_true rfl ?_ | with_reducible refine branch_false rfl ?_); conv => whnf)
          refine call_is goesOK ?_
          conv => whnf
          repeat ((first | with_reducible refine branch_true rfl ?_ | with_reducible refine branch_false rfl ?_); conv => whnf)
          rfl
end Go.Proofs

