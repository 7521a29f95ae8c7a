import Derived.Test.YtflebdkgdnfjoaaGreatLS
import Derived.Test.YtflebdkgdnfjoaaGreatAxEnc
set_option linter.unusedVariables false
set_option linter.unusedSimpArgs false
namespace Go.Proofs
open Ax Go
set_option maxRecDepth 10000
def keepCe (f r : Nat) : Option (List Nat) := match f, r with
  | 71, 3 => some [0, 4, 5, 9, 10]
  | 175, 3 => some [0, 4, 5, 6]
  | 394, 3 => some [0, 1, 2, 8, 9, 10]
  | _, _ => none
def keepXCe (f r : Nat) : Option (List Nat) := match f, r with
  | 71, 3 => some [2, 3, 4, 5]
  | 175, 3 => some [2, 3, 4, 5]
  | 394, 3 => some [8, 9]
  | _, _ => none
noncomputable def cxCe : Ctx where
  P := Tryz.prog
  inl := fun f => memN f [309, 375]
  keep := keepCe
  keepX := keepXCe
  xf := fun _ _ _ => false
  ow := fun _ => false
  gh := fun _ _ => []
  gf := fun _ => []
  ln := fun _ => false
  srt := srtT
theorem okCe {f a Q} (h : stepCall (SX Tryz.prog calmT) cxCe calmT f a Q) : CallOK Tryz.prog f a Q := okOf (cx := cxCe) rfl progOK h
theorem wrap_add {a b : Int} (h1 : fitP a) (h2 : fitP b) : IntKind.i64.wrap (a + b) = a + b := wrap64 (by have := fitP_b h1; have := fitP_b h2; omega)
def tup2 (p : Int × Int) : AV := .tup [.int .i64 p.1, .int .i64 p.2]
theorem fits (n : Int) : CallOK Tryz.prog 111 [.int .i64 n] (fun r => r = .bool (decide (fitP n))) := by
  refine okCe ?_
  conv => whnf
  repeat' ((first | with_reducible refine bT rfl ?_ | with_reducible refine bF rfl ?_ | ((first | refine sN ?_ | refine sS ?_ | refine sA ?_ | refine sM ?_ | refine sC ?_); (conv => whnf); refine bT (by first | rfl | exact iR8 _ | exact uNN _ | exact iR (by omega) | exact iR (by rw [hw]; omega) | exact nBlt (by omega) | exact nBle (by omega) | exact roomL (by omega) rfl | exact mkOK (by omega) (by omega) (by omega) rfl | (simp; omega)) ?_) | refine bDt (by omega) ?_ | refine bDf (by omega) ?_ | refine bNt (by omega) ?_ | refine bNf (by omega) ?_ | refine bD (fun _ => ?_) (fun _ => ?_) | refine bN (fun _ => ?_) (fun _ => ?_)) <;> conv => whnf)
  · exact congrArg AV.bool (decide_eq_decide.2 (by unfold fitP; omega))
  · exact congrArg AV.bool (decide_eq_false (by unfold fitP; omega)).symm
theorem refFits (n : Int) : CallOK Tryz.prog 254 [.int .i64 n] (fun r => r = .bool (decide (fitP n))) := by
  refine okCe ?_
  conv => whnf
  repeat' ((first | with_reducible refine bT rfl ?_ | with_reducible refine bF rfl ?_ | ((first | refine sN ?_ | refine sS ?_ | refine sA ?_ | refine sM ?_ | refine sC ?_); (conv => whnf); refine bT (by first | rfl | exact iR8 _ | exact uNN _ | exact iR (by omega) | exact iR (by rw [hw]; omega) | exact nBlt (by omega) | exact nBle (by omega) | exact roomL (by omega) rfl | exact mkOK (by omega) (by omega) (by omega) rfl | (simp; omega)) ?_) | refine bDt (by omega) ?_ | refine bDf (by omega) ?_ | refine bNt (by omega) ?_ | refine bNf (by omega) ?_ | refine bD (fun _ => ?_) (fun _ => ?_) | refine bN (fun _ => ?_) (fun _ => ?_)) <;> conv => whnf)
  · exact congrArg AV.bool (decide_eq_decide.2 (by unfold fitP; omega))
  · exact congrArg AV.bool (decide_eq_false (by unfold fitP; omega)).symm
theorem fitting (n : Int) : CallOK Tryz.prog 169 [.int .i64 n] (fun r => r = tup2 (fitE n)) := by
  refine okCe ?_
  conv => whnf
  repeat' ((first | with_reducible refine bT rfl ?_ | with_reducible refine bF rfl ?_ | ((first | refine sN ?_ | refine sS ?_ | refine sA ?_ | refine sM ?_ | refine sC ?_); (conv => whnf); refine bT (by first | rfl | exact iR8 _ | exact uNN _ | exact iR (by omega) | exact iR (by rw [hw]; omega) | exact nBlt (by omega) | exact nBle (by omega) | exact roomL (by omega) rfl | exact mkOK (by omega) (by omega) (by omega) rfl | (simp; omega)) ?_) | refine bDt (by omega) ?_ | refine bDf (by omega) ?_ | refine bNt (by omega) ?_ | refine bNf (by omega) ?_ | refine call_is (fits _) ?_ | refine bD (fun _ => ?_) (fun _ => ?_) | refine bN (fun _ => ?_) (fun _ => ?_)) <;> conv => whnf)
  all_goals simp_all [tup2, fitE]
theorem add (a b : Int) : CallOK Tryz.prog 201 [.int .i64 a, .int .i64 b] (fun r => r = tup2 (addE a b)) := by
  have e := @wrap_add a b
  refine okCe ?_
  conv => whnf
  repeat' ((first | with_reducible refine bT rfl ?_ | with_reducible refine bF rfl ?_ | ((first | refine sN ?_ | refine sS ?_ | refine sA ?_ | refine sM ?_ | refine sC ?_); (conv => whnf); refine bT (by first | rfl | exact iR8 _ | exact uNN _ | exact iR (by omega) | exact iR (by rw [hw]; omega) | exact nBlt (by omega) | exact nBle (by omega) | exact roomL (by omega) rfl | exact mkOK (by omega) (by omega) (by omega) rfl | (simp; omega)) ?_) | refine bDt (by omega) ?_ | refine bDf (by omega) ?_ | refine bNt (by omega) ?_ | refine bNf (by omega) ?_ | refine call_is (fits _) ?_ | refine call_is (fitting _) ?_ | refine bD (fun _ => ?_) (fun _ => ?_) | refine bN (fun _ => ?_) (fun _ => ?_)) <;> conv => whnf)
  all_goals simp_all [tup2, addE]
theorem refAdd (a b : Int) : CallOK Tryz.prog 295 [.int .i64 a, .int .i64 b] (fun r => r = tup2 (addE a b)) := by
  have e := @wrap_add a b
  refine okCe ?_
  conv => whnf
  repeat' ((first | with_reducible refine bT rfl ?_ | with_reducible refine bF rfl ?_ | ((first | refine sN ?_ | refine sS ?_ | refine sA ?_ | refine sM ?_ | refine sC ?_); (conv => whnf); refine bT (by first | rfl | exact iR8 _ | exact uNN _ | exact iR (by omega) | exact iR (by rw [hw]; omega) | exact nBlt (by omega) | exact nBle (by omega) | exact roomL (by omega) rfl | exact mkOK (by omega) (by omega) (by omega) rfl | (simp; omega)) ?_) | refine bDt (by omega) ?_ | refine bDf (by omega) ?_ | refine bNt (by omega) ?_ | refine bNf (by omega) ?_ | refine call_is (refFits _) ?_ | refine bD (fun _ => ?_) (fun _ => ?_) | refine bN (fun _ => ?_) (fun _ => ?_)) <;> conv => whnf)
  all_goals simp_all [tup2, addE, fitE]
theorem size (n : Int) (h : fitP n) : CallOK Tryz.prog 307 [.int .i64 n] (fun r => r = .int .u64 n.natAbs) := by
  have hb := fitP_b h
  refine okCe ?_
  conv => whnf
  repeat' ((first | with_reducible refine bT rfl ?_ | with_reducible refine bF rfl ?_ | ((first | refine sN ?_ | refine sS ?_ | refine sA ?_ | refine sM ?_ | refine sC ?_); (conv => whnf); refine bT (by first | rfl | exact iR8 _ | exact uNN _ | exact iR (by omega) | exact iR (by rw [hw]; omega) | exact nBlt (by omega) | exact nBle (by omega) | exact roomL (by omega) rfl | exact mkOK (by omega) (by omega) (by omega) rfl | (simp; omega)) ?_) | refine bDt (by omega) ?_ | refine bDf (by omega) ?_ | refine bNt (by omega) ?_ | refine bNf (by omega) ?_ | refine bD (fun _ => ?_) (fun _ => ?_) | refine bN (fun _ => ?_) (fun _ => ?_)) <;> conv => whnf)
  all_goals rw [u_wrapI]
  all_goals try rw [wrap64 (by omega)]
  all_goals congr 1
  all_goals omega
theorem signed (q : Nat) (hq : q < 18446744073709551616) (b : Bool) : CallOK Tryz.prog 310 [.int .u64 q, .bool b] (fun r => r = tup2 (sgnP b q)) := by
  refine okCe ?_
  by_cases h : 1152921504606846976 < q
  · rw [sgnP, if_pos h]
    conv => whnf
    repeat' ((first | with_reducible refine bT rfl ?_ | with_reducible refine bF rfl ?_ | ((first | refine sN ?_ | refine sS ?_ | refine sA ?_ | refine sM ?_ | refine sC ?_); (conv => whnf); refine bT (by first | rfl | exact iR8 _ | exact uNN _ | exact iR (by omega) | exact iR (by rw [hw]; omega) | exact nBlt (by omega) | exact nBle (by omega) | exact roomL (by omega) rfl | exact mkOK (by omega) (by omega) (by omega) rfl | (simp; omega)) ?_) | refine bDt (by omega) ?_ | refine bDf (by omega) ?_ | refine bNt (by omega) ?_ | refine bNf (by omega) ?_ | refine bD (fun _ => ?_) (fun _ => ?_) | refine bN (fun _ => ?_) (fun _ => ?_)) <;> conv => whnf)
    rfl
  · rw [sgnP, if_neg h]
    have e := wrap64 (x := (q : Int)) (by omega)
    have e2 := wrap64 (x := 0 - (q : Int)) (by omega)
    cases b
    · conv => whnf
      repeat' ((first | with_reducible refine bT rfl ?_ | with_reducible refine bF rfl ?_ | ((first | refine sN ?_ | refine sS ?_ | refine sA ?_ | refine sM ?_ | refine sC ?_); (conv => whnf); refine bT (by first | rfl | exact iR8 _ | exact uNN _ | exact iR (by omega) | exact iR (by rw [hw]; omega) | exact nBlt (by omega) | exact nBle (by omega) | exact roomL (by omega) rfl | exact mkOK (by omega) (by omega) (by omega) rfl | (simp; omega)) ?_) | refine bDt (by omega) ?_ | refine bDf (by omega) ?_ | refine bNt (by omega) ?_ | refine bNf (by omega) ?_ | refine bD (fun _ => ?_) (fun _ => ?_) | refine bN (fun _ => ?_) (fun _ => ?_)) <;> conv => whnf)
      simp [tup2, e]
    · conv => whnf
      repeat' ((first | with_reducible refine bT rfl ?_ | with_reducible refine bF rfl ?_ | ((first | refine sN ?_ | refine sS ?_ | refine sA ?_ | refine sM ?_ | refine sC ?_); (conv => whnf); refine bT (by first | rfl | exact iR8 _ | exact uNN _ | exact iR (by omega) | exact iR (by rw [hw]; omega) | exact nBlt (by omega) | exact nBle (by omega) | exact roomL (by omega) rfl | exact mkOK (by omega) (by omega) (by omega) rfl | (simp; omega)) ?_) | refine bDt (by omega) ?_ | refine bDf (by omega) ?_ | refine bNt (by omega) ?_ | refine bNf (by omega) ?_ | refine bD (fun _ => ?_) (fun _ => ?_) | refine bN (fun _ => ?_) (fun _ => ?_)) <;> conv => whnf)
      simp only [tup2, e, e2]
      simp
theorem mul64' {a b : Int} (ha : fitP a) (hb : fitP b) : CallOK Tryz.prog 306 [.int .u64 a.natAbs, .int .u64 b.natAbs] (fun r => r = .tup [.int .u64 (a.natAbs * b.natAbs / 18446744073709551616 : Nat), .int .u64 (a.natAbs * b.natAbs % 18446744073709551616 : Nat)]) :=
  mul64 _ _ (by have := fitP_b ha; omega) (by have := fitP_b hb; omega)
theorem div64p (p y : Nat) (h : p / 18446744073709551616 < y) (hy : y < 18446744073709551616) : CallOK Tryz.prog 308 [.int .u64 (p / 18446744073709551616 : Nat), .int .u64 (p % 18446744073709551616 : Nat), .int .u64 y] (fun r => r = .tup [.int .u64 (p / y : Nat), .int .u64 (p % y : Nat)]) := by
  have e := div64 (p / 18446744073709551616) (p % 18446744073709551616) y h hy (by omega)
  rwa [show p / 18446744073709551616 * 18446744073709551616 + p % 18446744073709551616 = p by omega] at e
theorem signedUp (q : Nat) (hq : q < 18446744073709551615) (b : Bool) : CallOK Tryz.prog 310 [.int .u64 (IntKind.u64.wrap ((q : Int) + 1)), .bool b] (fun r => r = tup2 (sgnP b (q + 1))) := by
  rw [show IntKind.u64.wrap ((q : Int) + 1) = ((q + 1 : Nat) : Int) by rw [u_wrapI]; omega]
  exact signed (q + 1) (by omega) b
set_option maxHeartbeats 4000000 in
theorem mulDiv (a b c mode : Int) : CallOK Tryz.prog 231 [.int .i64 a, .int .i64 b, .int .i64 c, .int .i64 mode] (fun r => r = tup2 (mdE a b c mode)) := by
  refine okCe ?_
  by_cases h : fitP a ∧ fitP b ∧ fitP c ∧ 1 ≤ mode ∧ mode ≤ 5
  · obtain ⟨h1, h2, h3, h4, h5⟩ := h
    have b1 := fitP_b h1
    have b2 := fitP_b h2
    have b3 := fitP_b h3
    rw [mdE, if_neg (by simp [h1, h2, h3, h4, h5])]
    by_cases h0 : c = 0
    · rw [if_pos h0]
      conv => whnf
      repeat' ((first | with_reducible refine bT rfl ?_ | with_reducible refine bF rfl ?_ | ((first | refine sN ?_ | refine sS ?_ | refine sA ?_ | refine sM ?_ | refine sC ?_); (conv => whnf); refine bT (by first | rfl | exact iR8 _ | exact uNN _ | exact iR (by omega) | exact iR (by rw [hw]; omega) | exact nBlt (by omega) | exact nBle (by omega) | exact roomL (by omega) rfl | exact mkOK (by omega) (by omega) (by omega) rfl | (simp; omega)) ?_) | refine bDt (by omega) ?_ | refine bDf (by omega) ?_ | refine bNt (by omega) ?_ | refine bNf (by omega) ?_ | refine call_is (fits _) ?_ | refine bD (fun _ => ?_) (fun _ => ?_) | refine bN (fun _ => ?_) (fun _ => ?_)) <;> conv => whnf)
      all_goals first | rfl | contradiction
    · rw [if_neg h0]
      have hc : 0 < c.natAbs := by omega
      unfold quotP
      have hpb := Nat.mul_le_mul (show a.natAbs ≤ 1152921504606846976 by omega) (show b.natAbs ≤ 1152921504606846976 by omega)
      have hy : c.natAbs < 18446744073709551616 := by omega
      have hm := mul64' h1 h2
      have s1 := size _ h1
      have s2 := size _ h2
      have s3 := size _ h3
      generalize a.natAbs * b.natAbs = p at *
      generalize c.natAbs = y at *
      generalize hβ : belowP a b c = β
      have hdm := Nat.div_add_mod p y
      have hml := Nat.mod_lt p hc
      by_cases hov : y ≤ p / 18446744073709551616
      · have hq : 18446744073709551616 ≤ p / y := by
          rw [Nat.le_div_iff_mul_le hc]
          have := Nat.mul_le_mul (Nat.le_refl 18446744073709551616) hov
          omega
        have hs : sgnP β (if 0 < p % y ∧ awayP mode β (p / y) (p % y) y = true then p / y + 1 else p / y) = (0, 3) := by
          by_cases hx : 0 < p % y ∧ awayP mode β (p / y) (p % y) y = true
          · rw [if_pos hx, sgnP, if_pos (by omega)]
          · rw [if_neg hx, sgnP, if_pos (by omega)]
        rw [hs]
        conv => whnf
        repeat' ((first | with_reducible refine bT rfl ?_ | with_reducible refine bF rfl ?_ | ((first | refine sN ?_ | refine sS ?_ | refine sA ?_ | refine sM ?_ | refine sC ?_); (conv => whnf); refine bT (by first | rfl | exact iR8 _ | exact uNN _ | exact iR (by omega) | exact iR (by rw [hw]; omega) | exact nBlt (by omega) | exact nBle (by omega) | exact roomL (by omega) rfl | exact mkOK (by omega) (by omega) (by omega) rfl | (simp; omega)) ?_) | refine bDt (by omega) ?_ | refine bDf (by omega) ?_ | refine bNt (by omega) ?_ | refine bNf (by omega) ?_ | refine call_is (fits _) ?_ | refine call_is s1 ?_ | refine call_is s2 ?_ | refine call_is s3 ?_ | refine call_is hm ?_ | refine bD (fun _ => ?_) (fun _ => ?_) | refine bN (fun _ => ?_) (fun _ => ?_)) <;> conv => whnf)
        all_goals first | rfl | contradiction
      · have hd := div64p p y (by omega) hy
        generalize p / y = q at *
        generalize p % y = r at *
        by_cases hbig : 1152921504606846976 < q
        · have hs : sgnP β (if 0 < r ∧ awayP mode β q r y = true then q + 1 else q) = (0, 3) := by
            by_cases hx : 0 < r ∧ awayP mode β q r y = true
            · rw [if_pos hx, sgnP, if_pos (by omega)]
            · rw [if_neg hx, sgnP, if_pos (by omega)]
          rw [hs]
          conv => whnf
          repeat' ((first | with_reducible refine bT rfl ?_ | with_reducible refine bF rfl ?_ | ((first | refine sN ?_ | refine sS ?_ | refine sA ?_ | refine sM ?_ | refine sC ?_); (conv => whnf); refine bT (by first | rfl | exact iR8 _ | exact uNN _ | exact iR (by omega) | exact iR (by rw [hw]; omega) | exact nBlt (by omega) | exact nBle (by omega) | exact roomL (by omega) rfl | exact mkOK (by omega) (by omega) (by omega) rfl | (simp; omega)) ?_) | refine bDt (by omega) ?_ | refine bDf (by omega) ?_ | refine bNt (by omega) ?_ | refine bNf (by omega) ?_ | refine call_is (fits _) ?_ | refine call_is s1 ?_ | refine call_is s2 ?_ | refine call_is s3 ?_ | refine call_is hm ?_ | refine call_is hd ?_ | refine bD (fun _ => ?_) (fun _ => ?_) | refine bN (fun _ => ?_) (fun _ => ?_)) <;> conv => whnf)
          all_goals first | rfl | contradiction
        · have g1 := signed q (by omega)
          have hβ' : (!((!(decide (a < 0) == decide (b < 0))) == decide (c < 0))) = β := hβ
          have g2 := signedUp q (by omega)
          have e1 : r ≤ y := by omega
          have e2 : IntKind.u64.wrap ((y : Int) - r) = ((y - r : Nat) : Int) := u_sub e1 hy
          have et : (q : Int).tmod 2 = ((q % 2 : Nat) : Int) := rfl
          rcases (show mode = 1 ∨ mode = 2 ∨ mode = 3 ∨ mode = 4 ∨ mode = 5 by omega) with rfl | rfl | rfl | rfl | rfl
          · conv => whnf
            repeat' ((first | with_reducible refine bT rfl ?_ | with_reducible refine bF rfl ?_ | ((first | refine sN ?_ | refine sS ?_ | refine sA ?_ | refine sM ?_ | refine sC ?_); (conv => whnf); refine bT (by first | rfl | exact iR8 _ | exact uNN _ | exact iR (by omega) | exact iR (by rw [hw]; omega) | exact nBlt (by omega) | exact nBle (by omega) | exact roomL (by omega) rfl | exact mkOK (by omega) (by omega) (by omega) rfl | (simp; omega)) ?_) | refine bDt (by omega) ?_ | refine bDf (by omega) ?_ | refine bNt (by omega) ?_ | refine bNf (by omega) ?_ | refine call_is (fits _) ?_ | refine call_is s1 ?_ | refine call_is s2 ?_ | refine call_is s3 ?_ | refine call_is hm ?_ | refine call_is hd ?_ | refine call_is (g1 _) ?_ | refine call_is (g2 _) ?_ | refine bD (fun _ => ?_) (fun _ => ?_) | refine bN (fun _ => ?_) (fun _ => ?_) | refine bB (fun hb => ?_) (fun hb => ?_)) <;> conv => whnf)
            all_goals rw [hβ']
            all_goals split <;> rename_i hx
            all_goals first | rfl | skip
            all_goals exfalso
            all_goals clear hm hd g1 g2 s1 s2 s3 hpb h1 h2 h3
            all_goals try rw [e2] at *
            all_goals first | (have hz : β = false := by rw [← hβ']; exact congrArg not (beq_iff_eq.2 ‹_ = decide (c < 0)›)) | (have hz : β = true := by rw [← hβ']; have := ‹¬ _ = decide (c < 0)›; exact congrArg not (beq_eq_false_iff_ne.2 this)) | skip
            all_goals try rw [hz] at hx
            all_goals simp [awayP] at hx
            all_goals first | omega | (have hz : (!β) = true := by rw [← hβ']; exact hb) | (have hz : (!β) = false := by rw [← hβ']; exact hb) | skip
            all_goals (simp at hz; rw [hz] at hx; simp at hx)
            all_goals omega
          · conv => whnf
            repeat' ((first | with_reducible refine bT rfl ?_ | with_reducible refine bF rfl ?_ | ((first | refine sN ?_ | refine sS ?_ | refine sA ?_ | refine sM ?_ | refine sC ?_); (conv => whnf); refine bT (by first | rfl | exact iR8 _ | exact uNN _ | exact iR (by omega) | exact iR (by rw [hw]; omega) | exact nBlt (by omega) | exact nBle (by omega) | exact roomL (by omega) rfl | exact mkOK (by omega) (by omega) (by omega) rfl | (simp; omega)) ?_) | refine bDt (by omega) ?_ | refine bDf (by omega) ?_ | refine bNt (by omega) ?_ | refine bNf (by omega) ?_ | refine call_is (fits _) ?_ | refine call_is s1 ?_ | refine call_is s2 ?_ | refine call_is s3 ?_ | refine call_is hm ?_ | refine call_is hd ?_ | refine call_is (g1 _) ?_ | refine call_is (g2 _) ?_ | refine bD (fun _ => ?_) (fun _ => ?_) | refine bN (fun _ => ?_) (fun _ => ?_) | refine bB (fun hb => ?_) (fun hb => ?_)) <;> conv => whnf)
            all_goals rw [hβ']
            all_goals split <;> rename_i hx
            all_goals first | rfl | skip
            all_goals exfalso
            all_goals clear hm hd g1 g2 s1 s2 s3 hpb h1 h2 h3
            all_goals try rw [e2] at *
            all_goals first | (have hz : β = false := by rw [← hβ']; exact congrArg not (beq_iff_eq.2 ‹_ = decide (c < 0)›)) | (have hz : β = true := by rw [← hβ']; have := ‹¬ _ = decide (c < 0)›; exact congrArg not (beq_eq_false_iff_ne.2 this)) | skip
            all_goals try rw [hz] at hx
            all_goals simp [awayP] at hx
            all_goals first | omega | (have hz : (!β) = true := by rw [← hβ']; exact hb) | (have hz : (!β) = false := by rw [← hβ']; exact hb) | skip
            all_goals (simp at hz; rw [hz] at hx; simp at hx)
            all_goals omega
          · conv => whnf
            repeat' ((first | with_reducible refine bT rfl ?_ | with_reducible refine bF rfl ?_ | ((first | refine sN ?_ | refine sS ?_ | refine sA ?_ | refine sM ?_ | refine sC ?_); (conv => whnf); refine bT (by first | rfl | exact iR8 _ | exact uNN _ | exact iR (by omega) | exact iR (by rw [hw]; omega) | exact nBlt (by omega) | exact nBle (by omega) | exact roomL (by omega) rfl | exact mkOK (by omega) (by omega) (by omega) rfl | (simp; omega)) ?_) | refine bDt (by omega) ?_ | refine bDf (by omega) ?_ | refine bNt (by omega) ?_ | refine bNf (by omega) ?_ | refine call_is (fits _) ?_ | refine call_is s1 ?_ | refine call_is s2 ?_ | refine call_is s3 ?_ | refine call_is hm ?_ | refine call_is hd ?_ | refine call_is (g1 _) ?_ | refine call_is (g2 _) ?_ | refine bD (fun _ => ?_) (fun _ => ?_) | refine bN (fun _ => ?_) (fun _ => ?_) | refine bB (fun hb => ?_) (fun hb => ?_)) <;> conv => whnf)
            all_goals rw [hβ']
            all_goals split <;> rename_i hx
            all_goals first | rfl | skip
            all_goals exfalso
            all_goals clear hm hd g1 g2 s1 s2 s3 hpb h1 h2 h3
            all_goals try rw [e2] at *
            all_goals first | (have hz : β = false := by rw [← hβ']; exact congrArg not (beq_iff_eq.2 ‹_ = decide (c < 0)›)) | (have hz : β = true := by rw [← hβ']; have := ‹¬ _ = decide (c < 0)›; exact congrArg not (beq_eq_false_iff_ne.2 this)) | skip
            all_goals try rw [hz] at hx
            all_goals simp [awayP] at hx
            all_goals first | omega | (have hz : (!β) = true := by rw [← hβ']; exact hb) | (have hz : (!β) = false := by rw [← hβ']; exact hb) | skip
            all_goals (simp at hz; rw [hz] at hx; simp at hx)
            all_goals omega
          · conv => whnf
            repeat' ((first | with_reducible refine bT rfl ?_ | with_reducible refine bF rfl ?_ | ((first | refine sN ?_ | refine sS ?_ | refine sA ?_ | refine sM ?_ | refine sC ?_); (conv => whnf); refine bT (by first | rfl | exact iR8 _ | exact uNN _ | exact iR (by omega) | exact iR (by rw [hw]; omega) | exact nBlt (by omega) | exact nBle (by omega) | exact roomL (by omega) rfl | exact mkOK (by omega) (by omega) (by omega) rfl | (simp; omega)) ?_) | refine bDt (by omega) ?_ | refine bDf (by omega) ?_ | refine bNt (by omega) ?_ | refine bNf (by omega) ?_ | refine call_is (fits _) ?_ | refine call_is s1 ?_ | refine call_is s2 ?_ | refine call_is s3 ?_ | refine call_is hm ?_ | refine call_is hd ?_ | refine call_is (g1 _) ?_ | refine call_is (g2 _) ?_ | refine bD (fun _ => ?_) (fun _ => ?_) | refine bN (fun _ => ?_) (fun _ => ?_) | refine bB (fun hb => ?_) (fun hb => ?_)) <;> conv => whnf)
            all_goals rw [hβ']
            all_goals split <;> rename_i hx
            all_goals first | rfl | skip
            all_goals exfalso
            all_goals clear hm hd g1 g2 s1 s2 s3 hpb h1 h2 h3
            all_goals try rw [e2] at *
            all_goals first | (have hz : β = false := by rw [← hβ']; exact congrArg not (beq_iff_eq.2 ‹_ = decide (c < 0)›)) | (have hz : β = true := by rw [← hβ']; have := ‹¬ _ = decide (c < 0)›; exact congrArg not (beq_eq_false_iff_ne.2 this)) | skip
            all_goals try rw [hz] at hx
            all_goals simp [awayP] at hx
            all_goals first | omega | (have hz : (!β) = true := by rw [← hβ']; exact hb) | (have hz : (!β) = false := by rw [← hβ']; exact hb) | skip
            all_goals (simp at hz; rw [hz] at hx; simp at hx)
            all_goals omega
          · conv => whnf
            repeat' ((first | with_reducible refine bT rfl ?_ | with_reducible refine bF rfl ?_ | ((first | refine sN ?_ | refine sS ?_ | refine sA ?_ | refine sM ?_ | refine sC ?_); (conv => whnf); refine bT (by first | rfl | exact iR8 _ | exact uNN _ | exact iR (by omega) | exact iR (by rw [hw]; omega) | exact nBlt (by omega) | exact nBle (by omega) | exact roomL (by omega) rfl | exact mkOK (by omega) (by omega) (by omega) rfl | (simp; omega)) ?_) | refine bDt (by omega) ?_ | refine bDf (by omega) ?_ | refine bNt (by omega) ?_ | refine bNf (by omega) ?_ | refine call_is (fits _) ?_ | refine call_is s1 ?_ | refine call_is s2 ?_ | refine call_is s3 ?_ | refine call_is hm ?_ | refine call_is hd ?_ | refine call_is (g1 _) ?_ | refine call_is (g2 _) ?_ | refine bD (fun _ => ?_) (fun _ => ?_) | refine bN (fun _ => ?_) (fun _ => ?_) | refine bB (fun hb => ?_) (fun hb => ?_)) <;> conv => whnf)
            all_goals rw [hβ']
            all_goals split <;> rename_i hx
            all_goals first | rfl | skip
            all_goals exfalso
            all_goals clear hm hd g1 g2 s1 s2 s3 hpb h1 h2 h3
            all_goals try rw [e2] at *
            all_goals first | (have hz : β = false := by rw [← hβ']; exact congrArg not (beq_iff_eq.2 ‹_ = decide (c < 0)›)) | (have hz : β = true := by rw [← hβ']; have := ‹¬ _ = decide (c < 0)›; exact congrArg not (beq_eq_false_iff_ne.2 this)) | skip
            all_goals try rw [hz] at hx
            all_goals simp [awayP] at hx
            all_goals first | omega | (have hz : (!β) = true := by rw [← hβ']; exact hb) | (have hz : (!β) = false := by rw [← hβ']; exact hb) | skip
            all_goals (simp at hz; rw [hz] at hx; simp at hx)
            all_goals omega
  · rw [mdE, if_pos h]
    conv => whnf
    repeat' ((first | with_reducible refine bT rfl ?_ | with_reducible refine bF rfl ?_ | ((first | refine sN ?_ | refine sS ?_ | refine sA ?_ | refine sM ?_ | refine sC ?_); (conv => whnf); refine bT (by first | rfl | exact iR8 _ | exact uNN _ | exact iR (by omega) | exact iR (by rw [hw]; omega) | exact nBlt (by omega) | exact nBle (by omega) | exact roomL (by omega) rfl | exact mkOK (by omega) (by omega) (by omega) rfl | (simp; omega)) ?_) | refine bDt (by omega) ?_ | refine bDf (by omega) ?_ | refine bNt (by omega) ?_ | refine bNf (by omega) ?_ | refine call_is (fits _) ?_ | refine bD (fun _ => ?_) (fun _ => ?_) | refine bN (fun _ => ?_) (fun _ => ?_)) <;> conv => whnf)
    all_goals first | rfl | (exfalso; exact h ⟨by assumption, by assumption, by assumption, by omega, by omega⟩)
end Go.Proofs


set_option linter.unusedVariables false
set_option linter.unusedSimpArgs false
namespace Go.Proofs
open Ax Go
set_option maxRecDepth 10000
theorem fit_get {l : List Int} (h : ∀ x ∈ l, fitP x) {i : Nat} (hi : i < l.length) : fitP (l.getD i 0) := h _ (Enc.get_mem (E := EI) hi)
theorem fit_step {l : List Int} {i : Nat} (h : ∀ x ∈ l.take i, fitP x) (hi : i < l.length) (hx : fitP (l.getD i 0)) : ∀ x ∈ l.take (i + 1), fitP x := by
  rw [Enc.take_succ (E := EI) hi]
  intro x hm
  rcases List.mem_append.1 hm with h1 | h1
  · exact h x h1
  · rw [List.mem_singleton.1 h1]; exact hx
theorem take_all {l : List Int} {i : Nat} (hi : l.length ≤ i) : l.take i = l := List.take_of_length_le hi
theorem sumE_ok {l : List Int} (h : ∀ x ∈ l, fitP x) : sumE l = fitE l.sum := by rw [sumE, if_pos h]
theorem sumE_bad {l : List Int} {i : Nat} (hi : i < l.length) (hx : ¬ fitP (l.getD i 0)) : sumE l = (0, 2) := by rw [sumE, if_neg fun h => hx (fit_get h hi)]
theorem st5 {v w : AV} {a a' b b' c c' : Int} (h1 : a = a') (h2 : b = b') (h3 : c = c') : St.mk [(0, v), (4, .int .i64 a), (5, .int .i64 b), (9, w), (10, .int .i64 c)] [] [] none = St.mk [(0, v), (4, .int .i64 a'), (5, .int .i64 b'), (9, w), (10, .int .i64 c')] [] [] none := by
  subst h1; subst h2; subst h3; rfl
set_option maxHeartbeats 4000000 in
theorem sum (l : List Int) (hl : l.length ≤ 1073741824) : CallOK Tryz.prog 71 [EI.L l] (fun r => r = tup2 (sumE l)) := by
  refine okCe ?_
  conv => whnf
  repeat ((first | with_reducible refine bT rfl ?_ | with_reducible refine bF rfl ?_ | ((first | refine sN ?_ | refine sS ?_ | refine sA ?_ | refine sM ?_ | refine sC ?_); (conv => whnf); refine bT (by first | rfl | exact iR8 _ | exact uNN _ | exact iR (by omega) | exact iR (by rw [hw]; omega) | exact nBlt (by omega) | exact nBle (by omega) | exact roomL (by omega) rfl | exact mkOK (by omega) (by omega) (by omega) rfl | (simp; omega)) ?_) | refine bDt (by omega) ?_ | refine bDf (by omega) ?_ | refine bNt (by omega) ?_ | refine bNf (by omega) ?_); conv => whnf)
  refine loop_by (cx := cxCe) rfl progOK (ι := {i : Nat // i ≤ l.length ∧ ∀ x ∈ l.take i, fitP x}) (fun i => l.length - i.1) (fun i => ⟨[(0, EI.L l), (4, .int .i64 (hi32 (l.take i.1))), (5, .int .i64 (lo32 (l.take i.1))), (9, .int .i64 l.length), (10, .int .i64 i.1)], [], [], none⟩) ?_ ⟨0, Nat.zero_le _, by simp⟩
  rintro ⟨i, hi, hf⟩ ih
  dsimp only
  have hb1 := hi32_b hf
  have hb2 := lo32_b (l.take i)
  have ht : (l.take i).length = i := List.length_take_of_le hi
  rw [ht] at hb1 hb2
  by_cases hlt : i < l.length
  · have ft := Enc.take_succ (E := EI) hlt
    by_cases hx : fitP (l.getD i 0)
    · have hxb := fitP_b hx
      conv => whnf
      repeat' ((first | with_reducible refine bT rfl ?_ | with_reducible refine bF rfl ?_ | ((first | refine sN ?_ | refine sS ?_ | refine sA ?_ | refine sM ?_ | refine sC ?_); (conv => whnf); refine bT (by first | rfl | exact iR8 _ | exact uNN _ | exact iR (by omega) | exact iR (by rw [hw]; omega) | exact nBlt (by omega) | exact nBle (by omega) | exact roomL (by omega) rfl | exact mkOK (by omega) (by omega) (by omega) rfl | (simp; omega)) ?_) | refine bDt (by omega) ?_ | refine bDf (by omega) ?_ | refine bNt (by omega) ?_ | refine bNf (by omega) ?_ | refine call_is (fits _) ?_ | refine bNf hx ?_ | refine loop_to ih ⟨i + 1, hlt, fit_step hf hlt hx⟩ (show l.length - (i+1) < l.length - i by omega) ?_ | refine bD (fun _ => ?_) (fun _ => ?_) | refine bN (fun _ => ?_) (fun _ => ?_)) <;> conv => whnf)
      have e1 : IntKind.i64.wrap (hi32 (l.take i) + (l.getD i 0).fdiv (2 ^ min (Int.toNat 32) IntKind.i64.bits)) = hi32 (l.take (i + 1)) := by
        rw [shr32, wrap64 (by omega), ft, hi32_app]; rfl
      have e2 : IntKind.i64.wrap (lo32 (l.take i) + IntKind.i64.wrap ((BitVec.ofInt 64 (l.getD i 0) &&& BitVec.ofInt 64 4294967295).toNat : Int)) = lo32 (l.take (i + 1)) := by
        rw [mask32, wrap64 (by omega), ft, lo32_app]; rfl
      exact st5 e1 e2 (next_i hlt (by omega))
    · rw [sumE_bad hlt hx]
      conv => whnf
      repeat' ((first | with_reducible refine bT rfl ?_ | with_reducible refine bF rfl ?_ | ((first | refine sN ?_ | refine sS ?_ | refine sA ?_ | refine sM ?_ | refine sC ?_); (conv => whnf); refine bT (by first | rfl | exact iR8 _ | exact uNN _ | exact iR (by omega) | exact iR (by rw [hw]; omega) | exact nBlt (by omega) | exact nBle (by omega) | exact roomL (by omega) rfl | exact mkOK (by omega) (by omega) (by omega) rfl | (simp; omega)) ?_) | refine bDt (by omega) ?_ | refine bDf (by omega) ?_ | refine bNt (by omega) ?_ | refine bNf (by omega) ?_ | refine call_is (fits _) ?_ | refine bNt hx ?_ | refine bD (fun _ => ?_) (fun _ => ?_) | refine bN (fun _ => ?_) (fun _ => ?_)) <;> conv => whnf)
      rfl
  · obtain rfl : i = l.length := by omega
    rw [take_all (Nat.le_refl _)] at hf hb1 hb2
    rw [sumE_ok hf, take_all (Nat.le_refl _)]
    have hs := parts32 l
    have e1 : IntKind.i64.wrap (hi32 l + (lo32 l).fdiv (2 ^ min (Int.toNat 32) IntKind.i64.bits)) = hi32 l + lo32 l / 4294967296 := by rw [shr32, wrap64 (by omega)]
    by_cases hb : -268435456 ≤ hi32 l + lo32 l / 4294967296 ∧ hi32 l + lo32 l / 4294967296 ≤ 268435456
    · have e3 : IntKind.i64.wrap (IntKind.i64.wrap (IntKind.i64.wrap (hi32 l + (lo32 l).fdiv (2 ^ min (Int.toNat 32) IntKind.i64.bits)) * 2 ^ min (Int.toNat 32) IntKind.i64.bits) + IntKind.i64.wrap ((BitVec.ofInt 64 (lo32 l) &&& BitVec.ofInt 64 4294967295).toNat : Int)) = l.sum := by
        rw [e1, mask32, show ((2 : Int) ^ min (Int.toNat 32) IntKind.i64.bits) = 4294967296 by decide, wrap64 (x := _ * _) (by clear e1; omega), wrap64 (by clear e1; omega)]
        clear e1
        omega
      conv => whnf
      repeat' ((first | with_reducible refine bT rfl ?_ | with_reducible refine bF rfl ?_ | ((first | refine sN ?_ | refine sS ?_ | refine sA ?_ | refine sM ?_ | refine sC ?_); (conv => whnf); refine bT (by first | rfl | exact iR8 _ | exact uNN _ | exact iR (by omega) | exact iR (by rw [hw]; omega) | exact nBlt (by omega) | exact nBle (by omega) | exact roomL (by omega) rfl | exact mkOK (by omega) (by omega) (by omega) rfl | (simp; omega)) ?_) | refine bDt (by omega) ?_ | refine bDf (by omega) ?_ | refine bNt (by omega) ?_ | refine bNf (by omega) ?_ | refine call_is (fitting _) ?_ | refine bDf (by rw [e1]; show ¬ _ < (-268435456 : Int); omega) ?_ | refine bDf (by rw [e1]; omega) ?_ | refine bD (fun _ => ?_) (fun _ => ?_) | refine bN (fun _ => ?_) (fun _ => ?_)) <;> conv => whnf)
      exact congrArg (fun x => tup2 (fitE x)) e3
    · rw [show fitE l.sum = (0, 3) by rw [fitE, if_neg (fun q => by have := fitP_b q; omega)]]
      rcases (show hi32 l + lo32 l / 4294967296 < -268435456 ∨ 268435456 < hi32 l + lo32 l / 4294967296 by omega) with h | h
      · conv => whnf
        repeat' ((first | with_reducible refine bT rfl ?_ | with_reducible refine bF rfl ?_ | ((first | refine sN ?_ | refine sS ?_ | refine sA ?_ | refine sM ?_ | refine sC ?_); (conv => whnf); refine bT (by first | rfl | exact iR8 _ | exact uNN _ | exact iR (by omega) | exact iR (by rw [hw]; omega) | exact nBlt (by omega) | exact nBle (by omega) | exact roomL (by omega) rfl | exact mkOK (by omega) (by omega) (by omega) rfl | (simp; omega)) ?_) | refine bDt (by omega) ?_ | refine bDf (by omega) ?_ | refine bNt (by omega) ?_ | refine bNf (by omega) ?_ | refine bDt (by rw [e1]; exact h) ?_ | refine bD (fun _ => ?_) (fun _ => ?_) | refine bN (fun _ => ?_) (fun _ => ?_)) <;> conv => whnf)
        rfl
      · conv => whnf
        repeat' ((first | with_reducible refine bT rfl ?_ | with_reducible refine bF rfl ?_ | ((first | refine sN ?_ | refine sS ?_ | refine sA ?_ | refine sM ?_ | refine sC ?_); (conv => whnf); refine bT (by first | rfl | exact iR8 _ | exact uNN _ | exact iR (by omega) | exact iR (by rw [hw]; omega) | exact nBlt (by omega) | exact nBle (by omega) | exact roomL (by omega) rfl | exact mkOK (by omega) (by omega) (by omega) rfl | (simp; omega)) ?_) | refine bDt (by omega) ?_ | refine bDf (by omega) ?_ | refine bNt (by omega) ?_ | refine bNf (by omega) ?_ | refine bDf (by rw [e1]; show ¬ _ < (-268435456 : Int); omega) ?_ | refine bDt (by rw [e1]; exact h) ?_ | refine bD (fun _ => ?_) (fun _ => ?_) | refine bN (fun _ => ?_) (fun _ => ?_)) <;> conv => whnf)
        rfl
theorem st4 {v : AV} {a a' b b' c c' : Int} (h1 : a = a') (h2 : b = b') (h3 : c = c') : St.mk [(0, v), (4, .int .i64 a), (5, .int .i64 b), (6, .int .i64 c)] [] [] none = St.mk [(0, v), (4, .int .i64 a'), (5, .int .i64 b'), (6, .int .i64 c')] [] [] none := by
  subst h1; subst h2; subst h3; rfl
set_option maxHeartbeats 4000000 in
theorem refSum (l : List Int) (hl : l.length ≤ 1073741824) : CallOK Tryz.prog 175 [EI.L l] (fun r => r = tup2 (sumE l)) := by
  refine okCe ?_
  conv => whnf
  repeat ((first | with_reducible refine bT rfl ?_ | with_reducible refine bF rfl ?_ | ((first | refine sN ?_ | refine sS ?_ | refine sA ?_ | refine sM ?_ | refine sC ?_); (conv => whnf); refine bT (by first | rfl | exact iR8 _ | exact uNN _ | exact iR (by omega) | exact iR (by rw [hw]; omega) | exact nBlt (by omega) | exact nBle (by omega) | exact roomL (by omega) rfl | exact mkOK (by omega) (by omega) (by omega) rfl | (simp; omega)) ?_) | refine bDt (by omega) ?_ | refine bDf (by omega) ?_ | refine bNt (by omega) ?_ | refine bNf (by omega) ?_); conv => whnf)
  refine loop_by (cx := cxCe) rfl progOK (ι := {i : Nat // i ≤ l.length ∧ ∀ x ∈ l.take i, fitP x}) (fun i => l.length - i.1) (fun i => ⟨[(0, EI.L l), (4, .int .i64 (hi30 (l.take i.1))), (5, .int .i64 (lo30 (l.take i.1))), (6, .int .i64 i.1)], [], [], none⟩) ?_ ⟨0, Nat.zero_le _, by simp⟩
  rintro ⟨i, hi, hf⟩ ih
  dsimp only
  have hb1 := hi30_b hf
  have hb2 := lo30_b (l.take i)
  have ht : (l.take i).length = i := List.length_take_of_le hi
  rw [ht] at hb1 hb2
  by_cases hlt : i < l.length
  · have ft := Enc.take_succ (E := EI) hlt
    by_cases hx : fitP (l.getD i 0)
    · have hxb := fitP_b hx
      have hxt := tparts (l.getD i 0)
      conv => whnf
      repeat' ((first | with_reducible refine bT rfl ?_ | with_reducible refine bF rfl ?_ | ((first | refine sN ?_ | refine sS ?_ | refine sA ?_ | refine sM ?_ | refine sC ?_); (conv => whnf); refine bT (by first | rfl | exact iR8 _ | exact uNN _ | exact iR (by omega) | exact iR (by rw [hw]; omega) | exact nBlt (by omega) | exact nBle (by omega) | exact roomL (by omega) rfl | exact mkOK (by omega) (by omega) (by omega) rfl | (simp; omega)) ?_) | refine bDt (by omega) ?_ | refine bDf (by omega) ?_ | refine bNt (by omega) ?_ | refine bNf (by omega) ?_ | refine call_is (refFits _) ?_ | refine bNf hx ?_ | refine loop_to ih ⟨i + 1, hlt, fit_step hf hlt hx⟩ (show l.length - (i+1) < l.length - i by omega) ?_ | refine bD (fun _ => ?_) (fun _ => ?_) | refine bN (fun _ => ?_) (fun _ => ?_)) <;> conv => whnf)
      have e0 : IntKind.i64.wrap ((l.getD i 0).tdiv 1073741824) = (l.getD i 0).tdiv 1073741824 := wrap64 (by omega)
      have e1 : IntKind.i64.wrap (hi30 (l.take i) + IntKind.i64.wrap ((l.getD i 0).tdiv 1073741824)) = hi30 (l.take (i + 1)) := by
        rw [e0, wrap64 (by omega), ft, hi30_app]; rfl
      have e2 : IntKind.i64.wrap (lo30 (l.take i) + (l.getD i 0).tmod 1073741824) = lo30 (l.take (i + 1)) := by
        rw [wrap64 (by omega), ft, lo30_app]; rfl
      exact st4 e1 e2 (next_i hlt (by omega))
    · rw [sumE_bad hlt hx]
      conv => whnf
      repeat' ((first | with_reducible refine bT rfl ?_ | with_reducible refine bF rfl ?_ | ((first | refine sN ?_ | refine sS ?_ | refine sA ?_ | refine sM ?_ | refine sC ?_); (conv => whnf); refine bT (by first | rfl | exact iR8 _ | exact uNN _ | exact iR (by omega) | exact iR (by rw [hw]; omega) | exact nBlt (by omega) | exact nBle (by omega) | exact roomL (by omega) rfl | exact mkOK (by omega) (by omega) (by omega) rfl | (simp; omega)) ?_) | refine bDt (by omega) ?_ | refine bDf (by omega) ?_ | refine bNt (by omega) ?_ | refine bNf (by omega) ?_ | refine call_is (refFits _) ?_ | refine bNt hx ?_ | refine bD (fun _ => ?_) (fun _ => ?_) | refine bN (fun _ => ?_) (fun _ => ?_)) <;> conv => whnf)
      rfl
  · obtain rfl : i = l.length := by omega
    rw [take_all (Nat.le_refl _)] at hf hb1 hb2
    rw [sumE_ok hf, take_all (Nat.le_refl _)]
    have hs := parts30 l
    have hlt := tparts (lo30 l)
    clear ih
    have e0 : IntKind.i64.wrap ((lo30 l).tdiv 1073741824) = (lo30 l).tdiv 1073741824 := wrap64 (by omega)
    have e1 : IntKind.i64.wrap (hi30 l + (lo30 l).tdiv 1073741824) = hi30 l + (lo30 l).tdiv 1073741824 := wrap64 (by omega)
    conv => whnf
    repeat' ((first | with_reducible refine bT rfl ?_ | with_reducible refine bF rfl ?_ | ((first | refine sN ?_ | refine sS ?_ | refine sA ?_ | refine sM ?_ | refine sC ?_); (conv => whnf); refine bT (by first | rfl | exact iR8 _ | exact uNN _ | exact iR (by omega) | exact iR (by rw [hw]; omega) | exact nBlt (by omega) | exact nBle (by omega) | exact roomL (by omega) rfl | exact mkOK (by omega) (by omega) (by omega) rfl | (simp; omega)) ?_) | refine bDt (by omega) ?_ | refine bDf (by omega) ?_ | refine bNt (by omega) ?_ | refine bNf (by omega) ?_ | refine call_is (refFits _) ?_ | refine bD (fun _ => ?_) (fun _ => ?_) | refine bN (fun _ => ?_) (fun _ => ?_)) <;> conv => whnf)
    all_goals simp only [e0, e1] at *
    · rw [fitE, if_neg (fun q => by have := fitP_b q; omega)]; rfl
    · rw [fitE, if_neg (fun q => by have := fitP_b q; omega)]; rfl
    all_goals obtain e2 : IntKind.i64.wrap (IntKind.i64.wrap ((hi30 l + (lo30 l).tdiv 1073741824) * 1073741824) + (lo30 l).tmod 1073741824) = l.sum := (by rw [wrap64 (x := _ * _) (by omega), wrap64 (by omega)]; omega)
    · rename_i hx; rw [e2] at hx; rw [fitE, if_neg hx]; rfl
    · rename_i hx; rw [e2] at hx ⊢; rw [fitE, if_pos hx]; rfl
theorem refSize (n : Int) (h : fitP n) : CallOK Tryz.prog 393 [.int .i64 n] (fun r => r = .int .i64 n.natAbs) := by
  have hb := fitP_b h
  refine okCe ?_
  conv => whnf
  repeat' ((first | with_reducible refine bT rfl ?_ | with_reducible refine bF rfl ?_ | ((first | refine sN ?_ | refine sS ?_ | refine sA ?_ | refine sM ?_ | refine sC ?_); (conv => whnf); refine bT (by first | rfl | exact iR8 _ | exact uNN _ | exact iR (by omega) | exact iR (by rw [hw]; omega) | exact nBlt (by omega) | exact nBle (by omega) | exact roomL (by omega) rfl | exact mkOK (by omega) (by omega) (by omega) rfl | (simp; omega)) ?_) | refine bDt (by omega) ?_ | refine bDf (by omega) ?_ | refine bNt (by omega) ?_ | refine bNf (by omega) ?_ | refine bD (fun _ => ?_) (fun _ => ?_) | refine bN (fun _ => ?_) (fun _ => ?_)) <;> conv => whnf)
  all_goals try rw [wrap64 (by omega)]
  all_goals congr 1
  all_goals omega
theorem refQuot (a b c : Nat) (ha : a ≤ 1152921504606846976) (hb : b ≤ 1152921504606846976) (hc : 0 < c) (hc' : c ≤ 1152921504606846976) : CallOK Tryz.prog 394 [.int .i64 a, .int .i64 b, .int .i64 c] (fun r => ∃ q : Nat, r = .tup [.int .i64 q, .int .i64 (a * b % c : Nat)] ∧ q ≤ 2305843009213693952 ∧ (q = a * b / c ∨ 1152921504606846976 < q ∧ 1152921504606846976 < a * b / c)) := by
  refine okCe ?_
  conv => whnf
  repeat ((first | with_reducible refine bT rfl ?_ | with_reducible refine bF rfl ?_ | ((first | refine sN ?_ | refine sS ?_ | refine sA ?_ | refine sM ?_ | refine sC ?_); (conv => whnf); refine bT (by first | rfl | exact iR8 _ | exact uNN _ | exact iR (by omega) | exact iR (by rw [hw]; omega) | exact nBlt (by omega) | exact nBle (by omega) | exact roomL (by omega) rfl | exact mkOK (by omega) (by omega) (by omega) rfl | (simp; omega)) ?_) | refine bDt (by omega) ?_ | refine bDf (by omega) ?_ | refine bNt (by omega) ?_ | refine bNf (by omega) ?_); conv => whnf)
  have e60 : (2 : Nat) ^ 61 = 2305843009213693952 := by decide
  have ea : a / 2 ^ 61 = 0 := Nat.div_eq_of_lt (by omega)
  refine loop_start (st' := (⟨[(0, .int .i64 a), (1, .int .i64 b), (2, .int .i64 c), (8, .int .i64 (0 : Nat)), (9, .int .i64 (a / 2 ^ 61 * b % c : Nat)), (10, .int .i64 (((61 : Nat) : Int) - 1))], [], [], none⟩ : St)) (by rw [ea, Nat.zero_mul, Nat.zero_mod]; rfl) ?_
  refine loop_by (cx := cxCe) rfl progOK (ι := {p : Nat × Nat // p.1 ≤ 61 ∧ (p.2 = a / 2 ^ p.1 * b / c ∨ p.2 = 2305843009213693952 ∧ 2305843009213693952 ≤ a / 2 ^ p.1 * b / c) ∧ p.2 ≤ 2305843009213693952}) (fun p => p.1.1) (fun p => ⟨[(0, .int .i64 a), (1, .int .i64 b), (2, .int .i64 c), (8, .int .i64 p.1.2), (9, .int .i64 (a / 2 ^ p.1.1 * b % c : Nat)), (10, .int .i64 ((p.1.1 : Int) - 1))], [], [], none⟩) ?_ ⟨(61, 0), Nat.le_refl _, by left; rw [ea, Nat.zero_mul, Nat.zero_div], by omega⟩
  rintro ⟨⟨k, q⟩, hk, hq, hq2⟩ ih
  dsimp only at hk hq hq2 ⊢
  cases k with
  | zero =>
    conv => whnf
    repeat' ((first | with_reducible refine bT rfl ?_ | with_reducible refine bF rfl ?_ | ((first | refine sN ?_ | refine sS ?_ | refine sA ?_ | refine sM ?_ | refine sC ?_); (conv => whnf); refine bT (by first | rfl | exact iR8 _ | exact uNN _ | exact iR (by omega) | exact iR (by rw [hw]; omega) | exact nBlt (by omega) | exact nBle (by omega) | exact roomL (by omega) rfl | exact mkOK (by omega) (by omega) (by omega) rfl | (simp; omega)) ?_) | refine bDt (by omega) ?_ | refine bDf (by omega) ?_ | refine bNt (by omega) ?_ | refine bNf (by omega) ?_ | refine bD (fun _ => ?_) (fun _ => ?_) | refine bN (fun _ => ?_) (fun _ => ?_)) <;> conv => whnf)
    rw [Nat.pow_zero, Nat.div_one] at hq ⊢
    refine ⟨q, rfl, hq2, ?_⟩
    omega
  | succ j =>
    obtain ⟨n1, n2⟩ := quot_next a b j hc
    have hr := Nat.mod_lt (a / 2 ^ (j + 1) * b) hc
    have hr2 := Nat.mod_lt (a / 2 ^ j * b) hc
    have hj : ((j + 1 : Nat) : Int) - 1 = (j : Nat) := by omega
    rw [hj]
    have eb : ((a : Int).fdiv (2 ^ min (Int.toNat (IntKind.u64.wrap (j : Int))) IntKind.i64.bits)).tmod 2 = ((a / 2 ^ j % 2 : Nat) : Int) := by
      rw [u_wrap_lt (by omega), Int.toNat_natCast, show IntKind.i64.bits = 64 from rfl, Nat.min_eq_left (show j ≤ 64 by omega), Int.fdiv_eq_ediv_of_nonneg _ (Int.le_of_lt (Int.pow_pos (by decide))), show (2 : Int) ^ j = ((2 ^ j : Nat) : Int) from (Int.natCast_pow 2 j).symm, ← Int.natCast_ediv]
      rfl
    have hbit := Nat.mod_two_eq_zero_or_one (a / 2 ^ j)
    obtain ⟨Q, hQ⟩ : ∃ x, a / 2 ^ (j + 1) * b / c = x := ⟨_, rfl⟩
    obtain ⟨r, hR⟩ : ∃ x, a / 2 ^ (j + 1) * b % c = x := ⟨_, rfl⟩
    rw [hQ] at hq n1
    rw [hR] at n1 n2 hr ⊢
    have e1 : IntKind.i64.wrap (2 * (r : Int)) = ((2 * r : Nat) : Int) := by rw [wrap64 (by omega)]; omega
    have e2 : IntKind.i64.wrap (((2 * r : Nat) : Int) + b) = ((2 * r + b : Nat) : Int) := by rw [wrap64 (by omega)]; omega
    have e3 (x : Nat) (hx : x < 9223372036854775808) : IntKind.i64.wrap ((x : Int).tdiv c) = ((x / c : Nat) : Int) := by
      rw [show (x : Int).tdiv c = ((x / c : Nat) : Int) from rfl, wrap64 (by have := Nat.div_le_self x c; generalize x / c = d at *; omega)]
    have e5 : IntKind.i64.wrap (2 * (q : Int)) = ((2 * q : Nat) : Int) := by rw [wrap64 (by omega)]; omega
    have e6 (x : Nat) (hx : x < 2305843009213693952) : IntKind.i64.wrap (((2 * q : Nat) : Int) + (x : Nat)) = ((2 * q + x : Nat) : Int) := by rw [wrap64 (by omega)]; omega
    have d2 : 2 * r / c < 2305843009213693952 := by
      have : 2 * r / c < 2 := Nat.div_lt_of_lt_mul (by omega)
      omega
    have d3 : (2 * r + b) / c < 2305843009213693952 := by
      have : (2 * r + b) / c ≤ (2 * r) / c + b := by
        have := Nat.div_le_div_right (c := c) (show 2 * r + b ≤ 2 * r + b * c by have := Nat.le_mul_of_pos_right b hc; omega)
        rw [Nat.add_mul_div_right _ _ hc] at this
        exact this
      have : 2 * r / c < 2 := Nat.div_lt_of_lt_mul (by omega)
      omega
    rcases hbit with hbit | hbit
    · rw [hbit] at n1 n2 eb
      rw [Nat.zero_mul, Nat.add_zero] at n1 n2
      have e7 := e3 (2 * r) (by omega)
      have e8 := e6 _ d2
      by_cases hcap : 2305843009213693952 < 2 * q + 2 * r / c
      · conv => whnf
        repeat' ((first | with_reducible refine bT rfl ?_ | with_reducible refine bF rfl ?_ | ((first | refine sN ?_ | refine sS ?_ | refine sA ?_ | refine sM ?_ | refine sC ?_); (conv => whnf); refine bT (by first | rfl | exact iR8 _ | exact uNN _ | exact iR (by omega) | exact iR (by rw [hw]; omega) | exact nBlt (by omega) | exact nBle (by omega) | exact roomL (by omega) rfl | exact mkOK (by omega) (by omega) (by omega) rfl | (simp; omega)) ?_) | refine bDt (by omega) ?_ | refine bDf (by omega) ?_ | refine bNt (by omega) ?_ | refine bNf (by omega) ?_ | refine bDf (by rw [eb]; decide) ?_ | refine bDt (by rw [e1, e5, e7, e8]; omega) ?_ | refine loop_to ih ⟨(j, 2305843009213693952), by omega, by dsimp only; omega, by dsimp only; omega⟩ (Nat.lt_succ_self j) ?_ | refine bD (fun _ => ?_) (fun _ => ?_) | refine bN (fun _ => ?_) (fun _ => ?_)) <;> conv => whnf)
        rw [e1, n2, show IntKind.i64.wrap ((j : Int) - 1) = (j : Int) - 1 from wrap64 (by omega)]; rfl
      · have hp : 2 * q + 2 * r / c = a / 2 ^ j * b / c := by clear e7 e8 d2 n2 hr2; generalize 2 * r / c = D at *; omega
        conv => whnf
        repeat' ((first | with_reducible refine bT rfl ?_ | with_reducible refine bF rfl ?_ | ((first | refine sN ?_ | refine sS ?_ | refine sA ?_ | refine sM ?_ | refine sC ?_); (conv => whnf); refine bT (by first | rfl | exact iR8 _ | exact uNN _ | exact iR (by omega) | exact iR (by rw [hw]; omega) | exact nBlt (by omega) | exact nBle (by omega) | exact roomL (by omega) rfl | exact mkOK (by omega) (by omega) (by omega) rfl | (simp; omega)) ?_) | refine bDt (by omega) ?_ | refine bDf (by omega) ?_ | refine bNt (by omega) ?_ | refine bNf (by omega) ?_ | refine bDf (by rw [eb]; decide) ?_ | refine bDf (by rw [e1, e5, e7, e8]; omega) ?_ | refine loop_to ih ⟨(j, 2 * q + 2 * r / c), Nat.le_of_lt hk, .inl hp, Nat.le_of_not_lt hcap⟩ (Nat.lt_succ_self j) ?_ | refine bD (fun _ => ?_) (fun _ => ?_) | refine bN (fun _ => ?_) (fun _ => ?_)) <;> conv => whnf)
        rw [e1, n2, e5, e7, e8, show IntKind.i64.wrap ((j : Int) - 1) = (j : Int) - 1 from wrap64 (by omega)]; rfl
    · rw [hbit] at n1 n2 eb
      rw [Nat.one_mul] at n1 n2
      have e7 := e3 (2 * r + b) (by omega)
      have e8 := e6 _ d3
      by_cases hcap : 2305843009213693952 < 2 * q + (2 * r + b) / c
      · conv => whnf
        repeat' ((first | with_reducible refine bT rfl ?_ | with_reducible refine bF rfl ?_ | ((first | refine sN ?_ | refine sS ?_ | refine sA ?_ | refine sM ?_ | refine sC ?_); (conv => whnf); refine bT (by first | rfl | exact iR8 _ | exact uNN _ | exact iR (by omega) | exact iR (by rw [hw]; omega) | exact nBlt (by omega) | exact nBle (by omega) | exact roomL (by omega) rfl | exact mkOK (by omega) (by omega) (by omega) rfl | (simp; omega)) ?_) | refine bDt (by omega) ?_ | refine bDf (by omega) ?_ | refine bNt (by omega) ?_ | refine bNf (by omega) ?_ | refine bDt (by rw [eb]; decide) ?_ | refine bDt (by rw [e1, e2, e5, e7, e8]; omega) ?_ | refine loop_to ih ⟨(j, 2305843009213693952), by omega, by dsimp only; omega, by dsimp only; omega⟩ (Nat.lt_succ_self j) ?_ | refine bD (fun _ => ?_) (fun _ => ?_) | refine bN (fun _ => ?_) (fun _ => ?_)) <;> conv => whnf)
        rw [e1, e2, n2, show IntKind.i64.wrap ((j : Int) - 1) = (j : Int) - 1 from wrap64 (by omega)]; rfl
      · have hp : 2 * q + (2 * r + b) / c = a / 2 ^ j * b / c := by clear e7 e8 d3 n2 hr2; generalize (2 * r + b) / c = D at *; omega
        conv => whnf
        repeat' ((first | with_reducible refine bT rfl ?_ | with_reducible refine bF rfl ?_ | ((first | refine sN ?_ | refine sS ?_ | refine sA ?_ | refine sM ?_ | refine sC ?_); (conv => whnf); refine bT (by first | rfl | exact iR8 _ | exact uNN _ | exact iR (by omega) | exact iR (by rw [hw]; omega) | exact nBlt (by omega) | exact nBle (by omega) | exact roomL (by omega) rfl | exact mkOK (by omega) (by omega) (by omega) rfl | (simp; omega)) ?_) | refine bDt (by omega) ?_ | refine bDf (by omega) ?_ | refine bNt (by omega) ?_ | refine bNf (by omega) ?_ | refine bDt (by rw [eb]; decide) ?_ | refine bDf (by rw [e1, e2, e5, e7, e8]; omega) ?_ | refine loop_to ih ⟨(j, 2 * q + (2 * r + b) / c), Nat.le_of_lt hk, .inl hp, Nat.le_of_not_lt hcap⟩ (Nat.lt_succ_self j) ?_ | refine bD (fun _ => ?_) (fun _ => ?_) | refine bN (fun _ => ?_) (fun _ => ?_)) <;> conv => whnf)
        rw [e1, e2, n2, e5, e7, e8, show IntKind.i64.wrap ((j : Int) - 1) = (j : Int) - 1 from wrap64 (by omega)]; rfl
theorem refAway (q r c : Nat) (mode : Int) (below : Bool) (hc : c ≤ 1152921504606846976) (hr : r < c) : CallOK Tryz.prog 395 [.int .i64 q, .int .i64 r, .int .i64 c, .int .i64 mode, .bool below] (fun v => v = .bool (awayP mode below q r c)) := by
  have e1 : IntKind.i64.wrap ((c : Int) - r) = ((c - r : Nat) : Int) := by rw [wrap64 (by omega)]; omega
  have e2 : (q : Int).tmod 2 = ((q % 2 : Nat) : Int) := rfl
  refine okCe ?_
  conv => whnf
  repeat' ((first | with_reducible refine bT rfl ?_ | with_reducible refine bF rfl ?_ | ((first | refine sN ?_ | refine sS ?_ | refine sA ?_ | refine sM ?_ | refine sC ?_); (conv => whnf); refine bT (by first | rfl | exact iR8 _ | exact uNN _ | exact iR (by omega) | exact iR (by rw [hw]; omega) | exact nBlt (by omega) | exact nBle (by omega) | exact roomL (by omega) rfl | exact mkOK (by omega) (by omega) (by omega) rfl | (simp; omega)) ?_) | refine bDt (by omega) ?_ | refine bDf (by omega) ?_ | refine bNt (by omega) ?_ | refine bNf (by omega) ?_ | refine bD (fun _ => ?_) (fun _ => ?_) | refine bN (fun _ => ?_) (fun _ => ?_)) <;> conv => whnf)
  all_goals simp only [e1, e2] at *
  all_goals refine congrArg AV.bool ?_
  all_goals unfold awayP
  · rw [if_pos (by assumption)]
  · rw [if_neg (by assumption), if_pos (by assumption)]
  · rw [if_neg (by assumption), if_neg (by assumption), if_pos (by assumption)]
  · rw [if_neg (by assumption), if_neg (by assumption), if_neg (by assumption), if_pos (by assumption), Bool.eq_iff_iff]; simp; omega
  · rw [if_neg (by assumption), if_neg (by assumption), if_neg (by assumption), if_pos (by assumption), Bool.eq_iff_iff]; simp; omega
  · rw [if_neg (by assumption), if_neg (by assumption), if_neg (by assumption), if_pos (by assumption), Bool.eq_iff_iff]; simp; omega
  · rw [if_neg (by assumption), if_neg (by assumption), if_neg (by assumption), if_neg (by assumption)]
theorem sgO {b : Bool} {n : Nat} (h : 1152921504606846976 < n) : sgnP b n = (0, 3) := if_pos h
theorem sgT {n : Nat} (h : ¬ 1152921504606846976 < n) : sgnP true n = (-(n : Int), 0) := if_neg h
theorem sgF {n : Nat} (h : ¬ 1152921504606846976 < n) : sgnP false n = ((n : Int), 0) := if_neg h
set_option maxHeartbeats 8000000 in
theorem refMulDiv (a b c mode : Int) : CallOK Tryz.prog 366 [.int .i64 a, .int .i64 b, .int .i64 c, .int .i64 mode] (fun r => r = tup2 (mdE a b c mode)) := by
  refine okCe ?_
  by_cases h : fitP a ∧ fitP b ∧ fitP c ∧ 1 ≤ mode ∧ mode ≤ 5
  · obtain ⟨h1, h2, h3, h4, h5⟩ := h
    have b1 := fitP_b h1
    have b2 := fitP_b h2
    have b3 := fitP_b h3
    rw [mdE, if_neg (by simp [h1, h2, h3, h4, h5])]
    by_cases h0 : c = 0
    · rw [if_pos h0]
      conv => whnf
      repeat' ((first | with_reducible refine bT rfl ?_ | with_reducible refine bF rfl ?_ | ((first | refine sN ?_ | refine sS ?_ | refine sA ?_ | refine sM ?_ | refine sC ?_); (conv => whnf); refine bT (by first | rfl | exact iR8 _ | exact uNN _ | exact iR (by omega) | exact iR (by rw [hw]; omega) | exact nBlt (by omega) | exact nBle (by omega) | exact roomL (by omega) rfl | exact mkOK (by omega) (by omega) (by omega) rfl | (simp; omega)) ?_) | refine bDt (by omega) ?_ | refine bDf (by omega) ?_ | refine bNt (by omega) ?_ | refine bNf (by omega) ?_ | refine call_is (refFits _) ?_ | refine bD (fun _ => ?_) (fun _ => ?_) | refine bN (fun _ => ?_) (fun _ => ?_)) <;> conv => whnf)
      all_goals first | rfl | contradiction
    · rw [if_neg h0]
      have hc : 0 < c.natAbs := by omega
      unfold quotP
      have hy : c.natAbs ≤ 1152921504606846976 := by omega
      have hm := refQuot a.natAbs b.natAbs c.natAbs (by omega) (by omega) hc hy
      have s1 := refSize _ h1
      have s2 := refSize _ h2
      have s3 := refSize _ h3
      have hml := Nat.mod_lt (a.natAbs * b.natAbs) hc
      have ha' := fun (q : Nat) (β : Bool) => refAway q (a.natAbs * b.natAbs % c.natAbs) c.natAbs mode β hy hml
      have hβ : belowP a b c = (!((!(decide (a < 0) == decide (b < 0))) == decide (c < 0))) := rfl
      rw [hβ]
      clear hβ
      generalize a.natAbs * b.natAbs / c.natAbs = Q at *
      generalize a.natAbs * b.natAbs % c.natAbs = r at *
      conv => whnf
      repeat' ((first | with_reducible refine bT rfl ?_ | with_reducible refine bF rfl ?_ | ((first | refine sN ?_ | refine sS ?_ | refine sA ?_ | refine sM ?_ | refine sC ?_); (conv => whnf); refine bT (by first | rfl | exact iR8 _ | exact uNN _ | exact iR (by omega) | exact iR (by rw [hw]; omega) | exact nBlt (by omega) | exact nBle (by omega) | exact roomL (by omega) rfl | exact mkOK (by omega) (by omega) (by omega) rfl | (simp; omega)) ?_) | refine bDt (by omega) ?_ | refine bDf (by omega) ?_ | refine bNt (by omega) ?_ | refine bNf (by omega) ?_ | refine call_is (refFits _) ?_ | refine call_is s1 ?_ | refine call_is s2 ?_ | refine call_is s3 ?_ | refine bD (fun _ => ?_) (fun _ => ?_) | refine bN (fun _ => ?_) (fun _ => ?_)) <;> conv => whnf)
      refine call_by hm ⟨_, if Q ≤ 2305843009213693952 then Q else 2305843009213693952, rfl, by split <;> omega, by split <;> omega⟩ ?_
      rintro _ ⟨q, rfl, hq2, hq⟩
      have e1 : IntKind.i64.wrap ((q : Int) + 1) = ((q + 1 : Nat) : Int) := by rw [wrap64 (by omega)]; omega
      have e2 : IntKind.i64.wrap (0 - (q : Int)) = -(q : Int) := by rw [wrap64 (by omega)]; omega
      have e3 : IntKind.i64.wrap (0 - ((q + 1 : Nat) : Int)) = -((q + 1 : Nat) : Int) := by rw [wrap64 (by omega)]; omega
      rcases hq with rfl | ⟨hq, hQ⟩
      · by_cases hr0 : 0 < r <;> cases haw : awayP mode (!((!(decide (a < 0) == decide (b < 0))) == decide (c < 0))) q r c.natAbs <;> cases hβ : (!((!(decide (a < 0) == decide (b < 0))) == decide (c < 0))) <;> by_cases hbig : 1152921504606846976 < q <;> by_cases hbig2 : q = 1152921504606846976
        all_goals conv => whnf
        all_goals repeat' ((first | with_reducible refine bT rfl ?_ | with_reducible refine bF rfl ?_ | ((first | refine sN ?_ | refine sS ?_ | refine sA ?_ | refine sM ?_ | refine sC ?_); (conv => whnf); refine bT (by first | rfl | exact iR8 _ | exact uNN _ | exact iR (by omega) | exact iR (by rw [hw]; omega) | exact nBlt (by omega) | exact nBle (by omega) | exact roomL (by omega) rfl | exact mkOK (by omega) (by omega) (by omega) rfl | (simp; omega)) ?_) | refine bDt (by omega) ?_ | refine bDf (by omega) ?_ | refine bNt (by omega) ?_ | refine bNf (by omega) ?_ | refine call_is s3 ?_ | refine call_is (ha' _ _) ?_ | refine bT haw ?_ | refine bF haw ?_ | refine bT hβ ?_ | refine bF hβ ?_ | refine bDt (by rw [e1]; omega) ?_ | refine bDf (by rw [e1]; omega) ?_ | refine bD (fun _ => ?_) (fun _ => ?_) | refine bN (fun _ => ?_) (fun _ => ?_)) <;> conv => whnf)
        all_goals first | (exfalso; omega) | skip
        all_goals simp only [hr0, e1, and_true, true_and, false_and, and_false, Bool.false_eq_true, if_true, if_false]
        all_goals first | (rw [sgO (by omega)]; rfl) | (rw [sgF (by omega)]; rfl) | (rw [sgT (by omega), e2]; rfl) | (rw [sgT (by omega), e3]; rfl)
      · conv => whnf
        repeat' ((first | with_reducible refine bT rfl ?_ | with_reducible refine bF rfl ?_ | ((first | refine sN ?_ | refine sS ?_ | refine sA ?_ | refine sM ?_ | refine sC ?_); (conv => whnf); refine bT (by first | rfl | exact iR8 _ | exact uNN _ | exact iR (by omega) | exact iR (by rw [hw]; omega) | exact nBlt (by omega) | exact nBle (by omega) | exact roomL (by omega) rfl | exact mkOK (by omega) (by omega) (by omega) rfl | (simp; omega)) ?_) | refine bDt (by omega) ?_ | refine bDf (by omega) ?_ | refine bNt (by omega) ?_ | refine bNf (by omega) ?_ | refine call_is s3 ?_ | refine call_is (ha' _ _) ?_ | refine bD (fun _ => ?_) (fun _ => ?_) | refine bN (fun _ => ?_) (fun _ => ?_) | refine bB (fun hb => ?_) (fun hb => ?_)) <;> conv => whnf)
        all_goals rw [sgnP, if_pos (by split <;> omega)]; rfl
  · rw [mdE, if_pos h]
    conv => whnf
    repeat' ((first | with_reducible refine bT rfl ?_ | with_reducible refine bF rfl ?_ | ((first | refine sN ?_ | refine sS ?_ | refine sA ?_ | refine sM ?_ | refine sC ?_); (conv => whnf); refine bT (by first | rfl | exact iR8 _ | exact uNN _ | exact iR (by omega) | exact iR (by rw [hw]; omega) | exact nBlt (by omega) | exact nBle (by omega) | exact roomL (by omega) rfl | exact mkOK (by omega) (by omega) (by omega) rfl | (simp; omega)) ?_) | refine bDt (by omega) ?_ | refine bDf (by omega) ?_ | refine bNt (by omega) ?_ | refine bNf (by omega) ?_ | refine call_is (refFits _) ?_ | refine bD (fun _ => ?_) (fun _ => ?_) | refine bN (fun _ => ?_) (fun _ => ?_)) <;> conv => whnf)
    all_goals first | rfl | (exfalso; exact h ⟨by assumption, by assumption, by assumption, by omega, by omega⟩)
end Go.Proofs

