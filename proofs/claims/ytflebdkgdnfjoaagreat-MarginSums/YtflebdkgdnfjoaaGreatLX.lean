import Derived.Test.YtflebdkgdnfjoaaGreatMzSer
import Derived.Test.YtflebdkgdnfjoaaGreatAxEnc2
import Derived.Test.YtflebdkgdnfjoaaGreatAxRow
set_option linter.unusedVariables false
set_option linter.unusedSimpArgs false
namespace Go.Proofs
open Ax Go
set_option maxRecDepth 10000
def keepNd (f r : Nat) : Option (List Nat) := match f, r with
  | 29, 5 => some [1, 6, 7, 13, 14, 15]
  | 31, 2 => some [3, 4, 8, 9, 10]
  | 30, 5 => some [0, 1, 6, 7]
  | 112, 4 => some [0, 4, 5, 6]
  | 32, 2 => some [0, 3, 4, 6]
  | _, _ => none
def keepXNd (f r : Nat) : Option (List Nat) := match f, r with
  | 29, 5 => some [6, 7]
  | 31, 2 => some [4, 5]
  | 30, 5 => some [6]
  | 112, 4 => some [4, 5]
  | 32, 2 => some [4, 5]
  | _, _ => none
noncomputable def cxNd : Ctx where
  P := Tryz.prog
  inl := fun _ => false
  keep := keepNd
  keepX := keepXNd
  xf := fun _ _ _ => false
  ow := fun _ => false
  gh := fun _ _ => []
  gf := fun _ => []
  ln := fun _ => false
  srt := srtT
theorem okNd {f a Q} (h : stepCall (SX Tryz.prog calmT) cxNd calmT f a Q) : CallOK Tryz.prog f a Q := okOf (cx := cxNd) rfl progOK h
/-- A need. -/
structure Nd where
  am : ByteArray
  an : ByteArray
  a : Int
  b : Int
  c : Int
  d : Int
  e : Int
  f : Int
  t : Int
deriving DecidableEq
def encNd (x : Nd) : AV := .agg [.str x.am, .str x.an, .int .i64 x.a, .int .i64 x.b, .int .i64 x.c, .int .i64 x.d, .int .i64 x.e, .int .i64 x.f, .int .i64 x.t]
def nd0 : Nd := ⟨⟨#[]⟩, ⟨#[]⟩, 0, 0, 0, 0, 0, 0, 0⟩
def ENd : Enc Nd := ⟨9, encNd, nd0⟩
structure Ac where
  m : ByteArray
  n : ByteArray
deriving DecidableEq
def encAc (x : Ac) : AV := .agg [.str x.m, .str x.n]
theorem eqAc0 (a b : Ac) : binAV Tryz.prog .eql 56 (encAc a) (encAc b) = some (.bool (decide (a.m = b.m) && (decide (a.n = b.n) && true))) := by kernel_rfl
theorem eqAc (a b : Ac) : binAV Tryz.prog .eql 56 (encAc a) (encAc b) = some (.bool (decide (a = b))) := by
  rw [eqAc0]
  congr 2
  rw [Bool.eq_iff_iff]
  cases a; cases b; simp
theorem eqNd0 (a b : Nd) : binAV Tryz.prog .eql 61 (encNd a) (encNd b) = some (.bool ((decide (a.am = b.am) && (decide (a.an = b.an) && true)) && (decide (a.a = b.a) && (decide (a.b = b.b) && (decide (a.c = b.c) && (decide (a.d = b.d) && (decide (a.e = b.e) && (decide (a.f = b.f) && (decide (a.t = b.t) && true))))))))) := by kernel_rfl
theorem eqNd (a b : Nd) : binAV Tryz.prog .eql 61 (encNd a) (encNd b) = some (.bool (decide (a = b))) := by
  rw [eqNd0]
  congr 2
  rw [Bool.eq_iff_iff]
  cases a; cases b; simp [and_assoc]
/-- A sum in two parts, as the machine keeps it. -/
def hl32 : List Int → Int × Int → Int × Int
  | [], s => s
  | x :: r, s => hl32 r (IntKind.i64.wrap (s.1 + IntKind.i64.wrap (x.tdiv 4294967296)), IntKind.i64.wrap (s.2 + x.tmod 4294967296))
def hlFin (s : Int × Int) : Int × Int :=
  if IntKind.i64.wrap (s.1 + IntKind.i64.wrap (s.2.tdiv 4294967296)) < -268435457 ∨ 268435457 < IntKind.i64.wrap (s.1 + IntKind.i64.wrap (s.2.tdiv 4294967296)) then (0, 3)
  else if fitP (IntKind.i64.wrap (IntKind.i64.wrap (IntKind.i64.wrap (s.1 + IntKind.i64.wrap (s.2.tdiv 4294967296)) * 4294967296) + s.2.tmod 4294967296))
    then (IntKind.i64.wrap (IntKind.i64.wrap (IntKind.i64.wrap (s.1 + IntKind.i64.wrap (s.2.tdiv 4294967296)) * 4294967296) + s.2.tmod 4294967296), 0) else (0, 3)
def totsOf (m : ByteArray) : List Nd → List Int
  | [] => []
  | x :: r => if x.am = m then x.t :: totsOf m r else totsOf m r
def ndSum (l : List Nd) (m : ByteArray) : Int × Int := if 1024 < l.length then (0, 8) else hlFin (hl32 (totsOf m l) (0, 0))
theorem totsOf_append (m : ByteArray) : ∀ (l r : List Nd), totsOf m (l ++ r) = totsOf m l ++ totsOf m r
  | [], r => rfl
  | x :: l, r => by
    simp only [List.cons_append, totsOf, totsOf_append m l r]
    split <;> rfl
theorem totsOf_len (m : ByteArray) : ∀ l : List Nd, (totsOf m l).length ≤ l.length
  | [] => Nat.le_refl _
  | x :: l => by
    have := totsOf_len m l
    simp only [totsOf]; split <;> (simp; omega)
theorem ndSumOK (l : List Nd) (m : ByteArray) (hl : l.length ≤ 1073741824) : CallOK Tryz.prog 29 [ENd.L l, .str m] (fun r => r = tup2 (ndSum l m)) := by
  refine okNd ?_
  by_cases hlong : 1024 < l.length
  · rw [ndSum, if_pos hlong]
    conv => whnf
    repeat' ((first | with_reducible refine bT rfl ?_ | with_reducible refine bF rfl ?_ | ((first | refine sN ?_ | refine sS ?_ | refine sA ?_ | refine sM ?_ | refine sC ?_); (conv => whnf); refine bT (by first | rfl | exact iR8 _ | exact uNN _ | exact iR (by omega) | exact iR (by rw [hw]; omega) | exact nBlt (by omega) | exact nBle (by omega) | exact roomL (by omega) rfl | exact mkOK (by omega) (by omega) (by omega) rfl | (simp; omega)) ?_) | refine bDt (by omega) ?_ | refine bDf (by omega) ?_ | refine bNt (by omega) ?_ | refine bNf (by omega) ?_ | refine bD (fun _ => ?_) (fun _ => ?_) | refine bN (fun _ => ?_) (fun _ => ?_)) <;> conv => whnf)
    all_goals rfl
  rw [ndSum, if_neg hlong]
  conv => whnf
  repeat' ((first | with_reducible refine bT rfl ?_ | with_reducible refine bF rfl ?_ | ((first | refine sN ?_ | refine sS ?_ | refine sA ?_ | refine sM ?_ | refine sC ?_); (conv => whnf); refine bT (by first | rfl | exact iR8 _ | exact uNN _ | exact iR (by omega) | exact iR (by rw [hw]; omega) | exact nBlt (by omega) | exact nBle (by omega) | exact roomL (by omega) rfl | exact mkOK (by omega) (by omega) (by omega) rfl | (simp; omega)) ?_) | refine bDt (by omega) ?_ | refine bDf (by omega) ?_ | refine bNt (by omega) ?_ | refine bNf (by omega) ?_ | refine bD (fun _ => ?_) (fun _ => ?_) | refine bN (fun _ => ?_) (fun _ => ?_)) <;> conv => whnf)
  refine loop_by (cx := cxNd) rfl progOK (ι := {p : Nat × Int × Int // p.1 ≤ l.length ∧ hl32 (totsOf m (l.drop p.1)) p.2 = hl32 (totsOf m l) (0, 0)}) (fun p => l.length - p.1.1) (fun p => ⟨[(1, .str m), (6, .int .i64 p.1.2.1), (7, .int .i64 p.1.2.2), (13, ENd.L l), (14, .int .i64 l.length), (15, .int .i64 p.1.1)], [], [], none⟩) ?_ ⟨(0, 0, 0), Nat.zero_le _, rfl⟩
  rintro ⟨⟨i, h, w⟩, hi, hf⟩ ih
  dsimp only at hi hf ⊢
  by_cases hlt : i < l.length
  · rw [Enc.drop_cons (E := ENd) hlt, totsOf] at hf
    by_cases hx : (l.getD i ENd.d).am = m
    · rw [if_pos hx, hl32] at hf
      conv => whnf
      repeat' ((first | with_reducible refine bT rfl ?_ | with_reducible refine bF rfl ?_ | ((first | refine sN ?_ | refine sS ?_ | refine sA ?_ | refine sM ?_ | refine sC ?_); (conv => whnf); refine bT (by first | rfl | exact iR8 _ | exact uNN _ | exact iR (by omega) | exact iR (by rw [hw]; omega) | exact nBlt (by omega) | exact nBle (by omega) | exact roomL (by omega) rfl | exact mkOK (by omega) (by omega) (by omega) rfl | (simp; omega)) ?_) | refine bDt (by omega) ?_ | refine bDf (by omega) ?_ | refine bNt (by omega) ?_ | refine bNf (by omega) ?_ | refine bDt hx ?_ | refine loop_to ih ⟨(i + 1, _, _), hlt, hf⟩ (show l.length - (i+1) < l.length - i by omega) ?_ | refine bD (fun _ => ?_) (fun _ => ?_) | refine bN (fun _ => ?_) (fun _ => ?_)) <;> conv => whnf)
      all_goals (rw [next_i hlt (by omega)]; rfl)
    · rw [if_neg hx] at hf
      conv => whnf
      repeat' ((first | with_reducible refine bT rfl ?_ | with_reducible refine bF rfl ?_ | ((first | refine sN ?_ | refine sS ?_ | refine sA ?_ | refine sM ?_ | refine sC ?_); (conv => whnf); refine bT (by first | rfl | exact iR8 _ | exact uNN _ | exact iR (by omega) | exact iR (by rw [hw]; omega) | exact nBlt (by omega) | exact nBle (by omega) | exact roomL (by omega) rfl | exact mkOK (by omega) (by omega) (by omega) rfl | (simp; omega)) ?_) | refine bDt (by omega) ?_ | refine bDf (by omega) ?_ | refine bNt (by omega) ?_ | refine bNf (by omega) ?_ | refine bDf hx ?_ | refine loop_to ih ⟨(i + 1, h, w), hlt, hf⟩ (show l.length - (i+1) < l.length - i by omega) ?_ | refine bD (fun _ => ?_) (fun _ => ?_) | refine bN (fun _ => ?_) (fun _ => ?_)) <;> conv => whnf)
      all_goals (rw [next_i hlt (by omega)]; rfl)
  · obtain rfl : i = l.length := by omega
    rw [List.drop_length, totsOf, hl32] at hf
    rw [← hf]
    unfold hlFin
    dsimp only
    by_cases h1 : IntKind.i64.wrap (h + IntKind.i64.wrap (w.tdiv 4294967296)) < -268435457 ∨ 268435457 < IntKind.i64.wrap (h + IntKind.i64.wrap (w.tdiv 4294967296))
    · rw [if_pos h1]
      conv => whnf
      repeat' ((first | with_reducible refine bT rfl ?_ | with_reducible refine bF rfl ?_ | ((first | refine sN ?_ | refine sS ?_ | refine sA ?_ | refine sM ?_ | refine sC ?_); (conv => whnf); refine bT (by first | rfl | exact iR8 _ | exact uNN _ | exact iR (by omega) | exact iR (by rw [hw]; omega) | exact nBlt (by omega) | exact nBle (by omega) | exact roomL (by omega) rfl | exact mkOK (by omega) (by omega) (by omega) rfl | (simp; omega)) ?_) | refine bDt (by omega) ?_ | refine bDf (by omega) ?_ | refine bNt (by omega) ?_ | refine bNf (by omega) ?_ | refine call_is (fits _) ?_ | refine bD (fun _ => ?_) (fun _ => ?_) | refine bN (fun _ => ?_) (fun _ => ?_)) <;> conv => whnf)
      all_goals first | rfl | (exfalso; omega)
    · rw [if_neg h1]
      by_cases h2 : fitP (IntKind.i64.wrap (IntKind.i64.wrap (IntKind.i64.wrap (h + IntKind.i64.wrap (w.tdiv 4294967296)) * 4294967296) + w.tmod 4294967296))
      · rw [if_pos h2]
        conv => whnf
        repeat' ((first | with_reducible refine bT rfl ?_ | with_reducible refine bF rfl ?_ | ((first | refine sN ?_ | refine sS ?_ | refine sA ?_ | refine sM ?_ | refine sC ?_); (conv => whnf); refine bT (by first | rfl | exact iR8 _ | exact uNN _ | exact iR (by omega) | exact iR (by rw [hw]; omega) | exact nBlt (by omega) | exact nBle (by omega) | exact roomL (by omega) rfl | exact mkOK (by omega) (by omega) (by omega) rfl | (simp; omega)) ?_) | refine bDt (by omega) ?_ | refine bDf (by omega) ?_ | refine bNt (by omega) ?_ | refine bNf (by omega) ?_ | refine call_is (fits _) ?_ | refine bDt h2 ?_ | refine bNf h2 ?_ | refine bD (fun _ => ?_) (fun _ => ?_) | refine bN (fun _ => ?_) (fun _ => ?_)) <;> conv => whnf)
        all_goals first | rfl | (exfalso; omega)
      · rw [if_neg h2]
        conv => whnf
        repeat' ((first | with_reducible refine bT rfl ?_ | with_reducible refine bF rfl ?_ | ((first | refine sN ?_ | refine sS ?_ | refine sA ?_ | refine sM ?_ | refine sC ?_); (conv => whnf); refine bT (by first | rfl | exact iR8 _ | exact uNN _ | exact iR (by omega) | exact iR (by rw [hw]; omega) | exact nBlt (by omega) | exact nBle (by omega) | exact roomL (by omega) rfl | exact mkOK (by omega) (by omega) (by omega) rfl | (simp; omega)) ?_) | refine bDt (by omega) ?_ | refine bDf (by omega) ?_ | refine bNt (by omega) ?_ | refine bNf (by omega) ?_ | refine call_is (fits _) ?_ | refine bDf h2 ?_ | refine bNt h2 ?_ | refine bD (fun _ => ?_) (fun _ => ?_) | refine bN (fun _ => ?_) (fun _ => ?_)) <;> conv => whnf)
        all_goals first | rfl | (exfalso; omega)
def findNd (c : Ac) : List Nd → Nd × Bool
  | [] => (nd0, false)
  | x :: r => if (⟨x.am, x.an⟩ : Ac) = c then (x, true) else findNd c r
def tupNd (p : Nd × Bool) : AV := .tup [encNd p.1, .bool p.2]
theorem ndOf (l : List Nd) (c : Ac) (hl : l.length ≤ 1073741824) : CallOK Tryz.prog 31 [ENd.L l, encAc c] (fun r => r = tupNd (findNd c l)) := by
  refine okNd ?_
  conv => whnf
  repeat' ((first | with_reducible refine bT rfl ?_ | with_reducible refine bF rfl ?_ | ((first | refine sN ?_ | refine sS ?_ | refine sA ?_ | refine sM ?_ | refine sC ?_); (conv => whnf); refine bT (by first | rfl | exact iR8 _ | exact uNN _ | exact iR (by omega) | exact iR (by rw [hw]; omega) | exact nBlt (by omega) | exact nBle (by omega) | exact roomL (by omega) rfl | exact mkOK (by omega) (by omega) (by omega) rfl | (simp; omega)) ?_) | refine bDt (by omega) ?_ | refine bDf (by omega) ?_ | refine bNt (by omega) ?_ | refine bNf (by omega) ?_ | refine bD (fun _ => ?_) (fun _ => ?_) | refine bN (fun _ => ?_) (fun _ => ?_)) <;> conv => whnf)
  refine loop_by (cx := cxNd) rfl progOK (ι := {i : Nat // i ≤ l.length ∧ findNd c (l.drop i) = findNd c l}) (fun i => l.length - i.1) (fun i => ⟨[(3, .ptr (0 + 1) 0), (4, .ptr 0 0), (8, ENd.L l), (9, .int .i64 l.length), (10, .int .i64 i.1)], [.cells [.str ⟨#[]⟩, .str ⟨#[]⟩, .int .i64 0, .int .i64 0, .int .i64 0, .int .i64 0, .int .i64 0, .int .i64 0, .int .i64 0], .cells [.str c.m, .str c.n]], [], none⟩) ?_ ⟨0, Nat.zero_le _, rfl⟩
  rintro ⟨i, hi, hf⟩ ih
  dsimp only at hi hf ⊢
  by_cases hlt : i < l.length
  · rw [Enc.drop_cons (E := ENd) hlt, findNd] at hf
    by_cases hx : (⟨(l.getD i ENd.d).am, (l.getD i ENd.d).an⟩ : Ac) = c
    · rw [if_pos hx] at hf
      conv => whnf
      repeat' ((first | with_reducible refine bT rfl ?_ | with_reducible refine bF rfl ?_ | ((first | refine sN ?_ | refine sS ?_ | refine sA ?_ | refine sM ?_ | refine sC ?_); (conv => whnf); refine bT (by first | rfl | exact iR8 _ | exact uNN _ | exact iR (by omega) | exact iR (by rw [hw]; omega) | exact nBlt (by omega) | exact nBle (by omega) | exact roomL (by omega) rfl | exact mkOK (by omega) (by omega) (by omega) rfl | (simp; omega)) ?_) | refine bDt (by omega) ?_ | refine bDf (by omega) ?_ | refine bNt (by omega) ?_ | refine bNf (by omega) ?_ | refine st_bin rfl rfl rfl (eqAc ⟨(l.getD i ENd.d).am, (l.getD i ENd.d).an⟩ c) ?_ | refine bDt hx ?_ | refine bD (fun _ => ?_) (fun _ => ?_) | refine bN (fun _ => ?_) (fun _ => ?_)) <;> conv => whnf)
      rw [← hf]; rfl
    · rw [if_neg hx] at hf
      conv => whnf
      repeat' ((first | with_reducible refine bT rfl ?_ | with_reducible refine bF rfl ?_ | ((first | refine sN ?_ | refine sS ?_ | refine sA ?_ | refine sM ?_ | refine sC ?_); (conv => whnf); refine bT (by first | rfl | exact iR8 _ | exact uNN _ | exact iR (by omega) | exact iR (by rw [hw]; omega) | exact nBlt (by omega) | exact nBle (by omega) | exact roomL (by omega) rfl | exact mkOK (by omega) (by omega) (by omega) rfl | (simp; omega)) ?_) | refine bDt (by omega) ?_ | refine bDf (by omega) ?_ | refine bNt (by omega) ?_ | refine bNf (by omega) ?_ | refine st_bin rfl rfl rfl (eqAc ⟨(l.getD i ENd.d).am, (l.getD i ENd.d).an⟩ c) ?_ | refine bDf hx ?_ | refine loop_to ih ⟨i + 1, hlt, hf⟩ (show l.length - (i+1) < l.length - i by omega) ?_ | refine bD (fun _ => ?_) (fun _ => ?_) | refine bN (fun _ => ?_) (fun _ => ?_)) <;> conv => whnf)
      rw [next_i hlt (by omega)]; rfl
  · obtain rfl : i = l.length := by omega
    rw [List.drop_length, findNd] at hf
    rw [← hf]
    conv => whnf
    repeat' ((first | with_reducible refine bT rfl ?_ | with_reducible refine bF rfl ?_ | ((first | refine sN ?_ | refine sS ?_ | refine sA ?_ | refine sM ?_ | refine sC ?_); (conv => whnf); refine bT (by first | rfl | exact iR8 _ | exact uNN _ | exact iR (by omega) | exact iR (by rw [hw]; omega) | exact nBlt (by omega) | exact nBle (by omega) | exact roomL (by omega) rfl | exact mkOK (by omega) (by omega) (by omega) rfl | (simp; omega)) ?_) | refine bDt (by omega) ?_ | refine bDf (by omega) ?_ | refine bNt (by omega) ?_ | refine bNf (by omega) ?_ | refine bD (fun _ => ?_) (fun _ => ?_) | refine bN (fun _ => ?_) (fun _ => ?_)) <;> conv => whnf)
    all_goals rfl
theorem refNdOf (l : List Nd) (c : Ac) (hl : l.length ≤ 1073741824) : CallOK Tryz.prog 32 [ENd.L l, encAc c] (fun r => r = tupNd (findNd c l)) := by
  refine okNd ?_
  conv => whnf
  repeat' ((first | with_reducible refine bT rfl ?_ | with_reducible refine bF rfl ?_ | ((first | refine sN ?_ | refine sS ?_ | refine sA ?_ | refine sM ?_ | refine sC ?_); (conv => whnf); refine bT (by first | rfl | exact iR8 _ | exact uNN _ | exact iR (by omega) | exact iR (by rw [hw]; omega) | exact nBlt (by omega) | exact nBle (by omega) | exact roomL (by omega) rfl | exact mkOK (by omega) (by omega) (by omega) rfl | (simp; omega)) ?_) | refine bDt (by omega) ?_ | refine bDf (by omega) ?_ | refine bNt (by omega) ?_ | refine bNf (by omega) ?_ | refine bD (fun _ => ?_) (fun _ => ?_) | refine bN (fun _ => ?_) (fun _ => ?_)) <;> conv => whnf)
  refine loop_by (cx := cxNd) rfl progOK (ι := {i : Nat // i ≤ l.length ∧ findNd c (l.drop i) = findNd c l}) (fun i => l.length - i.1) (fun i => ⟨[(0, ENd.L l), (3, .ptr (0 + 1) 0), (4, .ptr 0 0), (6, .int .i64 i.1)], [.cells [.str ⟨#[]⟩, .str ⟨#[]⟩, .int .i64 0, .int .i64 0, .int .i64 0, .int .i64 0, .int .i64 0, .int .i64 0, .int .i64 0], .cells [.str c.m, .str c.n]], [], none⟩) ?_ ⟨0, Nat.zero_le _, rfl⟩
  rintro ⟨i, hi, hf⟩ ih
  dsimp only at hi hf ⊢
  by_cases hlt : i < l.length
  · rw [Enc.drop_cons (E := ENd) hlt, findNd] at hf
    by_cases hx : (⟨(l.getD i ENd.d).am, (l.getD i ENd.d).an⟩ : Ac) = c
    · rw [if_pos hx] at hf
      conv => whnf
      repeat' ((first | with_reducible refine bT rfl ?_ | with_reducible refine bF rfl ?_ | ((first | refine sN ?_ | refine sS ?_ | refine sA ?_ | refine sM ?_ | refine sC ?_); (conv => whnf); refine bT (by first | rfl | exact iR8 _ | exact uNN _ | exact iR (by omega) | exact iR (by rw [hw]; omega) | exact nBlt (by omega) | exact nBle (by omega) | exact roomL (by omega) rfl | exact mkOK (by omega) (by omega) (by omega) rfl | (simp; omega)) ?_) | refine bDt (by omega) ?_ | refine bDf (by omega) ?_ | refine bNt (by omega) ?_ | refine bNf (by omega) ?_ | refine st_bin rfl rfl rfl (eqAc ⟨(l.getD i ENd.d).am, (l.getD i ENd.d).an⟩ c) ?_ | refine bDt hx ?_ | refine bD (fun _ => ?_) (fun _ => ?_) | refine bN (fun _ => ?_) (fun _ => ?_)) <;> conv => whnf)
      rw [← hf]; rfl
    · rw [if_neg hx] at hf
      conv => whnf
      repeat' ((first | with_reducible refine bT rfl ?_ | with_reducible refine bF rfl ?_ | ((first | refine sN ?_ | refine sS ?_ | refine sA ?_ | refine sM ?_ | refine sC ?_); (conv => whnf); refine bT (by first | rfl | exact iR8 _ | exact uNN _ | exact iR (by omega) | exact iR (by rw [hw]; omega) | exact nBlt (by omega) | exact nBle (by omega) | exact roomL (by omega) rfl | exact mkOK (by omega) (by omega) (by omega) rfl | (simp; omega)) ?_) | refine bDt (by omega) ?_ | refine bDf (by omega) ?_ | refine bNt (by omega) ?_ | refine bNf (by omega) ?_ | refine st_bin rfl rfl rfl (eqAc ⟨(l.getD i ENd.d).am, (l.getD i ENd.d).an⟩ c) ?_ | refine bDf hx ?_ | refine loop_to ih ⟨i + 1, hlt, hf⟩ (show l.length - (i+1) < l.length - i by omega) ?_ | refine bD (fun _ => ?_) (fun _ => ?_) | refine bN (fun _ => ?_) (fun _ => ?_)) <;> conv => whnf)
      rw [next_i hlt (by omega)]; rfl
  · obtain rfl : i = l.length := by omega
    rw [List.drop_length, findNd] at hf
    rw [← hf]
    conv => whnf
    repeat' ((first | with_reducible refine bT rfl ?_ | with_reducible refine bF rfl ?_ | ((first | refine sN ?_ | refine sS ?_ | refine sA ?_ | refine sM ?_ | refine sC ?_); (conv => whnf); refine bT (by first | rfl | exact iR8 _ | exact uNN _ | exact iR (by omega) | exact iR (by rw [hw]; omega) | exact nBlt (by omega) | exact nBle (by omega) | exact roomL (by omega) rfl | exact mkOK (by omega) (by omega) (by omega) rfl | (simp; omega)) ?_) | refine bDt (by omega) ?_ | refine bDf (by omega) ?_ | refine bNt (by omega) ?_ | refine bNf (by omega) ?_ | refine bD (fun _ => ?_) (fun _ => ?_) | refine bN (fun _ => ?_) (fun _ => ?_)) <;> conv => whnf)
    all_goals rfl
theorem refHl (l : List Int) (hl : l.length ≤ 1073741824) : CallOK Tryz.prog 112 [EI.L l] (fun r => r = .tup [.int .i64 (hlFin (hl32 l (0, 0))).1, .bool (decide ((hlFin (hl32 l (0, 0))).2 = 0))]) := by
  refine okNd ?_
  conv => whnf
  repeat' ((first | with_reducible refine bT rfl ?_ | with_reducible refine bF rfl ?_ | ((first | refine sN ?_ | refine sS ?_ | refine sA ?_ | refine sM ?_ | refine sC ?_); (conv => whnf); refine bT (by first | rfl | exact iR8 _ | exact uNN _ | exact iR (by omega) | exact iR (by rw [hw]; omega) | exact nBlt (by omega) | exact nBle (by omega) | exact roomL (by omega) rfl | exact mkOK (by omega) (by omega) (by omega) rfl | (simp; omega)) ?_) | refine bDt (by omega) ?_ | refine bDf (by omega) ?_ | refine bNt (by omega) ?_ | refine bNf (by omega) ?_ | refine bD (fun _ => ?_) (fun _ => ?_) | refine bN (fun _ => ?_) (fun _ => ?_)) <;> conv => whnf)
  refine loop_by (cx := cxNd) rfl progOK (ι := {p : Nat × Int × Int // p.1 ≤ l.length ∧ hl32 (l.drop p.1) p.2 = hl32 l (0, 0)}) (fun p => l.length - p.1.1) (fun p => ⟨[(0, EI.L l), (4, .int .i64 p.1.2.1), (5, .int .i64 p.1.2.2), (6, .int .i64 p.1.1)], [], [], none⟩) ?_ ⟨(0, 0, 0), Nat.zero_le _, rfl⟩
  rintro ⟨⟨i, h, w⟩, hi, hf⟩ ih
  dsimp only at hi hf ⊢
  by_cases hlt : i < l.length
  · rw [Enc.drop_cons (E := EI) hlt, hl32] at hf
    conv => whnf
    repeat' ((first | with_reducible refine bT rfl ?_ | with_reducible refine bF rfl ?_ | ((first | refine sN ?_ | refine sS ?_ | refine sA ?_ | refine sM ?_ | refine sC ?_); (conv => whnf); refine bT (by first | rfl | exact iR8 _ | exact uNN _ | exact iR (by omega) | exact iR (by rw [hw]; omega) | exact nBlt (by omega) | exact nBle (by omega) | exact roomL (by omega) rfl | exact mkOK (by omega) (by omega) (by omega) rfl | (simp; omega)) ?_) | refine bDt (by omega) ?_ | refine bDf (by omega) ?_ | refine bNt (by omega) ?_ | refine bNf (by omega) ?_ | refine loop_to ih ⟨(i + 1, _, _), hlt, hf⟩ (show l.length - (i+1) < l.length - i by omega) ?_ | refine bD (fun _ => ?_) (fun _ => ?_) | refine bN (fun _ => ?_) (fun _ => ?_)) <;> conv => whnf)
    all_goals (rw [next_i hlt (by omega)]; rfl)
  · obtain rfl : i = l.length := by omega
    rw [List.drop_length, hl32] at hf
    rw [← hf]
    unfold hlFin
    dsimp only
    by_cases h1 : IntKind.i64.wrap (h + IntKind.i64.wrap (w.tdiv 4294967296)) < -268435457 ∨ 268435457 < IntKind.i64.wrap (h + IntKind.i64.wrap (w.tdiv 4294967296))
    · rw [if_pos h1]
      conv => whnf
      repeat' ((first | with_reducible refine bT rfl ?_ | with_reducible refine bF rfl ?_ | ((first | refine sN ?_ | refine sS ?_ | refine sA ?_ | refine sM ?_ | refine sC ?_); (conv => whnf); refine bT (by first | rfl | exact iR8 _ | exact uNN _ | exact iR (by omega) | exact iR (by rw [hw]; omega) | exact nBlt (by omega) | exact nBle (by omega) | exact roomL (by omega) rfl | exact mkOK (by omega) (by omega) (by omega) rfl | (simp; omega)) ?_) | refine bDt (by omega) ?_ | refine bDf (by omega) ?_ | refine bNt (by omega) ?_ | refine bNf (by omega) ?_ | refine bD (fun _ => ?_) (fun _ => ?_) | refine bN (fun _ => ?_) (fun _ => ?_)) <;> conv => whnf)
      all_goals first | rfl | (exfalso; omega)
    · rw [if_neg h1]
      by_cases h2 : fitP (IntKind.i64.wrap (IntKind.i64.wrap (IntKind.i64.wrap (h + IntKind.i64.wrap (w.tdiv 4294967296)) * 4294967296) + w.tmod 4294967296))
      · rw [if_pos h2]
        have h3 := fitP_b h2
        conv => whnf
        repeat' ((first | with_reducible refine bT rfl ?_ | with_reducible refine bF rfl ?_ | ((first | refine sN ?_ | refine sS ?_ | refine sA ?_ | refine sM ?_ | refine sC ?_); (conv => whnf); refine bT (by first | rfl | exact iR8 _ | exact uNN _ | exact iR (by omega) | exact iR (by rw [hw]; omega) | exact nBlt (by omega) | exact nBle (by omega) | exact roomL (by omega) rfl | exact mkOK (by omega) (by omega) (by omega) rfl | (simp; omega)) ?_) | refine bDt (by omega) ?_ | refine bDf (by omega) ?_ | refine bNt (by omega) ?_ | refine bNf (by omega) ?_ | refine bD (fun _ => ?_) (fun _ => ?_) | refine bN (fun _ => ?_) (fun _ => ?_)) <;> conv => whnf)
        all_goals first | rfl | (exfalso; omega)
      · rw [if_neg h2]
        have h3 : ¬ (-1152921504606846976 ≤ (IntKind.i64.wrap (IntKind.i64.wrap (IntKind.i64.wrap (h + IntKind.i64.wrap (w.tdiv 4294967296)) * 4294967296) + w.tmod 4294967296)) ∧ (IntKind.i64.wrap (IntKind.i64.wrap (IntKind.i64.wrap (h + IntKind.i64.wrap (w.tdiv 4294967296)) * 4294967296) + w.tmod 4294967296)) ≤ 1152921504606846976) := h2
        conv => whnf
        repeat' ((first | with_reducible refine bT rfl ?_ | with_reducible refine bF rfl ?_ | ((first | refine sN ?_ | refine sS ?_ | refine sA ?_ | refine sM ?_ | refine sC ?_); (conv => whnf); refine bT (by first | rfl | exact iR8 _ | exact uNN _ | exact iR (by omega) | exact iR (by rw [hw]; omega) | exact nBlt (by omega) | exact nBle (by omega) | exact roomL (by omega) rfl | exact mkOK (by omega) (by omega) (by omega) rfl | (simp; omega)) ?_) | refine bDt (by omega) ?_ | refine bDf (by omega) ?_ | refine bNt (by omega) ?_ | refine bNf (by omega) ?_ | refine bD (fun _ => ?_) (fun _ => ?_) | refine bN (fun _ => ?_) (fun _ => ?_)) <;> conv => whnf)
        all_goals first | rfl | (exfalso; omega)
theorem hlFin_e (s : Int × Int) : (hlFin s).2 = 0 ∨ hlFin s = (0, 3) := by
  unfold hlFin
  split
  · exact .inr rfl
  · split
    · exact .inl rfl
    · exact .inr rfl
theorem refNdSum (l : List Nd) (m : ByteArray) (hl : l.length ≤ 1073741824) : CallOK Tryz.prog 30 [ENd.L l, .str m] (fun r => r = tup2 (ndSum l m)) := by
  refine okNd ?_
  by_cases hlong : 1024 < l.length
  · rw [ndSum, if_pos hlong]
    conv => whnf
    repeat' ((first | with_reducible refine bT rfl ?_ | with_reducible refine bF rfl ?_ | ((first | refine sN ?_ | refine sS ?_ | refine sA ?_ | refine sM ?_ | refine sC ?_); (conv => whnf); refine bT (by first | rfl | exact iR8 _ | exact uNN _ | exact iR (by omega) | exact iR (by rw [hw]; omega) | exact nBlt (by omega) | exact nBle (by omega) | exact roomL (by omega) rfl | exact mkOK (by omega) (by omega) (by omega) rfl | (simp; omega)) ?_) | refine bDt (by omega) ?_ | refine bDf (by omega) ?_ | refine bNt (by omega) ?_ | refine bNf (by omega) ?_ | refine bD (fun _ => ?_) (fun _ => ?_) | refine bN (fun _ => ?_) (fun _ => ?_)) <;> conv => whnf)
    all_goals rfl
  rw [ndSum, if_neg hlong]
  conv => whnf
  repeat' ((first | with_reducible refine bT rfl ?_ | with_reducible refine bF rfl ?_ | ((first | refine sN ?_ | refine sS ?_ | refine sA ?_ | refine sM ?_ | refine sC ?_); (conv => whnf); refine bT (by first | rfl | exact iR8 _ | exact uNN _ | exact iR (by omega) | exact iR (by rw [hw]; omega) | exact nBlt (by omega) | exact nBle (by omega) | exact roomL (by omega) rfl | exact mkOK (by omega) (by omega) (by omega) rfl | (simp; omega)) ?_) | refine bDt (by omega) ?_ | refine bDf (by omega) ?_ | refine bNt (by omega) ?_ | refine bNf (by omega) ?_ | refine bD (fun _ => ?_) (fun _ => ?_) | refine bN (fun _ => ?_) (fun _ => ?_)) <;> conv => whnf)
  refine loop_by (cx := cxNd) rfl progOK (ι := {i : Nat // i ≤ l.length}) (fun i => l.length - i.1) (fun i => ⟨[(0, ENd.L l), (1, .str m), (6, .own (EI.L (totsOf m (l.take i.1)))), (7, .int .i64 i.1)], [], [], none⟩) ?_ ⟨0, Nat.zero_le _⟩
  rintro ⟨i, hi⟩ ih
  dsimp only at hi ⊢
  have hn := totsOf_len m (l.take i)
  rw [List.length_take] at hn
  by_cases hlt : i < l.length
  · by_cases hx : (l.getD i ENd.d).am = m
    · conv => whnf
      repeat' ((first | with_reducible refine bT rfl ?_ | with_reducible refine bF rfl ?_ | ((first | refine sN ?_ | refine sS ?_ | refine sA ?_ | refine sM ?_ | refine sC ?_); (conv => whnf); refine bT (by first | rfl | exact iR8 _ | exact uNN _ | exact iR (by omega) | exact iR (by rw [hw]; omega) | exact nBlt (by omega) | exact nBle (by omega) | exact roomL (by omega) rfl | exact mkOK (by omega) (by omega) (by omega) rfl | (simp; omega)) ?_) | refine bDt (by omega) ?_ | refine bDf (by omega) ?_ | refine bNt (by omega) ?_ | refine bNf (by omega) ?_ | refine bDt hx ?_ | refine loop_to ih ⟨i + 1, hlt⟩ (show l.length - (i+1) < l.length - i by omega) ?_ | refine bD (fun _ => ?_) (fun _ => ?_) | refine bN (fun _ => ?_) (fun _ => ?_)) <;> conv => whnf)
      refine st_eq ?_ ?_
      all_goals repeat' (first | exact rfl | refine env_cons ?_ ?_ | refine heap_cons ?_ ?_)
      · rw [Enc.take_succ (E := ENd) hlt, totsOf_append]
        simp only [totsOf, if_pos hx]
        exact congrArg AV.own (Enc.snoc_av rfl rfl rfl rfl rfl)
      · exact congrArg _ (next_i hlt (by omega))
    · conv => whnf
      repeat' ((first | with_reducible refine bT rfl ?_ | with_reducible refine bF rfl ?_ | ((first | refine sN ?_ | refine sS ?_ | refine sA ?_ | refine sM ?_ | refine sC ?_); (conv => whnf); refine bT (by first | rfl | exact iR8 _ | exact uNN _ | exact iR (by omega) | exact iR (by rw [hw]; omega) | exact nBlt (by omega) | exact nBle (by omega) | exact roomL (by omega) rfl | exact mkOK (by omega) (by omega) (by omega) rfl | (simp; omega)) ?_) | refine bDt (by omega) ?_ | refine bDf (by omega) ?_ | refine bNt (by omega) ?_ | refine bNf (by omega) ?_ | refine bDf hx ?_ | refine loop_to ih ⟨i + 1, hlt⟩ (show l.length - (i+1) < l.length - i by omega) ?_ | refine bD (fun _ => ?_) (fun _ => ?_) | refine bN (fun _ => ?_) (fun _ => ?_)) <;> conv => whnf)
      refine st_eq ?_ ?_
      all_goals repeat' (first | exact rfl | refine env_cons ?_ ?_ | refine heap_cons ?_ ?_)
      · rw [Enc.take_succ (E := ENd) hlt, totsOf_append]
        simp only [totsOf, if_neg hx, List.append_nil]
        rfl
      · exact congrArg _ (next_i hlt (by omega))
  · obtain rfl : i = l.length := by omega
    rw [List.take_length]
    rcases hlFin_e (hl32 (totsOf m l) (0, 0)) with he | he
    · conv => whnf
      repeat' ((first | with_reducible refine bT rfl ?_ | with_reducible refine bF rfl ?_ | ((first | refine sN ?_ | refine sS ?_ | refine sA ?_ | refine sM ?_ | refine sC ?_); (conv => whnf); refine bT (by first | rfl | exact iR8 _ | exact uNN _ | exact iR (by omega) | exact iR (by rw [hw]; omega) | exact nBlt (by omega) | exact nBle (by omega) | exact roomL (by omega) rfl | exact mkOK (by omega) (by omega) (by omega) rfl | (simp; omega)) ?_) | refine bDt (by omega) ?_ | refine bDf (by omega) ?_ | refine bNt (by omega) ?_ | refine bNf (by omega) ?_ | refine call_is (refHl (totsOf m l) (by rw [List.take_length] at hn; omega)) ?_ | refine bDt he ?_ | refine bNf he ?_ | refine bD (fun _ => ?_) (fun _ => ?_) | refine bN (fun _ => ?_) (fun _ => ?_)) <;> conv => whnf)
      all_goals (rw [show hlFin (hl32 (totsOf m l) (0, 0)) = ((hlFin (hl32 (totsOf m l) (0, 0))).1, 0) from Prod.ext rfl he]; rfl)
    · have he2 : ¬ (hlFin (hl32 (totsOf m l) (0, 0))).2 = 0 := by rw [he]; decide
      conv => whnf
      repeat' ((first | with_reducible refine bT rfl ?_ | with_reducible refine bF rfl ?_ | ((first | refine sN ?_ | refine sS ?_ | refine sA ?_ | refine sM ?_ | refine sC ?_); (conv => whnf); refine bT (by first | rfl | exact iR8 _ | exact uNN _ | exact iR (by omega) | exact iR (by rw [hw]; omega) | exact nBlt (by omega) | exact nBle (by omega) | exact roomL (by omega) rfl | exact mkOK (by omega) (by omega) (by omega) rfl | (simp; omega)) ?_) | refine bDt (by omega) ?_ | refine bDf (by omega) ?_ | refine bNt (by omega) ?_ | refine bNf (by omega) ?_ | refine call_is (refHl (totsOf m l) (by rw [List.take_length] at hn; omega)) ?_ | refine bDf he2 ?_ | refine bNt he2 ?_ | refine bD (fun _ => ?_) (fun _ => ?_) | refine bN (fun _ => ?_) (fun _ => ?_)) <;> conv => whnf)
      all_goals (rw [he]; rfl)
end Go.Proofs


set_option linter.unusedVariables false
set_option linter.unusedSimpArgs false
namespace Go.Proofs
open Ax Go
set_option maxRecDepth 10000
theorem typed_slice {P : Program} {d : Nat} {t e : TypeId} {es : List AV} (ht : P.underlying t = some (.slice e)) (h : Typed P (d + 1) t es) : ∃ n g, es = [.vec (P.cellsOf e) n g] ∧ n ≤ maxLen ∧ ∀ i, i < n → TypedAV P d e (g i) := by
  unfold Typed at h
  rw [ht] at h
  exact h
theorem typed_struct {P : Program} {d : Nat} {t : TypeId} {fs : Array Field} {es : List AV} (ht : P.underlying t = some (.struct fs)) (h : Typed P (d + 1) t es) : TypedL (Typed P d) fs.toList es := by
  unfold Typed at h
  rw [ht] at h
  exact h
theorem typed_int {P : Program} {d : Nat} {t : TypeId} {k : IntKind} {es : List AV} (ht : P.underlying t = some (.int k)) (h : Typed P (d + 1) t es) : ∃ n, es = [.int k n] ∧ (Lit.int k n).wf = true := by
  unfold Typed at h
  rw [ht] at h
  exact h
theorem typed_str {P : Program} {d : Nat} {t : TypeId} {es : List AV} (ht : P.underlying t = some .string) (h : Typed P (d + 1) t es) : ∃ s : ByteArray, es = [.str s] ∧ s.size ≤ maxLen := by
  unfold Typed at h
  rw [ht] at h
  exact h
theorem list_of {α : Type} {E : Enc α} {n : Nat} {g : Nat → AV} (h : ∀ i, i < n → ∃ x, g i = E.f x) : ∃ l : List α, l.length = n ∧ Same (.vec E.sz n g) (E.L l) := by
  have each : ∀ i, ∃ x : α, i < n → g i = E.f x := fun i => by
    by_cases hi : i < n
    · obtain ⟨x, hx⟩ := h i hi; exact ⟨x, fun _ => hx⟩
    · exact ⟨E.d, fun h => absurd h hi⟩
  obtain ⟨f, hf⟩ := Classical.axiomOfChoice each
  have hl : ((List.range n).map f).length = n := by simp
  refine ⟨(List.range n).map f, hl, Enc.At.same (E := E) ⟨hl.symm, fun i hi => ?_⟩⟩
  rw [hl] at hi
  rw [hf i hi, List.getD_eq_getElem?_getD, List.getElem?_map, List.getElem?_range hi]; rfl
theorem arg_ac {d : Nat} {a : AV} (h : TypedAV Tryz.prog (d + 2) 56 a) : ∃ s : Ac, a = encAc s := by
  obtain ⟨es, h1, h2, h3⟩ := h
  obtain ⟨a0, r0, rfl, k0, a1, r1, rfl, k1, rfl⟩ := typed_struct Tryz.underlying56 h3
  obtain ⟨m, rfl, _⟩ := typed_str Tryz.underlying9 k0
  obtain ⟨n, rfl, _⟩ := typed_str Tryz.underlying9 k1
  exact ⟨⟨m, n⟩, h1⟩
theorem arg_nd {d : Nat} {a : AV} (h : TypedAV Tryz.prog (d + 3) 61 a) : ∃ s : Nd, a = encNd s := by
  obtain ⟨es, h1, h2, h3⟩ := h
  obtain ⟨b0, q0, rfl, j0, b1, q1, rfl, j1, b2, q2, rfl, j2, b3, q3, rfl, j3, b4, q4, rfl, j4, b5, q5, rfl, j5, b6, q6, rfl, j6, b7, q7, rfl, j7, rfl⟩ := typed_struct Tryz.underlying61 h3
  obtain ⟨a0, r0, rfl, k0, a1, r1, rfl, k1, rfl⟩ := typed_struct Tryz.underlying56 j0
  obtain ⟨m, rfl, _⟩ := typed_str Tryz.underlying9 k0
  obtain ⟨n, rfl, _⟩ := typed_str Tryz.underlying9 k1
  obtain ⟨x1, rfl, _⟩ := typed_int Tryz.underlying3 j1
  obtain ⟨x2, rfl, _⟩ := typed_int Tryz.underlying3 j2
  obtain ⟨x3, rfl, _⟩ := typed_int Tryz.underlying3 j3
  obtain ⟨x4, rfl, _⟩ := typed_int Tryz.underlying3 j4
  obtain ⟨x5, rfl, _⟩ := typed_int Tryz.underlying3 j5
  obtain ⟨x6, rfl, _⟩ := typed_int Tryz.underlying3 j6
  obtain ⟨x7, rfl, _⟩ := typed_int Tryz.underlying3 j7
  exact ⟨⟨m, n, x1, x2, x3, x4, x5, x6, x7⟩, h1⟩
theorem arg_nds {d : Nat} {a : AV} (h : TypedAV Tryz.prog (d + 4) 73 a) : ∃ l : List Nd, Same a (ENd.L l) ∧ l.length ≤ maxLen := by
  obtain ⟨es, h1, h2, h3⟩ := h
  obtain ⟨n, g, rfl, hn, hg⟩ := typed_slice Tryz.underlying73 h3
  have h1 : a = .vec 9 n g := h1
  subst h1
  obtain ⟨l, e, hs⟩ := list_of (E := ENd) (n := n) (g := g) fun i hi => arg_nd (hg i hi)
  exact ⟨l, hs, by rw [e]; exact hn⟩
end Go.Proofs

