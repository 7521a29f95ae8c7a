import Derived.Test.YtflebdkgdnfjoaaGreatLX
import Derived.Test.YtflebdkgdnfjoaaGreatAxEnc2
import Derived.Test.YtflebdkgdnfjoaaGreatAxFuel
set_option linter.unusedVariables false
set_option linter.unusedSimpArgs false
namespace Go.Proofs
open Ax Go
set_option maxRecDepth 10000
def keepRu (f r : Nat) : Option (List Nat) := match f, r with
  | 25, 3 => some [1, 2, 3, 24, 25]
  | 25, 10 => some [1, 2, 3, 47, 48]
  | 25, 16 => some [1, 2, 3, 80, 81]
  | 25, 22 => some [1, 2, 3, 111, 112]
  | 22, 3 => some [1, 3, 9, 10]
  | 22, 8 => some [1, 3, 26, 27]
  | 22, 13 => some [1, 3, 43, 44]
  | _, _ => none
def keepXRu (f r : Nat) : Option (List Nat) := match f, r with
  | 25, 3 => some [1, 2, 3]
  | 25, 10 => some [1, 2, 3]
  | 25, 16 => some [1, 2, 3]
  | 25, 22 => some [2, 3]
  | 22, 3 => some [1, 3]
  | 22, 8 => some [1, 3]
  | 22, 13 => some [1, 3]
  | _, _ => none
def ghRu (f r : Nat) : List Ghost := match f, r with
  | 25, 2 => [.openC 3]
  | _, _ => []
noncomputable def cxRu : Ctx where
  P := Tryz.prog
  inl := fun _ => false
  keep := keepRu
  keepX := keepXRu
  xf := fun _ _ _ => false
  ow := fun _ => false
  gh := ghRu
  gf := fun _ => []
  ln := fun _ => false
  srt := srtT
theorem okRu {f a Q} (h : stepCall (SX Tryz.prog calmT) cxRu calmT f a Q) : CallOK Tryz.prog f a Q := okOf (cx := cxRu) rfl progOK h
/-- An array of losses. -/
structure Ar where
  s : Sr
  l : List Int
  d : Int
def encAr (x : Ar) : AV := .agg [.str x.s.p, .int .i64 x.s.k, .int .i64 x.s.e, .int .i64 x.s.s, EI.L x.l, .int .i64 x.d]
def EAr : Enc Ar := ⟨6, encAr, ⟨⟨⟨#[]⟩, 0, 0, 0⟩, [], 0⟩⟩
structure Sp where
  a : Int
  b : Int
  c : Int
def ESp : Enc Sp := ⟨3, fun x => .agg [.int .i64 x.a, .int .i64 x.b, .int .i64 x.c], ⟨0, 0, 0⟩⟩
structure Ti where
  p : ByteArray
  l : List Sp
def encTi (x : Ti) : AV := .agg [.str x.p, ESp.L x.l]
def ETi : Enc Ti := ⟨2, encTi, ⟨⟨#[]⟩, []⟩⟩
structure Cr where
  a : ByteArray
  b : ByteArray
  la : Int
  lb : Int
  th : Int
def ECr : Enc Cr := ⟨5, fun x => .agg [.str x.a, .str x.b, .int .i64 x.la, .int .i64 x.lb, .int .i64 x.th], ⟨⟨#[]⟩, ⟨#[]⟩, 0, 0, 0⟩⟩
structure Sk where
  u : Int
  r : Int
def ESk : Enc Sk := ⟨2, fun x => .agg [.int .i64 x.u, .int .i64 x.r], ⟨0, 0⟩⟩
/-- Rules. -/
structure Ru where
  ar : List Ar
  ti : List Ti
  cr : List Cr
  sh : Int
  ne : Int
  nd : Int
  st : List Sk
  se : List Sr
  mo : List (List Int)
  wo : Int
  lo : Int
  pa : Int
def cellsRu (x : Ru) : List AV := [EAr.L x.ar, ETi.L x.ti, ECr.L x.cr, .int .i64 x.sh, .int .i64 x.ne, .int .i64 x.nd, ESk.L x.st, ER.L x.se, EM.L x.mo, .int .i64 x.wo, .int .i64 x.lo, .int .i64 x.pa]
def encRu (x : Ru) : AV := .agg (cellsRu x)
/-- Short enough for a walk. -/
def fewRu (x : Ru) : Prop := x.ar.length ≤ 150 ∧ x.ti.length ≤ 50 ∧ x.cr.length ≤ 200 ∧ x.st.length ≤ 200 ∧ x.se.length ≤ 150 ∧ x.mo.length ≤ 600 ∧ (∀ a ∈ x.ar, a.l.length ≤ 3000) ∧ (∀ a ∈ x.ti, a.l.length ≤ 3000) ∧ ∀ a ∈ x.mo, a.length ≤ 3000
/-- The rules as the program has them, so far. -/
def outRu (x : Ru) (i j k n b c : Nat) : List AV :=
  [.own (EAr.L (x.ar.take i)), .own (ETi.L (x.ti.take j)), .own (ECr.L (x.cr.take b)), .int .i64 x.sh, .int .i64 x.ne, .int .i64 x.nd, .own (ESk.L (x.st.take k)), .own (ER.L (x.se.take c)), .own (EM.L (x.mo.take n)), .int .i64 x.wo, .int .i64 x.lo, .int .i64 x.pa]
def zRu : List AV := [.own (EAr.L []), .own (ETi.L []), .own (ECr.L []), .int .i64 0, .int .i64 0, .int .i64 0, .own (ESk.L []), .own (ER.L []), .own (EM.L []), .int .i64 0, .int .i64 0, .int .i64 0]
theorem Enc.copy_av {α : Type} {E : Enc α} {L : List α} {z : AV} {g : Nat → AV} {sz n k : Nat} (hs : sz = E.sz) (hn : n = L.length) (hk : k = L.length) (hz : z = E.f E.d) : AV.vec sz k (vapp z g 0 (fun i => E.f (L.getD i E.d)) n) = E.L L := by
  subst hs hn hk
  unfold Enc.L
  congr 1
  funext j
  rw [vapp_get, if_neg (Nat.not_lt_zero _)]
  split
  · rw [Nat.sub_zero]
  · rw [hz, List.getD_eq_getElem?_getD, List.getElem?_eq_none (by omega)]; rfl
theorem cl_cons {a a1 : AV} {r r1 : List AV} (h1 : a = a1) (h2 : r = r1) : a :: r = a1 :: r1 := by rw [h1, h2]
set_option maxHeartbeats 8000000 in
theorem program (x : Ru) (h : fewRu x) : CallOK Tryz.prog 25 [encRu x] (fun r => r = encRu x) := by
  obtain ⟨h1, h2, h3, h4, h5, h6, h7, h8, h9⟩ := h
  have c0 : (x.cr.take 0).length = 0 := by simp
  have s0 : (x.se.take 0).length = 0 := by simp
  refine okRu ?_
  conv => whnf
  repeat' ((first | with_reducible refine bT rfl ?_ | with_reducible refine bF rfl ?_ | ((first | refine sN ?_ | refine sS ?_ | refine sA ?_ | refine sM ?_ | refine sC ?_); (conv => whnf); refine bT (by first | rfl | exact iR8 _ | exact uNN _ | exact iR (by omega) | exact iR (by rw [hw]; omega) | exact nBlt (by omega) | exact nBle (by omega) | exact roomL (by omega) rfl | exact mkOK (by omega) (by omega) (by omega) rfl | (simp; omega)) ?_) | refine bDt (by omega) ?_ | refine bDf (by omega) ?_ | refine bNt (by omega) ?_ | refine bNf (by omega) ?_ | refine bD (fun _ => ?_) (fun _ => ?_) | refine bN (fun _ => ?_) (fun _ => ?_)) <;> conv => whnf)
  refine loop_by (cx := cxRu) rfl progOK (ι := {i : Nat // i ≤ x.ar.length}) (fun i => x.ar.length - i.1) (fun i => ⟨[(1, .ptr (0 + 1) 0), (2, .ptr 0 0), (3, .ptr (0 + 1 + 1) 0), (24, .int .i64 x.ar.length), (25, .int .i64 i.1)], [.cells zRu, .cells (cellsRu x), .cells (outRu x i.1 0 0 0 0 0)], [], none⟩) ?_ ⟨0, Nat.zero_le _⟩
  rintro ⟨i, hi⟩ ih
  dsimp only
  by_cases hlt : i < x.ar.length
  · have hT : (x.ar.take i).length = i := by rw [List.length_take]; omega
    have hL := h7 (x.ar.getD i EAr.d) (Enc.get_mem (E := EAr) hlt)
    have hL' := hL
    rw [← Int.toNat_natCast i] at hL'
    conv => whnf
    repeat' ((first | with_reducible refine bT rfl ?_ | with_reducible refine bF rfl ?_ | ((first | refine sN ?_ | refine sS ?_ | refine sA ?_ | refine sM ?_ | refine sC ?_); (conv => whnf); refine bT (by first | rfl | exact iR8 _ | exact uNN _ | exact iR (by omega) | exact iR (by rw [hw]; omega) | exact nBlt (by omega) | exact nBle (by omega) | exact roomL (by omega) rfl | exact mkOK (by omega) (by omega) (by omega) rfl | (simp; omega)) ?_) | refine bDt (by omega) ?_ | refine bDf (by omega) ?_ | refine bNt (by omega) ?_ | refine bNf (by omega) ?_ | refine loop_to ih ⟨i + 1, hlt⟩ (show x.ar.length - (i+1) < x.ar.length - i by omega) ?_ | refine bD (fun _ => ?_) (fun _ => ?_) | refine bN (fun _ => ?_) (fun _ => ?_)) <;> conv => whnf)
    refine st_eq ?_ ?_
    all_goals repeat' (first | exact rfl | refine env_cons ?_ ?_ | refine heap_cons ?_ ?_)
    · exact congrArg _ (next_i hlt (by omega))
    · refine congrArg AObj.cells ?_
      unfold outRu
      rw [Enc.take_succ (E := EAr) hlt]
      repeat' (first | exact rfl | refine cl_cons ?_ ?_)
      refine congrArg AV.own (Enc.snoc_av (E := EAr) rfl rfl rfl rfl ?_)
      exact congrArg (fun q => AV.agg [.str (x.ar.getD i EAr.d).s.p, .int .i64 (x.ar.getD i EAr.d).s.k, .int .i64 (x.ar.getD i EAr.d).s.e, .int .i64 (x.ar.getD i EAr.d).s.s, q, .int .i64 (x.ar.getD i EAr.d).d]) (Enc.copy_av (E := EI) (L := (x.ar.getD i EAr.d).l) rfl rfl (Nat.zero_add _) rfl)
  obtain rfl : i = x.ar.length := by omega
  clear ih hlt
  conv => whnf
  repeat' ((first | with_reducible refine bT rfl ?_ | with_reducible refine bF rfl ?_ | ((first | refine sN ?_ | refine sS ?_ | refine sA ?_ | refine sM ?_ | refine sC ?_); (conv => whnf); refine bT (by first | rfl | exact iR8 _ | exact uNN _ | exact iR (by omega) | exact iR (by rw [hw]; omega) | exact nBlt (by omega) | exact nBle (by omega) | exact roomL (by omega) rfl | exact mkOK (by omega) (by omega) (by omega) rfl | (simp; omega)) ?_) | refine bDt (by omega) ?_ | refine bDf (by omega) ?_ | refine bNt (by omega) ?_ | refine bNf (by omega) ?_ | refine bD (fun _ => ?_) (fun _ => ?_) | refine bN (fun _ => ?_) (fun _ => ?_)) <;> conv => whnf)
  refine loop_by (cx := cxRu) rfl progOK (ι := {i : Nat // i ≤ x.ti.length}) (fun i => x.ti.length - i.1) (fun i => ⟨[(1, .ptr (0 + 1) 0), (2, .ptr 0 0), (3, .ptr (0 + 1 + 1) 0), (47, .int .i64 x.ti.length), (48, .int .i64 i.1)], [.cells zRu, .cells (cellsRu x), .cells (outRu x x.ar.length i.1 0 0 0 0)], [], none⟩) ?_ ⟨0, Nat.zero_le _⟩
  rintro ⟨i, hi⟩ ih
  dsimp only
  by_cases hlt : i < x.ti.length
  · have hT : (x.ti.take i).length = i := by rw [List.length_take]; omega
    have hL := h8 (x.ti.getD i ETi.d) (Enc.get_mem (E := ETi) hlt)
    have hL' := hL
    rw [← Int.toNat_natCast i] at hL'
    conv => whnf
    repeat' ((first | with_reducible refine bT rfl ?_ | with_reducible refine bF rfl ?_ | ((first | refine sN ?_ | refine sS ?_ | refine sA ?_ | refine sM ?_ | refine sC ?_); (conv => whnf); refine bT (by first | rfl | exact iR8 _ | exact uNN _ | exact iR (by omega) | exact iR (by rw [hw]; omega) | exact nBlt (by omega) | exact nBle (by omega) | exact roomL (by omega) rfl | exact mkOK (by omega) (by omega) (by omega) rfl | (simp; omega)) ?_) | refine bDt (by omega) ?_ | refine bDf (by omega) ?_ | refine bNt (by omega) ?_ | refine bNf (by omega) ?_ | refine loop_to ih ⟨i + 1, hlt⟩ (show x.ti.length - (i+1) < x.ti.length - i by omega) ?_ | refine bD (fun _ => ?_) (fun _ => ?_) | refine bN (fun _ => ?_) (fun _ => ?_)) <;> conv => whnf)
    refine st_eq ?_ ?_
    all_goals repeat' (first | exact rfl | refine env_cons ?_ ?_ | refine heap_cons ?_ ?_)
    · exact congrArg _ (next_i hlt (by omega))
    · refine congrArg AObj.cells ?_
      unfold outRu
      rw [Enc.take_succ (E := ETi) hlt]
      repeat' (first | exact rfl | refine cl_cons ?_ ?_)
      refine congrArg AV.own (Enc.snoc_av (E := ETi) rfl rfl rfl rfl ?_)
      exact congrArg (fun q => AV.agg [.str (x.ti.getD i ETi.d).p, q]) (Enc.copy_av (E := ESp) (L := (x.ti.getD i ETi.d).l) rfl rfl (Nat.zero_add _) rfl)
  obtain rfl : i = x.ti.length := by omega
  clear ih hlt
  conv => whnf
  repeat' ((first | with_reducible refine bT rfl ?_ | with_reducible refine bF rfl ?_ | ((first | refine sN ?_ | refine sS ?_ | refine sA ?_ | refine sM ?_ | refine sC ?_); (conv => whnf); refine bT (by first | rfl | exact iR8 _ | exact uNN _ | exact iR (by omega) | exact iR (by rw [hw]; omega) | exact nBlt (by omega) | exact nBle (by omega) | exact roomL (by omega) rfl | exact mkOK (by omega) (by omega) (by omega) rfl | (simp; omega)) ?_) | refine bDt (by omega) ?_ | refine bDf (by omega) ?_ | refine bNt (by omega) ?_ | refine bNf (by omega) ?_ | refine bD (fun _ => ?_) (fun _ => ?_) | refine bN (fun _ => ?_) (fun _ => ?_)) <;> conv => whnf)
  refine loop_start (st' := ⟨[(1, .ptr (0 + 1) 0), (2, .ptr 0 0), (3, .ptr (0 + 1 + 1) 0), (80, .int .i64 x.st.length), (81, .int .i64 (0 : Nat))], [.cells zRu, .cells (cellsRu x), .cells (outRu x x.ar.length x.ti.length 0 0 x.cr.length 0)], [], none⟩) ?_ ?_
  · refine st_eq ?_ ?_
    all_goals repeat' (first | exact rfl | refine env_cons ?_ ?_ | refine heap_cons ?_ ?_)
    refine congrArg AObj.cells ?_
    unfold outRu
    repeat' (first | exact rfl | refine cl_cons ?_ ?_)
    rw [List.take_length (l := x.cr)]
    exact congrArg AV.own (Enc.copy_av (E := ECr) rfl rfl (Nat.zero_add _) rfl)
  refine loop_by (cx := cxRu) rfl progOK (ι := {i : Nat // i ≤ x.st.length}) (fun i => x.st.length - i.1) (fun i => ⟨[(1, .ptr (0 + 1) 0), (2, .ptr 0 0), (3, .ptr (0 + 1 + 1) 0), (80, .int .i64 x.st.length), (81, .int .i64 i.1)], [.cells zRu, .cells (cellsRu x), .cells (outRu x x.ar.length x.ti.length i.1 0 x.cr.length 0)], [], none⟩) ?_ ⟨0, Nat.zero_le _⟩
  rintro ⟨i, hi⟩ ih
  dsimp only
  by_cases hlt : i < x.st.length
  · have hT : (x.st.take i).length = i := by rw [List.length_take]; omega
    conv => whnf
    repeat' ((first | with_reducible refine bT rfl ?_ | with_reducible refine bF rfl ?_ | ((first | refine sN ?_ | refine sS ?_ | refine sA ?_ | refine sM ?_ | refine sC ?_); (conv => whnf); refine bT (by first | rfl | exact iR8 _ | exact uNN _ | exact iR (by omega) | exact iR (by rw [hw]; omega) | exact nBlt (by omega) | exact nBle (by omega) | exact roomL (by omega) rfl | exact mkOK (by omega) (by omega) (by omega) rfl | (simp; omega)) ?_) | refine bDt (by omega) ?_ | refine bDf (by omega) ?_ | refine bNt (by omega) ?_ | refine bNf (by omega) ?_ | refine loop_to ih ⟨i + 1, hlt⟩ (show x.st.length - (i+1) < x.st.length - i by omega) ?_ | refine bD (fun _ => ?_) (fun _ => ?_) | refine bN (fun _ => ?_) (fun _ => ?_)) <;> conv => whnf)
    refine st_eq ?_ ?_
    all_goals repeat' (first | exact rfl | refine env_cons ?_ ?_ | refine heap_cons ?_ ?_)
    · exact congrArg _ (next_i hlt (by omega))
    · refine congrArg AObj.cells ?_
      unfold outRu
      rw [Enc.take_succ (E := ESk) hlt]
      repeat' (first | exact rfl | refine cl_cons ?_ ?_)
      refine congrArg AV.own (Enc.snoc_av (E := ESk) rfl rfl rfl rfl ?_)
      rfl
  obtain rfl : i = x.st.length := by omega
  clear ih hlt
  conv => whnf
  repeat' ((first | with_reducible refine bT rfl ?_ | with_reducible refine bF rfl ?_ | ((first | refine sN ?_ | refine sS ?_ | refine sA ?_ | refine sM ?_ | refine sC ?_); (conv => whnf); refine bT (by first | rfl | exact iR8 _ | exact uNN _ | exact iR (by omega) | exact iR (by rw [hw]; omega) | exact nBlt (by omega) | exact nBle (by omega) | exact roomL (by omega) rfl | exact mkOK (by omega) (by omega) (by omega) rfl | (simp; omega)) ?_) | refine bDt (by omega) ?_ | refine bDf (by omega) ?_ | refine bNt (by omega) ?_ | refine bNf (by omega) ?_ | refine bD (fun _ => ?_) (fun _ => ?_) | refine bN (fun _ => ?_) (fun _ => ?_)) <;> conv => whnf)
  refine loop_start (st' := ⟨[(1, .ptr (0 + 1) 0), (2, .ptr 0 0), (3, .ptr (0 + 1 + 1) 0), (111, .int .i64 x.mo.length), (112, .int .i64 (0 : Nat))], [.cells zRu, .cells (cellsRu x), .cells (outRu x x.ar.length x.ti.length x.st.length 0 x.cr.length x.se.length)], [], none⟩) ?_ ?_
  · refine st_eq ?_ ?_
    all_goals repeat' (first | exact rfl | refine env_cons ?_ ?_ | refine heap_cons ?_ ?_)
    refine congrArg AObj.cells ?_
    unfold outRu
    repeat' (first | exact rfl | refine cl_cons ?_ ?_)
    rw [List.take_length (l := x.se)]
    exact congrArg AV.own (Enc.copy_av (E := ER) rfl rfl (Nat.zero_add _) rfl)
  refine loop_by (cx := cxRu) rfl progOK (ι := {i : Nat // i ≤ x.mo.length}) (fun i => x.mo.length - i.1) (fun i => ⟨[(1, .ptr (0 + 1) 0), (2, .ptr 0 0), (3, .ptr (0 + 1 + 1) 0), (111, .int .i64 x.mo.length), (112, .int .i64 i.1)], [.cells zRu, .cells (cellsRu x), .cells (outRu x x.ar.length x.ti.length x.st.length i.1 x.cr.length x.se.length)], [], none⟩) ?_ ⟨0, Nat.zero_le _⟩
  rintro ⟨i, hi⟩ ih
  dsimp only
  by_cases hlt : i < x.mo.length
  · have hT : (x.mo.take i).length = i := by rw [List.length_take]; omega
    have hL := h9 (x.mo.getD i EM.d) (Enc.get_mem (E := EM) hlt)
    have hL' := hL
    rw [← Int.toNat_natCast i] at hL'
    conv => whnf
    repeat' ((first | with_reducible refine bT rfl ?_ | with_reducible refine bF rfl ?_ | ((first | refine sN ?_ | refine sS ?_ | refine sA ?_ | refine sM ?_ | refine sC ?_); (conv => whnf); refine bT (by first | rfl | exact iR8 _ | exact uNN _ | exact iR (by omega) | exact iR (by rw [hw]; omega) | exact nBlt (by omega) | exact nBle (by omega) | exact roomL (by omega) rfl | exact mkOK (by omega) (by omega) (by omega) rfl | (simp; omega)) ?_) | refine bDt (by omega) ?_ | refine bDf (by omega) ?_ | refine bNt (by omega) ?_ | refine bNf (by omega) ?_ | refine loop_to ih ⟨i + 1, hlt⟩ (show x.mo.length - (i+1) < x.mo.length - i by omega) ?_ | refine bD (fun _ => ?_) (fun _ => ?_) | refine bN (fun _ => ?_) (fun _ => ?_)) <;> conv => whnf)
    refine st_eq ?_ ?_
    all_goals repeat' (first | exact rfl | refine env_cons ?_ ?_ | refine heap_cons ?_ ?_)
    · exact congrArg _ (next_i hlt (by omega))
    · refine congrArg AObj.cells ?_
      unfold outRu
      rw [Enc.take_succ (E := EM) hlt]
      repeat' (first | exact rfl | refine cl_cons ?_ ?_)
      refine congrArg AV.own (Enc.snoc_av (E := EM) rfl rfl rfl rfl ?_)
      exact Enc.copy_av (E := EI) (L := x.mo.getD i EM.d) rfl rfl (Nat.zero_add _) rfl
  obtain rfl : i = x.mo.length := by omega
  clear ih hlt
  conv => whnf
  repeat' ((first | with_reducible refine bT rfl ?_ | with_reducible refine bF rfl ?_ | ((first | refine sN ?_ | refine sS ?_ | refine sA ?_ | refine sM ?_ | refine sC ?_); (conv => whnf); refine bT (by first | rfl | exact iR8 _ | exact uNN _ | exact iR (by omega) | exact iR (by rw [hw]; omega) | exact nBlt (by omega) | exact nBle (by omega) | exact roomL (by omega) rfl | exact mkOK (by omega) (by omega) (by omega) rfl | (simp; omega)) ?_) | refine bDt (by omega) ?_ | refine bDf (by omega) ?_ | refine bNt (by omega) ?_ | refine bNf (by omega) ?_ | refine bD (fun _ => ?_) (fun _ => ?_) | refine bN (fun _ => ?_) (fun _ => ?_)) <;> conv => whnf)
  simp only [List.take_length]
  rfl
end Go.Proofs


set_option linter.unusedVariables false
namespace Go.Proofs
open Ax Go
set_option maxRecDepth 100000
mutual
/-- Are plain values the same? -/
def sameB : AV → AV → Bool
  | .int k a, .int k' b => decide (k = k') && decide (a = b)
  | .str a, .str b => decide (a = b)
  | .bool a, .bool b => a == b
  | .agg a, .agg b => sameBL a b
  | .tup a, .tup b => sameBL a b
  | _, _ => false
def sameBL : List AV → List AV → Bool
  | [], [] => true
  | a :: r, b :: s => sameB a b && sameBL r s
  | _, _ => false
end
mutual
theorem sameB_of : ∀ {a b : AV}, sameB a b = true → a = b
  | .int k a, b, h => by
    cases b <;> simp [sameB] at h
    rw [h.1, h.2]
  | .str a, b, h => by
    cases b <;> simp [sameB] at h
    rw [h]
  | .bool a, b, h => by
    cases b <;> simp [sameB] at h
    rw [h]
  | .agg a, b, h => by
    cases b <;> simp only [sameB, Bool.false_eq_true] at h
    rw [sameBL_of h]
  | .tup a, b, h => by
    cases b <;> simp only [sameB, Bool.false_eq_true] at h
    rw [sameBL_of h]
  | .undef, b, h => by simp [sameB] at h
  | .vec _ _ _, b, h => by simp [sameB] at h
  | .wide _ _ _ _, b, h => by simp [sameB] at h
  | .own _, b, h => by simp [sameB] at h
  | .uni _, b, h => by simp [sameB] at h
  | .cptr _, b, h => by simp [sameB] at h
  | .ptr _ _, b, h => by simp [sameB] at h
  | .eptr _ _ _ _, b, h => by simp [sameB] at h
  | .nilptr, b, h => by simp [sameB] at h
  | .row _ _ _ _, b, h => by simp [sameB] at h
  | .brow _ _ _, b, h => by simp [sameB] at h
  | .nils _ _, b, h => by simp [sameB] at h
  | .rvec _, b, h => by simp [sameB] at h
  | .mapr _, b, h => by simp [sameB] at h
  | .nilmap, b, h => by simp [sameB] at h
  | .fn _ _ _, b, h => by simp [sameB] at h
  | .nilfn, b, h => by simp [sameB] at h
  | .iter _, b, h => by simp [sameB] at h
  | .stamp _ _, b, h => by simp [sameB] at h
  | .iface _ _, b, h => by simp [sameB] at h
  | .nilIface, b, h => by simp [sameB] at h
theorem sameBL_of : ∀ {a b : List AV}, sameBL a b = true → a = b
  | [], [], _ => rfl
  | a :: r, b :: s, h => by
    simp only [sameBL, Bool.and_eq_true] at h
    rw [sameB_of h.1, sameBL_of h.2]
  | [], _ :: _, h => by simp [sameBL] at h
  | _ :: _, [], h => by simp [sameBL] at h
end
noncomputable def cxZ : Ctx where
  P := Tryz.prog
  inl := fun f => match f with | 309 => true | 375 => true | 277 => true | 102 => true | 103 => true | 104 => true | 105 => true | 106 => true | 107 => true | 108 => true | _ => false
  keep := fun _ _ => none
  keepX := fun _ _ => none
  xf := fun f r i => match f, r, i with | 193, 13, 2 => true | _, _, _ => false
  ow := fun _ => true
  gh := fun f r => match f, r with | 101, 3 => [.adoptO 3] | 101, 12 => [.freeze 3] | 278, 2 => [.adopt 3] | 278, 5 => [.freeze 3] | 200, 1 => [.shutP 5, .shutP 6] | 193, 14 => [.adoptC 8, .adoptC 9] | _, _ => []
  gf := fun f => match f with | 193 => [.freezeC 8, .freezeC 9] | _ => []
  ln := fun _ => false
  srt := srtT
def oil9 : ByteArray := ⟨#[111, 105, 108]⟩
def ru9 : Ru := ⟨[⟨⟨oil9, 1, 9576, 0⟩, [-100, 0, 100], 1000⟩], [], [], 50, 0, 0, [⟨10, 5⟩], [], [], 0, 30, 100⟩
def ps9 : List Pr := [⟨oil9, 0, 1, 1, 0, 100, false⟩]
def ac9 : Ac := ⟨⟨#[97]⟩, ⟨#[120]⟩⟩
def nd9 : Nd := ⟨⟨#[97]⟩, ⟨#[120]⟩, 300, 0, 0, 0, 0, 15, 347⟩
def nd90 : Nd := ⟨⟨#[97]⟩, ⟨#[120]⟩, 0, 0, 0, 0, 0, 0, 0⟩
def tupNe (p : Nd × Int) : AV := .tup [encNd p.1, .int .i64 p.2]
theorem run91 : CallOK Tryz.prog 27 [encRu ru9, EPr.L ps9, .int .i64 9500, encAc ac9, EP.L [⟨⟨oil9, 1, 9576, 0⟩, 3, 0⟩]] (fun r => r = tupNe (nd9, 0)) :=
  lfp_sound (cx := cxZ) rfl progOK (fuel_call (calm := calmT) 100 (q := fun r => sameB r (tupNe (nd9, 0))) (fun r h => sameB_of h) (by decide +kernel))
theorem run92 : CallOK Tryz.prog 27 [encRu ru9, EPr.L ps9, .int .i64 9500, encAc ac9, EP.L [⟨⟨oil9, 1, 9576, 0⟩, 1, 1⟩]] (fun r => r = tupNe (nd90, 0)) :=
  lfp_sound (cx := cxZ) rfl progOK (fuel_call (calm := calmT) 100 (q := fun r => sameB r (tupNe (nd90, 0))) (fun r h => sameB_of h) (by decide +kernel))
end Go.Proofs


set_option linter.unusedVariables false
set_option linter.unusedSimpArgs false
namespace Go.Proofs
open Ax Go
set_option maxRecDepth 100000
noncomputable def cxGe : Ctx where
  P := Tryz.prog
  inl := fun _ => false
  keep := fun _ _ => none
  keepX := fun _ _ => none
  xf := fun _ _ _ => false
  ow := fun _ => false
  gh := fun _ _ => []
  gf := fun _ => []
  ln := fun _ => false
  srt := srtT
theorem okGe {f a Q} (h : stepCall (SX Tryz.prog calmT) cxGe calmT f a Q) : CallOK Tryz.prog f a Q := okOf (cx := cxGe) rfl progOK h
theorem all1 {k : Nat → Prop} (h0 : k 0) : ∀ i, i < 1 → k i := fun i hi => by obtain rfl : i = 0 := by omega
                                                                              exact h0
theorem all2 {k : Nat → Prop} (h0 : k 0) (h1 : k 1) : ∀ i, i < 2 → k i := fun i hi => by
  rcases (show i = 0 ∨ i = 1 by omega) with rfl | rfl <;> assumption
theorem all3 {k : Nat → Prop} (h0 : k 0) (h1 : k 1) (h2 : k 2) : ∀ i, i < 3 → k i := fun i hi => by
  rcases (show i = 0 ∨ i = 1 ∨ i = 2 by omega) with rfl | rfl | rfl <;> assumption
theorem all4 {k : Nat → Prop} (h0 : k 0) (h1 : k 1) (h2 : k 2) (h3 : k 3) : ∀ i, i < 4 → k i := fun i hi => by
  rcases (show i = 0 ∨ i = 1 ∨ i = 2 ∨ i = 3 by omega) with rfl | rfl | rfl | rfl <;> assumption
theorem vlist_av {α : Type} {E : Enc α} {L : List α} {z : AV} {l : List AV} {sz n : Nat} (hs : sz = E.sz) (hn : n = L.length) (hl : l = L.map E.f) (hz : z = E.f E.d) : AV.vec sz n (vlist z l) = E.L L := by
  subst hs hn hl
  unfold Enc.L
  congr 1
  funext j
  unfold vlist
  rw [List.getD_eq_getElem?_getD, List.getD_eq_getElem?_getD, List.getElem?_map, hz]
  cases L[j]? <;> rfl
theorem few9 : fewRu ru9 := by
  refine ⟨by decide, by decide, by decide, by decide, by decide, by decide, ?_, ?_, ?_⟩ <;> (intro a h; simp [ru9] at h; try (subst h; decide))
def sr9 : Sr := ⟨oil9, 1, 9576, 0⟩
set_option maxHeartbeats 8000000 in
theorem page : CallOK Tryz.prog 76 [] (fun r => r = .tup [encSr sr9, EPr.L ps9, encRu ru9]) := by
  refine okGe ?_
  conv => whnf
  repeat' ((first | with_reducible refine bT rfl ?_ | with_reducible refine bF rfl ?_ | ((first | refine sN ?_ | refine sS ?_ | refine sA ?_ | refine sM ?_ | refine sC ?_); (conv => whnf); refine bT (by first | rfl | exact iR8 _ | exact uNN _ | exact iR (by omega) | exact iR (by rw [hw]; omega) | exact nBlt (by omega) | exact nBle (by omega) | exact roomL (by omega) rfl | exact mkOK (by omega) (by omega) (by omega) rfl | (simp; omega)) ?_) | refine bDt (by omega) ?_ | refine bDf (by omega) ?_ | refine bNt (by omega) ?_ | refine bNf (by omega) ?_ | refine all4 ?_ ?_ ?_ ?_ | refine all3 ?_ ?_ ?_ | refine all2 ?_ ?_ | refine all1 ?_ | refine bD (fun _ => ?_) (fun _ => ?_) | refine bN (fun _ => ?_) (fun _ => ?_)) <;> conv => whnf)
  all_goals refine congrArg AV.tup (cl_cons rfl (cl_cons (vlist_av (E := EPr) rfl rfl rfl rfl) (cl_cons (congrArg AV.agg (cl_cons (vlist_av (E := EAr) rfl rfl (cl_cons (congrArg (fun q => AV.agg [.str oil9, .int .i64 1, .int .i64 9576, .int .i64 0, q, .int .i64 1000]) (vlist_av (E := EI) rfl rfl rfl rfl)) rfl) rfl) (cl_cons (Enc.nil_av (E := ETi) rfl rfl rfl) (cl_cons (Enc.nil_av (E := ECr) rfl rfl rfl) (cl_cons rfl (cl_cons rfl (cl_cons rfl (cl_cons (vlist_av (E := ESk) rfl rfl rfl rfl) (cl_cons (Enc.nil_av (E := ER) rfl rfl rfl) (cl_cons (Enc.nil_av (E := EM) rfl rfl rfl) rfl)))))))))) rfl)))
theorem call_eq {P : Program} {calm : List Oper → Bool} {f : FuncId} {a a' : List AV} {Q : AV → Prop} (h : a = a') (H : SCall P calm f a' Q) : SCall P calm f a Q := h ▸ H
theorem po_eq {a b c d e e' : AV} (h : e = e') : [a, b, c, d, e] = [a, b, c, d, e'] := by rw [h]
set_option maxHeartbeats 8000000 in
theorem goes29 : CallOK Tryz.prog 23 [] (fun r => r = .bool true) := by
  refine okGe ?_
  conv => whnf
  repeat' ((first | with_reducible refine bT rfl ?_ | with_reducible refine bF rfl ?_ | ((first | refine sN ?_ | refine sS ?_ | refine sA ?_ | refine sM ?_ | refine sC ?_); (conv => whnf); refine bT (by first | rfl | exact iR8 _ | exact uNN _ | exact iR (by omega) | exact iR (by rw [hw]; omega) | exact nBlt (by omega) | exact nBle (by omega) | exact roomL (by omega) rfl | exact mkOK (by omega) (by omega) (by omega) rfl | (simp; omega)) ?_) | refine bDt (by omega) ?_ | refine bDf (by omega) ?_ | refine bNt (by omega) ?_ | refine bNf (by omega) ?_ | refine call_is page ?_ | refine call_is (program ru9 few9) ?_ | refine call_eq (po_eq (vlist_av (E := EP) (L := [⟨⟨oil9, 1, 9576, 0⟩, 3, 0⟩]) rfl rfl rfl rfl)) (call_is run91 ?_) | refine call_eq (po_eq (vlist_av (E := EP) (L := [⟨⟨oil9, 1, 9576, 0⟩, 1, 1⟩]) rfl rfl rfl rfl)) (call_is run92 ?_) | refine st_bin rfl rfl rfl (eqNd nd9 nd9) ?_ | refine st_bin rfl rfl rfl (eqNd nd90 nd90) ?_ | refine bDt rfl ?_ | refine all4 ?_ ?_ ?_ ?_ | refine all3 ?_ ?_ ?_ | refine all2 ?_ ?_ | refine all1 ?_ | refine bD (fun _ => ?_) (fun _ => ?_) | refine bN (fun _ => ?_) (fun _ => ?_)) <;> conv => whnf)
  all_goals rfl
end Go.Proofs


set_option linter.unusedVariables false
set_option linter.unusedSimpArgs false
namespace Go.Proofs
open Ax Go
set_option maxRecDepth 10000
noncomputable def cxLS : Ctx where
  P := Tryz.prog
  inl := fun _ => false
  keep := fun _ _ => none
  keepX := fun _ _ => none
  xf := fun _ _ _ => false
  ow := fun _ => false
  gh := fun _ _ => []
  gf := fun _ => []
  ln := fun _ => false
  srt := srtT
theorem okLS {f a Q} (h : stepCall (SX Tryz.prog calmT) cxLS calmT f a Q) : CallOK Tryz.prog f a Q := okOf (cx := cxLS) rfl progOK h
set_option maxHeartbeats 4000000 in
theorem lawSums : ∀ xs, TypedArgs Tryz.prog 8 Tryz.f8.params.toList xs → CallOK Tryz.prog 8 xs (fun r => r = .bool true) := by
  intro xs h
  obtain ⟨a, r, rfl, ha, b, s, rfl, hb, rfl⟩ := h
  obtain ⟨l, hl1, hl2⟩ := arg_nds ha
  obtain ⟨c, rfl⟩ := arg_ac hb
  refine ok_same (.cons hl1 (.cons (Same.refl _) .nil)) ?_
  refine okLS ?_
  by_cases hlen : l.length ≤ 3000
  · have k1 := ndSumOK l c.m (by omega)
    have k2 := refNdSum l c.m (by omega)
    have k3 := ndOf l c (by omega)
    have k4 := refNdOf l c (by omega)
    generalize ndSum l c.m = p at *
    generalize findNd c l = q at *
    obtain ⟨p1, p2⟩ := p
    obtain ⟨q1, q2⟩ := q
    cases q2
    · conv => whnf
      repeat' ((first | with_reducible refine bT rfl ?_ | with_reducible refine bF rfl ?_ | ((first | refine sN ?_ | refine sS ?_ | refine sA ?_ | refine sM ?_ | refine sC ?_); (conv => whnf); refine bT (by first | rfl | exact iR8 _ | exact uNN _ | exact iR (by omega) | exact iR (by rw [hw]; omega) | exact nBlt (by omega) | exact nBle (by omega) | exact roomL (by omega) rfl | exact mkOK (by omega) (by omega) (by omega) rfl | (simp; omega)) ?_) | refine bDt (by omega) ?_ | refine bDf (by omega) ?_ | refine bNt (by omega) ?_ | refine bNf (by omega) ?_ | refine call_is k1 ?_ | refine call_is k2 ?_ | refine call_is k3 ?_ | refine call_is k4 ?_ | refine call_is goes29 ?_ | refine st_bin rfl rfl rfl (eqNd q1 q1) ?_ | refine bDt rfl ?_ | refine bD (fun _ => ?_) (fun _ => ?_) | refine bN (fun _ => ?_) (fun _ => ?_)) <;> conv => whnf)
      all_goals rfl
    · conv => whnf
      repeat' ((first | with_reducible refine bT rfl ?_ | with_reducible refine bF rfl ?_ | ((first | refine sN ?_ | refine sS ?_ | refine sA ?_ | refine sM ?_ | refine sC ?_); (conv => whnf); refine bT (by first | rfl | exact iR8 _ | exact uNN _ | exact iR (by omega) | exact iR (by rw [hw]; omega) | exact nBlt (by omega) | exact nBle (by omega) | exact roomL (by omega) rfl | exact mkOK (by omega) (by omega) (by omega) rfl | (simp; omega)) ?_) | refine bDt (by omega) ?_ | refine bDf (by omega) ?_ | refine bNt (by omega) ?_ | refine bNf (by omega) ?_ | refine call_is k1 ?_ | refine call_is k2 ?_ | refine call_is k3 ?_ | refine call_is k4 ?_ | refine call_is goes29 ?_ | refine st_bin rfl rfl rfl (eqNd q1 q1) ?_ | refine bDt rfl ?_ | refine bD (fun _ => ?_) (fun _ => ?_) | refine bN (fun _ => ?_) (fun _ => ?_)) <;> conv => whnf)
      all_goals rfl
  · conv => whnf
    repeat' ((first | with_reducible refine bT rfl ?_ | with_reducible refine bF rfl ?_ | ((first | refine sN ?_ | refine sS ?_ | refine sA ?_ | refine sM ?_ | refine sC ?_); (conv => whnf); refine bT (by first | rfl | exact iR8 _ | exact uNN _ | exact iR (by omega) | exact iR (by rw [hw]; omega) | exact nBlt (by omega) | exact nBle (by omega) | exact roomL (by omega) rfl | exact mkOK (by omega) (by omega) (by omega) rfl | (simp; omega)) ?_) | refine bDt (by omega) ?_ | refine bDf (by omega) ?_ | refine bNt (by omega) ?_ | refine bNf (by omega) ?_ | refine call_is goes29 ?_ | refine bD (fun _ => ?_) (fun _ => ?_) | refine bN (fun _ => ?_) (fun _ => ?_)) <;> conv => whnf)
    all_goals rfl
end Go.Proofs

