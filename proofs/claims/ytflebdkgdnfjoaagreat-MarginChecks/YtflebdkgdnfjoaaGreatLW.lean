import Derived.Test.YtflebdkgdnfjoaaGreatLU
import Derived.Test.YtflebdkgdnfjoaaGreatAxEnc2
import Derived.Test.YtflebdkgdnfjoaaGreatAxRowZ
set_option linter.unusedVariables false
set_option linter.unusedSimpArgs false
namespace Go.Proofs
open Ax Go
set_option maxRecDepth 10000
structure Nd where
  am : ByteArray
  an : ByteArray
  a : Int
  b : Int
  c : Int
  d : Int
  e : Int
  f : Int
  t : Int
deriving DecidableEq
def encNd (x : Nd) : AV := .agg [.str x.am, .str x.an, .int .i64 x.a, .int .i64 x.b, .int .i64 x.c, .int .i64 x.d, .int .i64 x.e, .int .i64 x.f, .int .i64 x.t]
structure Ac where
  m : ByteArray
  n : ByteArray
deriving DecidableEq
def encAc (x : Ac) : AV := .agg [.str x.m, .str x.n]
theorem eqNd0 (a b : Nd) : binAV Tryz.prog .eql 61 (encNd a) (encNd b) = some (.bool ((decide (a.am = b.am) && (decide (a.an = b.an) && true)) && (decide (a.a = b.a) && (decide (a.b = b.b) && (decide (a.c = b.c) && (decide (a.d = b.d) && (decide (a.e = b.e) && (decide (a.f = b.f) && (decide (a.t = b.t) && true))))))))) := by kernel_rfl
theorem eqNd (a b : Nd) : binAV Tryz.prog .eql 61 (encNd a) (encNd b) = some (.bool (decide (a = b))) := by
  rw [eqNd0]
  congr 2
  rw [Bool.eq_iff_iff]
  cases a; cases b; simp [and_assoc]
end Go.Proofs

namespace Go.Proofs
open Ax Go
set_option maxRecDepth 10000
def keepRu (f r : Nat) : Option (List Nat) := match f, r with
  | 25, 3 => some [1, 2, 3, 24, 25]
  | 25, 10 => some [1, 2, 3, 47, 48]
  | 25, 16 => some [1, 2, 3, 80, 81]
  | 25, 22 => some [1, 2, 3, 111, 112]
  | 22, 3 => some [1, 3, 9, 10]
  | 22, 8 => some [1, 3, 26, 27]
  | 22, 13 => some [1, 3, 43, 44]
  | _, _ => none
def keepXRu (f r : Nat) : Option (List Nat) := match f, r with
  | 25, 3 => some [1, 2, 3]
  | 25, 10 => some [1, 2, 3]
  | 25, 16 => some [1, 2, 3]
  | 25, 22 => some [2, 3]
  | 22, 3 => some [1, 3]
  | 22, 8 => some [1, 3]
  | 22, 13 => some [1, 3]
  | _, _ => none
def ghRu (f r : Nat) : List Ghost := match f, r with
  | 25, 2 => [.openC 3]
  | _, _ => []
noncomputable def cxRu : Ctx where
  P := Tryz.prog
  inl := fun _ => false
  keep := keepRu
  keepX := keepXRu
  xf := fun _ _ _ => false
  ow := fun _ => false
  gh := ghRu
  gf := fun _ => []
  ln := fun _ => false
  srt := srtT
theorem okRu {f a Q} (h : stepCall (SX Tryz.prog calmT) cxRu calmT f a Q) : CallOK Tryz.prog f a Q := okOf (cx := cxRu) rfl progOK h
structure Ar where
  s : Sr
  l : List Int
  d : Int
def encAr (x : Ar) : AV := .agg [.str x.s.p, .int .i64 x.s.k, .int .i64 x.s.e, .int .i64 x.s.s, EI.L x.l, .int .i64 x.d]
def EAr : Enc Ar := ⟨6, encAr, ⟨⟨⟨#[]⟩, 0, 0, 0⟩, [], 0⟩⟩
structure Sp where
  a : Int
  b : Int
  c : Int
def ESp : Enc Sp := ⟨3, fun x => .agg [.int .i64 x.a, .int .i64 x.b, .int .i64 x.c], ⟨0, 0, 0⟩⟩
structure Ti where
  p : ByteArray
  l : List Sp
def encTi (x : Ti) : AV := .agg [.str x.p, ESp.L x.l]
def ETi : Enc Ti := ⟨2, encTi, ⟨⟨#[]⟩, []⟩⟩
structure Cr where
  a : ByteArray
  b : ByteArray
  la : Int
  lb : Int
  th : Int
def ECr : Enc Cr := ⟨5, fun x => .agg [.str x.a, .str x.b, .int .i64 x.la, .int .i64 x.lb, .int .i64 x.th], ⟨⟨#[]⟩, ⟨#[]⟩, 0, 0, 0⟩⟩
structure Sk where
  u : Int
  r : Int
def ESk : Enc Sk := ⟨2, fun x => .agg [.int .i64 x.u, .int .i64 x.r], ⟨0, 0⟩⟩
structure Ru where
  ar : List Ar
  ti : List Ti
  cr : List Cr
  sh : Int
  ne : Int
  nd : Int
  st : List Sk
  se : List Sr
  mo : List (List Int)
  wo : Int
  lo : Int
  pa : Int
def cellsRu (x : Ru) : List AV := [EAr.L x.ar, ETi.L x.ti, ECr.L x.cr, .int .i64 x.sh, .int .i64 x.ne, .int .i64 x.nd, ESk.L x.st, ER.L x.se, EM.L x.mo, .int .i64 x.wo, .int .i64 x.lo, .int .i64 x.pa]
def encRu (x : Ru) : AV := .agg (cellsRu x)
def fewRu (x : Ru) : Prop := x.ar.length ≤ 150 ∧ x.ti.length ≤ 50 ∧ x.cr.length ≤ 200 ∧ x.st.length ≤ 200 ∧ x.se.length ≤ 150 ∧ x.mo.length ≤ 600 ∧ (∀ a ∈ x.ar, a.l.length ≤ 17592186044416) ∧ (∀ a ∈ x.ti, a.l.length ≤ 5864062014634) ∧ ∀ a ∈ x.mo, a.length ≤ 17592186044416
def outRu (x : Ru) (i j k n b c : Nat) : List AV :=
  [.own (EAr.L (x.ar.take i)), .own (ETi.L (x.ti.take j)), .own (ECr.L (x.cr.take b)), .int .i64 x.sh, .int .i64 x.ne, .int .i64 x.nd, .own (ESk.L (x.st.take k)), .own (ER.L (x.se.take c)), .own (EM.L (x.mo.take n)), .int .i64 x.wo, .int .i64 x.lo, .int .i64 x.pa]
def zRu : List AV := [.own (EAr.L []), .own (ETi.L []), .own (ECr.L []), .int .i64 0, .int .i64 0, .int .i64 0, .own (ESk.L []), .own (ER.L []), .own (EM.L []), .int .i64 0, .int .i64 0, .int .i64 0]
theorem Enc.copy_av {α : Type} {E : Enc α} {L : List α} {z : AV} {g : Nat → AV} {sz n k : Nat} (hs : sz = E.sz) (hn : n = L.length) (hk : k = L.length) (hz : z = E.f E.d) : AV.vec sz k (vapp z g 0 (fun i => E.f (L.getD i E.d)) n) = E.L L := by
  subst hs hn hk
  unfold Enc.L
  congr 1
  funext j
  rw [vapp_get, if_neg (Nat.not_lt_zero _)]
  split
  · rw [Nat.sub_zero]
  · rw [hz, List.getD_eq_getElem?_getD, List.getElem?_eq_none (by omega)]; rfl
theorem room8 {n b : Nat} (h : n ≤ 17592186044416) (hb : Nat.ble b 8 = true) : roomOK n b = true := by
  have hb := Nat.le_of_ble_eq_true hb
  unfold roomOK
  rw [Bool.and_eq_true]
  refine ⟨Nat.ble_eq_true_of_le (Nat.le_trans (Nat.mul_le_mul_left _ hb) (by omega)), Nat.ble_eq_true_of_le (by omega)⟩
theorem room24 {n b : Nat} (h : n ≤ 5864062014634) (hb : Nat.ble b 24 = true) : roomOK n b = true := by
  have hb := Nat.le_of_ble_eq_true hb
  unfold roomOK
  rw [Bool.and_eq_true]
  refine ⟨Nat.ble_eq_true_of_le (Nat.le_trans (Nat.mul_le_mul_left _ hb) (by omega)), Nat.ble_eq_true_of_le (by omega)⟩
theorem cl_cons {a a1 : AV} {r r1 : List AV} (h1 : a = a1) (h2 : r = r1) : a :: r = a1 :: r1 := by rw [h1, h2]
set_option maxHeartbeats 8000000 in
theorem program (x : Ru) (h : fewRu x) : CallOK Tryz.prog 25 [encRu x] (fun r => r = encRu x) := by
  obtain ⟨h1, h2, h3, h4, h5, h6, h7, h8, h9⟩ := h
  have c0 : (x.cr.take 0).length = 0 := by simp
  have s0 : (x.se.take 0).length = 0 := by simp
  refine okRu ?_
  conv => whnf
  repeat' ((first | with_reducible refine bT rfl ?_ | with_reducible refine bF rfl ?_ | ((first | refine sN ?_ | refine sS ?_ | refine sA ?_ | refine sM ?_ | refine sC ?_); (conv => whnf); refine bT (by first | rfl | exact iR8 _ | exact uNN _ | exact iR (by omega) | exact iR (by rw [hw]; omega) | exact nBlt (by omega) | exact nBle (by omega) | exact roomL (by omega) rfl | exact mkOK (by omega) (by omega) (by omega) rfl | (simp; omega)) ?_) | refine bDt (by omega) ?_ | refine bDf (by omega) ?_ | refine bNt (by omega) ?_ | refine bNf (by omega) ?_ | refine bD (fun _ => ?_) (fun _ => ?_) | refine bN (fun _ => ?_) (fun _ => ?_)) <;> conv => whnf)
  refine loop_by (cx := cxRu) rfl progOK (ι := {i : Nat // i ≤ x.ar.length}) (fun i => x.ar.length - i.1) (fun i => ⟨[(1, .ptr (0 + 1) 0), (2, .ptr 0 0), (3, .ptr (0 + 1 + 1) 0), (24, .int .i64 x.ar.length), (25, .int .i64 i.1)], [.cells zRu, .cells (cellsRu x), .cells (outRu x i.1 0 0 0 0 0)], [], none⟩) ?_ ⟨0, Nat.zero_le _⟩
  rintro ⟨i, hi⟩ ih
  dsimp only
  by_cases hlt : i < x.ar.length
  · have hT : (x.ar.take i).length = i := by rw [List.length_take]; omega
    have hL := h7 (x.ar.getD i EAr.d) (Enc.get_mem (E := EAr) hlt)
    have hL' := hL
    rw [← Int.toNat_natCast i] at hL'
    conv => whnf
    repeat' ((first | with_reducible refine bT rfl ?_ | with_reducible refine bF rfl ?_ | ((first | refine sN ?_ | refine sS ?_ | refine sA ?_ | refine sM ?_ | refine sC ?_); (conv => whnf); refine bT (by first | rfl | exact iR8 _ | exact uNN _ | exact iR (by omega) | exact iR (by rw [hw]; omega) | exact nBlt (by omega) | exact nBle (by omega) | exact roomL (by omega) rfl | exact mkOK (by omega) (by omega) (by omega) rfl | (simp; omega)) ?_) | refine bDt (by omega) ?_ | refine bDf (by omega) ?_ | refine bNt (by omega) ?_ | refine bNf (by omega) ?_ | (refine sA ?_; (conv => whnf); refine bT (room8 (by omega) rfl) ?_) | (refine sA ?_; (conv => whnf); refine bT (room24 (by omega) rfl) ?_) | refine loop_to ih ⟨i + 1, hlt⟩ (show x.ar.length - (i+1) < x.ar.length - i by omega) ?_ | refine bD (fun _ => ?_) (fun _ => ?_) | refine bN (fun _ => ?_) (fun _ => ?_)) <;> conv => whnf)
    refine st_eq ?_ ?_
    all_goals repeat' (first | exact rfl | refine env_cons ?_ ?_ | refine heap_cons ?_ ?_)
    · exact congrArg _ (next_i hlt (by omega))
    · refine congrArg AObj.cells ?_
      unfold outRu
      rw [Enc.take_succ (E := EAr) hlt]
      repeat' (first | exact rfl | refine cl_cons ?_ ?_)
      refine congrArg AV.own (Enc.snoc_av (E := EAr) rfl rfl rfl rfl ?_)
      exact congrArg (fun q => AV.agg [.str (x.ar.getD i EAr.d).s.p, .int .i64 (x.ar.getD i EAr.d).s.k, .int .i64 (x.ar.getD i EAr.d).s.e, .int .i64 (x.ar.getD i EAr.d).s.s, q, .int .i64 (x.ar.getD i EAr.d).d]) (Enc.copy_av (E := EI) (L := (x.ar.getD i EAr.d).l) rfl rfl (Nat.zero_add _) rfl)
  obtain rfl : i = x.ar.length := by omega
  clear ih hlt
  conv => whnf
  repeat' ((first | with_reducible refine bT rfl ?_ | with_reducible refine bF rfl ?_ | ((first | refine sN ?_ | refine sS ?_ | refine sA ?_ | refine sM ?_ | refine sC ?_); (conv => whnf); refine bT (by first | rfl | exact iR8 _ | exact uNN _ | exact iR (by omega) | exact iR (by rw [hw]; omega) | exact nBlt (by omega) | exact nBle (by omega) | exact roomL (by omega) rfl | exact mkOK (by omega) (by omega) (by omega) rfl | (simp; omega)) ?_) | refine bDt (by omega) ?_ | refine bDf (by omega) ?_ | refine bNt (by omega) ?_ | refine bNf (by omega) ?_ | refine bD (fun _ => ?_) (fun _ => ?_) | refine bN (fun _ => ?_) (fun _ => ?_)) <;> conv => whnf)
  refine loop_by (cx := cxRu) rfl progOK (ι := {i : Nat // i ≤ x.ti.length}) (fun i => x.ti.length - i.1) (fun i => ⟨[(1, .ptr (0 + 1) 0), (2, .ptr 0 0), (3, .ptr (0 + 1 + 1) 0), (47, .int .i64 x.ti.length), (48, .int .i64 i.1)], [.cells zRu, .cells (cellsRu x), .cells (outRu x x.ar.length i.1 0 0 0 0)], [], none⟩) ?_ ⟨0, Nat.zero_le _⟩
  rintro ⟨i, hi⟩ ih
  dsimp only
  by_cases hlt : i < x.ti.length
  · have hT : (x.ti.take i).length = i := by rw [List.length_take]; omega
    have hL := h8 (x.ti.getD i ETi.d) (Enc.get_mem (E := ETi) hlt)
    have hL' := hL
    rw [← Int.toNat_natCast i] at hL'
    conv => whnf
    repeat' ((first | with_reducible refine bT rfl ?_ | with_reducible refine bF rfl ?_ | ((first | refine sN ?_ | refine sS ?_ | refine sA ?_ | refine sM ?_ | refine sC ?_); (conv => whnf); refine bT (by first | rfl | exact iR8 _ | exact uNN _ | exact iR (by omega) | exact iR (by rw [hw]; omega) | exact nBlt (by omega) | exact nBle (by omega) | exact roomL (by omega) rfl | exact mkOK (by omega) (by omega) (by omega) rfl | (simp; omega)) ?_) | refine bDt (by omega) ?_ | refine bDf (by omega) ?_ | refine bNt (by omega) ?_ | refine bNf (by omega) ?_ | (refine sA ?_; (conv => whnf); refine bT (room8 (by omega) rfl) ?_) | (refine sA ?_; (conv => whnf); refine bT (room24 (by omega) rfl) ?_) | refine loop_to ih ⟨i + 1, hlt⟩ (show x.ti.length - (i+1) < x.ti.length - i by omega) ?_ | refine bD (fun _ => ?_) (fun _ => ?_) | refine bN (fun _ => ?_) (fun _ => ?_)) <;> conv => whnf)
    refine st_eq ?_ ?_
    all_goals repeat' (first | exact rfl | refine env_cons ?_ ?_ | refine heap_cons ?_ ?_)
    · exact congrArg _ (next_i hlt (by omega))
    · refine congrArg AObj.cells ?_
      unfold outRu
      rw [Enc.take_succ (E := ETi) hlt]
      repeat' (first | exact rfl | refine cl_cons ?_ ?_)
      refine congrArg AV.own (Enc.snoc_av (E := ETi) rfl rfl rfl rfl ?_)
      exact congrArg (fun q => AV.agg [.str (x.ti.getD i ETi.d).p, q]) (Enc.copy_av (E := ESp) (L := (x.ti.getD i ETi.d).l) rfl rfl (Nat.zero_add _) rfl)
  obtain rfl : i = x.ti.length := by omega
  clear ih hlt
  conv => whnf
  repeat' ((first | with_reducible refine bT rfl ?_ | with_reducible refine bF rfl ?_ | ((first | refine sN ?_ | refine sS ?_ | refine sA ?_ | refine sM ?_ | refine sC ?_); (conv => whnf); refine bT (by first | rfl | exact iR8 _ | exact uNN _ | exact iR (by omega) | exact iR (by rw [hw]; omega) | exact nBlt (by omega) | exact nBle (by omega) | exact roomL (by omega) rfl | exact mkOK (by omega) (by omega) (by omega) rfl | (simp; omega)) ?_) | refine bDt (by omega) ?_ | refine bDf (by omega) ?_ | refine bNt (by omega) ?_ | refine bNf (by omega) ?_ | refine bD (fun _ => ?_) (fun _ => ?_) | refine bN (fun _ => ?_) (fun _ => ?_)) <;> conv => whnf)
  refine loop_start (st' := ⟨[(1, .ptr (0 + 1) 0), (2, .ptr 0 0), (3, .ptr (0 + 1 + 1) 0), (80, .int .i64 x.st.length), (81, .int .i64 (0 : Nat))], [.cells zRu, .cells (cellsRu x), .cells (outRu x x.ar.length x.ti.length 0 0 x.cr.length 0)], [], none⟩) ?_ ?_
  · refine st_eq ?_ ?_
    all_goals repeat' (first | exact rfl | refine env_cons ?_ ?_ | refine heap_cons ?_ ?_)
    refine congrArg AObj.cells ?_
    unfold outRu
    repeat' (first | exact rfl | refine cl_cons ?_ ?_)
    rw [List.take_length (l := x.cr)]
    exact congrArg AV.own (Enc.copy_av (E := ECr) rfl rfl (Nat.zero_add _) rfl)
  refine loop_by (cx := cxRu) rfl progOK (ι := {i : Nat // i ≤ x.st.length}) (fun i => x.st.length - i.1) (fun i => ⟨[(1, .ptr (0 + 1) 0), (2, .ptr 0 0), (3, .ptr (0 + 1 + 1) 0), (80, .int .i64 x.st.length), (81, .int .i64 i.1)], [.cells zRu, .cells (cellsRu x), .cells (outRu x x.ar.length x.ti.length i.1 0 x.cr.length 0)], [], none⟩) ?_ ⟨0, Nat.zero_le _⟩
  rintro ⟨i, hi⟩ ih
  dsimp only
  by_cases hlt : i < x.st.length
  · have hT : (x.st.take i).length = i := by rw [List.length_take]; omega
    conv => whnf
    repeat' ((first | with_reducible refine bT rfl ?_ | with_reducible refine bF rfl ?_ | ((first | refine sN ?_ | refine sS ?_ | refine sA ?_ | refine sM ?_ | refine sC ?_); (conv => whnf); refine bT (by first | rfl | exact iR8 _ | exact uNN _ | exact iR (by omega) | exact iR (by rw [hw]; omega) | exact nBlt (by omega) | exact nBle (by omega) | exact roomL (by omega) rfl | exact mkOK (by omega) (by omega) (by omega) rfl | (simp; omega)) ?_) | refine bDt (by omega) ?_ | refine bDf (by omega) ?_ | refine bNt (by omega) ?_ | refine bNf (by omega) ?_ | (refine sA ?_; (conv => whnf); refine bT (room8 (by omega) rfl) ?_) | (refine sA ?_; (conv => whnf); refine bT (room24 (by omega) rfl) ?_) | refine loop_to ih ⟨i + 1, hlt⟩ (show x.st.length - (i+1) < x.st.length - i by omega) ?_ | refine bD (fun _ => ?_) (fun _ => ?_) | refine bN (fun _ => ?_) (fun _ => ?_)) <;> conv => whnf)
    refine st_eq ?_ ?_
    all_goals repeat' (first | exact rfl | refine env_cons ?_ ?_ | refine heap_cons ?_ ?_)
    · exact congrArg _ (next_i hlt (by omega))
    · refine congrArg AObj.cells ?_
      unfold outRu
      rw [Enc.take_succ (E := ESk) hlt]
      repeat' (first | exact rfl | refine cl_cons ?_ ?_)
      refine congrArg AV.own (Enc.snoc_av (E := ESk) rfl rfl rfl rfl ?_)
      rfl
  obtain rfl : i = x.st.length := by omega
  clear ih hlt
  conv => whnf
  repeat' ((first | with_reducible refine bT rfl ?_ | with_reducible refine bF rfl ?_ | ((first | refine sN ?_ | refine sS ?_ | refine sA ?_ | refine sM ?_ | refine sC ?_); (conv => whnf); refine bT (by first | rfl | exact iR8 _ | exact uNN _ | exact iR (by omega) | exact iR (by rw [hw]; omega) | exact nBlt (by omega) | exact nBle (by omega) | exact roomL (by omega) rfl | exact mkOK (by omega) (by omega) (by omega) rfl | (simp; omega)) ?_) | refine bDt (by omega) ?_ | refine bDf (by omega) ?_ | refine bNt (by omega) ?_ | refine bNf (by omega) ?_ | refine bD (fun _ => ?_) (fun _ => ?_) | refine bN (fun _ => ?_) (fun _ => ?_)) <;> conv => whnf)
  refine loop_start (st' := ⟨[(1, .ptr (0 + 1) 0), (2, .ptr 0 0), (3, .ptr (0 + 1 + 1) 0), (111, .int .i64 x.mo.length), (112, .int .i64 (0 : Nat))], [.cells zRu, .cells (cellsRu x), .cells (outRu x x.ar.length x.ti.length x.st.length 0 x.cr.length x.se.length)], [], none⟩) ?_ ?_
  · refine st_eq ?_ ?_
    all_goals repeat' (first | exact rfl | refine env_cons ?_ ?_ | refine heap_cons ?_ ?_)
    refine congrArg AObj.cells ?_
    unfold outRu
    repeat' (first | exact rfl | refine cl_cons ?_ ?_)
    rw [List.take_length (l := x.se)]
    exact congrArg AV.own (Enc.copy_av (E := ER) rfl rfl (Nat.zero_add _) rfl)
  refine loop_by (cx := cxRu) rfl progOK (ι := {i : Nat // i ≤ x.mo.length}) (fun i => x.mo.length - i.1) (fun i => ⟨[(1, .ptr (0 + 1) 0), (2, .ptr 0 0), (3, .ptr (0 + 1 + 1) 0), (111, .int .i64 x.mo.length), (112, .int .i64 i.1)], [.cells zRu, .cells (cellsRu x), .cells (outRu x x.ar.length x.ti.length x.st.length i.1 x.cr.length x.se.length)], [], none⟩) ?_ ⟨0, Nat.zero_le _⟩
  rintro ⟨i, hi⟩ ih
  dsimp only
  by_cases hlt : i < x.mo.length
  · have hT : (x.mo.take i).length = i := by rw [List.length_take]; omega
    have hL := h9 (x.mo.getD i EM.d) (Enc.get_mem (E := EM) hlt)
    have hL' := hL
    rw [← Int.toNat_natCast i] at hL'
    conv => whnf
    repeat' ((first | with_reducible refine bT rfl ?_ | with_reducible refine bF rfl ?_ | ((first | refine sN ?_ | refine sS ?_ | refine sA ?_ | refine sM ?_ | refine sC ?_); (conv => whnf); refine bT (by first | rfl | exact iR8 _ | exact uNN _ | exact iR (by omega) | exact iR (by rw [hw]; omega) | exact nBlt (by omega) | exact nBle (by omega) | exact roomL (by omega) rfl | exact mkOK (by omega) (by omega) (by omega) rfl | (simp; omega)) ?_) | refine bDt (by omega) ?_ | refine bDf (by omega) ?_ | refine bNt (by omega) ?_ | refine bNf (by omega) ?_ | (refine sA ?_; (conv => whnf); refine bT (room8 (by omega) rfl) ?_) | (refine sA ?_; (conv => whnf); refine bT (room24 (by omega) rfl) ?_) | refine loop_to ih ⟨i + 1, hlt⟩ (show x.mo.length - (i+1) < x.mo.length - i by omega) ?_ | refine bD (fun _ => ?_) (fun _ => ?_) | refine bN (fun _ => ?_) (fun _ => ?_)) <;> conv => whnf)
    refine st_eq ?_ ?_
    all_goals repeat' (first | exact rfl | refine env_cons ?_ ?_ | refine heap_cons ?_ ?_)
    · exact congrArg _ (next_i hlt (by omega))
    · refine congrArg AObj.cells ?_
      unfold outRu
      rw [Enc.take_succ (E := EM) hlt]
      repeat' (first | exact rfl | refine cl_cons ?_ ?_)
      refine congrArg AV.own (Enc.snoc_av (E := EM) rfl rfl rfl rfl ?_)
      exact Enc.copy_av (E := EI) (L := x.mo.getD i EM.d) rfl rfl (Nat.zero_add _) rfl
  obtain rfl : i = x.mo.length := by omega
  clear ih hlt
  conv => whnf
  repeat' ((first | with_reducible refine bT rfl ?_ | with_reducible refine bF rfl ?_ | ((first | refine sN ?_ | refine sS ?_ | refine sA ?_ | refine sM ?_ | refine sC ?_); (conv => whnf); refine bT (by first | rfl | exact iR8 _ | exact uNN _ | exact iR (by omega) | exact iR (by rw [hw]; omega) | exact nBlt (by omega) | exact nBle (by omega) | exact roomL (by omega) rfl | exact mkOK (by omega) (by omega) (by omega) rfl | (simp; omega)) ?_) | refine bDt (by omega) ?_ | refine bDf (by omega) ?_ | refine bNt (by omega) ?_ | refine bNf (by omega) ?_ | refine bD (fun _ => ?_) (fun _ => ?_) | refine bN (fun _ => ?_) (fun _ => ?_)) <;> conv => whnf)
  simp only [List.take_length]
  rfl
end Go.Proofs

namespace Go.Proofs
open Ax Go
set_option maxRecDepth 10000
theorem typed_slice {P : Program} {d : Nat} {t e : TypeId} {es : List AV} (ht : P.underlying t = some (.slice e)) (h : Typed P (d + 1) t es) : ∃ n g, es = [.vec (P.cellsOf e) n g] ∧ (n ≤ maxLen ∧ n * P.bytesOf e ≤ reachBytes) ∧ ∀ i, i < n → TypedAV P d e (g i) := by
  unfold Typed at h
  rw [ht] at h
  exact h
theorem typed_struct {P : Program} {d : Nat} {t : TypeId} {fs : Array Field} {es : List AV} (ht : P.underlying t = some (.struct fs)) (h : Typed P (d + 1) t es) : TypedL (Typed P d) fs.toList es := by
  unfold Typed at h
  rw [ht] at h
  exact h
theorem typed_int {P : Program} {d : Nat} {t : TypeId} {k : IntKind} {es : List AV} (ht : P.underlying t = some (.int k)) (h : Typed P (d + 1) t es) : ∃ n, es = [.int k n] ∧ (Lit.int k n).wf = true := by
  unfold Typed at h
  rw [ht] at h
  exact h
theorem typed_str {P : Program} {d : Nat} {t : TypeId} {es : List AV} (ht : P.underlying t = some .string) (h : Typed P (d + 1) t es) : ∃ s : ByteArray, es = [.str s] ∧ s.size ≤ maxLen := by
  unfold Typed at h
  rw [ht] at h
  exact h
theorem typed_bool {P : Program} {d : Nat} {t : TypeId} {es : List AV} (ht : P.underlying t = some .bool) (h : Typed P (d + 1) t es) : ∃ b, es = [.bool b] := by
  unfold Typed at h
  rw [ht] at h
  exact h
theorem arg_pr {d : Nat} {a : AV} (h : TypedAV Tryz.prog (d + 2) 138 a) : ∃ p : Pr, a = encPr p ∧ p.n.size ≤ maxLen := by
  obtain ⟨es, h1, h2, h3⟩ := h
  obtain ⟨a0, r0, rfl, k0, a1, r1, rfl, k1, a2, r2, rfl, k2, a3, r3, rfl, k3, a4, r4, rfl, k4, a5, r5, rfl, k5, a6, r6, rfl, k6, rfl⟩ := typed_struct Tryz.underlying138 h3
  obtain ⟨n, rfl, hn⟩ := typed_str Tryz.underlying9 k0
  obtain ⟨x1, rfl, _⟩ := typed_int Tryz.underlying3 k1
  obtain ⟨x2, rfl, _⟩ := typed_int Tryz.underlying3 k2
  obtain ⟨x3, rfl, _⟩ := typed_int Tryz.underlying3 k3
  obtain ⟨x4, rfl, _⟩ := typed_int Tryz.underlying3 k4
  obtain ⟨x5, rfl, _⟩ := typed_int Tryz.underlying3 k5
  obtain ⟨b, rfl⟩ := typed_bool Tryz.underlying4 k6
  exact ⟨⟨n, x1, x2, x3, x4, x5, b⟩, h1, hn⟩
theorem same_get : ∀ {l l' : List AV}, SameL l l' → l'.length = l.length ∧ ∀ (i : Nat) x, l'[i]? = some x → ∃ y, l[i]? = some y ∧ Same y x
  | _, _, .nil => ⟨rfl, fun i x h => by simp at h⟩
  | _, _, .cons h hl => by
    obtain ⟨e, ih⟩ := same_get hl
    refine ⟨by simp [e], fun i x hx => ?_⟩
    cases i with
    | zero => simp at hx; subst hx; exact ⟨_, rfl, h⟩
    | succ i => simp at hx ⊢; exact ih i x hx
theorem same_agg {l l' : List AV} (h : SameL l l') : Same (.agg l) (.agg l') := by
  obtain ⟨e, hg⟩ := same_get h
  intro w F U bl v hr
  cases hr with
  | agg hn hc =>
    refine .agg (by rw [e]; exact hn) fun i x y hx hy => ?_
    obtain ⟨z, hz, hs⟩ := hg i x hx
    exact hs _ _ _ _ _ (hc i z y hz hy)
theorem same_vecL {sz n : Nat} {g g' : Nat → AV} (h : ∀ i, i < n → SameL (g i).cells (g' i).cells) : Same (.vec sz n g) (.vec sz n g') := by
  intro w F U bl v hr
  cases hr with
  | vec hcap vals hz hs ho hc =>
    refine .vec hcap vals hz (fun i hi => by rw [(same_get (h i hi)).1]; exact hs i hi) ho (fun i j c hi hj => ?_)
    obtain ⟨z, hz, hs⟩ := (same_get (h i hi)).2 j c hj
    exact hs _ _ _ _ _ (hc i j z hi hz)
theorem list_ofS {α : Type} {E : Enc α} {p : α → Prop} {n : Nat} {g : Nat → AV} (h : ∀ i, i < n → ∃ x, SameL (g i).cells (E.f x).cells ∧ p x) : ∃ l : List α, l.length = n ∧ Same (.vec E.sz n g) (E.L l) ∧ ∀ x ∈ l, p x := by
  have each : ∀ i, ∃ x : α, i < n → SameL (g i).cells (E.f x).cells ∧ p x := fun i => by
    by_cases hi : i < n
    · obtain ⟨x, hx⟩ := h i hi; exact ⟨x, fun _ => hx⟩
    · exact ⟨E.d, fun h => absurd h hi⟩
  obtain ⟨f, hf⟩ := Classical.axiomOfChoice each
  have hl : ((List.range n).map f).length = n := by simp
  refine ⟨(List.range n).map f, hl, ?_, fun x hx => ?_⟩
  · have e : E.L ((List.range n).map f) = .vec E.sz n fun i => E.f (((List.range n).map f).getD i E.d) := by unfold Enc.L; rw [hl]
    rw [e]
    refine same_vecL fun i hi => ?_
    rw [List.getD_eq_getElem?_getD, List.getElem?_map, List.getElem?_range hi]
    exact (hf i hi).1
  · obtain ⟨i, hi, rfl⟩ := List.mem_map.1 hx
    exact (hf i (List.mem_range.1 hi)).2
theorem same_cells : ∀ l : List AV, SameL l l
  | [] => .nil
  | a :: r => .cons (Same.refl a) (same_cells r)
theorem typed_list {α : Type} {E : Enc α} {p : α → Prop} {P : Program} {d b : Nat} {t e : TypeId} {es : List AV} (ht : P.underlying t = some (.slice e)) (hz : P.cellsOf e = E.sz) (hb : P.bytesOf e = b) (h : Typed P (d + 1) t es) (each : ∀ a, TypedAV P d e a → ∃ x, SameL a.cells (E.f x).cells ∧ p x) : ∃ c l, es = [c] ∧ Same c (E.L l) ∧ (l.length ≤ maxLen ∧ l.length * b ≤ reachBytes) ∧ ∀ x ∈ l, p x := by
  obtain ⟨n, g, rfl, hn, hg⟩ := typed_slice ht h
  obtain ⟨l, e1, hs, hp⟩ := list_ofS (E := E) (p := p) (n := n) (g := g) fun i hi => each _ (hg i hi)
  rw [hz]
  rw [hb] at hn
  exact ⟨_, l, rfl, hs, by rw [e1]; exact hn, hp⟩
theorem arg_int {d : Nat} {a : AV} (h : TypedAV Tryz.prog (d + 1) 3 a) : ∃ n, a = .int .i64 n ∧ (Lit.int .i64 n).wf = true := by
  obtain ⟨es, h1, h2, h3⟩ := h
  obtain ⟨n, rfl, hn⟩ := typed_int Tryz.underlying3 h3
  exact ⟨n, h1, hn⟩
theorem ty_ints {d : Nat} {es : List AV} (h : Typed Tryz.prog (d + 2) 92 es) : ∃ c l, es = [c] ∧ Same c (EI.L l) ∧ l.length ≤ 17592186044416 := by
  obtain ⟨c, l, rfl, hs, ⟨_, hb⟩, _⟩ := typed_list (E := EI) (p := fun _ => True) (b := 8) Tryz.underlying92 rfl (by kernel_rfl) h fun a ha => by
    obtain ⟨x, rfl, _⟩ := arg_int ha
    exact ⟨x, same_cells _, trivial⟩
  refine ⟨c, l, rfl, hs, ?_⟩
  unfold reachBytes at hb
  omega
theorem arg_ints {d : Nat} {a : AV} (h : TypedAV Tryz.prog (d + 2) 92 a) : ∃ l : List Int, SameL a.cells (EM.f l).cells ∧ l.length ≤ 17592186044416 := by
  obtain ⟨es, h1, h2, h3⟩ := h
  obtain ⟨c, l, rfl, hs, hl⟩ := ty_ints h3
  exact ⟨l, by rw [h2]; exact .cons hs .nil, hl⟩
theorem arg_sr {d : Nat} {a : AV} (h : TypedAV Tryz.prog (d + 2) 67 a) : ∃ s : Sr, a = encSr s := by
  obtain ⟨es, h1, h2, h3⟩ := h
  obtain ⟨a0, r0, rfl, k0, a1, r1, rfl, k1, a2, r2, rfl, k2, a3, r3, rfl, k3, rfl⟩ := typed_struct Tryz.underlying67 h3
  obtain ⟨m, rfl, hm⟩ := typed_str Tryz.underlying9 k0
  obtain ⟨c, rfl, _⟩ := typed_int Tryz.underlying3 k1
  obtain ⟨n, rfl, _⟩ := typed_int Tryz.underlying3 k2
  obtain ⟨s, rfl, _⟩ := typed_int Tryz.underlying3 k3
  exact ⟨⟨m, c, n, s⟩, h1⟩
theorem arg_ar {d : Nat} {a : AV} (h : TypedAV Tryz.prog (d + 3) 173 a) : ∃ x : Ar, SameL a.cells (encAr x).cells ∧ x.l.length ≤ 17592186044416 := by
  obtain ⟨es, h1, h2, h3⟩ := h
  obtain ⟨b0, q0, rfl, j0, b1, q1, rfl, j1, b2, q2, rfl, j2, rfl⟩ := typed_struct Tryz.underlying173 h3
  obtain ⟨a0, r0, rfl, k0, a1, r1, rfl, k1, a2, r2, rfl, k2, a3, r3, rfl, k3, rfl⟩ := typed_struct Tryz.underlying67 j0
  obtain ⟨m, rfl, hm⟩ := typed_str Tryz.underlying9 k0
  obtain ⟨c, rfl, _⟩ := typed_int Tryz.underlying3 k1
  obtain ⟨n, rfl, _⟩ := typed_int Tryz.underlying3 k2
  obtain ⟨s, rfl, _⟩ := typed_int Tryz.underlying3 k3
  obtain ⟨x, rfl, _⟩ := typed_int Tryz.underlying3 j2
  obtain ⟨v, l, rfl, hs, hl⟩ := ty_ints j1
  refine ⟨⟨⟨m, c, n, s⟩, l, x⟩, ?_, hl⟩
  rw [h2]
  exact .cons (Same.refl _) (.cons (Same.refl _) (.cons (Same.refl _) (.cons (Same.refl _) (.cons hs (.cons (Same.refl _) .nil)))))
theorem arg_sp {d : Nat} {a : AV} (h : TypedAV Tryz.prog (d + 2) 349 a) : ∃ x : Sp, a = ESp.f x := by
  obtain ⟨es, h1, h2, h3⟩ := h
  obtain ⟨a0, r0, rfl, k0, a1, r1, rfl, k1, a2, r2, rfl, k2, rfl⟩ := typed_struct Tryz.underlying349 h3
  obtain ⟨x, rfl, _⟩ := typed_int Tryz.underlying3 k0
  obtain ⟨y, rfl, _⟩ := typed_int Tryz.underlying3 k1
  obtain ⟨z, rfl, _⟩ := typed_int Tryz.underlying3 k2
  exact ⟨⟨x, y, z⟩, h1⟩
theorem arg_ti {d : Nat} {a : AV} (h : TypedAV Tryz.prog (d + 4) 176 a) : ∃ x : Ti, SameL a.cells (encTi x).cells ∧ x.l.length ≤ 5864062014634 := by
  obtain ⟨es, h1, h2, h3⟩ := h
  obtain ⟨b0, q0, rfl, j0, b1, q1, rfl, j1, rfl⟩ := typed_struct Tryz.underlying176 h3
  obtain ⟨m, rfl, hm⟩ := typed_str Tryz.underlying9 j0
  obtain ⟨c, l, rfl, hs, ⟨_, hb⟩, _⟩ := typed_list (E := ESp) (p := fun _ => True) (b := 24) Tryz.underlying174 rfl (by kernel_rfl) j1 fun a ha => by
    obtain ⟨x, rfl⟩ := arg_sp ha
    exact ⟨x, same_cells _, trivial⟩
  refine ⟨⟨m, l⟩, ?_, ?_⟩
  · rw [h2]
    exact .cons (Same.refl _) (.cons hs .nil)
  · unfold reachBytes at hb
    show l.length ≤ _
    omega
theorem arg_cr {d : Nat} {a : AV} (h : TypedAV Tryz.prog (d + 2) 278 a) : ∃ x : Cr, a = ECr.f x ∧ x.a.size ≤ maxLen ∧ x.b.size ≤ maxLen := by
  obtain ⟨es, h1, h2, h3⟩ := h
  obtain ⟨a0, r0, rfl, k0, a1, r1, rfl, k1, a2, r2, rfl, k2, a3, r3, rfl, k3, a4, r4, rfl, k4, rfl⟩ := typed_struct Tryz.underlying278 h3
  obtain ⟨m, rfl, hm⟩ := typed_str Tryz.underlying9 k0
  obtain ⟨n, rfl, hn⟩ := typed_str Tryz.underlying9 k1
  obtain ⟨x, rfl, _⟩ := typed_int Tryz.underlying3 k2
  obtain ⟨y, rfl, _⟩ := typed_int Tryz.underlying3 k3
  obtain ⟨z, rfl, _⟩ := typed_int Tryz.underlying3 k4
  exact ⟨⟨m, n, x, y, z⟩, h1, hm, hn⟩
theorem arg_sk {d : Nat} {a : AV} (h : TypedAV Tryz.prog (d + 2) 189 a) : ∃ x : Sk, a = ESk.f x := by
  obtain ⟨es, h1, h2, h3⟩ := h
  obtain ⟨a0, r0, rfl, k0, a1, r1, rfl, k1, rfl⟩ := typed_struct Tryz.underlying189 h3
  obtain ⟨x, rfl, _⟩ := typed_int Tryz.underlying3 k0
  obtain ⟨y, rfl, _⟩ := typed_int Tryz.underlying3 k1
  exact ⟨⟨x, y⟩, h1⟩
structure RuT (x : Ru) : Prop where
  ar : x.ar.length ≤ maxLen
  ti : x.ti.length ≤ maxLen
  cr : x.cr.length ≤ maxLen
  st : x.st.length ≤ maxLen
  se : x.se.length ≤ maxLen
  mo : x.mo.length ≤ maxLen
  arl : ∀ a ∈ x.ar, a.l.length ≤ 17592186044416
  til : ∀ a ∈ x.ti, a.l.length ≤ 5864062014634
  crl : ∀ a ∈ x.cr, a.a.size ≤ maxLen ∧ a.b.size ≤ maxLen
  mol : ∀ a ∈ x.mo, a.length ≤ 17592186044416
set_option maxHeartbeats 4000000 in
theorem arg_ru {d : Nat} {a : AV} (h : TypedAV Tryz.prog (d + 6) 45 a) : ∃ x : Ru, Same a (encRu x) ∧ RuT x := by
  obtain ⟨es, h1, h2, h3⟩ := h
  obtain ⟨b0, q0, rfl, j0, b1, q1, rfl, j1, b2, q2, rfl, j2, b3, q3, rfl, j3, b4, q4, rfl, j4, b5, q5, rfl, j5, b6, q6, rfl, j6, b7, q7, rfl, j7, b8, q8, rfl, j8, b9, q9, rfl, j9, b10, q10, rfl, j10, b11, q11, rfl, j11, rfl⟩ := typed_struct Tryz.underlying45 h3
  obtain ⟨c0, l0, rfl, s0, ⟨n0, _⟩, p0⟩ := typed_list (E := EAr) (p := fun p => p.l.length ≤ 17592186044416) Tryz.underlying38 rfl rfl j0 fun a ha => arg_ar ha
  obtain ⟨c1, l1, rfl, s1, ⟨n1, _⟩, p1⟩ := typed_list (E := ETi) (p := fun p => p.l.length ≤ 5864062014634) Tryz.underlying39 rfl rfl j1 fun a ha => arg_ti ha
  obtain ⟨c2, l2, rfl, s2, ⟨n2, _⟩, p2⟩ := typed_list (E := ECr) (p := fun p => p.a.size ≤ maxLen ∧ p.b.size ≤ maxLen) Tryz.underlying40 rfl rfl j2 fun a ha => by
    obtain ⟨x, rfl, hx⟩ := arg_cr ha
    exact ⟨x, same_cells _, hx⟩
  obtain ⟨x3, rfl, _⟩ := typed_int Tryz.underlying3 j3
  obtain ⟨x4, rfl, _⟩ := typed_int Tryz.underlying3 j4
  obtain ⟨x5, rfl, _⟩ := typed_int Tryz.underlying3 j5
  obtain ⟨c6, l6, rfl, s6, ⟨n6, _⟩, p6⟩ := typed_list (E := ESk) (p := fun _ => True) Tryz.underlying41 rfl rfl j6 fun a ha => by
    obtain ⟨x, rfl⟩ := arg_sk ha
    exact ⟨x, same_cells _, trivial⟩
  obtain ⟨c7, l7, rfl, s7, ⟨n7, _⟩, p7⟩ := typed_list (E := ER) (p := fun _ => True) Tryz.underlying42 rfl rfl j7 fun a ha => by
    obtain ⟨x, rfl⟩ := arg_sr ha
    exact ⟨x, same_cells _, trivial⟩
  obtain ⟨c8, l8, rfl, s8, ⟨n8, _⟩, p8⟩ := typed_list (E := EM) (p := fun p => p.length ≤ 17592186044416) Tryz.underlying43 rfl rfl j8 fun a ha => arg_ints ha
  obtain ⟨x9, rfl, _⟩ := typed_int Tryz.underlying3 j9
  obtain ⟨x10, rfl, _⟩ := typed_int Tryz.underlying3 j10
  obtain ⟨x11, rfl, _⟩ := typed_int Tryz.underlying3 j11
  refine ⟨⟨l0, l1, l2, x3, x4, x5, l6, l7, l8, x9, x10, x11⟩, ?_, ⟨n0, n1, n2, n6, n7, n8, p0, p1, p2, p8⟩⟩
  have h1 : a = .agg [c0, c1, c2, .int .i64 x3, .int .i64 x4, .int .i64 x5, c6, c7, c8, .int .i64 x9, .int .i64 x10, .int .i64 x11] := h1
  rw [h1]
  exact same_agg (.cons s0 (.cons s1 (.cons s2 (.cons (Same.refl _) (.cons (Same.refl _) (.cons (Same.refl _) (.cons s6 (.cons s7 (.cons s8 (.cons (Same.refl _) (.cons (Same.refl _) (.cons (Same.refl _) .nil))))))))))))
theorem arg_prs {d : Nat} {a : AV} (h : TypedAV Tryz.prog (d + 3) 22 a) : ∃ l : List Pr, Same a (EPr.L l) ∧ l.length ≤ maxLen ∧ ∀ p ∈ l, p.n.size ≤ maxLen := by
  obtain ⟨es, h1, h2, h3⟩ := h
  obtain ⟨c, l, rfl, hs, ⟨hn, _⟩, hp⟩ := typed_list (E := EPr) (p := fun p => p.n.size ≤ maxLen) Tryz.underlying22 rfl rfl h3 fun a ha => by
    obtain ⟨x, rfl, hx⟩ := arg_pr ha
    exact ⟨x, same_cells _, hx⟩
  have h1 : a = c := h1
  rw [h1]
  exact ⟨l, hs, hn, hp⟩
end Go.Proofs
