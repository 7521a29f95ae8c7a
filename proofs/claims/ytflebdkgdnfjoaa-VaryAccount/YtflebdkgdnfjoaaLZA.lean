import Derived.Test.YtflebdkgdnfjoaaMiAcct
import Derived.Test.YtflebdkgdnfjoaaLV
import Derived.Test.YtflebdkgdnfjoaaLX
set_option linter.unusedVariables false
set_option linter.unusedSimpArgs false
namespace Ax
open Go
theorem st_ixB {P : Program} {o : Oper} {env : Env} {h : Heap} {t u : TypeId} {x q : Operand} {id sz n : Nat} {i : Int} {k : AV → Prop} {e : Prop} (ho : o.op = .indexAddr t x q) (hx : evo P t env x = .brow id sz n) (hi : intNat (evo P 0 env q) = some i) (ht : tyD P t = .slice u)
    (hs : Nat.beq sz (tySz P u) = true) (hz : Nat.blt 0 sz = true) (h0 : inRange i n = true) (hk : k (.eptr id sz i.toNat 0)) : (match evalOp P o env h with | some v => k v | none => e) := by
  refine st_some (v := .eptr id sz i.toNat 0) ?_ hk
  unfold evalOp
  simp only [ho, hi, hx, indexAddrAV, ht, hs, hz, h0, cond_true]
theorem st_takeB {cx : Ctx} {h : Heap} {t : TypeId} {p v : AV} {id sz n j : Nat} {g : Nat → AV} {K : AV → Heap → Prop} {E : Prop} (hp : p = .eptr id sz j 0) (hh : h.get id = .oarr sz n g) (hj : j < n) (hg : g j = v) (hpart : partAV cx.P t v.cells 0 = some v) (ha : (!tyAgg cx.P t && v.scal) = true) (hu : v.unnil = v)
    (hse : setElem v 0 sz v.strip = v.strip) (hK : K v (h.set id (.oarr sz n (upd g j v.strip)))) : (match takeAV cx h t p with | some (v, h) => K v h | none => E) := by
  subst hp
  have e1 : Nat.blt j n = true := nBlt hj
  have e2 : Nat.beq sz sz = true := Nat.beq_refl sz
  unfold takeAV
  simp only [hh, hg, e1, e2, hpart, ha, hu, hse, Bool.and_self, cond_true]
  exact hK
theorem st_ldB {P : Program} {o : Oper} {env : Env} {h : Heap} {t : TypeId} {p : Operand} {v v' : AV} {id sz n j : Nat} {g : Nat → AV} {k : AV → Prop} {e : Prop} (ho : o.op = .load t p) (hp : evo P 0 env p = .eptr id sz j 0) (hh : h.get id = .oarr sz n g) (hj : j < n) (hg : g j = v) (hpart : partAV P t v.cells 0 = some v') (hk : k v'.strip) : (match evalOp P o env h with | some v => k v | none => e) := by
  refine st_some (v := v'.strip) ?_ hk
  have e1 : Nat.blt j n = true := nBlt hj
  have e2 : Nat.beq sz sz = true := Nat.beq_refl sz
  unfold evalOp loadAV readCells
  simp only [ho, hp, hh, hg, e1, e2, hpart, Bool.and_self, cond_true, Option.map_some]
theorem upd_upd (g : Nat → AV) (j : Nat) (w v : AV) : upd (upd g j w) j v = upd g j v := by
  funext x
  unfold upd
  cases Nat.beq x j <;> rfl
theorem st_storeB {P : Program} {h : Heap} {t : TypeId} {p w v v' : AV} {id sz n j : Nat} {g : Nat → AV} {A : Heap → Prop} {C : Prop} (hp : p = .eptr id sz j 0) (hh : h.get id = .oarr sz n (upd g j w)) (hj : j < n) (hv : v = v') (hc : (!(Nat.beq v'.cells.length (tySz P t)) || !(v'.cells.all AV.scal)) = false)
    (hd : (Nat.ble (0 + v'.cells.length) sz && v'.isData) = true) (hse : setElem w 0 sz v' = v') (hK : A (h.set id (.oarr sz n (upd g j v')))) : (match storeAV P h t p v with | some h => A h | none => C) := by
  subst hp hv
  have e1 : Nat.blt j n = true := nBlt hj
  have e2 : Nat.beq sz sz = true := Nat.beq_refl sz
  have e3 : upd g j w j = w := by unfold upd; rw [Nat.beq_refl]; rfl
  rw [Bool.and_eq_true] at hd
  unfold storeAV storeArr
  simp only [hh, hc, e1, e2, e3, hd.1, hd.2, hse, upd_upd, Bool.and_self, cond_true, cond_false]
  exact hK
end Ax
namespace Go.Proofs
open Ax Go
set_option maxRecDepth 10000
def keepAd (f r : Nat) : Option (List Nat) := match f, r with
  | 20, 6 => some [0, 1, 2, 3, 4, 13, 14]
  | 20, 15 => some [0, 2, 4, 13, 20]
  | 20, 24 => some [13, 24, 25]
  | 21, 4 => some [0, 1, 5]
  | _, _ => none
def keepXAd (f r : Nat) : Option (List Nat) := match f, r with
  | 20, 6 => some [0, 2, 4, 10, 11, 13]
  | 20, 15 => some [10, 11, 13]
  | 20, 24 => some [10, 11, 24]
  | 21, 4 => some [4]
  | _, _ => none
def xfAd (f r o : Nat) : Bool := match f, r, o with
  | 20, 4, 0 => true
  | _, _, _ => false
noncomputable def cxAd : Ctx where
  P := Try.prog
  inl := fun _ => false
  keep := keepAd
  keepX := keepXAd
  xf := xfAd
  ow := fun _ => false
  gh := fun _ _ => []
  gf := fun _ => []
  ln := fun _ => false
  srt := srtT
theorem okAd {f a Q} (h : stepCall (SX Try.prog calmT) cxAd calmT f a Q) : CallOK Try.prog f a Q := okOf (cx := cxAd) rfl progOK h
theorem refAsks (ps : List Pr) (held : List Po) (legs : List Lg) (b n : List Mk) (h1 : ps.length ≤ 1073741824) (h2 : held.length ≤ 9223372036854775807) (h3 : b.length ≤ 1073741824) (h4 : n.length ≤ 1073741824) (hs : ∀ p ∈ ps, p.n.size ≤ 9223372036854775807) : CallOK Try.prog 59 [EPr.L ps, EP.L held, ELg.L legs, EMk.L b, EMk.L n] (fun r => r = .int .i64 (if askE ps held b n = 0 then (if legs.length ≤ 2048 then 0 else 8) else askE ps held b n)) := by
  refine okAd ?_
  have k1 := refPrAll ps h1 hs
  have k2 := refPosCheckL held h2
  have k3 := refMkCheck b h3
  have k4 := refMkCheck n h4
  unfold askE
  by_cases q1 : prAllE ps = 0
  rotate_left
  · rw [if_neg q1, if_neg q1]
    conv => whnf
    repeat' ((first | with_reducible refine bT rfl ?_ | with_reducible refine bF rfl ?_ | (refine sN ?_; (conv => whnf); refine bT (by first | rfl | exact iR8 _ | exact uNN _ | exact iR (by omega) | exact iR (by rw [hw]; omega) | exact nBlt (by omega) | exact nBle (by omega) | (simp; omega)) ?_) | (refine sA ?_; (conv => whnf); refine bT (roomL (by omega) rfl) ?_) | (refine sS ?_; (conv => whnf); refine bT (by first | rfl | exact iR8 _ | exact uNN _ | exact iR (by omega) | exact iR (by rw [hw]; omega) | exact nBlt (by omega) | exact nBle (by omega) | (simp; omega)) ?_) | (refine sM ?_; (conv => whnf); refine bT (mkOK (by omega) (by omega) (by omega) rfl) ?_) | (refine sC ?_; (conv => whnf); refine bT (nBle (by first | omega | (simp; omega))) ?_) | refine bDt (by omega) ?_ | refine bDf (by omega) ?_ | refine bNt (by omega) ?_ | refine bNf (by omega) ?_ | refine call_is k1 ?_ | refine bDf q1 ?_ | refine bD (fun _ => ?_) (fun _ => ?_) | refine bN (fun _ => ?_) (fun _ => ?_)) <;> conv => whnf)
    all_goals rfl
  by_cases q2 : posE held = 0
  rotate_left
  · rw [if_pos q1, if_neg q2, if_neg q2]
    conv => whnf
    repeat' ((first | with_reducible refine bT rfl ?_ | with_reducible refine bF rfl ?_ | (refine sN ?_; (conv => whnf); refine bT (by first | rfl | exact iR8 _ | exact uNN _ | exact iR (by omega) | exact iR (by rw [hw]; omega) | exact nBlt (by omega) | exact nBle (by omega) | (simp; omega)) ?_) | (refine sA ?_; (conv => whnf); refine bT (roomL (by omega) rfl) ?_) | (refine sS ?_; (conv => whnf); refine bT (by first | rfl | exact iR8 _ | exact uNN _ | exact iR (by omega) | exact iR (by rw [hw]; omega) | exact nBlt (by omega) | exact nBle (by omega) | (simp; omega)) ?_) | (refine sM ?_; (conv => whnf); refine bT (mkOK (by omega) (by omega) (by omega) rfl) ?_) | (refine sC ?_; (conv => whnf); refine bT (nBle (by first | omega | (simp; omega))) ?_) | refine bDt (by omega) ?_ | refine bDf (by omega) ?_ | refine bNt (by omega) ?_ | refine bNf (by omega) ?_ | refine call_is k1 ?_ | refine call_is k2 ?_ | refine bDt q1 ?_ | refine bDf q2 ?_ | refine bD (fun _ => ?_) (fun _ => ?_) | refine bN (fun _ => ?_) (fun _ => ?_)) <;> conv => whnf)
    all_goals rfl
  by_cases q3 : mkE b = 0
  rotate_left
  · rw [if_pos q1, if_pos q2, if_neg q3, if_neg q3]
    conv => whnf
    repeat' ((first | with_reducible refine bT rfl ?_ | with_reducible refine bF rfl ?_ | (refine sN ?_; (conv => whnf); refine bT (by first | rfl | exact iR8 _ | exact uNN _ | exact iR (by omega) | exact iR (by rw [hw]; omega) | exact nBlt (by omega) | exact nBle (by omega) | (simp; omega)) ?_) | (refine sA ?_; (conv => whnf); refine bT (roomL (by omega) rfl) ?_) | (refine sS ?_; (conv => whnf); refine bT (by first | rfl | exact iR8 _ | exact uNN _ | exact iR (by omega) | exact iR (by rw [hw]; omega) | exact nBlt (by omega) | exact nBle (by omega) | (simp; omega)) ?_) | (refine sM ?_; (conv => whnf); refine bT (mkOK (by omega) (by omega) (by omega) rfl) ?_) | (refine sC ?_; (conv => whnf); refine bT (nBle (by first | omega | (simp; omega))) ?_) | refine bDt (by omega) ?_ | refine bDf (by omega) ?_ | refine bNt (by omega) ?_ | refine bNf (by omega) ?_ | refine call_is k1 ?_ | refine call_is k2 ?_ | refine call_is k3 ?_ | refine bDt q1 ?_ | refine bDt q2 ?_ | refine bDf q3 ?_ | refine bD (fun _ => ?_) (fun _ => ?_) | refine bN (fun _ => ?_) (fun _ => ?_)) <;> conv => whnf)
    all_goals rfl
  rw [if_pos q1, if_pos q2, if_pos q3]
  by_cases q4 : mkE n = 0
  rotate_left
  · rw [if_neg q4]
    conv => whnf
    repeat' ((first | with_reducible refine bT rfl ?_ | with_reducible refine bF rfl ?_ | (refine sN ?_; (conv => whnf); refine bT (by first | rfl | exact iR8 _ | exact uNN _ | exact iR (by omega) | exact iR (by rw [hw]; omega) | exact nBlt (by omega) | exact nBle (by omega) | (simp; omega)) ?_) | (refine sA ?_; (conv => whnf); refine bT (roomL (by omega) rfl) ?_) | (refine sS ?_; (conv => whnf); refine bT (by first | rfl | exact iR8 _ | exact uNN _ | exact iR (by omega) | exact iR (by rw [hw]; omega) | exact nBlt (by omega) | exact nBle (by omega) | (simp; omega)) ?_) | (refine sM ?_; (conv => whnf); refine bT (mkOK (by omega) (by omega) (by omega) rfl) ?_) | (refine sC ?_; (conv => whnf); refine bT (nBle (by first | omega | (simp; omega))) ?_) | refine bDt (by omega) ?_ | refine bDf (by omega) ?_ | refine bNt (by omega) ?_ | refine bNf (by omega) ?_ | refine call_is k1 ?_ | refine call_is k2 ?_ | refine call_is k3 ?_ | refine call_is k4 ?_ | refine bDt q1 ?_ | refine bDt q2 ?_ | refine bDt q3 ?_ | refine bDf q4 ?_ | refine bD (fun _ => ?_) (fun _ => ?_) | refine bN (fun _ => ?_) (fun _ => ?_)) <;> conv => whnf)
    all_goals rfl
  rw [if_pos q4]
  by_cases q5 : legs.length ≤ 2048
  · rw [if_pos q5]
    conv => whnf
    repeat' ((first | with_reducible refine bT rfl ?_ | with_reducible refine bF rfl ?_ | (refine sN ?_; (conv => whnf); refine bT (by first | rfl | exact iR8 _ | exact uNN _ | exact iR (by omega) | exact iR (by rw [hw]; omega) | exact nBlt (by omega) | exact nBle (by omega) | (simp; omega)) ?_) | (refine sA ?_; (conv => whnf); refine bT (roomL (by omega) rfl) ?_) | (refine sS ?_; (conv => whnf); refine bT (by first | rfl | exact iR8 _ | exact uNN _ | exact iR (by omega) | exact iR (by rw [hw]; omega) | exact nBlt (by omega) | exact nBle (by omega) | (simp; omega)) ?_) | (refine sM ?_; (conv => whnf); refine bT (mkOK (by omega) (by omega) (by omega) rfl) ?_) | (refine sC ?_; (conv => whnf); refine bT (nBle (by first | omega | (simp; omega))) ?_) | refine bDt (by omega) ?_ | refine bDf (by omega) ?_ | refine bNt (by omega) ?_ | refine bNf (by omega) ?_ | refine call_is k1 ?_ | refine call_is k2 ?_ | refine call_is k3 ?_ | refine call_is k4 ?_ | refine bDt q1 ?_ | refine bDt q2 ?_ | refine bDt q3 ?_ | refine bDt q4 ?_ | refine bD (fun _ => ?_) (fun _ => ?_) | refine bN (fun _ => ?_) (fun _ => ?_)) <;> conv => whnf)
    all_goals exact congrArg _ q4
  · rw [if_neg q5]
    conv => whnf
    repeat' ((first | with_reducible refine bT rfl ?_ | with_reducible refine bF rfl ?_ | (refine sN ?_; (conv => whnf); refine bT (by first | rfl | exact iR8 _ | exact uNN _ | exact iR (by omega) | exact iR (by rw [hw]; omega) | exact nBlt (by omega) | exact nBle (by omega) | (simp; omega)) ?_) | (refine sA ?_; (conv => whnf); refine bT (roomL (by omega) rfl) ?_) | (refine sS ?_; (conv => whnf); refine bT (by first | rfl | exact iR8 _ | exact uNN _ | exact iR (by omega) | exact iR (by rw [hw]; omega) | exact nBlt (by omega) | exact nBle (by omega) | (simp; omega)) ?_) | (refine sM ?_; (conv => whnf); refine bT (mkOK (by omega) (by omega) (by omega) rfl) ?_) | (refine sC ?_; (conv => whnf); refine bT (nBle (by first | omega | (simp; omega))) ?_) | refine bDt (by omega) ?_ | refine bDf (by omega) ?_ | refine bNt (by omega) ?_ | refine bNf (by omega) ?_ | refine call_is k1 ?_ | refine call_is k2 ?_ | refine call_is k3 ?_ | refine call_is k4 ?_ | refine bDt q1 ?_ | refine bDt q2 ?_ | refine bDt q3 ?_ | refine bDt q4 ?_ | refine bD (fun _ => ?_) (fun _ => ?_) | refine bN (fun _ => ?_) (fun _ => ?_)) <;> conv => whnf)
def oneE (ps : List Pr) (s : Sr) (q f : Int) (kn : Bool) (n : List Mk) : Int × Int × Int :=
  if (findP s.p ps).2 = true then (if kn = true ∧ (findM s n).2 = true then ((carE (findP s.p ps).1 q f (findM s n).1).1, (findP s.p ps).1.c, (carE (findP s.p ps).1 q f (findM s n).1).2) else (0, 0, 11)) else (0, 0, 19)
def tup3 (x : Int × Int × Int) : AV := .tup [.int .i64 x.1, .int .i64 x.2.1, .int .i64 x.2.2]
theorem findP_mem {s : ByteArray} {p : Pr} : ∀ {l : List Pr}, findP s l = (p, true) → p ∈ l
  | [], h => by simp [findP] at h
  | x :: r, h => by
    unfold findP at h
    split at h
    · simp only [Prod.mk.injEq, and_true] at h; subst h; exact List.mem_cons_self
    · exact List.mem_cons_of_mem _ (findP_mem h)
theorem refOne (ps : List Pr) (s : Sr) (q f : Int) (kn : Bool) (n : List Mk) (h1 : ps.length ≤ 1073741824) (h4 : n.length ≤ 1073741824) (hs : ∀ p ∈ ps, p.n.size ≤ 9223372036854775807) : CallOK Try.prog 61 [EPr.L ps, encSr s, .int .i64 q, .int .i64 f, .bool kn, EMk.L n] (fun r => r = tup3 (oneE ps s q f kn n)) := by
  refine okAd ?_
  have kP := refPrFind ps s.p h1
  have kM := refMkFind n s h4
  unfold oneE
  generalize hpf : findP s.p ps = pf at *
  obtain ⟨p, bb⟩ := pf
  cases bb
  · conv => whnf
    repeat' ((first | with_reducible refine bT rfl ?_ | with_reducible refine bF rfl ?_ | (refine sN ?_; (conv => whnf); refine bT (by first | rfl | exact iR8 _ | exact uNN _ | exact iR (by omega) | exact iR (by rw [hw]; omega) | exact nBlt (by omega) | exact nBle (by omega) | (simp; omega)) ?_) | (refine sA ?_; (conv => whnf); refine bT (roomL (by omega) rfl) ?_) | (refine sS ?_; (conv => whnf); refine bT (by first | rfl | exact iR8 _ | exact uNN _ | exact iR (by omega) | exact iR (by rw [hw]; omega) | exact nBlt (by omega) | exact nBle (by omega) | (simp; omega)) ?_) | (refine sM ?_; (conv => whnf); refine bT (mkOK (by omega) (by omega) (by omega) rfl) ?_) | (refine sC ?_; (conv => whnf); refine bT (nBle (by first | omega | (simp; omega))) ?_) | refine bDt (by omega) ?_ | refine bDf (by omega) ?_ | refine bNt (by omega) ?_ | refine bNf (by omega) ?_ | refine call_is kP ?_ | refine bD (fun _ => ?_) (fun _ => ?_) | refine bN (fun _ => ?_) (fun _ => ?_)) <;> conv => whnf)
    all_goals rfl
  have kC := refCarried p q f (findM s n).1 (hs p (findP_mem hpf))
  generalize findM s n = m at *
  obtain ⟨m, mb⟩ := m
  cases kn
  · conv => whnf
    repeat' ((first | with_reducible refine bT rfl ?_ | with_reducible refine bF rfl ?_ | (refine sN ?_; (conv => whnf); refine bT (by first | rfl | exact iR8 _ | exact uNN _ | exact iR (by omega) | exact iR (by rw [hw]; omega) | exact nBlt (by omega) | exact nBle (by omega) | (simp; omega)) ?_) | (refine sA ?_; (conv => whnf); refine bT (roomL (by omega) rfl) ?_) | (refine sS ?_; (conv => whnf); refine bT (by first | rfl | exact iR8 _ | exact uNN _ | exact iR (by omega) | exact iR (by rw [hw]; omega) | exact nBlt (by omega) | exact nBle (by omega) | (simp; omega)) ?_) | (refine sM ?_; (conv => whnf); refine bT (mkOK (by omega) (by omega) (by omega) rfl) ?_) | (refine sC ?_; (conv => whnf); refine bT (nBle (by first | omega | (simp; omega))) ?_) | refine bDt (by omega) ?_ | refine bDf (by omega) ?_ | refine bNt (by omega) ?_ | refine bNf (by omega) ?_ | refine call_is kP ?_ | refine call_is kM ?_ | refine bD (fun _ => ?_) (fun _ => ?_) | refine bN (fun _ => ?_) (fun _ => ?_)) <;> conv => whnf)
    all_goals rfl
  cases mb
  · conv => whnf
    repeat' ((first | with_reducible refine bT rfl ?_ | with_reducible refine bF rfl ?_ | (refine sN ?_; (conv => whnf); refine bT (by first | rfl | exact iR8 _ | exact uNN _ | exact iR (by omega) | exact iR (by rw [hw]; omega) | exact nBlt (by omega) | exact nBle (by omega) | (simp; omega)) ?_) | (refine sA ?_; (conv => whnf); refine bT (roomL (by omega) rfl) ?_) | (refine sS ?_; (conv => whnf); refine bT (by first | rfl | exact iR8 _ | exact uNN _ | exact iR (by omega) | exact iR (by rw [hw]; omega) | exact nBlt (by omega) | exact nBle (by omega) | (simp; omega)) ?_) | (refine sM ?_; (conv => whnf); refine bT (mkOK (by omega) (by omega) (by omega) rfl) ?_) | (refine sC ?_; (conv => whnf); refine bT (nBle (by first | omega | (simp; omega))) ?_) | refine bDt (by omega) ?_ | refine bDf (by omega) ?_ | refine bNt (by omega) ?_ | refine bNf (by omega) ?_ | refine call_is kP ?_ | refine call_is kM ?_ | refine bD (fun _ => ?_) (fun _ => ?_) | refine bN (fun _ => ?_) (fun _ => ?_)) <;> conv => whnf)
    all_goals rfl
  conv => whnf
  repeat' ((first | with_reducible refine bT rfl ?_ | with_reducible refine bF rfl ?_ | (refine sN ?_; (conv => whnf); refine bT (by first | rfl | exact iR8 _ | exact uNN _ | exact iR (by omega) | exact iR (by rw [hw]; omega) | exact nBlt (by omega) | exact nBle (by omega) | (simp; omega)) ?_) | (refine sA ?_; (conv => whnf); refine bT (roomL (by omega) rfl) ?_) | (refine sS ?_; (conv => whnf); refine bT (by first | rfl | exact iR8 _ | exact uNN _ | exact iR (by omega) | exact iR (by rw [hw]; omega) | exact nBlt (by omega) | exact nBle (by omega) | (simp; omega)) ?_) | (refine sM ?_; (conv => whnf); refine bT (mkOK (by omega) (by omega) (by omega) rfl) ?_) | (refine sC ?_; (conv => whnf); refine bT (nBle (by first | omega | (simp; omega))) ?_) | refine bDt (by omega) ?_ | refine bDf (by omega) ?_ | refine bNt (by omega) ?_ | refine bNf (by omega) ?_ | refine call_is kP ?_ | refine call_is kM ?_ | refine call_is kC ?_ | refine bD (fun _ => ?_) (fun _ => ?_) | refine bN (fun _ => ?_) (fun _ => ?_)) <;> conv => whnf)
  all_goals rfl
theorem firstE_zero {f : Nat → Int} : ∀ {n i : Nat}, firstE f n i = 0 → ∀ j, i ≤ j → j < i + n → f j = 0
  | 0, i, _, j, h1, h2 => by omega
  | n + 1, i, h, j, h1, h2 => by
    unfold firstE at h
    by_cases e : f i = 0
    · rw [if_pos e] at h
      by_cases q : j = i
      · subst q; exact e
      · exact firstE_zero h j (by omega) (by omega)
    · rw [if_neg e] at h; exact absurd h e
theorem prAll_mem {ps : List Pr} (h : prAllE ps = 0) {p : Pr} (hp : p ∈ ps) : prE p = 0 := by
  unfold prAllE at h
  split at h
  · cases h
  · obtain ⟨i, hi, e⟩ := List.mem_iff_getElem.1 hp
    have hz := firstE_zero h i (by omega) (by omega)
    unfold prAt at hz
    have eg : ps.getD i EPr.d = p := by rw [← e, List.getD_eq_getElem?_getD, List.getElem?_eq_getElem hi]; rfl
    rw [eg] at hz
    by_cases q : prE p = 0
    · exact q
    · rw [if_neg q] at hz; exact hz
theorem pr_cur {p : Pr} (h : prE p = 0) : 0 ≤ p.c ∧ p.c ≤ 7 := by
  unfold prE at h
  split at h
  · split at h
    · assumption
    · cases h
  · cases h
theorem car_fit {p : Pr} {q a b : Int} (h : (carE p q a b).2 = 0) : fitP (carE p q a b).1 := by
  unfold carE at *
  by_cases hp : prE p = 0
  · rw [if_pos hp] at h ⊢
    by_cases r : (-16777216 ≤ a ∧ a ≤ 16777216) ∧ (-16777216 ≤ b ∧ b ≤ 16777216)
    · rw [if_pos r] at h ⊢
      have hx : -33554432 ≤ b - a ∧ b - a ≤ 33554432 := by omega
      by_cases hq : -1048576 ≤ q ∧ q ≤ 1048576
      · obtain ⟨e, h1⟩ := val_ok hp hx hq
        rw [e]
        unfold fitP
        dsimp only
        omega
      · exfalso
        unfold valE at h
        rw [if_pos hp, if_pos hx, if_neg hq] at h
        cases h
    · rw [if_neg r] at h; cases h
  · rw [if_neg hp] at h; exact absurd h hp
theorem one_1 {ps : List Pr} {s : Sr} {q f : Int} {kn : Bool} {n : List Mk} (ha : prAllE ps = 0) (h : (oneE ps s q f kn n).2.2 = 0) : (0 ≤ (oneE ps s q f kn n).2.1 ∧ (oneE ps s q f kn n).2.1 ≤ 7) ∧ fitP (oneE ps s q f kn n).1 := by
  unfold oneE at *
  generalize hf : findP s.p ps = pf at *
  obtain ⟨p, bb⟩ := pf
  cases bb
  · simp at h
  simp only [if_true] at h ⊢
  by_cases hk : kn = true ∧ (findM s n).2 = true
  · rw [if_pos hk] at h ⊢
    exact ⟨pr_cur (prAll_mem ha (findP_mem hf)), car_fit h⟩
  · rw [if_neg hk] at h; cases h
theorem lot_one {ps : List Pr} {s : Sr} {q f : Int} {kn : Bool} {n : List Mk} {rk : Pr → Int × Int} (hk : s.k = 1) (hr : ∀ p, rk p = if kn = true ∧ (findM s n).2 = true then carE p q f (findM s n).1 else (0, 11)) : lotE ps s rk = if (oneE ps s q f kn n).2.2 = 0 then (0, [((oneE ps s q f kn n).2.1, (oneE ps s q f kn n).1)]) else ((oneE ps s q f kn n).2.2, []) := by
  unfold lotE oneE
  rw [if_pos hk]
  generalize findP s.p ps = pf
  obtain ⟨p, bb⟩ := pf
  cases bb
  · rfl
  simp only [if_true, hr]
  by_cases h : kn = true ∧ (findM s n).2 = true
  · simp only [if_pos h]
  · simp only [if_neg h]
    rfl
theorem stepH_one {ps : List Pr} {b n : List Mk} {x : Po} (hk : x.s.k = 1) : stepH ps b n x = if (oneE ps x.s (IntKind.i64.wrap (x.l - x.h)) (findM x.s b).1 (findM x.s b).2 n).2.2 = 0 then (0, [((oneE ps x.s (IntKind.i64.wrap (x.l - x.h)) (findM x.s b).1 (findM x.s b).2 n).2.1, (oneE ps x.s (IntKind.i64.wrap (x.l - x.h)) (findM x.s b).1 (findM x.s b).2 n).1)]) else ((oneE ps x.s (IntKind.i64.wrap (x.l - x.h)) (findM x.s b).1 (findM x.s b).2 n).2.2, []) := by
  refine lot_one hk fun p => ?_
  unfold lookE
  cases h1 : (findM x.s b).2 <;> cases h2 : (findM x.s n).2 <;> simp
theorem stepL_one {ps : List Pr} {n : List Mk} {x : Lg} (hk : x.s.k = 1) : stepL ps n x = if (oneE ps x.s x.q x.pr true n).2.2 = 0 then (0, [((oneE ps x.s x.q x.pr true n).2.1, (oneE ps x.s x.q x.pr true n).1)]) else ((oneE ps x.s x.q x.pr true n).2.2, []) := by
  refine lot_one hk fun p => ?_
  unfold lookE
  cases h2 : (findM x.s n).2 <;> simp
def arrI (its : Its) : AObj := .oarr 1 8 fun i => ownI (curIt its (i : Nat))
theorem arrI_snoc {its : Its} {c v : Int} {X : AV} (hc : 0 ≤ c) (hX : X = ownI (curIt its c ++ [v])) : AObj.oarr 1 8 (upd (fun i => ownI (curIt its (i : Nat))) c.toNat X) = arrI (its ++ [(c, v)]) := by
  subst hX
  unfold arrI
  rw [curIt_snoc]
  congr 1
  funext i
  unfold upd updF
  have : (c.toNat : Int) = c := Int.toNat_of_nonneg hc
  by_cases e : (i : Int) = c
  · have : i = c.toNat := by omega
    subst this
    simp [e]
  · have h2 : Nat.beq i c.toNat = false := by
      cases hb : Nat.beq i c.toNat
      · rfl
      · exact absurd (by rw [Nat.eq_of_beq_eq_true hb]; exact this) e
    rw [if_neg e, h2]; rfl
set_option maxHeartbeats 8000000 in
theorem refAccount (ps : List Pr) (held : List Po) (legs : List Lg) (b n : List Mk) (h1 : ps.length ≤ 1073741824) (h2 : held.length ≤ 9223372036854775807) (h3 : b.length ≤ 1073741824) (h4 : n.length ≤ 1073741824) (h5 : legs.length ≤ 9223372036854775807) (hs : ∀ p ∈ ps, p.n.size ≤ 9223372036854775807) : CallOK Try.prog 20 [EPr.L ps, EP.L held, ELg.L legs, EMk.L b, EMk.L n] (fun r => r = accAV (accE ps held legs b n)) := by
  refine okAd ?_
  have kA := refAsks ps held legs b n h1 h2 h3 h4 hs
  unfold accE
  by_cases hE : askE ps held b n = 0
  rotate_left
  · rw [if_neg hE] at kA ⊢
    conv => whnf
    repeat' ((first | with_reducible refine bT rfl ?_ | with_reducible refine bF rfl ?_ | (refine sN ?_; (conv => whnf); refine bT (by first | rfl | exact iR8 _ | exact uNN _ | exact iR (by omega) | exact iR (by rw [hw]; omega) | exact nBlt (by omega) | exact nBle (by omega) | (simp; omega)) ?_) | (refine sA ?_; (conv => whnf); refine bT (roomL (by omega) rfl) ?_) | (refine sS ?_; (conv => whnf); refine bT (by first | rfl | exact iR8 _ | exact uNN _ | exact iR (by omega) | exact iR (by rw [hw]; omega) | exact nBlt (by omega) | exact nBle (by omega) | (simp; omega)) ?_) | (refine sM ?_; (conv => whnf); refine bT (mkOK (by omega) (by omega) (by omega) rfl) ?_) | (refine sC ?_; (conv => whnf); refine bT (nBle (by first | omega | (simp; omega))) ?_) | refine bDt (by omega) ?_ | refine bDf (by omega) ?_ | refine bNt (by omega) ?_ | refine bNf (by omega) ?_ | refine call_is kA ?_ | refine bNt hE ?_ | refine bD (fun _ => ?_) (fun _ => ?_) | refine bN (fun _ => ?_) (fun _ => ?_)) <;> conv => whnf)
    all_goals rfl
  rw [if_pos hE] at kA ⊢
  by_cases hL : legs.length ≤ 2048
  rotate_left
  · rw [if_neg hL] at kA ⊢
    conv => whnf
    repeat' ((first | with_reducible refine bT rfl ?_ | with_reducible refine bF rfl ?_ | (refine sN ?_; (conv => whnf); refine bT (by first | rfl | exact iR8 _ | exact uNN _ | exact iR (by omega) | exact iR (by rw [hw]; omega) | exact nBlt (by omega) | exact nBle (by omega) | (simp; omega)) ?_) | (refine sA ?_; (conv => whnf); refine bT (roomL (by omega) rfl) ?_) | (refine sS ?_; (conv => whnf); refine bT (by first | rfl | exact iR8 _ | exact uNN _ | exact iR (by omega) | exact iR (by rw [hw]; omega) | exact nBlt (by omega) | exact nBle (by omega) | (simp; omega)) ?_) | (refine sM ?_; (conv => whnf); refine bT (mkOK (by omega) (by omega) (by omega) rfl) ?_) | (refine sC ?_; (conv => whnf); refine bT (nBle (by first | omega | (simp; omega))) ?_) | refine bDt (by omega) ?_ | refine bDf (by omega) ?_ | refine bNt (by omega) ?_ | refine bNf (by omega) ?_ | refine call_is kA ?_ | refine bD (fun _ => ?_) (fun _ => ?_) | refine bN (fun _ => ?_) (fun _ => ?_)) <;> conv => whnf)
    all_goals rfl
  rw [if_pos hL] at kA ⊢
  have q0 : prAllE ps = 0 := by
    unfold askE at hE
    split at hE
    · assumption
    · exact hE
  have q1 : posE held = 0 := by
    unfold askE at hE
    rw [if_pos q0] at hE
    split at hE
    · assumption
    · exact hE
  have hl128 : held.length ≤ 128 := by
    unfold posE at q1
    split at q1
    · cases q1
    · omega
  conv => whnf
  repeat' ((first | with_reducible refine bT rfl ?_ | with_reducible refine bF rfl ?_ | (refine sN ?_; (conv => whnf); refine bT (by first | rfl | exact iR8 _ | exact uNN _ | exact iR (by omega) | exact iR (by rw [hw]; omega) | exact nBlt (by omega) | exact nBle (by omega) | (simp; omega)) ?_) | (refine sA ?_; (conv => whnf); refine bT (roomL (by omega) rfl) ?_) | (refine sS ?_; (conv => whnf); refine bT (by first | rfl | exact iR8 _ | exact uNN _ | exact iR (by omega) | exact iR (by rw [hw]; omega) | exact nBlt (by omega) | exact nBle (by omega) | (simp; omega)) ?_) | (refine sM ?_; (conv => whnf); refine bT (mkOK (by omega) (by omega) (by omega) rfl) ?_) | (refine sC ?_; (conv => whnf); refine bT (nBle (by first | omega | (simp; omega))) ?_) | refine bDt (by omega) ?_ | refine bDf (by omega) ?_ | refine bNt (by omega) ?_ | refine bNf (by omega) ?_ | refine call_is kA ?_ | refine bD (fun _ => ?_) (fun _ => ?_) | refine bN (fun _ => ?_) (fun _ => ?_)) <;> conv => whnf)
  refine loop_by (cx := cxAd) rfl progOK (ι := {p : Nat × Its // p.1 ≤ held.length ∧ p.2.length ≤ p.1 ∧ (∀ x ∈ p.2, fitP x.2) ∧ runE (stepH ps b n) held = ((runE (stepH ps b n) (held.drop p.1)).1, p.2 ++ (runE (stepH ps b n) (held.drop p.1)).2)}) (fun p => held.length - p.1.1) (fun p => ⟨[(0, EPr.L ps), (0 + 1, EP.L held), (0 + 1 + 1, ELg.L legs), (0 + 1 + 1 + 1, EMk.L b), (0 + 1 + 1 + 1 + 1, EMk.L n), (13, .brow 0 1 8), (14, .int .i64 p.1.1)], [arrI p.1.2], [], none⟩) ?_ ⟨(0, []), Nat.zero_le _, Nat.le_refl _, by simp, by simp⟩
  rintro ⟨⟨i, its⟩, hi, hli, hfit, hr⟩ ih
  dsimp only at hi hli hfit hr ⊢
  by_cases hlt : i < held.length
  · rw [Enc.drop_cons (E := EP) hlt, runE] at hr
    have kB := refMkFind b (held.getD i EP.d).s h3
    have kO := refOne ps (held.getD i EP.d).s (IntKind.i64.wrap ((held.getD i EP.d).l - (held.getD i EP.d).h)) (findM (held.getD i EP.d).s b).1 (findM (held.getD i EP.d).s b).2 n h1 h4 hs
    have kNet := refNet (held.getD i EP.d)
    have hnx : ∀ its' : Its, its' = its ++ (stepH ps b n (held.getD i EP.d)).2 → (stepH ps b n (held.getD i EP.d)).1 = 0 → runE (stepH ps b n) held = ((runE (stepH ps b n) (held.drop (i + 1))).1, its' ++ (runE (stepH ps b n) (held.drop (i + 1))).2) := by
      intro its' e1 e2
      rw [if_pos e2] at hr
      rw [hr, e1]
      simp
    have hbad : ∀ er : Int, stepH ps b n (held.getD i EP.d) = (er, []) → ¬ er = 0 → (runE (stepH ps b n) held).1 = er := by
      intro er e1 e2
      rw [hr, if_neg (by rw [e1]; exact e2), e1]
    have hm : held.length - (i + 1) < held.length - i := by omega
    by_cases hk : (held.getD i EP.d).s.k = 1
    rotate_left
    · have e : stepH ps b n (held.getD i EP.d) = (0, []) := lot_1 hk
      have hj := hnx its (by rw [e]; simp) (by rw [e])
      have hl2 : its.length ≤ i + 1 := by omega
      conv => whnf
      repeat' ((first | with_reducible refine bT rfl ?_ | with_reducible refine bF rfl ?_ | (refine sN ?_; (conv => whnf); refine bT (by first | rfl | exact iR8 _ | exact uNN _ | exact iR (by omega) | exact iR (by rw [hw]; omega) | exact nBlt (by omega) | exact nBle (by omega) | (simp; omega)) ?_) | (refine sA ?_; (conv => whnf); refine bT (roomL (by omega) rfl) ?_) | (refine sS ?_; (conv => whnf); refine bT (by first | rfl | exact iR8 _ | exact uNN _ | exact iR (by omega) | exact iR (by rw [hw]; omega) | exact nBlt (by omega) | exact nBle (by omega) | (simp; omega)) ?_) | (refine sM ?_; (conv => whnf); refine bT (mkOK (by omega) (by omega) (by omega) rfl) ?_) | (refine sC ?_; (conv => whnf); refine bT (nBle (by first | omega | (simp; omega))) ?_) | refine bDt (by omega) ?_ | refine bDf (by omega) ?_ | refine bNt (by omega) ?_ | refine bNf (by omega) ?_ | refine bNt hk ?_ | refine loop_to ih ⟨(i + 1, its), hlt, hl2, hfit, hj⟩ hm ?_ | refine bD (fun _ => ?_) (fun _ => ?_) | refine bN (fun _ => ?_) (fun _ => ?_)) <;> conv => whnf)
      rw [next_i hlt (by omega)]; rfl
    have hso := stepH_one (ps := ps) (b := b) (n := n) hk
    have ho1 := one_1 (s := (held.getD i EP.d).s) (q := IntKind.i64.wrap ((held.getD i EP.d).l - (held.getD i EP.d).h)) (f := (findM (held.getD i EP.d).s b).1) (kn := (findM (held.getD i EP.d).s b).2) (n := n) q0
    generalize oneE ps (held.getD i EP.d).s (IntKind.i64.wrap ((held.getD i EP.d).l - (held.getD i EP.d).h)) (findM (held.getD i EP.d).s b).1 (findM (held.getD i EP.d).s b).2 n = O at *
    obtain ⟨v, c, er⟩ := O
    dsimp only at hso ho1
    by_cases he : er = 0
    rotate_left
    · rw [if_neg he] at hso
      have e := hbad _ hso he
      clear ih
      rw [e, if_neg he]
      conv => whnf
      repeat' ((first | with_reducible refine bT rfl ?_ | with_reducible refine bF rfl ?_ | (refine sN ?_; (conv => whnf); refine bT (by first | rfl | exact iR8 _ | exact uNN _ | exact iR (by omega) | exact iR (by rw [hw]; omega) | exact nBlt (by omega) | exact nBle (by omega) | (simp; omega)) ?_) | (refine sA ?_; (conv => whnf); refine bT (roomL (by omega) rfl) ?_) | (refine sS ?_; (conv => whnf); refine bT (by first | rfl | exact iR8 _ | exact uNN _ | exact iR (by omega) | exact iR (by rw [hw]; omega) | exact nBlt (by omega) | exact nBle (by omega) | (simp; omega)) ?_) | (refine sM ?_; (conv => whnf); refine bT (mkOK (by omega) (by omega) (by omega) rfl) ?_) | (refine sC ?_; (conv => whnf); refine bT (nBle (by first | omega | (simp; omega))) ?_) | refine bDt (by omega) ?_ | refine bDf (by omega) ?_ | refine bNt (by omega) ?_ | refine bNf (by omega) ?_ | refine bNf hk ?_ | refine call_is kB ?_ | refine call_is kNet ?_ | refine call_is kO ?_ | refine bNt he ?_ | refine bD (fun _ => ?_) (fun _ => ?_) | refine bN (fun _ => ?_) (fun _ => ?_)) <;> conv => whnf)
      all_goals rfl
    · subst he
      obtain ⟨⟨hc0, hc7⟩, hv⟩ := ho1 rfl
      rw [if_pos rfl] at hso
      have hj := hnx (its ++ [(c, v)]) (by rw [hso]) (by rw [hso])
      have hl2 : (its ++ [(c, v)]).length ≤ i + 1 := by simp; omega
      have hfit2 : ∀ x ∈ its ++ [(c, v)], fitP x.2 := by
        intro x hx
        rw [List.mem_append] at hx
        rcases hx with hx | hx
        · exact hfit x hx
        · simp at hx; subst hx; exact hv
      have hcl : (curIt its c).length ≤ 1000 := by
        unfold curIt
        rw [List.length_map]
        have := List.length_filter_le (fun x : Int × Int => x.1 == c) its
        omega
      have hir : inRange c 8 = true := iR (by omega)
      have hj8 : c.toNat < 8 := by omega
      have hcc : ((c.toNat : Nat) : Int) = c := Int.toNat_of_nonneg hc0
      conv => whnf
      repeat' ((first | with_reducible refine bT rfl ?_ | with_reducible refine bF rfl ?_ | (refine sN ?_; (conv => whnf); refine bT (by first | rfl | exact iR8 _ | exact uNN _ | exact iR (by omega) | exact iR (by rw [hw]; omega) | exact nBlt (by omega) | exact nBle (by omega) | (simp; omega)) ?_) | (refine sA ?_; (conv => whnf); refine bT (roomL (by omega) rfl) ?_) | (refine sS ?_; (conv => whnf); refine bT (by first | rfl | exact iR8 _ | exact uNN _ | exact iR (by omega) | exact iR (by rw [hw]; omega) | exact nBlt (by omega) | exact nBle (by omega) | (simp; omega)) ?_) | (refine sM ?_; (conv => whnf); refine bT (mkOK (by omega) (by omega) (by omega) rfl) ?_) | (refine sC ?_; (conv => whnf); refine bT (nBle (by first | omega | (simp; omega))) ?_) | refine bDt (by omega) ?_ | refine bDf (by omega) ?_ | refine bNt (by omega) ?_ | refine bNf (by omega) ?_ | refine bNf hk ?_ | refine call_is kB ?_ | refine call_is kNet ?_ | refine call_is kO ?_ | refine bNf rfl ?_ | refine st_ixB (i := c) (n := 8) rfl rfl rfl rfl rfl rfl hir ?_ | refine st_takeB (v := ownI (curIt its c)) (g := fun i => ownI (curIt its (i : Nat))) (j := c.toNat) (n := 8) rfl rfl hj8 (congrArg (fun x => ownI (curIt its x)) hcc) rfl rfl rfl rfl ?_ | refine st_storeB (v' := ownI (curIt its c ++ [v])) (g := fun i => ownI (curIt its (i : Nat))) (j := c.toNat) (n := 8) rfl rfl hj8 (congrArg AV.own (EI.snoc_av rfl rfl rfl rfl rfl)) rfl rfl rfl ?_ | refine loop_to ih ⟨(i + 1, its ++ [(c, v)]), hlt, hl2, hfit2, hj⟩ hm ?_ | refine bD (fun _ => ?_) (fun _ => ?_) | refine bN (fun _ => ?_) (fun _ => ?_)) <;> conv => whnf)
      rw [next_i hlt (by omega), arrI_snoc hc0 rfl]; rfl
  · have hiq : i = held.length := by omega
    subst hiq
    rw [List.drop_length] at hr
    simp only [runE, List.append_nil] at hr
    have hr1 : (runE (stepH ps b n) held).1 = 0 := by rw [hr]
    have hr2 : (runE (stepH ps b n) held).2 = its := by rw [hr]
    rw [hr1, if_pos rfl, hr2]
    clear ih
    have hits : its.length ≤ 128 := by omega
    conv => whnf
    repeat' ((first | with_reducible refine bT rfl ?_ | with_reducible refine bF rfl ?_ | (refine sN ?_; (conv => whnf); refine bT (by first | rfl | exact iR8 _ | exact uNN _ | exact iR (by omega) | exact iR (by rw [hw]; omega) | exact nBlt (by omega) | exact nBle (by omega) | (simp; omega)) ?_) | (refine sA ?_; (conv => whnf); refine bT (roomL (by omega) rfl) ?_) | (refine sS ?_; (conv => whnf); refine bT (by first | rfl | exact iR8 _ | exact uNN _ | exact iR (by omega) | exact iR (by rw [hw]; omega) | exact nBlt (by omega) | exact nBle (by omega) | (simp; omega)) ?_) | (refine sM ?_; (conv => whnf); refine bT (mkOK (by omega) (by omega) (by omega) rfl) ?_) | (refine sC ?_; (conv => whnf); refine bT (nBle (by first | omega | (simp; omega))) ?_) | refine bDt (by omega) ?_ | refine bDf (by omega) ?_ | refine bNt (by omega) ?_ | refine bNf (by omega) ?_ | refine bD (fun _ => ?_) (fun _ => ?_) | refine bN (fun _ => ?_) (fun _ => ?_)) <;> conv => whnf)
    refine loop_by (cx := cxAd) rfl progOK (ι := {q : Nat × Its // q.1 ≤ legs.length ∧ q.2.length ≤ 128 + q.1 ∧ (∀ x ∈ q.2, fitP x.2) ∧ (runE (stepL ps n) legs).1 = (runE (stepL ps n) (legs.drop q.1)).1 ∧ its ++ (runE (stepL ps n) legs).2 = q.2 ++ (runE (stepL ps n) (legs.drop q.1)).2}) (fun q => legs.length - q.1.1) (fun q => ⟨[(0, EPr.L ps), (0 + 1 + 1, ELg.L legs), (0 + 1 + 1 + 1 + 1, EMk.L n), (13, .brow 0 1 8), (20, .int .i64 q.1.1)], [arrI q.1.2], [], none⟩) ?_ ⟨(0, its), Nat.zero_le _, hits, hfit, by simp, by simp⟩
    clear hr hr1 hr2 hli hi hfit
    rintro ⟨⟨i, jts⟩, hi, hli, hfit, hr, hrr⟩ ih
    dsimp only at hi hli hfit hr hrr ⊢
    by_cases hlt : i < legs.length
    · rw [Enc.drop_cons (E := ELg) hlt, runE] at hr hrr
      have kO := refOne ps (legs.getD i ELg.d).s (legs.getD i ELg.d).q (legs.getD i ELg.d).pr true n h1 h4 hs
      have hnx1 : ∀ jts' : Its, jts' = jts ++ (stepL ps n (legs.getD i ELg.d)).2 → (stepL ps n (legs.getD i ELg.d)).1 = 0 → (runE (stepL ps n) legs).1 = (runE (stepL ps n) (legs.drop (i + 1))).1 ∧ its ++ (runE (stepL ps n) legs).2 = jts' ++ (runE (stepL ps n) (legs.drop (i + 1))).2 := by
        intro its' e1 e2
        rw [if_pos e2] at hr hrr
        rw [hr, hrr, e1]
        simp
      have hbad : ∀ er : Int, stepL ps n (legs.getD i ELg.d) = (er, []) → ¬ er = 0 → (runE (stepL ps n) legs).1 = er := by
        intro er e1 e2
        rw [hr, if_neg (by rw [e1]; exact e2), e1]
      have hm : legs.length - (i + 1) < legs.length - i := by omega
      by_cases hk : (legs.getD i ELg.d).s.k = 1
      rotate_left
      · have e : stepL ps n (legs.getD i ELg.d) = (0, []) := lot_1 hk
        have hj := hnx1 jts (by rw [e]; simp) (by rw [e])
        have hl2 : jts.length ≤ 128 + (i + 1) := by omega
        conv => whnf
        repeat' ((first | with_reducible refine bT rfl ?_ | with_reducible refine bF rfl ?_ | (refine sN ?_; (conv => whnf); refine bT (by first | rfl | exact iR8 _ | exact uNN _ | exact iR (by omega) | exact iR (by rw [hw]; omega) | exact nBlt (by omega) | exact nBle (by omega) | (simp; omega)) ?_) | (refine sA ?_; (conv => whnf); refine bT (roomL (by omega) rfl) ?_) | (refine sS ?_; (conv => whnf); refine bT (by first | rfl | exact iR8 _ | exact uNN _ | exact iR (by omega) | exact iR (by rw [hw]; omega) | exact nBlt (by omega) | exact nBle (by omega) | (simp; omega)) ?_) | (refine sM ?_; (conv => whnf); refine bT (mkOK (by omega) (by omega) (by omega) rfl) ?_) | (refine sC ?_; (conv => whnf); refine bT (nBle (by first | omega | (simp; omega))) ?_) | refine bDt (by omega) ?_ | refine bDf (by omega) ?_ | refine bNt (by omega) ?_ | refine bNf (by omega) ?_ | refine bNt hk ?_ | refine loop_to ih ⟨(i + 1, jts), hlt, hl2, hfit, hj.1, hj.2⟩ hm ?_ | refine bD (fun _ => ?_) (fun _ => ?_) | refine bN (fun _ => ?_) (fun _ => ?_)) <;> conv => whnf)
        rw [next_i hlt (by omega)]; rfl
      have hso := stepL_one (ps := ps) (n := n) hk
      have ho1 := one_1 (s := (legs.getD i ELg.d).s) (q := (legs.getD i ELg.d).q) (f := (legs.getD i ELg.d).pr) (kn := true) (n := n) q0
      generalize oneE ps (legs.getD i ELg.d).s (legs.getD i ELg.d).q (legs.getD i ELg.d).pr true n = O at *
      obtain ⟨v, c, er⟩ := O
      dsimp only at hso ho1
      by_cases he : er = 0
      rotate_left
      · rw [if_neg he] at hso
        have e := hbad _ hso he
        clear ih
        rw [e, if_neg he]
        conv => whnf
        repeat' ((first | with_reducible refine bT rfl ?_ | with_reducible refine bF rfl ?_ | (refine sN ?_; (conv => whnf); refine bT (by first | rfl | exact iR8 _ | exact uNN _ | exact iR (by omega) | exact iR (by rw [hw]; omega) | exact nBlt (by omega) | exact nBle (by omega) | (simp; omega)) ?_) | (refine sA ?_; (conv => whnf); refine bT (roomL (by omega) rfl) ?_) | (refine sS ?_; (conv => whnf); refine bT (by first | rfl | exact iR8 _ | exact uNN _ | exact iR (by omega) | exact iR (by rw [hw]; omega) | exact nBlt (by omega) | exact nBle (by omega) | (simp; omega)) ?_) | (refine sM ?_; (conv => whnf); refine bT (mkOK (by omega) (by omega) (by omega) rfl) ?_) | (refine sC ?_; (conv => whnf); refine bT (nBle (by first | omega | (simp; omega))) ?_) | refine bDt (by omega) ?_ | refine bDf (by omega) ?_ | refine bNt (by omega) ?_ | refine bNf (by omega) ?_ | refine bNf hk ?_ | refine call_is kO ?_ | refine bNt he ?_ | refine bD (fun _ => ?_) (fun _ => ?_) | refine bN (fun _ => ?_) (fun _ => ?_)) <;> conv => whnf)
        all_goals rfl
      · subst he
        obtain ⟨⟨hc0, hc7⟩, hv⟩ := ho1 rfl
        rw [if_pos rfl] at hso
        have hj := hnx1 (jts ++ [(c, v)]) (by rw [hso]) (by rw [hso])
        have hl2 : (jts ++ [(c, v)]).length ≤ 128 + (i + 1) := by simp; omega
        have hfit2 : ∀ x ∈ jts ++ [(c, v)], fitP x.2 := by
          intro x hx
          rw [List.mem_append] at hx
          rcases hx with hx | hx
          · exact hfit x hx
          · simp at hx; subst hx; exact hv
        have hcl : (curIt jts c).length ≤ 3000 := by
          unfold curIt
          rw [List.length_map]
          have := List.length_filter_le (fun x : Int × Int => x.1 == c) jts
          omega
        have hir : inRange c 8 = true := iR (by omega)
        have hj8 : c.toNat < 8 := by omega
        have hcc : ((c.toNat : Nat) : Int) = c := Int.toNat_of_nonneg hc0
        conv => whnf
        repeat' ((first | with_reducible refine bT rfl ?_ | with_reducible refine bF rfl ?_ | (refine sN ?_; (conv => whnf); refine bT (by first | rfl | exact iR8 _ | exact uNN _ | exact iR (by omega) | exact iR (by rw [hw]; omega) | exact nBlt (by omega) | exact nBle (by omega) | (simp; omega)) ?_) | (refine sA ?_; (conv => whnf); refine bT (roomL (by omega) rfl) ?_) | (refine sS ?_; (conv => whnf); refine bT (by first | rfl | exact iR8 _ | exact uNN _ | exact iR (by omega) | exact iR (by rw [hw]; omega) | exact nBlt (by omega) | exact nBle (by omega) | (simp; omega)) ?_) | (refine sM ?_; (conv => whnf); refine bT (mkOK (by omega) (by omega) (by omega) rfl) ?_) | (refine sC ?_; (conv => whnf); refine bT (nBle (by first | omega | (simp; omega))) ?_) | refine bDt (by omega) ?_ | refine bDf (by omega) ?_ | refine bNt (by omega) ?_ | refine bNf (by omega) ?_ | refine bNf hk ?_ | refine call_is kO ?_ | refine bNf rfl ?_ | refine st_ixB (i := c) (n := 8) rfl rfl rfl rfl rfl rfl hir ?_ | refine st_takeB (v := ownI (curIt jts c)) (g := fun i => ownI (curIt jts (i : Nat))) (j := c.toNat) (n := 8) rfl rfl hj8 (congrArg (fun x => ownI (curIt jts x)) hcc) rfl rfl rfl rfl ?_ | refine st_storeB (v' := ownI (curIt jts c ++ [v])) (g := fun i => ownI (curIt jts (i : Nat))) (j := c.toNat) (n := 8) rfl rfl hj8 (congrArg AV.own (EI.snoc_av rfl rfl rfl rfl rfl)) rfl rfl rfl ?_ | refine loop_to ih ⟨(i + 1, jts ++ [(c, v)]), hlt, hl2, hfit2, hj.1, hj.2⟩ hm ?_ | refine bD (fun _ => ?_) (fun _ => ?_) | refine bN (fun _ => ?_) (fun _ => ?_)) <;> conv => whnf)
        rw [next_i hlt (by omega), arrI_snoc hc0 rfl]; rfl
    · have hiq : i = legs.length := by omega
      subst hiq
      rw [List.drop_length] at hr hrr
      simp only [runE, List.append_nil] at hr hrr
      rw [hr, if_pos rfl, hrr]
      clear ih
      have hjts : jts.length ≤ 3000 := by omega
      clear hr hrr hli hi
      conv => whnf
      repeat' ((first | with_reducible refine bT rfl ?_ | with_reducible refine bF rfl ?_ | (refine sN ?_; (conv => whnf); refine bT (by first | rfl | exact iR8 _ | exact uNN _ | exact iR (by omega) | exact iR (by rw [hw]; omega) | exact nBlt (by omega) | exact nBle (by omega) | (simp; omega)) ?_) | (refine sA ?_; (conv => whnf); refine bT (roomL (by omega) rfl) ?_) | (refine sS ?_; (conv => whnf); refine bT (by first | rfl | exact iR8 _ | exact uNN _ | exact iR (by omega) | exact iR (by rw [hw]; omega) | exact nBlt (by omega) | exact nBle (by omega) | (simp; omega)) ?_) | (refine sM ?_; (conv => whnf); refine bT (mkOK (by omega) (by omega) (by omega) rfl) ?_) | (refine sC ?_; (conv => whnf); refine bT (nBle (by first | omega | (simp; omega))) ?_) | refine bDt (by omega) ?_ | refine bDf (by omega) ?_ | refine bNt (by omega) ?_ | refine bNf (by omega) ?_ | refine bD (fun _ => ?_) (fun _ => ?_) | refine bN (fun _ => ?_) (fun _ => ?_)) <;> conv => whnf)
      refine loop_by (cx := cxAd) rfl progOK (ι := {k : Nat // k ≤ 8 ∧ ∀ c ∈ List.range k, (sumE (curIt jts (c : Nat))).2 = 0}) (fun k => 8 - k.1) (fun k => ⟨[(13, .brow 0 1 8), (24, .own (EI.L ((List.range k.1).map fun c => (sumE (curIt jts (c : Nat))).1))), (25, .int .i64 k.1)], [arrI jts], [], none⟩) ?_ ⟨0, Nat.zero_le _, by simp⟩
      rintro ⟨k, hk, hg⟩ ih
      dsimp only at hk hg ⊢
      by_cases hlt : k < 8
      · have hcl : (curIt jts (k : Nat)).length ≤ 1073741824 := by
          unfold curIt
          rw [List.length_map]
          have := List.length_filter_le (fun x : Int × Int => x.1 == (k : Nat)) jts
          omega
        have hw : IntKind.i64.wrap ((k : Int) + 1) = (k : Int) + 1 := wrap64 (by omega)
        have kS := refSum (curIt jts (k : Nat)) hcl
        have hir : inRange (k : Int) 8 = true := iR (by omega)
        have hj8 : (k : Int).toNat < 8 := by omega
        by_cases h0 : (sumE (curIt jts (k : Nat))).2 = 0
        · have hg' : ∀ c ∈ List.range (k + 1), (sumE (curIt jts (c : Nat))).2 = 0 := by
            intro c hc
            rw [List.range_succ, List.mem_append] at hc
            rcases hc with hc | hc
            · exact hg c hc
            · simp at hc; subst hc; exact h0
          have hsn : List.map (fun c : Nat => (sumE (curIt jts (c : Nat))).1) (List.range (k + 1)) = List.map (fun c : Nat => (sumE (curIt jts (c : Nat))).1) (List.range k) ++ [(sumE (curIt jts (k : Nat))).1] := by
            rw [List.range_succ, List.map_append]; rfl
          have hln : (List.map (fun c : Nat => (sumE (curIt jts (c : Nat))).1) (List.range k)).length = k := by simp
          conv => whnf
          repeat' ((first | with_reducible refine bT rfl ?_ | with_reducible refine bF rfl ?_ | (refine sN ?_; (conv => whnf); refine bT (by first | rfl | exact iR8 _ | exact uNN _ | exact iR (by omega) | exact iR (by rw [hw]; omega) | exact nBlt (by omega) | exact nBle (by omega) | (simp; omega)) ?_) | (refine sA ?_; (conv => whnf); refine bT (roomL (by omega) rfl) ?_) | (refine sS ?_; (conv => whnf); refine bT (by first | rfl | exact iR8 _ | exact uNN _ | exact iR (by omega) | exact iR (by rw [hw]; omega) | exact nBlt (by omega) | exact nBle (by omega) | (simp; omega)) ?_) | (refine sM ?_; (conv => whnf); refine bT (mkOK (by omega) (by omega) (by omega) rfl) ?_) | (refine sC ?_; (conv => whnf); refine bT (nBle (by first | omega | (simp; omega))) ?_) | refine bDt (by omega) ?_ | refine bDf (by omega) ?_ | refine bNt (by omega) ?_ | refine bNf (by omega) ?_ | refine st_ixB (i := (k : Nat)) (n := 8) rfl rfl rfl rfl rfl rfl hir ?_ | refine st_ldB (v := ownI (curIt jts (k : Nat))) (g := fun i => ownI (curIt jts (i : Nat))) (n := 8) rfl rfl rfl hj8 rfl rfl ?_ | refine call_is kS ?_ | refine bDf h0 ?_ | refine bNf h0 ?_ | refine loop_to ih ⟨k + 1, hlt, hg'⟩ (show 8 - (k + 1) < 8 - k by omega) ?_ | refine bD (fun _ => ?_) (fun _ => ?_) | refine bN (fun _ => ?_) (fun _ => ?_)) <;> conv => whnf)
          rw [hw]
          refine st_eq ?_ ?_
          all_goals repeat' (first | exact rfl | refine env_cons ?_ ?_ | refine heap_cons ?_ ?_)
          · exact congrArg AV.own (by rw [hsn]; exact EI.snoc_av rfl rfl rfl rfl rfl)
        · have e3 : (sumE (curIt jts (k : Nat))).2 = 3 := by
            have hf : ∀ x ∈ curIt jts (k : Nat), fitP x := by
              intro x hx
              unfold curIt at hx
              rw [List.mem_map] at hx
              obtain ⟨y, hy, rfl⟩ := hx
              exact hfit y (List.mem_filter.1 hy).1
            rw [sumE_ok hf] at h0 ⊢
            unfold fitE at h0 ⊢
            split at h0
            · exact absurd rfl h0
            · rename_i hq
              rw [if_neg hq]
          have e : sumsE jts = ([], (sumE (curIt jts (k : Nat))).2) := by
            unfold sumsE
            rw [if_neg fun h => h0 (h k (List.mem_range.2 hlt)), e3]
          clear ih
          rw [e]
          conv => whnf
          repeat' ((first | with_reducible refine bT rfl ?_ | with_reducible refine bF rfl ?_ | (refine sN ?_; (conv => whnf); refine bT (by first | rfl | exact iR8 _ | exact uNN _ | exact iR (by omega) | exact iR (by rw [hw]; omega) | exact nBlt (by omega) | exact nBle (by omega) | (simp; omega)) ?_) | (refine sA ?_; (conv => whnf); refine bT (roomL (by omega) rfl) ?_) | (refine sS ?_; (conv => whnf); refine bT (by first | rfl | exact iR8 _ | exact uNN _ | exact iR (by omega) | exact iR (by rw [hw]; omega) | exact nBlt (by omega) | exact nBle (by omega) | (simp; omega)) ?_) | (refine sM ?_; (conv => whnf); refine bT (mkOK (by omega) (by omega) (by omega) rfl) ?_) | (refine sC ?_; (conv => whnf); refine bT (nBle (by first | omega | (simp; omega))) ?_) | refine bDt (by omega) ?_ | refine bDf (by omega) ?_ | refine bNt (by omega) ?_ | refine bNf (by omega) ?_ | refine st_ixB (i := (k : Nat)) (n := 8) rfl rfl rfl rfl rfl rfl hir ?_ | refine st_ldB (v := ownI (curIt jts (k : Nat))) (g := fun i => ownI (curIt jts (i : Nat))) (n := 8) rfl rfl rfl hj8 rfl rfl ?_ | refine call_is kS ?_ | refine bDt h0 ?_ | refine bNt h0 ?_ | refine bD (fun _ => ?_) (fun _ => ?_) | refine bN (fun _ => ?_) (fun _ => ?_)) <;> conv => whnf)
          rfl
      · have hk8 : k = 8 := by omega
        subst hk8
        clear ih
        have e : sumsE jts = ((List.range 8).map fun c => (sumE (curIt jts (c : Nat))).1, 0) := by
          unfold sumsE
          rw [if_pos hg]
        rw [e]
        conv => whnf
        repeat' ((first | with_reducible refine bT rfl ?_ | with_reducible refine bF rfl ?_ | (refine sN ?_; (conv => whnf); refine bT (by first | rfl | exact iR8 _ | exact uNN _ | exact iR (by omega) | exact iR (by rw [hw]; omega) | exact nBlt (by omega) | exact nBle (by omega) | (simp; omega)) ?_) | (refine sA ?_; (conv => whnf); refine bT (roomL (by omega) rfl) ?_) | (refine sS ?_; (conv => whnf); refine bT (by first | rfl | exact iR8 _ | exact uNN _ | exact iR (by omega) | exact iR (by rw [hw]; omega) | exact nBlt (by omega) | exact nBle (by omega) | (simp; omega)) ?_) | (refine sM ?_; (conv => whnf); refine bT (mkOK (by omega) (by omega) (by omega) rfl) ?_) | (refine sC ?_; (conv => whnf); refine bT (nBle (by first | omega | (simp; omega))) ?_) | refine bDt (by omega) ?_ | refine bDf (by omega) ?_ | refine bNt (by omega) ?_ | refine bNf (by omega) ?_ | refine bD (fun _ => ?_) (fun _ => ?_) | refine bN (fun _ => ?_) (fun _ => ?_)) <;> conv => whnf)
        rfl
end Go.Proofs


set_option linter.unusedVariables false
set_option linter.unusedSimpArgs false
namespace Go.Proofs
open Ax Go
set_option maxRecDepth 10000
def keepLA (f r : Nat) : Option (List Nat) := match f, r with
  | 18, 3 => some [1, 3, 4]
  | 21, 4 => some [0, 1, 5]
  | _, _ => none
def keepXLA (f r : Nat) : Option (List Nat) := match f, r with
  | 18, 3 => some [1, 2]
  | 21, 4 => some [4]
  | _, _ => none
noncomputable def cxLA : Ctx where
  P := Try.prog
  inl := fun _ => false
  keep := keepLA
  keepX := keepXLA
  xf := fun _ _ _ => false
  ow := fun _ => false
  gh := fun _ _ => []
  gf := fun _ => []
  ln := fun _ => false
  srt := srtT
theorem okLA {f a Q} (h : stepCall (SX Try.prog calmT) cxLA calmT f a Q) : CallOK Try.prog f a Q := okOf (cx := cxLA) rfl progOK h
theorem same_get : ∀ {l l' : List AV}, SameL l l' → l'.length = l.length ∧ ∀ (i : Nat) x, l'[i]? = some x → ∃ y, l[i]? = some y ∧ Same y x
  | _, _, .nil => ⟨rfl, fun i x h => by simp at h⟩
  | _, _, .cons h hl => by
    obtain ⟨e, ih⟩ := same_get hl
    refine ⟨by simp [e], fun i x hx => ?_⟩
    cases i with
    | zero => simp at hx; subst hx; exact ⟨_, rfl, h⟩
    | succ i => simp at hx ⊢; exact ih i x hx
theorem same_agg {l l' : List AV} (h : SameL l l') : Same (.agg l) (.agg l') := by
  obtain ⟨e, hg⟩ := same_get h
  intro w F U bl v hr
  cases hr with
  | agg hn hc =>
    refine .agg (by rw [e]; exact hn) fun i x y hx hy => ?_
    obtain ⟨z, hz, hs⟩ := hg i x hx
    exact hs _ _ _ _ _ (hc i z y hz hy)
theorem same_vecL {sz n : Nat} {g g' : Nat → AV} (h : ∀ i, i < n → SameL (g i).cells (g' i).cells) : Same (.vec sz n g) (.vec sz n g') := by
  intro w F U bl v hr
  cases hr with
  | vec hcap vals hz hs ho hc =>
    refine .vec hcap vals hz (fun i hi => by rw [(same_get (h i hi)).1]; exact hs i hi) ho (fun i j c hi hj => ?_)
    obtain ⟨z, hz, hs⟩ := (same_get (h i hi)).2 j c hj
    exact hs _ _ _ _ _ (hc i j z hi hz)
theorem list_ofS {α : Type} {E : Enc α} {p : α → Prop} {n : Nat} {g : Nat → AV} (h : ∀ i, i < n → ∃ x, SameL (g i).cells (E.f x).cells ∧ p x) : ∃ l : List α, l.length = n ∧ Same (.vec E.sz n g) (E.L l) ∧ ∀ x ∈ l, p x := by
  have each : ∀ i, ∃ x : α, i < n → SameL (g i).cells (E.f x).cells ∧ p x := fun i => by
    by_cases hi : i < n
    · obtain ⟨x, hx⟩ := h i hi; exact ⟨x, fun _ => hx⟩
    · exact ⟨E.d, fun h => absurd h hi⟩
  obtain ⟨f, hf⟩ := Classical.axiomOfChoice each
  have hl : ((List.range n).map f).length = n := by simp
  refine ⟨(List.range n).map f, hl, ?_, fun x hx => ?_⟩
  · have e : E.L ((List.range n).map f) = .vec E.sz n fun i => E.f (((List.range n).map f).getD i E.d) := by unfold Enc.L; rw [hl]
    rw [e]
    refine same_vecL fun i hi => ?_
    rw [List.getD_eq_getElem?_getD, List.getElem?_map, List.getElem?_range hi]
    exact (hf i hi).1
  · obtain ⟨i, hi, rfl⟩ := List.mem_map.1 hx
    exact (hf i (List.mem_range.1 hi)).2
theorem same_cells : ∀ l : List AV, SameL l l
  | [] => .nil
  | a :: r => .cons (Same.refl a) (same_cells r)
theorem typed_list {α : Type} {E : Enc α} {p : α → Prop} {P : Program} {d : Nat} {t e : TypeId} {es : List AV} (ht : P.underlying t = some (.slice e)) (hz : P.cellsOf e = E.sz) (h : Typed P (d + 1) t es) (each : ∀ a, TypedAV P d e a → ∃ x, SameL a.cells (E.f x).cells ∧ p x) : ∃ c l, es = [c] ∧ Same c (E.L l) ∧ l.length ≤ maxLen ∧ ∀ x ∈ l, p x := by
  obtain ⟨n, g, rfl, hn, hg⟩ := typed_slice ht h
  obtain ⟨l, e1, hs, hp⟩ := list_ofS (E := E) (p := p) (n := n) (g := g) fun i hi => each _ (hg i hi)
  rw [hz]
  exact ⟨_, l, rfl, hs, by rw [e1]; exact hn, hp⟩
theorem arg_po {d : Nat} {a : AV} (h : TypedAV Try.prog (d + 3) 63 a) : ∃ s : Po, a = encPo s := by
  obtain ⟨es, h1, h2, h3⟩ := h
  obtain ⟨b0, q0, rfl, j0, b1, q1, rfl, j1, b2, q2, rfl, j2, rfl⟩ := typed_struct Try.underlying63 h3
  obtain ⟨a0, r0, rfl, k0, a1, r1, rfl, k1, a2, r2, rfl, k2, a3, r3, rfl, k3, rfl⟩ := typed_struct Try.underlying27 j0
  obtain ⟨m, rfl, hm⟩ := typed_str Try.underlying9 k0
  obtain ⟨c, rfl, _⟩ := typed_int Try.underlying3 k1
  obtain ⟨n, rfl, _⟩ := typed_int Try.underlying3 k2
  obtain ⟨s, rfl, _⟩ := typed_int Try.underlying3 k3
  obtain ⟨x, rfl, _⟩ := typed_int Try.underlying3 j1
  obtain ⟨y, rfl, _⟩ := typed_int Try.underlying3 j2
  exact ⟨⟨⟨m, c, n, s⟩, x, y⟩, h1⟩
theorem arg_mk {d : Nat} {a : AV} (h : TypedAV Try.prog (d + 3) 84 a) : ∃ s : Mk, a = encMk s := by
  obtain ⟨es, h1, h2, h3⟩ := h
  obtain ⟨b0, q0, rfl, j0, b1, q1, rfl, j1, rfl⟩ := typed_struct Try.underlying84 h3
  obtain ⟨a0, r0, rfl, k0, a1, r1, rfl, k1, a2, r2, rfl, k2, a3, r3, rfl, k3, rfl⟩ := typed_struct Try.underlying27 j0
  obtain ⟨m, rfl, hm⟩ := typed_str Try.underlying9 k0
  obtain ⟨c, rfl, _⟩ := typed_int Try.underlying3 k1
  obtain ⟨n, rfl, _⟩ := typed_int Try.underlying3 k2
  obtain ⟨s, rfl, _⟩ := typed_int Try.underlying3 k3
  obtain ⟨x, rfl, _⟩ := typed_int Try.underlying3 j1
  exact ⟨⟨⟨m, c, n, s⟩, x⟩, h1⟩
/-- A holding. -/
structure Ho where
  am : ByteArray
  an : ByteArray
  ps : List Po
def encHo (x : Ho) : AV := .agg [.str x.am, .str x.an, EP.L x.ps]
def EHo : Enc Ho := ⟨3, encHo, ⟨ByteArray.empty, ByteArray.empty, []⟩⟩
theorem arg_ho {d : Nat} {a : AV} (h : TypedAV Try.prog (d + 5) 49 a) : ∃ x : Ho, SameL a.cells (encHo x).cells ∧ x.ps.length ≤ maxLen := by
  obtain ⟨es, h1, h2, h3⟩ := h
  obtain ⟨b0, q0, rfl, j0, b1, q1, rfl, j1, rfl⟩ := typed_struct Try.underlying49 h3
  obtain ⟨c0, s0, rfl, i0, c1, s1, rfl, i1, rfl⟩ := typed_struct Try.underlying25 j0
  obtain ⟨m1, rfl, _⟩ := typed_str Try.underlying9 i0
  obtain ⟨m2, rfl, _⟩ := typed_str Try.underlying9 i1
  obtain ⟨c, l, rfl, hs, hl, _⟩ := typed_list (E := EP) (p := fun _ => True) Try.underlying47 rfl j1 fun a ha => by
    obtain ⟨x, rfl⟩ := arg_po ha
    exact ⟨x, same_cells _, trivial⟩
  refine ⟨⟨m1, m2, l⟩, ?_, hl⟩
  rw [h2]
  exact .cons (Same.refl _) (.cons (Same.refl _) (.cons hs .nil))
structure As where
  ps : List Pr
  hs : List Ho
  ls : List Lg
  b : List Mk
  n : List Mk
def encAs (x : As) : AV := .agg [EPr.L x.ps, EHo.L x.hs, ELg.L x.ls, EMk.L x.b, EMk.L x.n]
theorem arg_as {a : AV} (h : TypedAV Try.prog 8 45 a) : ∃ x : As, Same a (encAs x) ∧ (x.ps.length ≤ maxLen ∧ x.hs.length ≤ maxLen ∧ x.ls.length ≤ maxLen ∧ x.b.length ≤ maxLen ∧ x.n.length ≤ maxLen) ∧ (∀ p ∈ x.ps, p.n.size ≤ maxLen) ∧ ∀ p ∈ x.hs, p.ps.length ≤ maxLen := by
  obtain ⟨es, h1, h2, h3⟩ := h
  obtain ⟨b0, q0, rfl, j0, b1, q1, rfl, j1, b2, q2, rfl, j2, b3, q3, rfl, j3, b4, q4, rfl, j4, rfl⟩ := typed_struct Try.underlying45 h3
  obtain ⟨c0, l0, rfl, s0, n0, p0⟩ := typed_list (E := EPr) (p := fun p => p.n.size ≤ maxLen) Try.underlying40 rfl j0 fun a ha => by
    obtain ⟨x, rfl, hx⟩ := arg_pr ha
    exact ⟨x, same_cells _, hx⟩
  obtain ⟨c1, l1, rfl, s1, n1, p1⟩ := typed_list (E := EHo) (p := fun x => x.ps.length ≤ maxLen) Try.underlying41 rfl j1 fun a ha => arg_ho ha
  obtain ⟨c2, l2, rfl, s2, n2, p2⟩ := typed_list (E := ELg) (p := fun _ => True) Try.underlying42 rfl j2 fun a ha => by
    obtain ⟨x, rfl⟩ := arg_lg ha
    exact ⟨x, same_cells _, trivial⟩
  obtain ⟨c3, l3, rfl, s3, n3, p3⟩ := typed_list (E := EMk) (p := fun _ => True) Try.underlying43 rfl j3 fun a ha => by
    obtain ⟨x, rfl⟩ := arg_mk ha
    exact ⟨x, same_cells _, trivial⟩
  obtain ⟨c4, l4, rfl, s4, n4, p4⟩ := typed_list (E := EMk) (p := fun _ => True) Try.underlying43 rfl j4 fun a ha => by
    obtain ⟨x, rfl⟩ := arg_mk ha
    exact ⟨x, same_cells _, trivial⟩
  refine ⟨⟨l0, l1, l2, l3, l4⟩, ?_, ⟨n0, n1, n2, n3, n4⟩, p0, p1⟩
  have h1 : a = .agg [c0, c1, c2, c3, c4] := h1
  rw [h1]
  exact same_agg (.cons s0 (.cons s1 (.cons s2 (.cons s3 (.cons s4 .nil)))))
def fewP (x : As) : Prop := x.hs.length ≤ 40 ∧ x.ls.length ≤ 200 ∧ x.ps.length ≤ 60 ∧ x.b.length ≤ 200 ∧ x.n.length ≤ 200
theorem few (x : As) (hm : x.hs.length ≤ maxLen) : CallOK Try.prog 18 [encAs x] (fun r => ∃ b, r = .bool b ∧ (b = true → fewP x)) := by
  refine okLA ?_
  conv => whnf
  repeat' ((first | with_reducible refine bT rfl ?_ | with_reducible refine bF rfl ?_ | (refine sN ?_; (conv => whnf); refine bT (by first | rfl | exact iR8 _ | exact uNN _ | exact iR (by omega) | exact iR (by rw [hw]; omega) | exact nBlt (by omega) | exact nBle (by omega) | (simp; omega)) ?_) | (refine sA ?_; (conv => whnf); refine bT (roomL (by omega) rfl) ?_) | (refine sS ?_; (conv => whnf); refine bT (by first | rfl | exact iR8 _ | exact uNN _ | exact iR (by omega) | exact iR (by rw [hw]; omega) | exact nBlt (by omega) | exact nBle (by omega) | (simp; omega)) ?_) | (refine sM ?_; (conv => whnf); refine bT (mkOK (by omega) (by omega) (by omega) rfl) ?_) | (refine sC ?_; (conv => whnf); refine bT (nBle (by first | omega | (simp; omega))) ?_) | refine bDt (by omega) ?_ | refine bDf (by omega) ?_ | refine bNt (by omega) ?_ | refine bNf (by omega) ?_ | refine bD (fun _ => ?_) (fun _ => ?_) | refine bN (fun _ => ?_) (fun _ => ?_)) <;> conv => whnf)
  refine loop_by (cx := cxLA) rfl progOK (ι := {p : Nat × Int // p.1 ≤ x.hs.length}) (fun p => x.hs.length - p.1.1) (fun p => ⟨[(1, .ptr 0 0), (3, .int .i64 p.1.2), (4, .int .i64 p.1.1)], [.cells [EPr.L x.ps, EHo.L x.hs, ELg.L x.ls, EMk.L x.b, EMk.L x.n]], [], none⟩) ?_ ⟨(0, 0), Nat.zero_le _⟩
  rintro ⟨⟨i, s⟩, hi⟩ ih
  dsimp only at hi ⊢
  have hmm : x.hs.length ≤ 9223372036854775807 := hm
  by_cases hlt : i < x.hs.length
  · conv => whnf
    repeat' ((first | with_reducible refine bT rfl ?_ | with_reducible refine bF rfl ?_ | (refine sN ?_; (conv => whnf); refine bT (by first | rfl | exact iR8 _ | exact uNN _ | exact iR (by omega) | exact iR (by rw [hw]; omega) | exact nBlt (by omega) | exact nBle (by omega) | (simp; omega)) ?_) | (refine sA ?_; (conv => whnf); refine bT (roomL (by omega) rfl) ?_) | (refine sS ?_; (conv => whnf); refine bT (by first | rfl | exact iR8 _ | exact uNN _ | exact iR (by omega) | exact iR (by rw [hw]; omega) | exact nBlt (by omega) | exact nBle (by omega) | (simp; omega)) ?_) | (refine sM ?_; (conv => whnf); refine bT (mkOK (by omega) (by omega) (by omega) rfl) ?_) | (refine sC ?_; (conv => whnf); refine bT (nBle (by first | omega | (simp; omega))) ?_) | refine bDt (by omega) ?_ | refine bDf (by omega) ?_ | refine bNt (by omega) ?_ | refine bNf (by omega) ?_ | refine loop_to ih ⟨(i + 1, IntKind.i64.wrap (s + ((x.hs.getD i EHo.d).ps.length : Nat))), hlt⟩ (show x.hs.length - (i + 1) < x.hs.length - i by omega) ?_ | refine bD (fun _ => ?_) (fun _ => ?_) | refine bN (fun _ => ?_) (fun _ => ?_)) <;> conv => whnf)
    · exact ⟨false, rfl, fun h => by cases h⟩
    · rw [next_i hlt (by omega)]; rfl
  · have hiq : i = x.hs.length := by omega
    subst hiq
    clear ih
    conv => whnf
    repeat' ((first | with_reducible refine bT rfl ?_ | with_reducible refine bF rfl ?_ | (refine sN ?_; (conv => whnf); refine bT (by first | rfl | exact iR8 _ | exact uNN _ | exact iR (by omega) | exact iR (by rw [hw]; omega) | exact nBlt (by omega) | exact nBle (by omega) | (simp; omega)) ?_) | (refine sA ?_; (conv => whnf); refine bT (roomL (by omega) rfl) ?_) | (refine sS ?_; (conv => whnf); refine bT (by first | rfl | exact iR8 _ | exact uNN _ | exact iR (by omega) | exact iR (by rw [hw]; omega) | exact nBlt (by omega) | exact nBle (by omega) | (simp; omega)) ?_) | (refine sM ?_; (conv => whnf); refine bT (mkOK (by omega) (by omega) (by omega) rfl) ?_) | (refine sC ?_; (conv => whnf); refine bT (nBle (by first | omega | (simp; omega))) ?_) | refine bDt (by omega) ?_ | refine bDf (by omega) ?_ | refine bNt (by omega) ?_ | refine bNf (by omega) ?_ | refine bD (fun _ => ?_) (fun _ => ?_) | refine bN (fun _ => ?_) (fun _ => ?_)) <;> conv => whnf)
    all_goals first
      | exact ⟨false, rfl, fun h => by cases h⟩
      | (refine ⟨_, rfl, fun h => ?_⟩
         have h := of_decide_eq_true h
         unfold fewP
         omega)
theorem ints_self (l : List Int) (hl : l.length ≤ 1073741824) : CallOK Try.prog 21 [EI.L l, EI.L l] (fun r => r = .bool true) := by
  refine okLA ?_
  conv => whnf
  repeat' ((first | with_reducible refine bT rfl ?_ | with_reducible refine bF rfl ?_ | (refine sN ?_; (conv => whnf); refine bT (by first | rfl | exact iR8 _ | exact uNN _ | exact iR (by omega) | exact iR (by rw [hw]; omega) | exact nBlt (by omega) | exact nBle (by omega) | (simp; omega)) ?_) | (refine sA ?_; (conv => whnf); refine bT (roomL (by omega) rfl) ?_) | (refine sS ?_; (conv => whnf); refine bT (by first | rfl | exact iR8 _ | exact uNN _ | exact iR (by omega) | exact iR (by rw [hw]; omega) | exact nBlt (by omega) | exact nBle (by omega) | (simp; omega)) ?_) | (refine sM ?_; (conv => whnf); refine bT (mkOK (by omega) (by omega) (by omega) rfl) ?_) | (refine sC ?_; (conv => whnf); refine bT (nBle (by first | omega | (simp; omega))) ?_) | refine bDt (by omega) ?_ | refine bDf (by omega) ?_ | refine bNt (by omega) ?_ | refine bNf (by omega) ?_ | refine bD (fun _ => ?_) (fun _ => ?_) | refine bN (fun _ => ?_) (fun _ => ?_)) <;> conv => whnf)
  refine loop_by (cx := cxLA) rfl progOK (ι := {i : Nat // i ≤ l.length}) (fun i => l.length - i.1) (fun i => ⟨[(0, EI.L l), (0 + 1, EI.L l), (5, .int .i64 i.1)], [], [], none⟩) ?_ ⟨0, Nat.zero_le _⟩
  rintro ⟨i, hi⟩ ih
  dsimp only at hi ⊢
  by_cases hlt : i < l.length
  · conv => whnf
    repeat' ((first | with_reducible refine bT rfl ?_ | with_reducible refine bF rfl ?_ | (refine sN ?_; (conv => whnf); refine bT (by first | rfl | exact iR8 _ | exact uNN _ | exact iR (by omega) | exact iR (by rw [hw]; omega) | exact nBlt (by omega) | exact nBle (by omega) | (simp; omega)) ?_) | (refine sA ?_; (conv => whnf); refine bT (roomL (by omega) rfl) ?_) | (refine sS ?_; (conv => whnf); refine bT (by first | rfl | exact iR8 _ | exact uNN _ | exact iR (by omega) | exact iR (by rw [hw]; omega) | exact nBlt (by omega) | exact nBle (by omega) | (simp; omega)) ?_) | (refine sM ?_; (conv => whnf); refine bT (mkOK (by omega) (by omega) (by omega) rfl) ?_) | (refine sC ?_; (conv => whnf); refine bT (nBle (by first | omega | (simp; omega))) ?_) | refine bDt (by omega) ?_ | refine bDf (by omega) ?_ | refine bNt (by omega) ?_ | refine bNf (by omega) ?_ | refine bNf rfl ?_ | refine loop_to ih ⟨i + 1, hlt⟩ (show l.length - (i + 1) < l.length - i by omega) ?_ | refine bD (fun _ => ?_) (fun _ => ?_) | refine bN (fun _ => ?_) (fun _ => ?_)) <;> conv => whnf)
    rw [next_i hlt (by omega)]; rfl
  · conv => whnf
    repeat' ((first | with_reducible refine bT rfl ?_ | with_reducible refine bF rfl ?_ | (refine sN ?_; (conv => whnf); refine bT (by first | rfl | exact iR8 _ | exact uNN _ | exact iR (by omega) | exact iR (by rw [hw]; omega) | exact nBlt (by omega) | exact nBle (by omega) | (simp; omega)) ?_) | (refine sA ?_; (conv => whnf); refine bT (roomL (by omega) rfl) ?_) | (refine sS ?_; (conv => whnf); refine bT (by first | rfl | exact iR8 _ | exact uNN _ | exact iR (by omega) | exact iR (by rw [hw]; omega) | exact nBlt (by omega) | exact nBle (by omega) | (simp; omega)) ?_) | (refine sM ?_; (conv => whnf); refine bT (mkOK (by omega) (by omega) (by omega) rfl) ?_) | (refine sC ?_; (conv => whnf); refine bT (nBle (by first | omega | (simp; omega))) ?_) | refine bDt (by omega) ?_ | refine bDf (by omega) ?_ | refine bNt (by omega) ?_ | refine bNf (by omega) ?_ | refine bD (fun _ => ?_) (fun _ => ?_) | refine bN (fun _ => ?_) (fun _ => ?_)) <;> conv => whnf)
    all_goals rfl
theorem accE_len (ps : List Pr) (held : List Po) (legs : List Lg) (b n : List Mk) : (accE ps held legs b n).1.length ≤ 8 := by
  unfold accE sumsE
  repeat' split
  all_goals simp
set_option maxHeartbeats 4000000 in
theorem lawAccount : ∀ xs, TypedArgs Try.prog 8 Try.f4.params.toList xs → CallOK Try.prog 4 xs (fun r => r = .bool true) := by
  intro xs h
  obtain ⟨a, r, rfl, ha, b, r', rfl, hb, rfl⟩ := h
  obtain ⟨x, hsame, ⟨m1, m2, m3, m4, m5⟩, hpn, hpl⟩ := arg_as ha
  obtain ⟨t, rfl, _⟩ := arg_int hb
  refine ok_same (.cons hsame (.cons (Same.refl _) .nil)) ?_
  refine okLA ?_
  have kF := few x m2
  have hmm : x.hs.length ≤ 9223372036854775807 := m2
  have hps : ∀ p ∈ x.ps, p.n.size ≤ 9223372036854775807 := hpn
  conv => whnf
  repeat' ((first | with_reducible refine bT rfl ?_ | with_reducible refine bF rfl ?_ | (refine sN ?_; (conv => whnf); refine bT (by first | rfl | exact iR8 _ | exact uNN _ | exact iR (by omega) | exact iR (by rw [hw]; omega) | exact nBlt (by omega) | exact nBle (by omega) | (simp; omega)) ?_) | (refine sA ?_; (conv => whnf); refine bT (roomL (by omega) rfl) ?_) | (refine sS ?_; (conv => whnf); refine bT (by first | rfl | exact iR8 _ | exact uNN _ | exact iR (by omega) | exact iR (by rw [hw]; omega) | exact nBlt (by omega) | exact nBle (by omega) | (simp; omega)) ?_) | (refine sM ?_; (conv => whnf); refine bT (mkOK (by omega) (by omega) (by omega) rfl) ?_) | (refine sC ?_; (conv => whnf); refine bT (nBle (by first | omega | (simp; omega))) ?_) | refine bDt (by omega) ?_ | refine bDf (by omega) ?_ | refine bNt (by omega) ?_ | refine bNf (by omega) ?_ | refine bD (fun _ => ?_) (fun _ => ?_) | refine bN (fun _ => ?_) (fun _ => ?_)) <;> conv => whnf)
  refine call_by kF ⟨.bool false, false, rfl, fun h => by cases h⟩ (fun r hr => ?_)
  obtain ⟨q, rfl, hq⟩ := hr
  cases q
  · conv => whnf
    repeat' ((first | with_reducible refine bT rfl ?_ | with_reducible refine bF rfl ?_ | (refine sN ?_; (conv => whnf); refine bT (by first | rfl | exact iR8 _ | exact uNN _ | exact iR (by omega) | exact iR (by rw [hw]; omega) | exact nBlt (by omega) | exact nBle (by omega) | (simp; omega)) ?_) | (refine sA ?_; (conv => whnf); refine bT (roomL (by omega) rfl) ?_) | (refine sS ?_; (conv => whnf); refine bT (by first | rfl | exact iR8 _ | exact uNN _ | exact iR (by omega) | exact iR (by rw [hw]; omega) | exact nBlt (by omega) | exact nBle (by omega) | (simp; omega)) ?_) | (refine sM ?_; (conv => whnf); refine bT (mkOK (by omega) (by omega) (by omega) rfl) ?_) | (refine sC ?_; (conv => whnf); refine bT (nBle (by first | omega | (simp; omega))) ?_) | refine bDt (by omega) ?_ | refine bDf (by omega) ?_ | refine bNt (by omega) ?_ | refine bNf (by omega) ?_ | refine call_is goes20 ?_ | refine bD (fun _ => ?_) (fun _ => ?_) | refine bN (fun _ => ?_) (fun _ => ?_)) <;> conv => whnf)
    all_goals rfl
  obtain ⟨f1, f2, f3, f4, f5⟩ := hq rfl
  have kI := fun l => ints_self (accE x.ps l x.ls x.b x.n).1 (Nat.le_trans (accE_len x.ps l x.ls x.b x.n) (by decide))
  by_cases ht : 0 ≤ t ∧ t < x.hs.length
  · have hp : (x.hs.getD t.toNat EHo.d).ps.length ≤ 9223372036854775807 := hpl _ (Enc.get_mem (E := EHo) (by omega))
    have k1 := account x.ps (x.hs.getD t.toNat EHo.d).ps x.ls x.b x.n (by omega) hp (by omega) (by omega) (by omega)
    have k2 := refAccount x.ps (x.hs.getD t.toNat EHo.d).ps x.ls x.b x.n (by omega) hp (by omega) (by omega) (by omega) hps
    have k3 := kI (x.hs.getD t.toNat EHo.d).ps
    generalize accE x.ps (x.hs.getD t.toNat EHo.d).ps x.ls x.b x.n = A at *
    conv => whnf
    repeat' ((first | with_reducible refine bT rfl ?_ | with_reducible refine bF rfl ?_ | (refine sN ?_; (conv => whnf); refine bT (by first | rfl | exact iR8 _ | exact uNN _ | exact iR (by omega) | exact iR (by rw [hw]; omega) | exact nBlt (by omega) | exact nBle (by omega) | (simp; omega)) ?_) | (refine sA ?_; (conv => whnf); refine bT (roomL (by omega) rfl) ?_) | (refine sS ?_; (conv => whnf); refine bT (by first | rfl | exact iR8 _ | exact uNN _ | exact iR (by omega) | exact iR (by rw [hw]; omega) | exact nBlt (by omega) | exact nBle (by omega) | (simp; omega)) ?_) | (refine sM ?_; (conv => whnf); refine bT (mkOK (by omega) (by omega) (by omega) rfl) ?_) | (refine sC ?_; (conv => whnf); refine bT (nBle (by first | omega | (simp; omega))) ?_) | refine bDt (by omega) ?_ | refine bDf (by omega) ?_ | refine bNt (by omega) ?_ | refine bNf (by omega) ?_ | refine call_is k1 ?_ | refine call_is k2 ?_ | refine call_is k3 ?_ | refine call_is goes20 ?_ | refine bDt rfl ?_ | refine bNf rfl ?_ | refine bD (fun _ => ?_) (fun _ => ?_) | refine bN (fun _ => ?_) (fun _ => ?_)) <;> conv => whnf)
    all_goals first | rfl | (exfalso; omega)
  · have k1 := account x.ps [] x.ls x.b x.n (by omega) (by simp) (by omega) (by omega) (by omega)
    have k2 := refAccount x.ps [] x.ls x.b x.n (by omega) (by simp) (by omega) (by omega) (by omega) hps
    have k3 := kI []
    generalize accE x.ps [] x.ls x.b x.n = A at *
    conv => whnf
    repeat' ((first | with_reducible refine bT rfl ?_ | with_reducible refine bF rfl ?_ | (refine sN ?_; (conv => whnf); refine bT (by first | rfl | exact iR8 _ | exact uNN _ | exact iR (by omega) | exact iR (by rw [hw]; omega) | exact nBlt (by omega) | exact nBle (by omega) | (simp; omega)) ?_) | (refine sA ?_; (conv => whnf); refine bT (roomL (by omega) rfl) ?_) | (refine sS ?_; (conv => whnf); refine bT (by first | rfl | exact iR8 _ | exact uNN _ | exact iR (by omega) | exact iR (by rw [hw]; omega) | exact nBlt (by omega) | exact nBle (by omega) | (simp; omega)) ?_) | (refine sM ?_; (conv => whnf); refine bT (mkOK (by omega) (by omega) (by omega) rfl) ?_) | (refine sC ?_; (conv => whnf); refine bT (nBle (by first | omega | (simp; omega))) ?_) | refine bDt (by omega) ?_ | refine bDf (by omega) ?_ | refine bNt (by omega) ?_ | refine bNf (by omega) ?_ | refine call_is k1 ?_ | refine call_is k2 ?_ | refine call_is k3 ?_ | refine call_is goes20 ?_ | refine bDt rfl ?_ | refine bNf rfl ?_ | refine bD (fun _ => ?_) (fun _ => ?_) | refine bN (fun _ => ?_) (fun _ => ?_)) <;> conv => whnf)
    all_goals first | rfl | (exfalso; omega)
end Go.Proofs

