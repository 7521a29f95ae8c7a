import Derived.Test.YtflebdkgdnfjoaaLX
import Derived.Test.YtflebdkgdnfjoaaAxMapV
set_option linter.unusedVariables false
set_option linter.unusedSimpArgs false
namespace Go.Proofs
open Ax Go
set_option maxRecDepth 10000
def keepAc (f r : Nat) : Option (List Nat) := match f, r with
  | 19, 2 => some [2, 5, 6, 8, 9, 10, 29, 30, 31]
  | 19, 14 => some [2, 10, 14, 15, 16, 17, 50, 51, 52]
  | 19, 21 => some [10, 15, 16, 17, 65, 66, 67]
  | 19, 28 => some [10, 16, 80]
  | 20, 6 => some [0, 1, 2, 3, 4, 13, 14]
  | 20, 15 => some [0, 2, 4, 13, 20]
  | 20, 24 => some [13, 24, 25]
  | _, _ => none
def keepXAc (f r : Nat) : Option (List Nat) := match f, r with
  | 19, 2 => some [2, 5, 6, 8, 9, 10, 11]
  | 19, 14 => some [2, 10, 11, 15, 16, 17]
  | 19, 21 => some [10, 11, 16]
  | 19, 28 => some [10, 11]
  | 20, 6 => some [0, 2, 4, 10, 11, 13]
  | 20, 15 => some [10, 11, 13]
  | 20, 24 => some [10, 11, 24]
  | _, _ => none
def gfAc (f : Nat) : List Ghost := match f with
  | 52 => [.shutC 2]
  | _ => []
noncomputable def cxAc : Ctx where
  P := Try.prog
  inl := fun _ => false
  keep := keepAc
  keepX := keepXAc
  xf := fun _ _ _ => false
  ow := fun _ => false
  gh := fun _ _ => []
  gf := gfAc
  ln := fun _ => false
  srt := srtT
theorem okAc {f a Q} (h : stepCall (SX Try.prog calmT) cxAc calmT f a Q) : CallOK Try.prog f a Q := okOf (cx := cxAc) rfl progOK h
def ELg : Enc Lg := ⟨9, encLg, ⟨ByteArray.empty, ByteArray.empty, ⟨ByteArray.empty, 0, 0, 0⟩, 0, 0, 0⟩⟩
theorem looked (l : List Mk) : CallOK Try.prog 52 [EMk.L l] (fun r => r = .fn 95 [] [.cptr (EMk.L l)]) := by
  refine okAc ?_
  conv => whnf
  repeat' ((first | with_reducible refine bT rfl ?_ | with_reducible refine bF rfl ?_ | (refine sN ?_; (conv => whnf); refine bT (by first | rfl | exact iR8 _ | exact uNN _ | exact iR (by omega) | exact iR (by rw [hw]; omega) | exact nBlt (by omega) | exact nBle (by omega) | (simp; omega)) ?_) | (refine sA ?_; (conv => whnf); refine bT (roomL (by omega) rfl) ?_) | (refine sS ?_; (conv => whnf); refine bT (by first | rfl | exact iR8 _ | exact uNN _ | exact iR (by omega) | exact iR (by rw [hw]; omega) | exact nBlt (by omega) | exact nBle (by omega) | (simp; omega)) ?_) | (refine sM ?_; (conv => whnf); refine bT (mkOK (by omega) (by omega) (by omega) rfl) ?_) | (refine sC ?_; (conv => whnf); refine bT (nBle (by first | omega | (simp; omega))) ?_) | refine bDt (by omega) ?_ | refine bDf (by omega) ?_ | refine bNt (by omega) ?_ | refine bNf (by omega) ?_ | refine bD (fun _ => ?_) (fun _ => ?_) | refine bN (fun _ => ?_) (fun _ => ?_)) <;> conv => whnf)
  all_goals rfl
def lookE (l : List Mk) (s : Sr) : Int × Int := if (findM s l).2 then ((findM s l).1, 0) else (0, 11)
theorem looked1 (l : List Mk) (s : Sr) (hl : l.length ≤ 1073741824) : CallOK Try.prog 95 [encSr s, .cptr (EMk.L l)] (fun r => r = tup2 (lookE l s)) := by
  refine okAc ?_
  have k := mkFind l s hl
  unfold lookE
  generalize findM s l = q at *
  obtain ⟨n, b⟩ := q
  cases b
  · conv => whnf
    repeat' ((first | with_reducible refine bT rfl ?_ | with_reducible refine bF rfl ?_ | (refine sN ?_; (conv => whnf); refine bT (by first | rfl | exact iR8 _ | exact uNN _ | exact iR (by omega) | exact iR (by rw [hw]; omega) | exact nBlt (by omega) | exact nBle (by omega) | (simp; omega)) ?_) | (refine sA ?_; (conv => whnf); refine bT (roomL (by omega) rfl) ?_) | (refine sS ?_; (conv => whnf); refine bT (by first | rfl | exact iR8 _ | exact uNN _ | exact iR (by omega) | exact iR (by rw [hw]; omega) | exact nBlt (by omega) | exact nBle (by omega) | (simp; omega)) ?_) | (refine sM ?_; (conv => whnf); refine bT (mkOK (by omega) (by omega) (by omega) rfl) ?_) | (refine sC ?_; (conv => whnf); refine bT (nBle (by first | omega | (simp; omega))) ?_) | refine bDt (by omega) ?_ | refine bDf (by omega) ?_ | refine bNt (by omega) ?_ | refine bNf (by omega) ?_ | refine call_is k ?_ | refine bD (fun _ => ?_) (fun _ => ?_) | refine bN (fun _ => ?_) (fun _ => ?_)) <;> conv => whnf)
    all_goals rfl
  · conv => whnf
    repeat' ((first | with_reducible refine bT rfl ?_ | with_reducible refine bF rfl ?_ | (refine sN ?_; (conv => whnf); refine bT (by first | rfl | exact iR8 _ | exact uNN _ | exact iR (by omega) | exact iR (by rw [hw]; omega) | exact nBlt (by omega) | exact nBle (by omega) | (simp; omega)) ?_) | (refine sA ?_; (conv => whnf); refine bT (roomL (by omega) rfl) ?_) | (refine sS ?_; (conv => whnf); refine bT (by first | rfl | exact iR8 _ | exact uNN _ | exact iR (by omega) | exact iR (by rw [hw]; omega) | exact nBlt (by omega) | exact nBle (by omega) | (simp; omega)) ?_) | (refine sM ?_; (conv => whnf); refine bT (mkOK (by omega) (by omega) (by omega) rfl) ?_) | (refine sC ?_; (conv => whnf); refine bT (nBle (by first | omega | (simp; omega))) ?_) | refine bDt (by omega) ?_ | refine bDf (by omega) ?_ | refine bNt (by omega) ?_ | refine bNf (by omega) ?_ | refine call_is k ?_ | refine bD (fun _ => ?_) (fun _ => ?_) | refine bN (fun _ => ?_) (fun _ => ?_)) <;> conv => whnf)
    all_goals rfl
def nilI : AV := .own (EI.L [])
def askE (ps : List Pr) (held : List Po) (b n : List Mk) : Int := if prAllE ps = 0 then (if posE held = 0 then (if mkE b = 0 then mkE n else mkE b) else posE held) else prAllE ps
def accAV (p : List Int × Int) : AV := .tup [EI.L p.1, .int .i64 p.2]
/-- Amounts by currencies. -/
abbrev Its := List (Int × Int)
def curIt (its : Its) (c : Int) : List Int := (its.filter fun x => x.1 == c).map (·.2)
def keyI (its : Its) : List Int := its.foldl (fun ks x => insK ks x.1) []
def ownI (l : List Int) : AV := .own (EI.L l)
def mapI (its : Its) : AObj := .map 3 true (mapV ownI (curIt its) (keyI its))
theorem keyI_memG {c : Int} : ∀ (l : Its) (ks : List Int), c ∈ l.foldl (fun ks x => insK ks x.1) ks ↔ c ∈ ks ∨ ∃ x ∈ l, x.1 = c
  | [], ks => by simp
  | x :: r, ks => by
    simp only [List.foldl_cons, keyI_memG r, insK_mem, List.mem_cons, exists_eq_or_imp]
    constructor
    · rintro ((h | h) | h)
      · exact .inl h
      · exact .inr (.inl h.symm)
      · exact .inr (.inr h)
    · rintro (h | h | h)
      · exact .inl (.inl h)
      · exact .inl (.inr h.symm)
      · exact .inr h
theorem keyI_nodupG : ∀ (l : Its) (ks : List Int), ks.Nodup → (l.foldl (fun ks x => insK ks x.1) ks).Nodup
  | [], ks, h => h
  | x :: r, ks, h => keyI_nodupG r _ (insK_nodup h)
theorem keyI_nodup (l : Its) : (keyI l).Nodup := keyI_nodupG l [] (by simp)
theorem curIt_none {its : Its} {c : Int} (h : c ∉ keyI its) : curIt its c = [] := by
  unfold curIt
  rw [List.map_eq_nil_iff, List.filter_eq_nil_iff]
  intro x hx
  simp only [beq_iff_eq]
  intro e
  exact h ((keyI_memG its []).2 (.inr ⟨x, hx, e⟩))
theorem curIt_snoc (its : Its) (c k : Int) : curIt (its ++ [(c, k)]) = updF (curIt its) c (curIt its c ++ [k]) := by
  funext x
  unfold updF curIt
  rw [List.filter_append, List.map_append]
  by_cases e : x = c
  · subst e; simp
  · rw [if_neg e]
    have : (c == x) = false := beq_false_of_ne fun q => e q.symm
    simp [this]
theorem mapI_snoc (its : Its) (c k : Int) : AObj.map 3 true (mapV ownI (updF (curIt its) c (curIt its c ++ [k])) (insK (keyI its) c)) = mapI (its ++ [(c, k)]) := by
  unfold mapI
  rw [curIt_snoc]
  simp [keyI]
def runE {α : Type} (f : α → Int × Its) : List α → Int × Its
  | [] => (0, [])
  | x :: r => if (f x).1 = 0 then ((runE f r).1, (f x).2 ++ (runE f r).2) else ((f x).1, [])
def lotE (ps : List Pr) (s : Sr) (reckon : Pr → Int × Int) : Int × Its :=
  if s.k = 1 then (if (findP s.p ps).2 = true then (if (reckon (findP s.p ps).1).2 = 0 then (0, [((findP s.p ps).1.c, (reckon (findP s.p ps).1).1)]) else ((reckon (findP s.p ps).1).2, [])) else (19, [])) else (0, [])
def stepH (ps : List Pr) (b n : List Mk) (x : Po) : Int × Its :=
  lotE ps x.s fun p => if (lookE b x.s).2 = 0 then (if (lookE n x.s).2 = 0 then carE p (IntKind.i64.wrap (x.l - x.h)) (lookE b x.s).1 (lookE n x.s).1 else (0, (lookE n x.s).2)) else (0, (lookE b x.s).2)
def stepL (ps : List Pr) (n : List Mk) (x : Lg) : Int × Its :=
  lotE ps x.s fun p => if (lookE n x.s).2 = 0 then carE p x.q x.pr (lookE n x.s).1 else (0, (lookE n x.s).2)
theorem lot_1 {ps : List Pr} {s : Sr} {rk : Pr → Int × Int} (h : ¬ s.k = 1) : lotE ps s rk = (0, []) := by unfold lotE; rw [if_neg h]
theorem lot_2 {ps : List Pr} {s : Sr} {rk : Pr → Int × Int} {p : Pr} (h : s.k = 1) (hf : findP s.p ps = (p, false)) : lotE ps s rk = (19, []) := by unfold lotE; rw [if_pos h, hf]; rfl
theorem lot_3 {ps : List Pr} {s : Sr} {rk : Pr → Int × Int} {p : Pr} {e : Int} (h : s.k = 1) (hf : findP s.p ps = (p, true)) (he : (rk p).2 = e) (h0 : ¬ e = 0) : lotE ps s rk = (e, []) := by
  subst he
  unfold lotE
  rw [if_pos h, hf, if_pos rfl, if_neg h0]
theorem lot_4 {ps : List Pr} {s : Sr} {rk : Pr → Int × Int} {p : Pr} {v : Int} (h : s.k = 1) (hf : findP s.p ps = (p, true)) (he : rk p = (v, 0)) : lotE ps s rk = (0, [(p.c, v)]) := by
  unfold lotE
  rw [if_pos h, hf, if_pos rfl]
  simp only [he, if_true]
def sumsE (its : Its) : List Int × Int := if ∀ c ∈ List.range 8, (sumE (curIt its (c : Nat))).2 = 0 then ((List.range 8).map fun c => (sumE (curIt its (c : Nat))).1, 0) else ([], 3)
def accE (ps : List Pr) (held : List Po) (legs : List Lg) (b n : List Mk) : List Int × Int :=
  if askE ps held b n = 0 then (if legs.length ≤ 2048 then (if (runE (stepH ps b n) held).1 = 0 then (if (runE (stepL ps n) legs).1 = 0 then sumsE ((runE (stepH ps b n) held).2 ++ (runE (stepL ps n) legs).2) else ([], (runE (stepL ps n) legs).1)) else ([], (runE (stepH ps b n) held).1)) else ([], 8)) else ([], askE ps held b n)
theorem posCheckL (l : List Po) (hl : l.length ≤ 9223372036854775807) : CallOK Try.prog 48 [EP.L l] (fun r => r = .int .i64 (posE l)) := by
  by_cases h : l.length ≤ 1073741824
  · exact posCheck l h
  · refine okAc ?_
    have e : posE l = 8 := by
      unfold posE
      rw [if_pos (by omega)]
    rw [e]
    conv => whnf
    repeat' ((first | with_reducible refine bT rfl ?_ | with_reducible refine bF rfl ?_ | (refine sN ?_; (conv => whnf); refine bT (by first | rfl | exact iR8 _ | exact uNN _ | exact iR (by omega) | exact iR (by rw [hw]; omega) | exact nBlt (by omega) | exact nBle (by omega) | (simp; omega)) ?_) | (refine sA ?_; (conv => whnf); refine bT (roomL (by omega) rfl) ?_) | (refine sS ?_; (conv => whnf); refine bT (by first | rfl | exact iR8 _ | exact uNN _ | exact iR (by omega) | exact iR (by rw [hw]; omega) | exact nBlt (by omega) | exact nBle (by omega) | (simp; omega)) ?_) | (refine sM ?_; (conv => whnf); refine bT (mkOK (by omega) (by omega) (by omega) rfl) ?_) | (refine sC ?_; (conv => whnf); refine bT (nBle (by first | omega | (simp; omega))) ?_) | refine bDt (by omega) ?_ | refine bDf (by omega) ?_ | refine bNt (by omega) ?_ | refine bNf (by omega) ?_ | refine bD (fun _ => ?_) (fun _ => ?_) | refine bN (fun _ => ?_) (fun _ => ?_)) <;> conv => whnf)
    all_goals rfl
theorem refPosCheckL (l : List Po) (hl : l.length ≤ 9223372036854775807) : CallOK Try.prog 75 [EP.L l] (fun r => r = .int .i64 (posE l)) := by
  by_cases h : l.length ≤ 1073741824
  · exact refPosCheck l h
  · refine okAc ?_
    have e : posE l = 8 := by
      unfold posE
      rw [if_pos (by omega)]
    rw [e]
    conv => whnf
    repeat' ((first | with_reducible refine bT rfl ?_ | with_reducible refine bF rfl ?_ | (refine sN ?_; (conv => whnf); refine bT (by first | rfl | exact iR8 _ | exact uNN _ | exact iR (by omega) | exact iR (by rw [hw]; omega) | exact nBlt (by omega) | exact nBle (by omega) | (simp; omega)) ?_) | (refine sA ?_; (conv => whnf); refine bT (roomL (by omega) rfl) ?_) | (refine sS ?_; (conv => whnf); refine bT (by first | rfl | exact iR8 _ | exact uNN _ | exact iR (by omega) | exact iR (by rw [hw]; omega) | exact nBlt (by omega) | exact nBle (by omega) | (simp; omega)) ?_) | (refine sM ?_; (conv => whnf); refine bT (mkOK (by omega) (by omega) (by omega) rfl) ?_) | (refine sC ?_; (conv => whnf); refine bT (nBle (by first | omega | (simp; omega))) ?_) | refine bDt (by omega) ?_ | refine bDf (by omega) ?_ | refine bNt (by omega) ?_ | refine bNf (by omega) ?_ | refine bD (fun _ => ?_) (fun _ => ?_) | refine bN (fun _ => ?_) (fun _ => ?_)) <;> conv => whnf)
    all_goals rfl
set_option maxHeartbeats 8000000 in
theorem account (ps : List Pr) (held : List Po) (legs : List Lg) (b n : List Mk) (h1 : ps.length ≤ 1073741824) (h2 : held.length ≤ 9223372036854775807) (h3 : b.length ≤ 1073741824) (h4 : n.length ≤ 1073741824) (h5 : legs.length ≤ 9223372036854775807) : CallOK Try.prog 19 [EPr.L ps, EP.L held, ELg.L legs, EMk.L b, EMk.L n] (fun r => r = accAV (accE ps held legs b n)) := by
  refine okAc ?_
  conv => whnf
  repeat' ((first | with_reducible refine bT rfl ?_ | with_reducible refine bF rfl ?_ | (refine sN ?_; (conv => whnf); refine bT (by first | rfl | exact iR8 _ | exact uNN _ | exact iR (by omega) | exact iR (by rw [hw]; omega) | exact nBlt (by omega) | exact nBle (by omega) | (simp; omega)) ?_) | (refine sA ?_; (conv => whnf); refine bT (roomL (by omega) rfl) ?_) | (refine sS ?_; (conv => whnf); refine bT (by first | rfl | exact iR8 _ | exact uNN _ | exact iR (by omega) | exact iR (by rw [hw]; omega) | exact nBlt (by omega) | exact nBle (by omega) | (simp; omega)) ?_) | (refine sM ?_; (conv => whnf); refine bT (mkOK (by omega) (by omega) (by omega) rfl) ?_) | (refine sC ?_; (conv => whnf); refine bT (nBle (by first | omega | (simp; omega))) ?_) | refine bDt (by omega) ?_ | refine bDf (by omega) ?_ | refine bNt (by omega) ?_ | refine bNf (by omega) ?_ | refine bD (fun _ => ?_) (fun _ => ?_) | refine bN (fun _ => ?_) (fun _ => ?_)) <;> conv => whnf)
  refine loop_by (cx := cxAc) rfl progOK (ι := {i : Nat // i ≤ 4 ∧ (0 < i → prAllE ps = 0) ∧ (1 < i → posE held = 0) ∧ (2 < i → mkE b = 0) ∧ (3 < i → mkE n = 0)}) (fun i => 4 - i.1) (fun i => ⟨[(0 + 1 + 1, ELg.L legs), (5, .ptr 0 0), (6, .ptr (0 + 1) 0), (8, .ptr (0 + 1 + 1) 0), (9, .ptr (0 + 1 + 1 + 1) 0), (10, nilI),
    (29, .rvec [.fn 45 [] [.ptr 0 0], .fn 47 [] [.ptr (0 + 1) 0], .fn 49 [] [.ptr (0 + 1 + 1) 0], .fn 51 [] [.ptr (0 + 1 + 1 + 1) 0]]), (30, .int .i64 4), (31, .int .i64 i.1)],
    [.cells [EPr.L ps], .cells [EP.L held], .cells [EMk.L b], .cells [EMk.L n]], [], none⟩) ?_ ⟨0, by omega, by omega, by omega, by omega, by omega⟩
  rintro ⟨i, hi, q1, q2, q3, q4⟩ ih
  dsimp only at hi q1 q2 q3 q4 ⊢
  obtain rfl | rfl | rfl | rfl | rfl : i = 0 ∨ i = 1 ∨ i = 2 ∨ i = 3 ∨ i = 4 := by omega
  · by_cases h0 : prAllE ps = 0
    · conv => whnf
      repeat' ((first | with_reducible refine bT rfl ?_ | with_reducible refine bF rfl ?_ | (refine sN ?_; (conv => whnf); refine bT (by first | rfl | exact iR8 _ | exact uNN _ | exact iR (by omega) | exact iR (by rw [hw]; omega) | exact nBlt (by omega) | exact nBle (by omega) | (simp; omega)) ?_) | (refine sA ?_; (conv => whnf); refine bT (roomL (by omega) rfl) ?_) | (refine sS ?_; (conv => whnf); refine bT (by first | rfl | exact iR8 _ | exact uNN _ | exact iR (by omega) | exact iR (by rw [hw]; omega) | exact nBlt (by omega) | exact nBle (by omega) | (simp; omega)) ?_) | (refine sM ?_; (conv => whnf); refine bT (mkOK (by omega) (by omega) (by omega) rfl) ?_) | (refine sC ?_; (conv => whnf); refine bT (nBle (by first | omega | (simp; omega))) ?_) | refine bDt (by omega) ?_ | refine bDf (by omega) ?_ | refine bNt (by omega) ?_ | refine bNf (by omega) ?_ | refine call_is (prAll ps h1) ?_ | refine bNf h0 ?_ | refine loop_to ih ⟨1, by omega, fun _ => h0, by omega, by omega, by omega⟩ (show 4 - 1 < 4 - 0 by omega) rfl | refine bD (fun _ => ?_) (fun _ => ?_) | refine bN (fun _ => ?_) (fun _ => ?_)) <;> conv => whnf)
    · clear ih
      have hE : askE ps held b n = prAllE ps := by unfold askE; rw [if_neg h0]
      rw [accE, hE, if_neg h0]
      conv => whnf
      repeat' ((first | with_reducible refine bT rfl ?_ | with_reducible refine bF rfl ?_ | (refine sN ?_; (conv => whnf); refine bT (by first | rfl | exact iR8 _ | exact uNN _ | exact iR (by omega) | exact iR (by rw [hw]; omega) | exact nBlt (by omega) | exact nBle (by omega) | (simp; omega)) ?_) | (refine sA ?_; (conv => whnf); refine bT (roomL (by omega) rfl) ?_) | (refine sS ?_; (conv => whnf); refine bT (by first | rfl | exact iR8 _ | exact uNN _ | exact iR (by omega) | exact iR (by rw [hw]; omega) | exact nBlt (by omega) | exact nBle (by omega) | (simp; omega)) ?_) | (refine sM ?_; (conv => whnf); refine bT (mkOK (by omega) (by omega) (by omega) rfl) ?_) | (refine sC ?_; (conv => whnf); refine bT (nBle (by first | omega | (simp; omega))) ?_) | refine bDt (by omega) ?_ | refine bDf (by omega) ?_ | refine bNt (by omega) ?_ | refine bNf (by omega) ?_ | refine call_is (prAll ps h1) ?_ | refine bNt h0 ?_ | refine bD (fun _ => ?_) (fun _ => ?_) | refine bN (fun _ => ?_) (fun _ => ?_)) <;> conv => whnf)
      rfl
  · have h0 := q1 (by omega)
    by_cases h0' : posE held = 0
    · conv => whnf
      repeat' ((first | with_reducible refine bT rfl ?_ | with_reducible refine bF rfl ?_ | (refine sN ?_; (conv => whnf); refine bT (by first | rfl | exact iR8 _ | exact uNN _ | exact iR (by omega) | exact iR (by rw [hw]; omega) | exact nBlt (by omega) | exact nBle (by omega) | (simp; omega)) ?_) | (refine sA ?_; (conv => whnf); refine bT (roomL (by omega) rfl) ?_) | (refine sS ?_; (conv => whnf); refine bT (by first | rfl | exact iR8 _ | exact uNN _ | exact iR (by omega) | exact iR (by rw [hw]; omega) | exact nBlt (by omega) | exact nBle (by omega) | (simp; omega)) ?_) | (refine sM ?_; (conv => whnf); refine bT (mkOK (by omega) (by omega) (by omega) rfl) ?_) | (refine sC ?_; (conv => whnf); refine bT (nBle (by first | omega | (simp; omega))) ?_) | refine bDt (by omega) ?_ | refine bDf (by omega) ?_ | refine bNt (by omega) ?_ | refine bNf (by omega) ?_ | refine call_is (posCheckL held h2) ?_ | refine bNf h0' ?_ | refine loop_to ih ⟨2, by omega, fun _ => h0, fun _ => h0', by omega, by omega⟩ (show 4 - 2 < 4 - 1 by omega) rfl | refine bD (fun _ => ?_) (fun _ => ?_) | refine bN (fun _ => ?_) (fun _ => ?_)) <;> conv => whnf)
    · clear ih
      have hE : askE ps held b n = posE held := by unfold askE; rw [if_pos h0, if_neg h0']
      rw [accE, hE, if_neg h0']
      conv => whnf
      repeat' ((first | with_reducible refine bT rfl ?_ | with_reducible refine bF rfl ?_ | (refine sN ?_; (conv => whnf); refine bT (by first | rfl | exact iR8 _ | exact uNN _ | exact iR (by omega) | exact iR (by rw [hw]; omega) | exact nBlt (by omega) | exact nBle (by omega) | (simp; omega)) ?_) | (refine sA ?_; (conv => whnf); refine bT (roomL (by omega) rfl) ?_) | (refine sS ?_; (conv => whnf); refine bT (by first | rfl | exact iR8 _ | exact uNN _ | exact iR (by omega) | exact iR (by rw [hw]; omega) | exact nBlt (by omega) | exact nBle (by omega) | (simp; omega)) ?_) | (refine sM ?_; (conv => whnf); refine bT (mkOK (by omega) (by omega) (by omega) rfl) ?_) | (refine sC ?_; (conv => whnf); refine bT (nBle (by first | omega | (simp; omega))) ?_) | refine bDt (by omega) ?_ | refine bDf (by omega) ?_ | refine bNt (by omega) ?_ | refine bNf (by omega) ?_ | refine call_is (posCheckL held h2) ?_ | refine bNt h0' ?_ | refine bD (fun _ => ?_) (fun _ => ?_) | refine bN (fun _ => ?_) (fun _ => ?_)) <;> conv => whnf)
      rfl
  · have h0 := q1 (by omega)
    have h0' := q2 (by omega)
    by_cases h0'' : mkE b = 0
    · conv => whnf
      repeat' ((first | with_reducible refine bT rfl ?_ | with_reducible refine bF rfl ?_ | (refine sN ?_; (conv => whnf); refine bT (by first | rfl | exact iR8 _ | exact uNN _ | exact iR (by omega) | exact iR (by rw [hw]; omega) | exact nBlt (by omega) | exact nBle (by omega) | (simp; omega)) ?_) | (refine sA ?_; (conv => whnf); refine bT (roomL (by omega) rfl) ?_) | (refine sS ?_; (conv => whnf); refine bT (by first | rfl | exact iR8 _ | exact uNN _ | exact iR (by omega) | exact iR (by rw [hw]; omega) | exact nBlt (by omega) | exact nBle (by omega) | (simp; omega)) ?_) | (refine sM ?_; (conv => whnf); refine bT (mkOK (by omega) (by omega) (by omega) rfl) ?_) | (refine sC ?_; (conv => whnf); refine bT (nBle (by first | omega | (simp; omega))) ?_) | refine bDt (by omega) ?_ | refine bDf (by omega) ?_ | refine bNt (by omega) ?_ | refine bNf (by omega) ?_ | refine call_is (mkCheck b h3) ?_ | refine bNf h0'' ?_ | refine loop_to ih ⟨3, by omega, fun _ => h0, fun _ => h0', fun _ => h0'', by omega⟩ (show 4 - 3 < 4 - 2 by omega) rfl | refine bD (fun _ => ?_) (fun _ => ?_) | refine bN (fun _ => ?_) (fun _ => ?_)) <;> conv => whnf)
    · clear ih
      have hE : askE ps held b n = mkE b := by unfold askE; rw [if_pos h0, if_pos h0', if_neg h0'']
      rw [accE, hE, if_neg h0'']
      conv => whnf
      repeat' ((first | with_reducible refine bT rfl ?_ | with_reducible refine bF rfl ?_ | (refine sN ?_; (conv => whnf); refine bT (by first | rfl | exact iR8 _ | exact uNN _ | exact iR (by omega) | exact iR (by rw [hw]; omega) | exact nBlt (by omega) | exact nBle (by omega) | (simp; omega)) ?_) | (refine sA ?_; (conv => whnf); refine bT (roomL (by omega) rfl) ?_) | (refine sS ?_; (conv => whnf); refine bT (by first | rfl | exact iR8 _ | exact uNN _ | exact iR (by omega) | exact iR (by rw [hw]; omega) | exact nBlt (by omega) | exact nBle (by omega) | (simp; omega)) ?_) | (refine sM ?_; (conv => whnf); refine bT (mkOK (by omega) (by omega) (by omega) rfl) ?_) | (refine sC ?_; (conv => whnf); refine bT (nBle (by first | omega | (simp; omega))) ?_) | refine bDt (by omega) ?_ | refine bDf (by omega) ?_ | refine bNt (by omega) ?_ | refine bNf (by omega) ?_ | refine call_is (mkCheck b h3) ?_ | refine bNt h0'' ?_ | refine bD (fun _ => ?_) (fun _ => ?_) | refine bN (fun _ => ?_) (fun _ => ?_)) <;> conv => whnf)
      rfl
  · have h0 := q1 (by omega)
    have h0' := q2 (by omega)
    have h0'' := q3 (by omega)
    by_cases h00 : mkE n = 0
    · conv => whnf
      repeat' ((first | with_reducible refine bT rfl ?_ | with_reducible refine bF rfl ?_ | (refine sN ?_; (conv => whnf); refine bT (by first | rfl | exact iR8 _ | exact uNN _ | exact iR (by omega) | exact iR (by rw [hw]; omega) | exact nBlt (by omega) | exact nBle (by omega) | (simp; omega)) ?_) | (refine sA ?_; (conv => whnf); refine bT (roomL (by omega) rfl) ?_) | (refine sS ?_; (conv => whnf); refine bT (by first | rfl | exact iR8 _ | exact uNN _ | exact iR (by omega) | exact iR (by rw [hw]; omega) | exact nBlt (by omega) | exact nBle (by omega) | (simp; omega)) ?_) | (refine sM ?_; (conv => whnf); refine bT (mkOK (by omega) (by omega) (by omega) rfl) ?_) | (refine sC ?_; (conv => whnf); refine bT (nBle (by first | omega | (simp; omega))) ?_) | refine bDt (by omega) ?_ | refine bDf (by omega) ?_ | refine bNt (by omega) ?_ | refine bNf (by omega) ?_ | refine call_is (mkCheck n h4) ?_ | refine bNf h00 ?_ | refine loop_to ih ⟨4, by omega, fun _ => h0, fun _ => h0', fun _ => h0'', fun _ => h00⟩ (show 4 - 4 < 4 - 3 by omega) rfl | refine bD (fun _ => ?_) (fun _ => ?_) | refine bN (fun _ => ?_) (fun _ => ?_)) <;> conv => whnf)
    · clear ih
      have hE : askE ps held b n = mkE n := by unfold askE; rw [if_pos h0, if_pos h0', if_pos h0'']
      rw [accE, hE, if_neg h00]
      conv => whnf
      repeat' ((first | with_reducible refine bT rfl ?_ | with_reducible refine bF rfl ?_ | (refine sN ?_; (conv => whnf); refine bT (by first | rfl | exact iR8 _ | exact uNN _ | exact iR (by omega) | exact iR (by rw [hw]; omega) | exact nBlt (by omega) | exact nBle (by omega) | (simp; omega)) ?_) | (refine sA ?_; (conv => whnf); refine bT (roomL (by omega) rfl) ?_) | (refine sS ?_; (conv => whnf); refine bT (by first | rfl | exact iR8 _ | exact uNN _ | exact iR (by omega) | exact iR (by rw [hw]; omega) | exact nBlt (by omega) | exact nBle (by omega) | (simp; omega)) ?_) | (refine sM ?_; (conv => whnf); refine bT (mkOK (by omega) (by omega) (by omega) rfl) ?_) | (refine sC ?_; (conv => whnf); refine bT (nBle (by first | omega | (simp; omega))) ?_) | refine bDt (by omega) ?_ | refine bDf (by omega) ?_ | refine bNt (by omega) ?_ | refine bNf (by omega) ?_ | refine call_is (mkCheck n h4) ?_ | refine bNt h00 ?_ | refine bD (fun _ => ?_) (fun _ => ?_) | refine bN (fun _ => ?_) (fun _ => ?_)) <;> conv => whnf)
      rfl
  · have h0 := q1 (by omega)
    have h0' := q2 (by omega)
    have h0'' := q3 (by omega)
    have h00 := q4 (by omega)
    have hE : askE ps held b n = 0 := by unfold askE; rw [if_pos h0, if_pos h0', if_pos h0'', h00]
    rw [accE, hE, if_pos rfl]
    clear ih
    by_cases hL : legs.length ≤ 2048
    rotate_left
    · rw [if_neg hL]
      conv => whnf
      repeat' ((first | with_reducible refine bT rfl ?_ | with_reducible refine bF rfl ?_ | (refine sN ?_; (conv => whnf); refine bT (by first | rfl | exact iR8 _ | exact uNN _ | exact iR (by omega) | exact iR (by rw [hw]; omega) | exact nBlt (by omega) | exact nBle (by omega) | (simp; omega)) ?_) | (refine sA ?_; (conv => whnf); refine bT (roomL (by omega) rfl) ?_) | (refine sS ?_; (conv => whnf); refine bT (by first | rfl | exact iR8 _ | exact uNN _ | exact iR (by omega) | exact iR (by rw [hw]; omega) | exact nBlt (by omega) | exact nBle (by omega) | (simp; omega)) ?_) | (refine sM ?_; (conv => whnf); refine bT (mkOK (by omega) (by omega) (by omega) rfl) ?_) | (refine sC ?_; (conv => whnf); refine bT (nBle (by first | omega | (simp; omega))) ?_) | refine bDt (by omega) ?_ | refine bDf (by omega) ?_ | refine bNt (by omega) ?_ | refine bNf (by omega) ?_ | refine bD (fun _ => ?_) (fun _ => ?_) | refine bN (fun _ => ?_) (fun _ => ?_)) <;> conv => whnf)
      all_goals rfl
    rw [if_pos hL]
    conv => whnf
    repeat' ((first | with_reducible refine bT rfl ?_ | with_reducible refine bF rfl ?_ | (refine sN ?_; (conv => whnf); refine bT (by first | rfl | exact iR8 _ | exact uNN _ | exact iR (by omega) | exact iR (by rw [hw]; omega) | exact nBlt (by omega) | exact nBle (by omega) | (simp; omega)) ?_) | (refine sA ?_; (conv => whnf); refine bT (roomL (by omega) rfl) ?_) | (refine sS ?_; (conv => whnf); refine bT (by first | rfl | exact iR8 _ | exact uNN _ | exact iR (by omega) | exact iR (by rw [hw]; omega) | exact nBlt (by omega) | exact nBle (by omega) | (simp; omega)) ?_) | (refine sM ?_; (conv => whnf); refine bT (mkOK (by omega) (by omega) (by omega) rfl) ?_) | (refine sC ?_; (conv => whnf); refine bT (nBle (by first | omega | (simp; omega))) ?_) | refine bDt (by omega) ?_ | refine bDf (by omega) ?_ | refine bNt (by omega) ?_ | refine bNf (by omega) ?_ | refine call_is (looked b) ?_ | refine call_is (looked n) ?_ | refine bD (fun _ => ?_) (fun _ => ?_) | refine bN (fun _ => ?_) (fun _ => ?_)) <;> conv => whnf)
    refine loop_by (cx := cxAc) rfl progOK (ι := {p : Nat × Its // p.1 ≤ held.length ∧ p.2.length ≤ p.1 ∧ runE (stepH ps b n) held = ((runE (stepH ps b n) (held.drop p.1)).1, p.2 ++ (runE (stepH ps b n) (held.drop p.1)).2)}) (fun p => held.length - p.1.1) (fun p => ⟨[(0 + 1 + 1, ELg.L legs), (10, nilI), (14, .ptr (0 + 1 + 1 + 1 + 1) 0), (15, .ptr (0 + 1 + 1 + 1 + 1 + 1) 0), (16, .ptr (0 + 1 + 1 + 1 + 1 + 1 + 1 + 1) 0),
      (17, .fn 53 [] [.ptr 0 0, .ptr (0 + 1 + 1 + 1 + 1 + 1 + 1 + 1) 0]), (50, EP.L held), (51, .int .i64 held.length), (52, .int .i64 p.1.1)],
      [.cells [EPr.L ps], .cells [EP.L held], .cells [EMk.L b], .cells [EMk.L n], .cells [.fn 95 [] [.cptr (EMk.L b)]], .cells [.fn 95 [] [.cptr (EMk.L n)]], mapI p.1.2, .cells [.mapr (0 + 1 + 1 + 1 + 1 + 1 + 1)]], [], none⟩) ?_ ⟨(0, []), Nat.zero_le _, Nat.le_refl _, by simp⟩
    rintro ⟨⟨i, its⟩, hi, hli, hr⟩ ih
    dsimp only at hi hli hr ⊢
    have hp : posE held = 0 := h0'
    have hl128 : held.length ≤ 128 := by
      unfold posE at hp
      split at hp
      · cases hp
      · omega
    by_cases hlt : i < held.length
    · rw [Enc.drop_cons (E := EP) hlt, runE] at hr
      have kP := prFind ps (held.getD i EP.d).s.p h1
      have kB := looked1 b (held.getD i EP.d).s h3
      have kN := looked1 n (held.getD i EP.d).s h4
      have kC := fun p => carried p (IntKind.i64.wrap ((held.getD i EP.d).l - (held.getD i EP.d).h)) (lookE b (held.getD i EP.d).s).1 (lookE n (held.getD i EP.d).s).1
      have kNet := net (held.getD i EP.d)
      have hnx : ∀ its' : Its, its' = its ++ (stepH ps b n (held.getD i EP.d)).2 → (stepH ps b n (held.getD i EP.d)).1 = 0 → runE (stepH ps b n) held = ((runE (stepH ps b n) (held.drop (i + 1))).1, its' ++ (runE (stepH ps b n) (held.drop (i + 1))).2) := by
        intro its' e1 e2
        rw [if_pos e2] at hr
        rw [hr, e1]
        simp
      have hbad : ∀ er : Int, stepH ps b n (held.getD i EP.d) = (er, []) → ¬ er = 0 → (runE (stepH ps b n) held).1 = er := by
        intro er e1 e2
        rw [hr, if_neg (by rw [e1]; exact e2), e1]
      have hm : held.length - (i + 1) < held.length - i := by omega
      by_cases hk : (held.getD i EP.d).s.k = 1
      rotate_left
      · have e : stepH ps b n (held.getD i EP.d) = (0, []) := lot_1 hk
        have hj := hnx its (by rw [e]; simp) (by rw [e])
        have hl2 : its.length ≤ i + 1 := by omega
        conv => whnf
        repeat' ((first | with_reducible refine bT rfl ?_ | with_reducible refine bF rfl ?_ | (refine sN ?_; (conv => whnf); refine bT (by first | rfl | exact iR8 _ | exact uNN _ | exact iR (by omega) | exact iR (by rw [hw]; omega) | exact nBlt (by omega) | exact nBle (by omega) | (simp; omega)) ?_) | (refine sA ?_; (conv => whnf); refine bT (roomL (by omega) rfl) ?_) | (refine sS ?_; (conv => whnf); refine bT (by first | rfl | exact iR8 _ | exact uNN _ | exact iR (by omega) | exact iR (by rw [hw]; omega) | exact nBlt (by omega) | exact nBle (by omega) | (simp; omega)) ?_) | (refine sM ?_; (conv => whnf); refine bT (mkOK (by omega) (by omega) (by omega) rfl) ?_) | (refine sC ?_; (conv => whnf); refine bT (nBle (by first | omega | (simp; omega))) ?_) | refine bDt (by omega) ?_ | refine bDf (by omega) ?_ | refine bNt (by omega) ?_ | refine bNf (by omega) ?_ | refine bNt hk ?_ | refine loop_to ih ⟨(i + 1, its), hlt, hl2, hj⟩ hm ?_ | refine bD (fun _ => ?_) (fun _ => ?_) | refine bN (fun _ => ?_) (fun _ => ?_)) <;> conv => whnf)
        rw [next_i hlt (by omega)]; rfl
      generalize hpf : findP (held.getD i EP.d).s.p ps = pf at kP
      obtain ⟨p, bb⟩ := pf
      cases bb
      · have e := hbad 19 (lot_2 hk hpf) (by decide)
        clear ih
        rw [e, if_neg (by decide)]
        conv => whnf
        repeat' ((first | with_reducible refine bT rfl ?_ | with_reducible refine bF rfl ?_ | (refine sN ?_; (conv => whnf); refine bT (by first | rfl | exact iR8 _ | exact uNN _ | exact iR (by omega) | exact iR (by rw [hw]; omega) | exact nBlt (by omega) | exact nBle (by omega) | (simp; omega)) ?_) | (refine sA ?_; (conv => whnf); refine bT (roomL (by omega) rfl) ?_) | (refine sS ?_; (conv => whnf); refine bT (by first | rfl | exact iR8 _ | exact uNN _ | exact iR (by omega) | exact iR (by rw [hw]; omega) | exact nBlt (by omega) | exact nBle (by omega) | (simp; omega)) ?_) | (refine sM ?_; (conv => whnf); refine bT (mkOK (by omega) (by omega) (by omega) rfl) ?_) | (refine sC ?_; (conv => whnf); refine bT (nBle (by first | omega | (simp; omega))) ?_) | refine bDt (by omega) ?_ | refine bDf (by omega) ?_ | refine bNt (by omega) ?_ | refine bNf (by omega) ?_ | refine bNf hk ?_ | refine call_is kP ?_ | refine bD (fun _ => ?_) (fun _ => ?_) | refine bN (fun _ => ?_) (fun _ => ?_)) <;> conv => whnf)
        rfl
      have kC' := kC p
      by_cases hB : (lookE b (held.getD i EP.d).s).2 = 0
      rotate_left
      · have e := hbad _ (lot_3 (e := (lookE b (held.getD i EP.d).s).2) hk hpf (by rw [if_neg hB]) hB) hB
        clear ih
        rw [e, if_neg hB]
        generalize lookE b (held.getD i EP.d).s = B at *
        conv => whnf
        repeat' ((first | with_reducible refine bT rfl ?_ | with_reducible refine bF rfl ?_ | (refine sN ?_; (conv => whnf); refine bT (by first | rfl | exact iR8 _ | exact uNN _ | exact iR (by omega) | exact iR (by rw [hw]; omega) | exact nBlt (by omega) | exact nBle (by omega) | (simp; omega)) ?_) | (refine sA ?_; (conv => whnf); refine bT (roomL (by omega) rfl) ?_) | (refine sS ?_; (conv => whnf); refine bT (by first | rfl | exact iR8 _ | exact uNN _ | exact iR (by omega) | exact iR (by rw [hw]; omega) | exact nBlt (by omega) | exact nBle (by omega) | (simp; omega)) ?_) | (refine sM ?_; (conv => whnf); refine bT (mkOK (by omega) (by omega) (by omega) rfl) ?_) | (refine sC ?_; (conv => whnf); refine bT (nBle (by first | omega | (simp; omega))) ?_) | refine bDt (by omega) ?_ | refine bDf (by omega) ?_ | refine bNt (by omega) ?_ | refine bNf (by omega) ?_ | refine bNf hk ?_ | refine call_is kP ?_ | refine call_is kB ?_ | refine bNt hB ?_ | refine bDf hB ?_ | refine bD (fun _ => ?_) (fun _ => ?_) | refine bN (fun _ => ?_) (fun _ => ?_)) <;> conv => whnf)
        all_goals rfl
      by_cases hN : (lookE n (held.getD i EP.d).s).2 = 0
      rotate_left
      · have e := hbad _ (lot_3 (e := (lookE n (held.getD i EP.d).s).2) hk hpf (by rw [if_pos hB, if_neg hN]) hN) hN
        clear ih
        rw [e, if_neg hN]
        generalize lookE b (held.getD i EP.d).s = B at *
        generalize lookE n (held.getD i EP.d).s = N at *
        conv => whnf
        repeat' ((first | with_reducible refine bT rfl ?_ | with_reducible refine bF rfl ?_ | (refine sN ?_; (conv => whnf); refine bT (by first | rfl | exact iR8 _ | exact uNN _ | exact iR (by omega) | exact iR (by rw [hw]; omega) | exact nBlt (by omega) | exact nBle (by omega) | (simp; omega)) ?_) | (refine sA ?_; (conv => whnf); refine bT (roomL (by omega) rfl) ?_) | (refine sS ?_; (conv => whnf); refine bT (by first | rfl | exact iR8 _ | exact uNN _ | exact iR (by omega) | exact iR (by rw [hw]; omega) | exact nBlt (by omega) | exact nBle (by omega) | (simp; omega)) ?_) | (refine sM ?_; (conv => whnf); refine bT (mkOK (by omega) (by omega) (by omega) rfl) ?_) | (refine sC ?_; (conv => whnf); refine bT (nBle (by first | omega | (simp; omega))) ?_) | refine bDt (by omega) ?_ | refine bDf (by omega) ?_ | refine bNt (by omega) ?_ | refine bNf (by omega) ?_ | refine bNf hk ?_ | refine call_is kP ?_ | refine call_is kB ?_ | refine call_is kN ?_ | refine bNf hB ?_ | refine bNt hN ?_ | refine bDf hN ?_ | refine bD (fun _ => ?_) (fun _ => ?_) | refine bN (fun _ => ?_) (fun _ => ?_)) <;> conv => whnf)
        all_goals rfl
      have hrk : ∀ x, carE p (IntKind.i64.wrap ((held.getD i EP.d).l - (held.getD i EP.d).h)) (lookE b (held.getD i EP.d).s).1 (lookE n (held.getD i EP.d).s).1 = x → (if (lookE b (held.getD i EP.d).s).2 = 0 then (if (lookE n (held.getD i EP.d).s).2 = 0 then carE p (IntKind.i64.wrap ((held.getD i EP.d).l - (held.getD i EP.d).h)) (lookE b (held.getD i EP.d).s).1 (lookE n (held.getD i EP.d).s).1 else (0, (lookE n (held.getD i EP.d).s).2)) else (0, (lookE b (held.getD i EP.d).s).2)) = x := by
        intro x e; rw [if_pos hB, if_pos hN]; exact e
      generalize hCq : carE p (IntKind.i64.wrap ((held.getD i EP.d).l - (held.getD i EP.d).h)) (lookE b (held.getD i EP.d).s).1 (lookE n (held.getD i EP.d).s).1 = C at kC'
      obtain ⟨cv, ce⟩ := C
      by_cases hC : ce = 0
      rotate_left
      · have e := hbad _ (lot_3 (e := ce) hk hpf (by rw [hrk _ hCq]) hC) hC
        clear ih
        rw [e, if_neg hC]
        generalize lookE b (held.getD i EP.d).s = B at *
        generalize lookE n (held.getD i EP.d).s = N at *
        conv => whnf
        repeat' ((first | with_reducible refine bT rfl ?_ | with_reducible refine bF rfl ?_ | (refine sN ?_; (conv => whnf); refine bT (by first | rfl | exact iR8 _ | exact uNN _ | exact iR (by omega) | exact iR (by rw [hw]; omega) | exact nBlt (by omega) | exact nBle (by omega) | (simp; omega)) ?_) | (refine sA ?_; (conv => whnf); refine bT (roomL (by omega) rfl) ?_) | (refine sS ?_; (conv => whnf); refine bT (by first | rfl | exact iR8 _ | exact uNN _ | exact iR (by omega) | exact iR (by rw [hw]; omega) | exact nBlt (by omega) | exact nBle (by omega) | (simp; omega)) ?_) | (refine sM ?_; (conv => whnf); refine bT (mkOK (by omega) (by omega) (by omega) rfl) ?_) | (refine sC ?_; (conv => whnf); refine bT (nBle (by first | omega | (simp; omega))) ?_) | refine bDt (by omega) ?_ | refine bDf (by omega) ?_ | refine bNt (by omega) ?_ | refine bNf (by omega) ?_ | refine bNf hk ?_ | refine call_is kP ?_ | refine call_is kB ?_ | refine call_is kN ?_ | refine call_is kNet ?_ | refine call_is kC' ?_ | refine bNf hB ?_ | refine bNf hN ?_ | refine bDf hC ?_ | refine bNt hC ?_ | refine bD (fun _ => ?_) (fun _ => ?_) | refine bN (fun _ => ?_) (fun _ => ?_)) <;> conv => whnf)
        all_goals rfl
      subst hC
      have e : stepH ps b n (held.getD i EP.d) = (0, [(p.c, cv)]) := lot_4 hk hpf (hrk _ hCq)
      have hj := hnx (its ++ [(p.c, cv)]) (by rw [e]) (by rw [e])
      have hl2 : (its ++ [(p.c, cv)]).length ≤ i + 1 := by simp; omega
      have hcl : (curIt its p.c).length ≤ 1000 := by
        unfold curIt
        rw [List.length_map]
        have := List.length_filter_le (fun x : Int × Int => x.1 == p.c) its
        omega
      generalize lookE b (held.getD i EP.d).s = B at *
      generalize lookE n (held.getD i EP.d).s = N at *
      conv => whnf
      repeat' ((first | with_reducible refine bT rfl ?_ | with_reducible refine bF rfl ?_ | (refine sN ?_; (conv => whnf); refine bT (by first | rfl | exact iR8 _ | exact uNN _ | exact iR (by omega) | exact iR (by rw [hw]; omega) | exact nBlt (by omega) | exact nBle (by omega) | (simp; omega)) ?_) | (refine sA ?_; (conv => whnf); refine bT (roomL (by omega) rfl) ?_) | (refine sS ?_; (conv => whnf); refine bT (by first | rfl | exact iR8 _ | exact uNN _ | exact iR (by omega) | exact iR (by rw [hw]; omega) | exact nBlt (by omega) | exact nBle (by omega) | (simp; omega)) ?_) | (refine sM ?_; (conv => whnf); refine bT (mkOK (by omega) (by omega) (by omega) rfl) ?_) | (refine sC ?_; (conv => whnf); refine bT (nBle (by first | omega | (simp; omega))) ?_) | refine bDt (by omega) ?_ | refine bDf (by omega) ?_ | refine bNt (by omega) ?_ | refine bNf (by omega) ?_ | refine bNf hk ?_ | refine call_is kP ?_ | refine call_is kB ?_ | refine call_is kN ?_ | refine call_is kNet ?_ | refine call_is kC' ?_ | refine bNf hB ?_ | refine bNf hN ?_ | refine bDt rfl ?_ | refine bNf rfl ?_ | refine st_takeV (enc := ownI) (f := curIt its) (z := []) (c := p.c) rfl rfl rfl rfl rfl rfl rfl rfl curIt_none ?_ | refine st_setT (enc := ownI) (f := curIt its) (c := p.c) (v := curIt its p.c ++ [cv]) rfl rfl rfl rfl rfl rfl rfl (congrArg AV.own (EI.snoc_av rfl rfl rfl rfl rfl)) rfl (keyI_nodup its) ?_ | refine loop_to ih ⟨(i + 1, its ++ [(p.c, cv)]), hlt, hl2, hj⟩ hm ?_ | refine bD (fun _ => ?_) (fun _ => ?_) | refine bN (fun _ => ?_) (fun _ => ?_)) <;> conv => whnf)
      rw [next_i hlt (by omega), mapI_snoc]; rfl
    · have hiq : i = held.length := by omega
      subst hiq
      rw [List.drop_length] at hr
      simp only [runE, List.append_nil] at hr
      have hr1 : (runE (stepH ps b n) held).1 = 0 := by rw [hr]
      have hr2 : (runE (stepH ps b n) held).2 = its := by rw [hr]
      rw [hr1, if_pos rfl, hr2]
      clear ih
      have hits : its.length ≤ 128 := by omega
      conv => whnf
      repeat' ((first | with_reducible refine bT rfl ?_ | with_reducible refine bF rfl ?_ | (refine sN ?_; (conv => whnf); refine bT (by first | rfl | exact iR8 _ | exact uNN _ | exact iR (by omega) | exact iR (by rw [hw]; omega) | exact nBlt (by omega) | exact nBle (by omega) | (simp; omega)) ?_) | (refine sA ?_; (conv => whnf); refine bT (roomL (by omega) rfl) ?_) | (refine sS ?_; (conv => whnf); refine bT (by first | rfl | exact iR8 _ | exact uNN _ | exact iR (by omega) | exact iR (by rw [hw]; omega) | exact nBlt (by omega) | exact nBle (by omega) | (simp; omega)) ?_) | (refine sM ?_; (conv => whnf); refine bT (mkOK (by omega) (by omega) (by omega) rfl) ?_) | (refine sC ?_; (conv => whnf); refine bT (nBle (by first | omega | (simp; omega))) ?_) | refine bDt (by omega) ?_ | refine bDf (by omega) ?_ | refine bNt (by omega) ?_ | refine bNf (by omega) ?_ | refine bD (fun _ => ?_) (fun _ => ?_) | refine bN (fun _ => ?_) (fun _ => ?_)) <;> conv => whnf)
      refine loop_by (cx := cxAc) rfl progOK (ι := {q : Nat × Its // q.1 ≤ legs.length ∧ q.2.length ≤ 128 + q.1 ∧ (runE (stepL ps n) legs).1 = (runE (stepL ps n) (legs.drop q.1)).1 ∧ its ++ (runE (stepL ps n) legs).2 = q.2 ++ (runE (stepL ps n) (legs.drop q.1)).2}) (fun q => legs.length - q.1.1) (fun q => ⟨[(10, nilI), (15, .ptr (0 + 1 + 1 + 1 + 1 + 1) 0), (16, .ptr (0 + 1 + 1 + 1 + 1 + 1 + 1 + 1) 0),
        (17, .fn 53 [] [.ptr 0 0, .ptr (0 + 1 + 1 + 1 + 1 + 1 + 1 + 1) 0]), (65, ELg.L legs), (66, .int .i64 legs.length), (67, .int .i64 q.1.1)],
        [.cells [EPr.L ps], .cells [EP.L held], .cells [EMk.L b], .cells [EMk.L n], .cells [.fn 95 [] [.cptr (EMk.L b)]], .cells [.fn 95 [] [.cptr (EMk.L n)]], mapI q.1.2, .cells [.mapr (0 + 1 + 1 + 1 + 1 + 1 + 1)]], [], none⟩) ?_ ⟨(0, its), Nat.zero_le _, hits, by simp, by simp⟩
      clear hr hr1 hr2 hli hi
      rintro ⟨⟨i, jts⟩, hi, hli, hr, hrr⟩ ih
      dsimp only at hi hli hr hrr ⊢
      by_cases hlt : i < legs.length
      · rw [Enc.drop_cons (E := ELg) hlt, runE] at hr hrr
        have kP := prFind ps (legs.getD i ELg.d).s.p h1
        have kN := looked1 n (legs.getD i ELg.d).s h4
        have kC := fun p => fresh p (legs.getD i ELg.d) (lookE n (legs.getD i ELg.d).s).1
        have hnx1 : ∀ jts' : Its, jts' = jts ++ (stepL ps n (legs.getD i ELg.d)).2 → (stepL ps n (legs.getD i ELg.d)).1 = 0 → (runE (stepL ps n) legs).1 = (runE (stepL ps n) (legs.drop (i + 1))).1 ∧ its ++ (runE (stepL ps n) legs).2 = jts' ++ (runE (stepL ps n) (legs.drop (i + 1))).2 := by
          intro its' e1 e2
          rw [if_pos e2] at hr hrr
          rw [hr, hrr, e1]
          simp
        have hbad : ∀ er : Int, stepL ps n (legs.getD i ELg.d) = (er, []) → ¬ er = 0 → (runE (stepL ps n) legs).1 = er := by
          intro er e1 e2
          rw [hr, if_neg (by rw [e1]; exact e2), e1]
        have hm : legs.length - (i + 1) < legs.length - i := by omega
        by_cases hk : (legs.getD i ELg.d).s.k = 1
        rotate_left
        · have e : stepL ps n (legs.getD i ELg.d) = (0, []) := lot_1 hk
          have hj := hnx1 jts (by rw [e]; simp) (by rw [e])
          have hl2 : jts.length ≤ 128 + (i + 1) := by omega
          conv => whnf
          repeat' ((first | with_reducible refine bT rfl ?_ | with_reducible refine bF rfl ?_ | (refine sN ?_; (conv => whnf); refine bT (by first | rfl | exact iR8 _ | exact uNN _ | exact iR (by omega) | exact iR (by rw [hw]; omega) | exact nBlt (by omega) | exact nBle (by omega) | (simp; omega)) ?_) | (refine sA ?_; (conv => whnf); refine bT (roomL (by omega) rfl) ?_) | (refine sS ?_; (conv => whnf); refine bT (by first | rfl | exact iR8 _ | exact uNN _ | exact iR (by omega) | exact iR (by rw [hw]; omega) | exact nBlt (by omega) | exact nBle (by omega) | (simp; omega)) ?_) | (refine sM ?_; (conv => whnf); refine bT (mkOK (by omega) (by omega) (by omega) rfl) ?_) | (refine sC ?_; (conv => whnf); refine bT (nBle (by first | omega | (simp; omega))) ?_) | refine bDt (by omega) ?_ | refine bDf (by omega) ?_ | refine bNt (by omega) ?_ | refine bNf (by omega) ?_ | refine bNt hk ?_ | refine loop_to ih ⟨(i + 1, jts), hlt, hl2, hj.1, hj.2⟩ hm ?_ | refine bD (fun _ => ?_) (fun _ => ?_) | refine bN (fun _ => ?_) (fun _ => ?_)) <;> conv => whnf)
          rw [next_i hlt (by omega)]; rfl
        generalize hpf : findP (legs.getD i ELg.d).s.p ps = pf at kP
        obtain ⟨p, bb⟩ := pf
        cases bb
        · have e := hbad 19 (lot_2 hk hpf) (by decide)
          clear ih
          rw [e, if_neg (by decide)]
          conv => whnf
          repeat' ((first | with_reducible refine bT rfl ?_ | with_reducible refine bF rfl ?_ | (refine sN ?_; (conv => whnf); refine bT (by first | rfl | exact iR8 _ | exact uNN _ | exact iR (by omega) | exact iR (by rw [hw]; omega) | exact nBlt (by omega) | exact nBle (by omega) | (simp; omega)) ?_) | (refine sA ?_; (conv => whnf); refine bT (roomL (by omega) rfl) ?_) | (refine sS ?_; (conv => whnf); refine bT (by first | rfl | exact iR8 _ | exact uNN _ | exact iR (by omega) | exact iR (by rw [hw]; omega) | exact nBlt (by omega) | exact nBle (by omega) | (simp; omega)) ?_) | (refine sM ?_; (conv => whnf); refine bT (mkOK (by omega) (by omega) (by omega) rfl) ?_) | (refine sC ?_; (conv => whnf); refine bT (nBle (by first | omega | (simp; omega))) ?_) | refine bDt (by omega) ?_ | refine bDf (by omega) ?_ | refine bNt (by omega) ?_ | refine bNf (by omega) ?_ | refine bNf hk ?_ | refine call_is kP ?_ | refine bD (fun _ => ?_) (fun _ => ?_) | refine bN (fun _ => ?_) (fun _ => ?_)) <;> conv => whnf)
          rfl
        have kC' := kC p
        by_cases hN : (lookE n (legs.getD i ELg.d).s).2 = 0
        rotate_left
        · have e := hbad _ (lot_3 (e := (lookE n (legs.getD i ELg.d).s).2) hk hpf (by rw [if_neg hN]) hN) hN
          clear ih
          rw [e, if_neg hN]
          generalize lookE n (legs.getD i ELg.d).s = N at *
          conv => whnf
          repeat' ((first | with_reducible refine bT rfl ?_ | with_reducible refine bF rfl ?_ | (refine sN ?_; (conv => whnf); refine bT (by first | rfl | exact iR8 _ | exact uNN _ | exact iR (by omega) | exact iR (by rw [hw]; omega) | exact nBlt (by omega) | exact nBle (by omega) | (simp; omega)) ?_) | (refine sA ?_; (conv => whnf); refine bT (roomL (by omega) rfl) ?_) | (refine sS ?_; (conv => whnf); refine bT (by first | rfl | exact iR8 _ | exact uNN _ | exact iR (by omega) | exact iR (by rw [hw]; omega) | exact nBlt (by omega) | exact nBle (by omega) | (simp; omega)) ?_) | (refine sM ?_; (conv => whnf); refine bT (mkOK (by omega) (by omega) (by omega) rfl) ?_) | (refine sC ?_; (conv => whnf); refine bT (nBle (by first | omega | (simp; omega))) ?_) | refine bDt (by omega) ?_ | refine bDf (by omega) ?_ | refine bNt (by omega) ?_ | refine bNf (by omega) ?_ | refine bNf hk ?_ | refine call_is kP ?_ | refine call_is kN ?_ | refine bNt hN ?_ | refine bDf hN ?_ | refine bD (fun _ => ?_) (fun _ => ?_) | refine bN (fun _ => ?_) (fun _ => ?_)) <;> conv => whnf)
          all_goals rfl
        have hrk : ∀ x, carE p (legs.getD i ELg.d).q (legs.getD i ELg.d).pr (lookE n (legs.getD i ELg.d).s).1 = x → (if (lookE n (legs.getD i ELg.d).s).2 = 0 then carE p (legs.getD i ELg.d).q (legs.getD i ELg.d).pr (lookE n (legs.getD i ELg.d).s).1 else (0, (lookE n (legs.getD i ELg.d).s).2)) = x := by
          intro x e; rw [if_pos hN]; exact e
        generalize hCq : carE p (legs.getD i ELg.d).q (legs.getD i ELg.d).pr (lookE n (legs.getD i ELg.d).s).1 = C at kC'
        obtain ⟨cv, ce⟩ := C
        by_cases hC : ce = 0
        rotate_left
        · have e := hbad _ (lot_3 (e := ce) hk hpf (by rw [hrk _ hCq]) hC) hC
          clear ih
          rw [e, if_neg hC]
          generalize lookE n (legs.getD i ELg.d).s = N at *
          conv => whnf
          repeat' ((first | with_reducible refine bT rfl ?_ | with_reducible refine bF rfl ?_ | (refine sN ?_; (conv => whnf); refine bT (by first | rfl | exact iR8 _ | exact uNN _ | exact iR (by omega) | exact iR (by rw [hw]; omega) | exact nBlt (by omega) | exact nBle (by omega) | (simp; omega)) ?_) | (refine sA ?_; (conv => whnf); refine bT (roomL (by omega) rfl) ?_) | (refine sS ?_; (conv => whnf); refine bT (by first | rfl | exact iR8 _ | exact uNN _ | exact iR (by omega) | exact iR (by rw [hw]; omega) | exact nBlt (by omega) | exact nBle (by omega) | (simp; omega)) ?_) | (refine sM ?_; (conv => whnf); refine bT (mkOK (by omega) (by omega) (by omega) rfl) ?_) | (refine sC ?_; (conv => whnf); refine bT (nBle (by first | omega | (simp; omega))) ?_) | refine bDt (by omega) ?_ | refine bDf (by omega) ?_ | refine bNt (by omega) ?_ | refine bNf (by omega) ?_ | refine bNf hk ?_ | refine call_is kP ?_ | refine call_is kN ?_ | refine call_is kC' ?_ | refine bNf hN ?_ | refine bDf hC ?_ | refine bNt hC ?_ | refine bD (fun _ => ?_) (fun _ => ?_) | refine bN (fun _ => ?_) (fun _ => ?_)) <;> conv => whnf)
          all_goals rfl
        subst hC
        have e : stepL ps n (legs.getD i ELg.d) = (0, [(p.c, cv)]) := lot_4 hk hpf (hrk _ hCq)
        have hj := hnx1 (jts ++ [(p.c, cv)]) (by rw [e]) (by rw [e])
        have hl2 : (jts ++ [(p.c, cv)]).length ≤ 128 + (i + 1) := by simp; omega
        have hcl : (curIt jts p.c).length ≤ 3000 := by
          unfold curIt
          rw [List.length_map]
          have := List.length_filter_le (fun x : Int × Int => x.1 == p.c) jts
          omega
        generalize lookE n (legs.getD i ELg.d).s = N at *
        conv => whnf
        repeat' ((first | with_reducible refine bT rfl ?_ | with_reducible refine bF rfl ?_ | (refine sN ?_; (conv => whnf); refine bT (by first | rfl | exact iR8 _ | exact uNN _ | exact iR (by omega) | exact iR (by rw [hw]; omega) | exact nBlt (by omega) | exact nBle (by omega) | (simp; omega)) ?_) | (refine sA ?_; (conv => whnf); refine bT (roomL (by omega) rfl) ?_) | (refine sS ?_; (conv => whnf); refine bT (by first | rfl | exact iR8 _ | exact uNN _ | exact iR (by omega) | exact iR (by rw [hw]; omega) | exact nBlt (by omega) | exact nBle (by omega) | (simp; omega)) ?_) | (refine sM ?_; (conv => whnf); refine bT (mkOK (by omega) (by omega) (by omega) rfl) ?_) | (refine sC ?_; (conv => whnf); refine bT (nBle (by first | omega | (simp; omega))) ?_) | refine bDt (by omega) ?_ | refine bDf (by omega) ?_ | refine bNt (by omega) ?_ | refine bNf (by omega) ?_ | refine bNf hk ?_ | refine call_is kP ?_ | refine call_is kN ?_ | refine call_is kC' ?_ | refine bNf hN ?_ | refine bDt rfl ?_ | refine bNf rfl ?_ | refine st_takeV (enc := ownI) (f := curIt jts) (z := []) (c := p.c) rfl rfl rfl rfl rfl rfl rfl rfl curIt_none ?_ | refine st_setT (enc := ownI) (f := curIt jts) (c := p.c) (v := curIt jts p.c ++ [cv]) rfl rfl rfl rfl rfl rfl rfl (congrArg AV.own (EI.snoc_av rfl rfl rfl rfl rfl)) rfl (keyI_nodup jts) ?_ | refine loop_to ih ⟨(i + 1, jts ++ [(p.c, cv)]), hlt, hl2, hj.1, hj.2⟩ hm ?_ | refine bD (fun _ => ?_) (fun _ => ?_) | refine bN (fun _ => ?_) (fun _ => ?_)) <;> conv => whnf)
        rw [next_i hlt (by omega), mapI_snoc]; rfl
      · have hiq : i = legs.length := by omega
        subst hiq
        rw [List.drop_length] at hr hrr
        simp only [runE, List.append_nil] at hr hrr
        rw [hr, if_pos rfl, hrr]
        clear ih
        have hjts : jts.length ≤ 3000 := by omega
        clear hr hrr hli hi
        conv => whnf
        repeat' ((first | with_reducible refine bT rfl ?_ | with_reducible refine bF rfl ?_ | (refine sN ?_; (conv => whnf); refine bT (by first | rfl | exact iR8 _ | exact uNN _ | exact iR (by omega) | exact iR (by rw [hw]; omega) | exact nBlt (by omega) | exact nBle (by omega) | (simp; omega)) ?_) | (refine sA ?_; (conv => whnf); refine bT (roomL (by omega) rfl) ?_) | (refine sS ?_; (conv => whnf); refine bT (by first | rfl | exact iR8 _ | exact uNN _ | exact iR (by omega) | exact iR (by rw [hw]; omega) | exact nBlt (by omega) | exact nBle (by omega) | (simp; omega)) ?_) | (refine sM ?_; (conv => whnf); refine bT (mkOK (by omega) (by omega) (by omega) rfl) ?_) | (refine sC ?_; (conv => whnf); refine bT (nBle (by first | omega | (simp; omega))) ?_) | refine bDt (by omega) ?_ | refine bDf (by omega) ?_ | refine bNt (by omega) ?_ | refine bNf (by omega) ?_ | refine bD (fun _ => ?_) (fun _ => ?_) | refine bN (fun _ => ?_) (fun _ => ?_)) <;> conv => whnf)
        refine loop_by (cx := cxAc) rfl progOK (ι := {k : Nat // k ≤ 8 ∧ ∀ c ∈ List.range k, (sumE (curIt jts (c : Nat))).2 = 0}) (fun k => 8 - k.1) (fun k => ⟨[(10, .own (EI.L ((List.range k.1).map fun c => (sumE (curIt jts (c : Nat))).1))), (16, .ptr (0 + 1 + 1 + 1 + 1 + 1 + 1 + 1) 0), (80, .int .i64 k.1)],
          [.cells [EPr.L ps], .cells [EP.L held], .cells [EMk.L b], .cells [EMk.L n], .cells [.fn 95 [] [.cptr (EMk.L b)]], .cells [.fn 95 [] [.cptr (EMk.L n)]], mapI jts, .cells [.mapr (0 + 1 + 1 + 1 + 1 + 1 + 1)]], [], none⟩) ?_ ⟨0, Nat.zero_le _, by simp⟩
        rintro ⟨k, hk, hg⟩ ih
        dsimp only at hk hg ⊢
        by_cases hlt : k < 8
        · have hcl : (curIt jts (k : Nat)).length ≤ 1073741824 := by
            unfold curIt
            rw [List.length_map]
            have := List.length_filter_le (fun x : Int × Int => x.1 == (k : Nat)) jts
            omega
          have hw : IntKind.i64.wrap ((k : Int) + 1) = (k : Int) + 1 := wrap64 (by omega)
          have kS := sum (curIt jts (k : Nat)) hcl
          by_cases h0 : (sumE (curIt jts (k : Nat))).2 = 0
          · have hg' : ∀ c ∈ List.range (k + 1), (sumE (curIt jts (c : Nat))).2 = 0 := by
              intro c hc
              rw [List.range_succ, List.mem_append] at hc
              rcases hc with hc | hc
              · exact hg c hc
              · simp at hc; subst hc; exact h0
            have hsn : List.map (fun c : Nat => (sumE (curIt jts (c : Nat))).1) (List.range (k + 1)) = List.map (fun c : Nat => (sumE (curIt jts (c : Nat))).1) (List.range k) ++ [(sumE (curIt jts (k : Nat))).1] := by
              rw [List.range_succ, List.map_append]; rfl
            have hln : (List.map (fun c : Nat => (sumE (curIt jts (c : Nat))).1) (List.range k)).length = k := by simp
            conv => whnf
            repeat' ((first | with_reducible refine bT rfl ?_ | with_reducible refine bF rfl ?_ | (refine sN ?_; (conv => whnf); refine bT (by first | rfl | exact iR8 _ | exact uNN _ | exact iR (by omega) | exact iR (by rw [hw]; omega) | exact nBlt (by omega) | exact nBle (by omega) | (simp; omega)) ?_) | (refine sA ?_; (conv => whnf); refine bT (roomL (by omega) rfl) ?_) | (refine sS ?_; (conv => whnf); refine bT (by first | rfl | exact iR8 _ | exact uNN _ | exact iR (by omega) | exact iR (by rw [hw]; omega) | exact nBlt (by omega) | exact nBle (by omega) | (simp; omega)) ?_) | (refine sM ?_; (conv => whnf); refine bT (mkOK (by omega) (by omega) (by omega) rfl) ?_) | (refine sC ?_; (conv => whnf); refine bT (nBle (by first | omega | (simp; omega))) ?_) | refine bDt (by omega) ?_ | refine bDf (by omega) ?_ | refine bNt (by omega) ?_ | refine bNf (by omega) ?_ | refine st_lookV (enc := ownI) (f := curIt jts) (z := []) (c := (k : Nat)) rfl rfl rfl rfl rfl rfl rfl rfl curIt_none ?_ | refine call_is kS ?_ | refine bDf h0 ?_ | refine bNf h0 ?_ | refine loop_to ih ⟨k + 1, hlt, hg'⟩ (show 8 - (k + 1) < 8 - k by omega) ?_ | refine bD (fun _ => ?_) (fun _ => ?_) | refine bN (fun _ => ?_) (fun _ => ?_)) <;> conv => whnf)
            rw [hw]
            refine st_eq ?_ ?_
            all_goals repeat' (first | exact rfl | refine env_cons ?_ ?_ | refine heap_cons ?_ ?_)
            · exact congrArg AV.own (by rw [hsn]; exact EI.snoc_av rfl rfl rfl rfl rfl)
          · have e : sumsE jts = ([], 3) := by
              unfold sumsE
              rw [if_neg fun h => h0 (h k (List.mem_range.2 hlt))]
            clear ih
            rw [e]
            conv => whnf
            repeat' ((first | with_reducible refine bT rfl ?_ | with_reducible refine bF rfl ?_ | (refine sN ?_; (conv => whnf); refine bT (by first | rfl | exact iR8 _ | exact uNN _ | exact iR (by omega) | exact iR (by rw [hw]; omega) | exact nBlt (by omega) | exact nBle (by omega) | (simp; omega)) ?_) | (refine sA ?_; (conv => whnf); refine bT (roomL (by omega) rfl) ?_) | (refine sS ?_; (conv => whnf); refine bT (by first | rfl | exact iR8 _ | exact uNN _ | exact iR (by omega) | exact iR (by rw [hw]; omega) | exact nBlt (by omega) | exact nBle (by omega) | (simp; omega)) ?_) | (refine sM ?_; (conv => whnf); refine bT (mkOK (by omega) (by omega) (by omega) rfl) ?_) | (refine sC ?_; (conv => whnf); refine bT (nBle (by first | omega | (simp; omega))) ?_) | refine bDt (by omega) ?_ | refine bDf (by omega) ?_ | refine bNt (by omega) ?_ | refine bNf (by omega) ?_ | refine st_lookV (enc := ownI) (f := curIt jts) (z := []) (c := (k : Nat)) rfl rfl rfl rfl rfl rfl rfl rfl curIt_none ?_ | refine call_is kS ?_ | refine bDt h0 ?_ | refine bNt h0 ?_ | refine bD (fun _ => ?_) (fun _ => ?_) | refine bN (fun _ => ?_) (fun _ => ?_)) <;> conv => whnf)
            rfl
        · have hk8 : k = 8 := by omega
          subst hk8
          clear ih
          have e : sumsE jts = ((List.range 8).map fun c => (sumE (curIt jts (c : Nat))).1, 0) := by
            unfold sumsE
            rw [if_pos hg]
          rw [e]
          conv => whnf
          repeat' ((first | with_reducible refine bT rfl ?_ | with_reducible refine bF rfl ?_ | (refine sN ?_; (conv => whnf); refine bT (by first | rfl | exact iR8 _ | exact uNN _ | exact iR (by omega) | exact iR (by rw [hw]; omega) | exact nBlt (by omega) | exact nBle (by omega) | (simp; omega)) ?_) | (refine sA ?_; (conv => whnf); refine bT (roomL (by omega) rfl) ?_) | (refine sS ?_; (conv => whnf); refine bT (by first | rfl | exact iR8 _ | exact uNN _ | exact iR (by omega) | exact iR (by rw [hw]; omega) | exact nBlt (by omega) | exact nBle (by omega) | (simp; omega)) ?_) | (refine sM ?_; (conv => whnf); refine bT (mkOK (by omega) (by omega) (by omega) rfl) ?_) | (refine sC ?_; (conv => whnf); refine bT (nBle (by first | omega | (simp; omega))) ?_) | refine bDt (by omega) ?_ | refine bDf (by omega) ?_ | refine bNt (by omega) ?_ | refine bNf (by omega) ?_ | refine bD (fun _ => ?_) (fun _ => ?_) | refine bN (fun _ => ?_) (fun _ => ?_)) <;> conv => whnf)
          rfl
end Go.Proofs

