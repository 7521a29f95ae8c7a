import Derived.Test.YtflebdkgdnfjoaaLQ
import Derived.Test.YtflebdkgdnfjoaaMiHist
import Derived.Test.YtflebdkgdnfjoaaAxEnc2
/- Losses parted by k: what is whole, and what is beside. Numbers alone. -/
namespace Go.Proofs
theorem ed_unique {x k q t : Int} (hk : 0 < k) (h : x = q * k + t) (h1 : 0 ≤ t) (h2 : t < k) : x / k = q ∧ x % k = t :=
  (Int.ediv_emod_unique hk).2 ⟨by rw [h, Int.mul_comm]; omega, h1, h2⟩
theorem t_facts (x : Int) {k : Int} (hk : 0 < k) : x = x.tdiv k * k + x.tmod k ∧ -k < x.tmod k ∧ x.tmod k < k := by
  refine ⟨?_, Int.lt_tmod_of_pos x hk, Int.tmod_lt_of_pos x hk⟩
  have := Int.mul_tdiv_add_tmod x k
  rw [Int.mul_comm] at this
  omega
theorem t_rest (x : Int) {k : Int} (hk : 0 < k) : (x.tmod k + k).tmod k = x % k := by
  obtain ⟨h1, h2, h3⟩ := t_facts x hk
  rw [Int.tmod_eq_emod_of_nonneg (by omega), Int.add_emod_right]
  have h4 : x % k = (x.tmod k + x.tdiv k * k) % k := by rw [Int.add_comm]; exact congrArg (· % k) h1
  rw [h4, Int.add_mul_emod_self_right]
theorem t_whole (x : Int) {k : Int} (hk : 0 < k) : (x - x % k).tdiv k = x / k := by
  have h := Int.mul_ediv_add_emod x k
  rw [show x - x % k = k * (x / k) by omega]
  exact Int.mul_tdiv_cancel_left _ (by omega)
theorem t_down (x : Int) {k : Int} (hk : 0 < k) : (if x < x.tdiv k * k then x.tdiv k - 1 else x.tdiv k) = x / k := by
  obtain ⟨h1, h2, h3⟩ := t_facts x hk
  split
  · exact (ed_unique (t := x.tmod k + k) hk (by rw [Int.sub_mul]; omega) (by omega) (by omega)).1.symm
  · exact (ed_unique hk h1 (by omega) h3).1.symm
theorem t_down2 (x : Int) {k : Int} (hk : 0 < k) : (x < x.tdiv k * k → x / k = x.tdiv k - 1 ∧ x - (x.tdiv k - 1) * k = x % k) ∧ (¬ x < x.tdiv k * k → x / k = x.tdiv k ∧ x - x.tdiv k * k = x % k) := by
  obtain ⟨h1, h2, h3⟩ := t_facts x hk
  refine ⟨fun h => ?_, fun h => ?_⟩
  · have h5 : (x.tdiv k - 1) * k = x.tdiv k * k - k := by rw [Int.sub_mul]; omega
    obtain ⟨e1, e2⟩ := ed_unique (x := x) (q := x.tdiv k - 1) (t := x.tmod k + k) hk (by omega) (by omega) (by omega)
    exact ⟨e1, by omega⟩
  · obtain ⟨e1, e2⟩ := ed_unique (x := x) (q := x.tdiv k) (t := x.tmod k) hk h1 (by omega) h3
    exact ⟨e1, by omega⟩
theorem sum_snoc (l : List Int) (x : Int) : (l ++ [x]).sum = l.sum + x := by simp
/-- A sum of wholes stays small. -/
theorem whole_b {k : Int} (hk : 0 < k) {l : List Int} (hl : (l.length : Int) ≤ k) (h : ∀ x ∈ l, fitP x) : -1152921504606846976 - k ≤ (l.map (· / k)).sum ∧ (l.map (· / k)).sum ≤ 1152921504606846976 := by
  have h1 := sum_b (l := l) (f := (· / k)) (a := -1152921504606846976 / k) (b := 1152921504606846976 / k) fun x hx => by
    have := fitP_b (h x hx)
    exact ⟨Int.ediv_le_ediv hk this.1, Int.ediv_le_ediv hk this.2⟩
  have h2 := Int.mul_ediv_add_emod (-1152921504606846976) k
  have h3 := Int.mul_ediv_add_emod 1152921504606846976 k
  have h4 := Int.emod_nonneg (-1152921504606846976) (show k ≠ 0 by omega)
  have h5 := Int.emod_lt_of_pos (-1152921504606846976) hk
  have h6 := Int.emod_nonneg 1152921504606846976 (show k ≠ 0 by omega)
  have hn : (0 : Int) ≤ l.length := Int.natCast_nonneg _
  have h7 : (-1152921504606846976 / k) ≤ 0 := Int.le_of_lt_add_one (by have := Int.ediv_neg_of_neg_of_pos (a := -1152921504606846976) (b := k) (by decide) hk; omega)
  have h8 : 0 ≤ 1152921504606846976 / k := Int.ediv_nonneg (by decide) (by omega)
  generalize -1152921504606846976 / k = A at *
  generalize 1152921504606846976 / k = B at *
  have h9 := Int.mul_le_mul_of_nonneg_left hl h8
  have h10 := Int.mul_le_mul_of_nonpos_left h7 hl
  rw [Int.mul_comm] at h2 h3
  constructor
  · omega
  · omega
theorem rest_b {k : Int} (hk : 0 < k) {l : List Int} (hl : (l.length : Int) ≤ k) (hm : k ≤ 512) : 0 ≤ (l.map (· % k)).sum ∧ (l.map (· % k)).sum ≤ 262144 := by
  have h1 := sum_b (l := l) (f := (· % k)) (a := 0) (b := 511) fun x _ => by
    have := Int.emod_nonneg x (show k ≠ 0 by omega)
    have := Int.emod_lt_of_pos x hk
    omega
  omega
theorem one_b {k x : Int} (hk : 0 < k) (h : fitP x) : -1152921504606846976 - k ≤ x / k ∧ x / k ≤ 1152921504606846976 ∧ 0 ≤ x % k ∧ x % k < k := by
  have := whole_b hk (l := [x]) (by simp; omega) (fun y hy => by rw [List.mem_singleton.1 hy]; exact h)
  simp at this
  exact ⟨this.1, this.2, Int.emod_nonneg x (by omega), Int.emod_lt_of_pos x hk⟩
end Go.Proofs

set_option linter.unusedVariables false
set_option linter.unusedSimpArgs false
namespace Go.Proofs
open Ax Go
set_option maxRecDepth 10000
def keepWo (f r : Nat) : Option (List Nat) := match f, r with
  | 116, 2 => some [0, 1, 7, 8]
  | 35, 6 => some [1, 4, 7, 20, 21, 22]
  | 82, 6 => some [0, 5]
  | 83, 3 => some [0, 3, 4]
  | 83, 7 => some [0, 3, 4, 5]
  | 36, 7 => some [1, 7, 8, 9, 10]
  | 30, 4 => some [0, 1, 5]
  | _, _ => none
def keepXWo (f r : Nat) : Option (List Nat) := match f, r with
  | 116, 2 => some [4]
  | 35, 6 => some [1, 4, 7]
  | 82, 6 => some [4]
  | 83, 3 => some [3]
  | 83, 7 => some [0, 3, 4]
  | 36, 7 => some [1, 8, 9]
  | 30, 4 => some [4]
  | _, _ => none
def ghWo (f r : Nat) : List Ghost := match f, r with
  | 81, 6 => [.adopt 6]
  | 81, 8 => [.freeze 6]
  | _, _ => []
noncomputable def cxWo : Ctx where
  P := Try.prog
  inl := fun f => memN f [78, 116, 118]
  keep := keepWo
  keepX := keepXWo
  xf := fun _ _ _ => false
  ow := fun _ => false
  gh := ghWo
  gf := fun _ => []
  ln := fun _ => false
  srt := srtT
theorem okWo {f a Q} (h : stepCall (SX Try.prog calmT) cxWo calmT f a Q) : CallOK Try.prog f a Q := okOf (cx := cxWo) rfl progOK h
def sortD (l : List Int) : List Int := l.mergeSort fun a b => decide (b ≤ a)
theorem sortD_perm (l : List Int) : (sortD l).Perm l := List.mergeSort_perm l _
theorem sortD_sorted (l : List Int) : (sortD l).Pairwise fun a b => b ≤ a :=
  (List.pairwise_mergeSort (le := fun a b => decide (b ≤ a)) (fun a b c h1 h2 => by simp at *; omega) (fun a b => by simp; omega) l).imp fun h => by simpa using h
theorem sortD_eq {l m : List Int} (h1 : m.Perm l) (h2 : m.Pairwise fun a b => b ≤ a) : m = sortD l :=
  List.Perm.eq_of_pairwise (fun a b _ _ h h' => by omega) h2 (sortD_sorted l) (h1.trans (sortD_perm l).symm)
def worE (l : List Int) (k : Int) : List Int × Int :=
  if 512 < l.length then ([], 8) else if k < 1 ∨ (l.length : Int) < k ∨ ¬ (∀ x ∈ l, fitP x) then ([], 2) else ((sortD l).take k.toNat, 0)
def decI : AV → Int
  | .int _ n => n
  | _ => 0
def cI (a b : AV) : Int := cmpI (decI b) (decI a)
theorem cmpI_lt {a b : Int} : cmpI a b < 0 ↔ a < b := by
  unfold cmpI
  split
  · omega
  · split <;> omega
theorem swoI : Swo cI := ⟨fun a => by simp [cI, cmpI_self], fun a b d h1 h2 => by rw [cI, cmpI_lt] at *; omega, fun a b d h1 h2 => by rw [cI, cmpI_lt] at *; omega⟩
theorem worst2 (a b : Int) : CallOK Try.prog 120 [.int .i64 a, .int .i64 b] (fun r => r = .int .i64 (cmpI b a)) := by
  refine okWo ?_
  conv => whnf
  repeat' ((first | with_reducible refine bT rfl ?_ | with_reducible refine bF rfl ?_ | (refine sN ?_; (conv => whnf); refine bT (by first | rfl | exact iR8 _ | exact uNN _ | exact iR (by omega) | exact iR (by rw [hw]; omega) | exact nBlt (by omega) | exact nBle (by omega) | (simp; omega)) ?_) | (refine sA ?_; (conv => whnf); refine bT (roomL (by omega) rfl) ?_) | (refine sS ?_; (conv => whnf); refine bT (by first | rfl | exact iR8 _ | exact uNN _ | exact iR (by omega) | exact iR (by rw [hw]; omega) | exact nBlt (by omega) | exact nBle (by omega) | (simp; omega)) ?_) | (refine sM ?_; (conv => whnf); refine bT (mkOK (by omega) (by omega) (by omega) rfl) ?_) | (refine sC ?_; (conv => whnf); refine bT (nBle (by first | omega | (simp; omega))) ?_) | refine bDt (by omega) ?_ | refine bDf (by omega) ?_ | refine bNt (by omega) ?_ | refine bNf (by omega) ?_ | refine call_is (cmpInt _ _) ?_ | refine bD (fun _ => ?_) (fun _ => ?_) | refine bN (fun _ => ?_) (fun _ => ?_)) <;> conv => whnf)
  all_goals rfl
theorem sort_by {L L' : List AV} {cmp : AV → AV → (AV → Prop) → Prop} {K : List AV → Prop} (h : L = L') (hs : sortP L' cmp K) : sortP L cmp K := h ▸ hs
theorem splice_all {g g' : Nat → AV} {n i : Nat} (h : i < n) : splice g 0 n g' i = g' i := by
  have h1 : Nat.blt i (0 + n) = true := by rw [Nat.blt_eq]; omega
  simp only [splice, h1, Nat.sub_zero, Bool.and_true, show Nat.ble 0 i = true from Nat.ble_eq_true_of_le (Nat.zero_le _), cond_true]
theorem sort_in (l : List Int) : (List.range (l.length : Int).toNat).map (fun i => oneOf (tySz Try.prog 3) (splice (fun _ => zeroElem Try.prog 3) 0 (min l.length (l.length : Int).toNat) (fun i => EI.f (l.getD i EI.d)) i)) = l.map EI.f := by
  rw [Int.toNat_natCast, Nat.min_self]
  apply List.ext_getElem
  · simp
  · intro i h1 h2
    simp only [List.getElem_map, List.getElem_range]
    have hi : i < l.length := by simpa using h2
    rw [splice_all hi, List.getD_eq_getElem?_getD, List.getElem?_eq_getElem hi]
    rfl
theorem sort_out {l : List Int} {l' : List AV} (hp : l'.Perm (l.map EI.f)) (hs : l'.Pairwise fun a b => ¬ cI b a < 0) : l' = (sortD l).map EI.f := by
  have e1 : ∀ a ∈ l', EI.f (decI a) = a := fun a ha => by
    obtain ⟨k, _, rfl⟩ := List.mem_map.1 (hp.mem_iff.1 ha); rfl
  have e2 : (l'.map decI).map EI.f = l' := by
    rw [List.map_map]
    calc l'.map (EI.f ∘ decI) = l'.map id := List.map_congr_left e1
      _ = l' := List.map_id _
  have e3 : (l'.map decI).Perm l := by
    have := hp.map decI
    rw [List.map_map, show decI ∘ EI.f = id from rfl, List.map_id] at this
    exact this
  rw [← e2, sortD_eq e3]
  exact List.pairwise_map.2 (hs.imp fun h => by rw [cI, cmpI_lt] at h; omega)
theorem take_av {L : List Int} {k : Nat} {g : Nat → AV} {z : AV} (hk : k ≤ L.length) (hz : z = EI.f 0) (hg : ∀ j, j < L.length → g j = EI.f (L.getD j 0)) : AV.vec 1 (k - 0) (vsub z g 0 (k - 0)) = EI.L (L.take k) := by
  have e : vsub z g 0 (k - 0) = fun j => EI.f ((L.take k).getD j EI.d) := by
    funext j
    by_cases h : j < k
    · rw [vsub_get (by omega), Nat.zero_add, hg j (by omega), List.getD_eq_getElem?_getD, List.getD_eq_getElem?_getD, List.getElem?_take_of_lt h]; rfl
    · have e1 : Nat.blt j (k - 0) = false := by rw [Bool.eq_false_iff, ne_eq, Nat.blt_eq]; omega
      simp only [vsub, e1, cond_false]
      rw [hz, List.getD_eq_getElem?_getD, List.getElem?_eq_none (by rw [List.length_take]; omega)]; rfl
  rw [e, Nat.sub_zero, Enc.L, List.length_take_of_le hk]; rfl
theorem worst (l : List Int) (k : Int) (hl : l.length ≤ 9223372036854775807) : CallOK Try.prog 81 [EI.L l, .int .i64 k] (fun r => r = lossAV (worE l k)) := by
  refine okWo ?_
  unfold worE
  by_cases h1 : 512 < l.length
  · rw [if_pos h1]
    conv => whnf
    repeat' ((first | with_reducible refine bT rfl ?_ | with_reducible refine bF rfl ?_ | (refine sN ?_; (conv => whnf); refine bT (by first | rfl | exact iR8 _ | exact uNN _ | exact iR (by omega) | exact iR (by rw [hw]; omega) | exact nBlt (by omega) | exact nBle (by omega) | (simp; omega)) ?_) | (refine sA ?_; (conv => whnf); refine bT (roomL (by omega) rfl) ?_) | (refine sS ?_; (conv => whnf); refine bT (by first | rfl | exact iR8 _ | exact uNN _ | exact iR (by omega) | exact iR (by rw [hw]; omega) | exact nBlt (by omega) | exact nBle (by omega) | (simp; omega)) ?_) | (refine sM ?_; (conv => whnf); refine bT (mkOK (by omega) (by omega) (by omega) rfl) ?_) | (refine sC ?_; (conv => whnf); refine bT (nBle (by first | omega | (simp; omega))) ?_) | refine bDt (by omega) ?_ | refine bDf (by omega) ?_ | refine bNt (by omega) ?_ | refine bNf (by omega) ?_ | refine bD (fun _ => ?_) (fun _ => ?_) | refine bN (fun _ => ?_) (fun _ => ?_)) <;> conv => whnf)
    exact congrArg (fun a => AV.tup [a, _]) (Enc.nil_av (E := EI) rfl rfl rfl)
  rw [if_neg h1]
  by_cases h2 : k < 1 ∨ (l.length : Int) < k
  · rw [if_pos (by omega)]
    conv => whnf
    repeat' ((first | with_reducible refine bT rfl ?_ | with_reducible refine bF rfl ?_ | (refine sN ?_; (conv => whnf); refine bT (by first | rfl | exact iR8 _ | exact uNN _ | exact iR (by omega) | exact iR (by rw [hw]; omega) | exact nBlt (by omega) | exact nBle (by omega) | (simp; omega)) ?_) | (refine sA ?_; (conv => whnf); refine bT (roomL (by omega) rfl) ?_) | (refine sS ?_; (conv => whnf); refine bT (by first | rfl | exact iR8 _ | exact uNN _ | exact iR (by omega) | exact iR (by rw [hw]; omega) | exact nBlt (by omega) | exact nBle (by omega) | (simp; omega)) ?_) | (refine sM ?_; (conv => whnf); refine bT (mkOK (by omega) (by omega) (by omega) rfl) ?_) | (refine sC ?_; (conv => whnf); refine bT (nBle (by first | omega | (simp; omega))) ?_) | refine bDt (by omega) ?_ | refine bDf (by omega) ?_ | refine bNt (by omega) ?_ | refine bNf (by omega) ?_ | refine bD (fun _ => ?_) (fun _ => ?_) | refine bN (fun _ => ?_) (fun _ => ?_)) <;> conv => whnf)
    all_goals first | exact congrArg (fun a => AV.tup [a, _]) (Enc.nil_av (E := EI) rfl rfl rfl) | (exfalso; omega)
  conv => whnf
  repeat' ((first | with_reducible refine bT rfl ?_ | with_reducible refine bF rfl ?_ | (refine sN ?_; (conv => whnf); refine bT (by first | rfl | exact iR8 _ | exact uNN _ | exact iR (by omega) | exact iR (by rw [hw]; omega) | exact nBlt (by omega) | exact nBle (by omega) | (simp; omega)) ?_) | (refine sA ?_; (conv => whnf); refine bT (roomL (by omega) rfl) ?_) | (refine sS ?_; (conv => whnf); refine bT (by first | rfl | exact iR8 _ | exact uNN _ | exact iR (by omega) | exact iR (by rw [hw]; omega) | exact nBlt (by omega) | exact nBle (by omega) | (simp; omega)) ?_) | (refine sM ?_; (conv => whnf); refine bT (mkOK (by omega) (by omega) (by omega) rfl) ?_) | (refine sC ?_; (conv => whnf); refine bT (nBle (by first | omega | (simp; omega))) ?_) | refine bDt (by omega) ?_ | refine bDf (by omega) ?_ | refine bNt (by omega) ?_ | refine bNf (by omega) ?_ | refine bD (fun _ => ?_) (fun _ => ?_) | refine bN (fun _ => ?_) (fun _ => ?_)) <;> conv => whnf)
  refine loop_by (cx := cxWo) rfl progOK (ι := {j : Nat // j ≤ l.length ∧ ∀ x ∈ l.take j, fitP x}) (fun j => l.length - j.1) (fun j => ⟨[(0, EI.L l), (1, .fn 118 [] []), (7, .int .i64 l.length), (8, .int .i64 j.1)], [], [], none⟩) ?_ ⟨0, Nat.zero_le _, by simp⟩
  rintro ⟨j, hj, hn⟩ ih
  dsimp only
  by_cases hjl : j < l.length
  · by_cases hx : fitP (l.getD j 0)
    · conv => whnf
      repeat' ((first | with_reducible refine bT rfl ?_ | with_reducible refine bF rfl ?_ | (refine sN ?_; (conv => whnf); refine bT (by first | rfl | exact iR8 _ | exact uNN _ | exact iR (by omega) | exact iR (by rw [hw]; omega) | exact nBlt (by omega) | exact nBle (by omega) | (simp; omega)) ?_) | (refine sA ?_; (conv => whnf); refine bT (roomL (by omega) rfl) ?_) | (refine sS ?_; (conv => whnf); refine bT (by first | rfl | exact iR8 _ | exact uNN _ | exact iR (by omega) | exact iR (by rw [hw]; omega) | exact nBlt (by omega) | exact nBle (by omega) | (simp; omega)) ?_) | (refine sM ?_; (conv => whnf); refine bT (mkOK (by omega) (by omega) (by omega) rfl) ?_) | (refine sC ?_; (conv => whnf); refine bT (nBle (by first | omega | (simp; omega))) ?_) | refine bDt (by omega) ?_ | refine bDf (by omega) ?_ | refine bNt (by omega) ?_ | refine bNf (by omega) ?_ | refine call_is (fits _) ?_ | refine bNf hx ?_ | refine loop_to ih ⟨j + 1, hjl, fit_step hn hjl hx⟩ (show l.length - (j + 1) < l.length - j by omega) ?_ | refine bD (fun _ => ?_) (fun _ => ?_) | refine bN (fun _ => ?_) (fun _ => ?_)) <;> conv => whnf)
      rw [next_i hjl (by omega)]; rfl
    · rw [if_pos (.inr (.inr (fun h => hx (fit_get h hjl))))]
      conv => whnf
      repeat' ((first | with_reducible refine bT rfl ?_ | with_reducible refine bF rfl ?_ | (refine sN ?_; (conv => whnf); refine bT (by first | rfl | exact iR8 _ | exact uNN _ | exact iR (by omega) | exact iR (by rw [hw]; omega) | exact nBlt (by omega) | exact nBle (by omega) | (simp; omega)) ?_) | (refine sA ?_; (conv => whnf); refine bT (roomL (by omega) rfl) ?_) | (refine sS ?_; (conv => whnf); refine bT (by first | rfl | exact iR8 _ | exact uNN _ | exact iR (by omega) | exact iR (by rw [hw]; omega) | exact nBlt (by omega) | exact nBle (by omega) | (simp; omega)) ?_) | (refine sM ?_; (conv => whnf); refine bT (mkOK (by omega) (by omega) (by omega) rfl) ?_) | (refine sC ?_; (conv => whnf); refine bT (nBle (by first | omega | (simp; omega))) ?_) | refine bDt (by omega) ?_ | refine bDf (by omega) ?_ | refine bNt (by omega) ?_ | refine bNf (by omega) ?_ | refine call_is (fits _) ?_ | refine bNt hx ?_ | refine bD (fun _ => ?_) (fun _ => ?_) | refine bN (fun _ => ?_) (fun _ => ?_)) <;> conv => whnf)
      exact congrArg (fun a => AV.tup [a, _]) (Enc.nil_av (E := EI) rfl rfl rfl)
  · obtain rfl : j = l.length := by omega
    rw [List.take_length] at hn
    rw [if_neg (fun h => h.elim (by omega) (fun h => h.elim (by omega) (fun h => h hn)))]
    clear ih
    conv => whnf
    repeat' ((first | with_reducible refine bT rfl ?_ | with_reducible refine bF rfl ?_ | (refine sN ?_; (conv => whnf); refine bT (by first | rfl | exact iR8 _ | exact uNN _ | exact iR (by omega) | exact iR (by rw [hw]; omega) | exact nBlt (by omega) | exact nBle (by omega) | (simp; omega)) ?_) | (refine sA ?_; (conv => whnf); refine bT (roomL (by omega) rfl) ?_) | (refine sS ?_; (conv => whnf); refine bT (by first | rfl | exact iR8 _ | exact uNN _ | exact iR (by omega) | exact iR (by rw [hw]; omega) | exact nBlt (by omega) | exact nBle (by omega) | (simp; omega)) ?_) | (refine sM ?_; (conv => whnf); refine bT (mkOK (by omega) (by omega) (by omega) rfl) ?_) | (refine sC ?_; (conv => whnf); refine bT (nBle (by first | omega | (simp; omega))) ?_) | refine bDt (by omega) ?_ | refine bDf (by omega) ?_ | refine bNt (by omega) ?_ | refine bNf (by omega) ?_ | refine bD (fun _ => ?_) (fun _ => ?_) | refine bN (fun _ => ?_) (fun _ => ?_)) <;> conv => whnf)
    have hmm : ((tySz Try.prog 3).beq (tySz Try.prog 3) && (tySz Try.prog 3).beq (cxWo.srt 119) && Nat.beq 0 0 && (l.length : Int).toNat.beq (l.length : Int).toNat) = true := by
      rw [Nat.beq_refl ((l.length : Int).toNat)]; rfl
    refine cond_t hmm ?_
    conv => whnf
    refine sort_by (L' := l.map EI.f) (sort_in l) ⟨by rw [List.length_map]; omega, cI, ?_, swoI, fun l' hp hs => ?_⟩
    · intro a ha b hb
      obtain ⟨x, _, rfl⟩ := List.mem_map.1 ha
      obtain ⟨y, _, rfl⟩ := List.mem_map.1 hb
      exact call_is (worst2 x y) rfl
    · rw [sort_out hp hs]
      clear hp hs hmm
      conv => whnf
      repeat' ((first | with_reducible refine bT rfl ?_ | with_reducible refine bF rfl ?_ | (refine sN ?_; (conv => whnf); refine bT (by first | rfl | exact iR8 _ | exact uNN _ | exact iR (by omega) | exact iR (by rw [hw]; omega) | exact nBlt (by omega) | exact nBle (by omega) | (simp; omega)) ?_) | (refine sA ?_; (conv => whnf); refine bT (roomL (by omega) rfl) ?_) | (refine sS ?_; (conv => whnf); refine bT (by first | rfl | exact iR8 _ | exact uNN _ | exact iR (by omega) | exact iR (by rw [hw]; omega) | exact nBlt (by omega) | exact nBle (by omega) | (simp; omega)) ?_) | (refine sM ?_; (conv => whnf); refine bT (mkOK (by omega) (by omega) (by omega) rfl) ?_) | (refine sC ?_; (conv => whnf); refine bT (nBle (by first | omega | (simp; omega))) ?_) | refine bDt (by omega) ?_ | refine bDf (by omega) ?_ | refine bNt (by omega) ?_ | refine bNf (by omega) ?_ | refine st_ghosts (ghost_freeze (q := 6) rfl rfl (Nat.le_of_eq (Nat.zero_add _))) ?_ | refine bD (fun _ => ?_) (fun _ => ?_) | refine bN (fun _ => ?_) (fun _ => ?_)) <;> conv => whnf)
      have hk : k.toNat ≤ (sortD l).length := by rw [(sortD_perm l).length_eq]; omega
      refine congrArg (fun a => AV.tup [a, _]) (take_av hk rfl fun j hj => ?_)
      rw [(sortD_perm l).length_eq] at hj
      rw [splice_all (show 0 + j < (l.length : Int).toNat by rw [Int.toNat_natCast]; omega), vlist, Nat.zero_add, List.getD_eq_getElem?_getD, List.getD_eq_getElem?_getD, List.getElem?_map, List.getElem?_eq_getElem (by rw [(sortD_perm l).length_eq]; exact hj)]
      rfl
theorem worE_0 {l : List Int} {k : Int} (h1 : (worE l k).2 = 0) : l.length ≤ 512 ∧ 1 ≤ k ∧ k ≤ l.length ∧ (∀ x ∈ l, fitP x) ∧ (worE l k).1 = (sortD l).take k.toNat ∧ ((sortD l).take k.toNat).length = k.toNat := by
  unfold worE at h1 ⊢
  split at h1
  · cases h1
  · split at h1
    · cases h1
    · rename_i h2 h3
      have h3 := not_or.1 h3
      have h4 := not_or.1 h3.2
      rw [if_neg h2, if_neg (fun h => h.elim h3.1 (fun h => h.elim h4.1 h4.2))]
      exact ⟨by omega, by omega, by omega, Classical.not_not.1 h4.2, rfl, by rw [List.length_take_of_le]; rw [(sortD_perm l).length_eq]; omega⟩
def kthE (l : List Int) (k : Int) : Int × Int := if (worE l k).2 = 0 then ((sortD l).getD (k.toNat - 1) 0, 0) else (0, (worE l k).2)
theorem kth (l : List Int) (k : Int) (hl : l.length ≤ 9223372036854775807) : CallOK Try.prog 33 [EI.L l, .int .i64 k] (fun r => r = tup2 (kthE l k)) := by
  refine okWo ?_
  have hw0 := worst l k hl
  unfold kthE
  by_cases h1 : (worE l k).2 = 0
  · rw [if_pos h1]
    obtain ⟨g1, g2, g3, g4, h3, g6⟩ := worE_0 h1
    have h4 : (worE l k).1.length = k.toNat := by rw [h3, g6]
    have hw : IntKind.i64.wrap (k - 1) = k - 1 := wrap64 (by omega)
    conv => whnf
    repeat' ((first | with_reducible refine bT rfl ?_ | with_reducible refine bF rfl ?_ | (refine sN ?_; (conv => whnf); refine bT (by first | rfl | exact iR8 _ | exact uNN _ | exact iR (by omega) | exact iR (by rw [hw]; omega) | exact nBlt (by omega) | exact nBle (by omega) | (simp; omega)) ?_) | (refine sA ?_; (conv => whnf); refine bT (roomL (by omega) rfl) ?_) | (refine sS ?_; (conv => whnf); refine bT (by first | rfl | exact iR8 _ | exact uNN _ | exact iR (by omega) | exact iR (by rw [hw]; omega) | exact nBlt (by omega) | exact nBle (by omega) | (simp; omega)) ?_) | (refine sM ?_; (conv => whnf); refine bT (mkOK (by omega) (by omega) (by omega) rfl) ?_) | (refine sC ?_; (conv => whnf); refine bT (nBle (by first | omega | (simp; omega))) ?_) | refine bDt (by omega) ?_ | refine bDf (by omega) ?_ | refine bNt (by omega) ?_ | refine bNf (by omega) ?_ | refine call_is hw0 ?_ | refine bDt h1 ?_ | refine bNf h1 ?_ | refine bD (fun _ => ?_) (fun _ => ?_) | refine bN (fun _ => ?_) (fun _ => ?_)) <;> conv => whnf)
    rw [hw, show (k - 1).toNat = k.toNat - 1 by omega, h3, List.getD_eq_getElem?_getD, List.getElem?_take_of_lt (by omega), ← List.getD_eq_getElem?_getD]
    rfl
  · rw [if_neg h1]
    conv => whnf
    repeat' ((first | with_reducible refine bT rfl ?_ | with_reducible refine bF rfl ?_ | (refine sN ?_; (conv => whnf); refine bT (by first | rfl | exact iR8 _ | exact uNN _ | exact iR (by omega) | exact iR (by rw [hw]; omega) | exact nBlt (by omega) | exact nBle (by omega) | (simp; omega)) ?_) | (refine sA ?_; (conv => whnf); refine bT (roomL (by omega) rfl) ?_) | (refine sS ?_; (conv => whnf); refine bT (by first | rfl | exact iR8 _ | exact uNN _ | exact iR (by omega) | exact iR (by rw [hw]; omega) | exact nBlt (by omega) | exact nBle (by omega) | (simp; omega)) ?_) | (refine sM ?_; (conv => whnf); refine bT (mkOK (by omega) (by omega) (by omega) rfl) ?_) | (refine sC ?_; (conv => whnf); refine bT (nBle (by first | omega | (simp; omega))) ?_) | refine bDt (by omega) ?_ | refine bDf (by omega) ?_ | refine bNt (by omega) ?_ | refine bNf (by omega) ?_ | refine call_is hw0 ?_ | refine bDf h1 ?_ | refine bNt h1 ?_ | refine bD (fun _ => ?_) (fun _ => ?_) | refine bN (fun _ => ?_) (fun _ => ?_)) <;> conv => whnf)
    all_goals rfl
def shoE (l : List Int) (k : Int) : Int × Int :=
  if (worE l k).2 = 0 then (max (((((sortD l).take k.toNat)).map (· / k)).sum + ((((sortD l).take k.toNat).map (· % k)).sum + k - 1) / k) 0, 0) else (0, (worE l k).2)
theorem short_end {n r k : Int} (hk : 0 < k) (hm : k ≤ 512) (b1 : -1152921504606846976 - k ≤ n ∧ n ≤ 1152921504606846976) (b2 : 0 ≤ r ∧ r ≤ 262144) :
    (if IntKind.i64.wrap (n + IntKind.i64.wrap ((IntKind.i64.wrap (IntKind.i64.wrap (r + k) - 1)).tdiv k)) < 0 then (0 : Int) else IntKind.i64.wrap (n + IntKind.i64.wrap ((IntKind.i64.wrap (IntKind.i64.wrap (r + k) - 1)).tdiv k))) = max (n + (r + k - 1) / k) 0 := by
  have h1 : 0 ≤ (r + k - 1) / k := Int.ediv_nonneg (by omega) (by omega)
  have h2 : (r + k - 1) / k ≤ r + k - 1 := Int.ediv_le_self k (by omega)
  rw [wrap64 (x := r + k) (by omega), wrap64 (x := r + k - 1) (by omega), Int.tdiv_eq_ediv_of_nonneg (by omega), wrap64 (x := (r + k - 1) / k) (by omega), wrap64 (x := n + _) (by omega), max_if]
theorem shortfall (l : List Int) (k : Int) (hl : l.length ≤ 9223372036854775807) : CallOK Try.prog 35 [EI.L l, .int .i64 k] (fun r => r = tup2 (shoE l k)) := by
  refine okWo ?_
  have hw0 := worst l k hl
  unfold shoE
  by_cases h1 : (worE l k).2 = 0
  · rw [if_pos h1]
    obtain ⟨g1, g2, g3, g4, h3, g6⟩ := worE_0 h1
    conv => whnf
    repeat' ((first | with_reducible refine bT rfl ?_ | with_reducible refine bF rfl ?_ | (refine sN ?_; (conv => whnf); refine bT (by first | rfl | exact iR8 _ | exact uNN _ | exact iR (by omega) | exact iR (by rw [hw]; omega) | exact nBlt (by omega) | exact nBle (by omega) | (simp; omega)) ?_) | (refine sA ?_; (conv => whnf); refine bT (roomL (by omega) rfl) ?_) | (refine sS ?_; (conv => whnf); refine bT (by first | rfl | exact iR8 _ | exact uNN _ | exact iR (by omega) | exact iR (by rw [hw]; omega) | exact nBlt (by omega) | exact nBle (by omega) | (simp; omega)) ?_) | (refine sM ?_; (conv => whnf); refine bT (mkOK (by omega) (by omega) (by omega) rfl) ?_) | (refine sC ?_; (conv => whnf); refine bT (nBle (by first | omega | (simp; omega))) ?_) | refine bDt (by omega) ?_ | refine bDf (by omega) ?_ | refine bNt (by omega) ?_ | refine bNf (by omega) ?_ | refine call_is hw0 ?_ | refine bDt h1 ?_ | refine bNf h1 ?_ | refine bD (fun _ => ?_) (fun _ => ?_) | refine bN (fun _ => ?_) (fun _ => ?_)) <;> conv => whnf)
    rw [h3]
    generalize hwv : (sortD l).take k.toNat = v at *
    have hfv : ∀ x ∈ v, fitP x := fun x hx => g4 x ((sortD_perm l).mem_iff.1 (List.mem_of_mem_take (hwv ▸ hx)))
    clear hw0 h1 h3 hwv
    have hk : 0 < k := by omega
    refine loop_by (cx := cxWo) rfl progOK (ι := {i : Nat // i ≤ v.length}) (fun i => v.length - i.1) (fun i => ⟨[(1, .int .i64 k), (4, .int .i64 ((v.take i.1).map (· / k)).sum), (7, .int .i64 ((v.take i.1).map (· % k)).sum), (20, EI.L v), (21, .int .i64 v.length), (22, .int .i64 i.1)], [], [], none⟩) ?_ ⟨0, Nat.zero_le _⟩
    rintro ⟨i, hi⟩ ih
    dsimp only
    have ht : (v.take i).length = i := List.length_take_of_le hi
    have b1 := whole_b hk (l := v.take i) (by rw [ht]; omega) (fun x hx => hfv x (List.mem_of_mem_take hx))
    have b2 := rest_b hk (l := v.take i) (by rw [ht]; omega) (by omega)
    by_cases hlt : i < v.length
    · have hx := fitP_b (fit_get hfv hlt)
      have t1 := t_facts (v.getD i 0) hk
      have t2 := t_rest (v.getD i 0) hk
      have t3 := t_whole (v.getD i 0) hk
      have ft := Enc.take_succ (E := EI) hlt
      have b3 := whole_b hk (l := v.take (i + 1)) (by rw [List.length_take_of_le hlt]; omega) (fun x hx => hfv x (List.mem_of_mem_take hx))
      have b4 := rest_b hk (l := v.take (i + 1)) (by rw [List.length_take_of_le hlt]; omega) (by omega)
      rw [ft, List.map_append, List.sum_append] at b3 b4
      conv => whnf
      repeat' ((first | with_reducible refine bT rfl ?_ | with_reducible refine bF rfl ?_ | (refine sN ?_; (conv => whnf); refine bT (by first | rfl | exact iR8 _ | exact uNN _ | exact iR (by omega) | exact iR (by rw [hw]; omega) | exact nBlt (by omega) | exact nBle (by omega) | (simp; omega)) ?_) | (refine sA ?_; (conv => whnf); refine bT (roomL (by omega) rfl) ?_) | (refine sS ?_; (conv => whnf); refine bT (by first | rfl | exact iR8 _ | exact uNN _ | exact iR (by omega) | exact iR (by rw [hw]; omega) | exact nBlt (by omega) | exact nBle (by omega) | (simp; omega)) ?_) | (refine sM ?_; (conv => whnf); refine bT (mkOK (by omega) (by omega) (by omega) rfl) ?_) | (refine sC ?_; (conv => whnf); refine bT (nBle (by first | omega | (simp; omega))) ?_) | refine bDt (by omega) ?_ | refine bDf (by omega) ?_ | refine bNt (by omega) ?_ | refine bNf (by omega) ?_ | refine loop_to ih ⟨i + 1, hlt⟩ (show v.length - (i+1) < v.length - i by omega) ?_ | refine bD (fun _ => ?_) (fun _ => ?_) | refine bN (fun _ => ?_) (fun _ => ?_)) <;> conv => whnf)
      obtain ⟨o1, o2, o3, o4⟩ := one_b hk (fit_get hfv hlt)
      simp only [List.map_cons, List.map_nil, List.sum_cons, List.sum_nil, Int.add_zero] at b3 b4
      have w1 : IntKind.i64.wrap ((v.getD i 0).tmod k + k) = (v.getD i 0).tmod k + k := wrap64 (by omega)
      have w2 : IntKind.i64.wrap (v.getD i 0 - v.getD i 0 % k) = v.getD i 0 - v.getD i 0 % k := wrap64 (by omega)
      refine st_eq ?_ ?_
      all_goals repeat' (first | exact rfl | refine env_cons ?_ ?_ | refine heap_cons ?_ ?_)
      · refine congrArg (AV.int IntKind.i64) ?_
        rw [ft, List.map_append, List.sum_append]
        show IntKind.i64.wrap (_ + IntKind.i64.wrap ((IntKind.i64.wrap (v.getD i 0 - (IntKind.i64.wrap ((v.getD i 0).tmod k + k)).tmod k)).tdiv k)) = _
        rw [w1, t2, w2, t3, wrap64 (x := v.getD i 0 / k) (by omega), wrap64 (by omega)]
        simp [EI]
      · refine congrArg (AV.int IntKind.i64) ?_
        rw [ft, List.map_append, List.sum_append]
        show IntKind.i64.wrap (_ + (IntKind.i64.wrap ((v.getD i 0).tmod k + k)).tmod k) = _
        rw [w1, t2, wrap64 (by omega)]
        simp [EI]
      · exact congrArg _ (next_i hlt (by omega))
    · obtain rfl : i = v.length := by omega
      rw [List.take_length] at *
      conv => whnf
      repeat' ((first | with_reducible refine bT rfl ?_ | with_reducible refine bF rfl ?_ | (refine sN ?_; (conv => whnf); refine bT (by first | rfl | exact iR8 _ | exact uNN _ | exact iR (by omega) | exact iR (by rw [hw]; omega) | exact nBlt (by omega) | exact nBle (by omega) | (simp; omega)) ?_) | (refine sA ?_; (conv => whnf); refine bT (roomL (by omega) rfl) ?_) | (refine sS ?_; (conv => whnf); refine bT (by first | rfl | exact iR8 _ | exact uNN _ | exact iR (by omega) | exact iR (by rw [hw]; omega) | exact nBlt (by omega) | exact nBle (by omega) | (simp; omega)) ?_) | (refine sM ?_; (conv => whnf); refine bT (mkOK (by omega) (by omega) (by omega) rfl) ?_) | (refine sC ?_; (conv => whnf); refine bT (nBle (by first | omega | (simp; omega))) ?_) | refine bDt (by omega) ?_ | refine bDf (by omega) ?_ | refine bNt (by omega) ?_ | refine bNf (by omega) ?_ | refine bD (fun _ => ?_) (fun _ => ?_) | refine bN (fun _ => ?_) (fun _ => ?_)) <;> conv => whnf)
      rw [short_end hk (by omega) b1 b2]
      rfl
  · rw [if_neg h1]
    conv => whnf
    repeat' ((first | with_reducible refine bT rfl ?_ | with_reducible refine bF rfl ?_ | (refine sN ?_; (conv => whnf); refine bT (by first | rfl | exact iR8 _ | exact uNN _ | exact iR (by omega) | exact iR (by rw [hw]; omega) | exact nBlt (by omega) | exact nBle (by omega) | (simp; omega)) ?_) | (refine sA ?_; (conv => whnf); refine bT (roomL (by omega) rfl) ?_) | (refine sS ?_; (conv => whnf); refine bT (by first | rfl | exact iR8 _ | exact uNN _ | exact iR (by omega) | exact iR (by rw [hw]; omega) | exact nBlt (by omega) | exact nBle (by omega) | (simp; omega)) ?_) | (refine sM ?_; (conv => whnf); refine bT (mkOK (by omega) (by omega) (by omega) rfl) ?_) | (refine sC ?_; (conv => whnf); refine bT (nBle (by first | omega | (simp; omega))) ?_) | refine bDt (by omega) ?_ | refine bDf (by omega) ?_ | refine bNt (by omega) ?_ | refine bNf (by omega) ?_ | refine call_is hw0 ?_ | refine bDf h1 ?_ | refine bNt h1 ?_ | refine bD (fun _ => ?_) (fun _ => ?_) | refine bN (fun _ => ?_) (fun _ => ?_)) <;> conv => whnf)
    all_goals rfl
theorem wcheck (l : List Int) (k : Int) (hl : l.length ≤ 9223372036854775807) : CallOK Try.prog 82 [EI.L l, .int .i64 k] (fun r => r = .int .i64 (worE l k).2) := by
  refine okWo ?_
  unfold worE
  by_cases h1 : 512 < l.length
  · rw [if_pos h1]
    conv => whnf
    repeat' ((first | with_reducible refine bT rfl ?_ | with_reducible refine bF rfl ?_ | (refine sN ?_; (conv => whnf); refine bT (by first | rfl | exact iR8 _ | exact uNN _ | exact iR (by omega) | exact iR (by rw [hw]; omega) | exact nBlt (by omega) | exact nBle (by omega) | (simp; omega)) ?_) | (refine sA ?_; (conv => whnf); refine bT (roomL (by omega) rfl) ?_) | (refine sS ?_; (conv => whnf); refine bT (by first | rfl | exact iR8 _ | exact uNN _ | exact iR (by omega) | exact iR (by rw [hw]; omega) | exact nBlt (by omega) | exact nBle (by omega) | (simp; omega)) ?_) | (refine sM ?_; (conv => whnf); refine bT (mkOK (by omega) (by omega) (by omega) rfl) ?_) | (refine sC ?_; (conv => whnf); refine bT (nBle (by first | omega | (simp; omega))) ?_) | refine bDt (by omega) ?_ | refine bDf (by omega) ?_ | refine bNt (by omega) ?_ | refine bNf (by omega) ?_ | refine bD (fun _ => ?_) (fun _ => ?_) | refine bN (fun _ => ?_) (fun _ => ?_)) <;> conv => whnf)
    all_goals rfl
  rw [if_neg h1]
  by_cases h2 : k < 1 ∨ (l.length : Int) < k
  · rw [if_pos (by omega)]
    conv => whnf
    repeat' ((first | with_reducible refine bT rfl ?_ | with_reducible refine bF rfl ?_ | (refine sN ?_; (conv => whnf); refine bT (by first | rfl | exact iR8 _ | exact uNN _ | exact iR (by omega) | exact iR (by rw [hw]; omega) | exact nBlt (by omega) | exact nBle (by omega) | (simp; omega)) ?_) | (refine sA ?_; (conv => whnf); refine bT (roomL (by omega) rfl) ?_) | (refine sS ?_; (conv => whnf); refine bT (by first | rfl | exact iR8 _ | exact uNN _ | exact iR (by omega) | exact iR (by rw [hw]; omega) | exact nBlt (by omega) | exact nBle (by omega) | (simp; omega)) ?_) | (refine sM ?_; (conv => whnf); refine bT (mkOK (by omega) (by omega) (by omega) rfl) ?_) | (refine sC ?_; (conv => whnf); refine bT (nBle (by first | omega | (simp; omega))) ?_) | refine bDt (by omega) ?_ | refine bDf (by omega) ?_ | refine bNt (by omega) ?_ | refine bNf (by omega) ?_ | refine bD (fun _ => ?_) (fun _ => ?_) | refine bN (fun _ => ?_) (fun _ => ?_)) <;> conv => whnf)
    all_goals first | rfl | (exfalso; omega)
  conv => whnf
  repeat' ((first | with_reducible refine bT rfl ?_ | with_reducible refine bF rfl ?_ | (refine sN ?_; (conv => whnf); refine bT (by first | rfl | exact iR8 _ | exact uNN _ | exact iR (by omega) | exact iR (by rw [hw]; omega) | exact nBlt (by omega) | exact nBle (by omega) | (simp; omega)) ?_) | (refine sA ?_; (conv => whnf); refine bT (roomL (by omega) rfl) ?_) | (refine sS ?_; (conv => whnf); refine bT (by first | rfl | exact iR8 _ | exact uNN _ | exact iR (by omega) | exact iR (by rw [hw]; omega) | exact nBlt (by omega) | exact nBle (by omega) | (simp; omega)) ?_) | (refine sM ?_; (conv => whnf); refine bT (mkOK (by omega) (by omega) (by omega) rfl) ?_) | (refine sC ?_; (conv => whnf); refine bT (nBle (by first | omega | (simp; omega))) ?_) | refine bDt (by omega) ?_ | refine bDf (by omega) ?_ | refine bNt (by omega) ?_ | refine bNf (by omega) ?_ | refine bD (fun _ => ?_) (fun _ => ?_) | refine bN (fun _ => ?_) (fun _ => ?_)) <;> conv => whnf)
  refine loop_by (cx := cxWo) rfl progOK (ι := {i : Nat // i ≤ l.length ∧ ∀ x ∈ l.take i, fitP x}) (fun i => l.length - i.1) (fun i => ⟨[(0, EI.L l), (5, .int .i64 i.1)], [], [], none⟩) ?_ ⟨0, Nat.zero_le _, by simp⟩
  rintro ⟨i, hi, hf⟩ ih
  dsimp only
  by_cases hlt : i < l.length
  · by_cases hx : fitP (l.getD i 0)
    · conv => whnf
      repeat' ((first | with_reducible refine bT rfl ?_ | with_reducible refine bF rfl ?_ | (refine sN ?_; (conv => whnf); refine bT (by first | rfl | exact iR8 _ | exact uNN _ | exact iR (by omega) | exact iR (by rw [hw]; omega) | exact nBlt (by omega) | exact nBle (by omega) | (simp; omega)) ?_) | (refine sA ?_; (conv => whnf); refine bT (roomL (by omega) rfl) ?_) | (refine sS ?_; (conv => whnf); refine bT (by first | rfl | exact iR8 _ | exact uNN _ | exact iR (by omega) | exact iR (by rw [hw]; omega) | exact nBlt (by omega) | exact nBle (by omega) | (simp; omega)) ?_) | (refine sM ?_; (conv => whnf); refine bT (mkOK (by omega) (by omega) (by omega) rfl) ?_) | (refine sC ?_; (conv => whnf); refine bT (nBle (by first | omega | (simp; omega))) ?_) | refine bDt (by omega) ?_ | refine bDf (by omega) ?_ | refine bNt (by omega) ?_ | refine bNf (by omega) ?_ | refine call_is (refFits _) ?_ | refine bNf hx ?_ | refine loop_to ih ⟨i + 1, hlt, fit_step hf hlt hx⟩ (show l.length - (i+1) < l.length - i by omega) ?_ | refine bD (fun _ => ?_) (fun _ => ?_) | refine bN (fun _ => ?_) (fun _ => ?_)) <;> conv => whnf)
      rw [next_i hlt (by omega)]; rfl
    · rw [if_pos (.inr (.inr (fun h => hx (fit_get h hlt))))]
      conv => whnf
      repeat' ((first | with_reducible refine bT rfl ?_ | with_reducible refine bF rfl ?_ | (refine sN ?_; (conv => whnf); refine bT (by first | rfl | exact iR8 _ | exact uNN _ | exact iR (by omega) | exact iR (by rw [hw]; omega) | exact nBlt (by omega) | exact nBle (by omega) | (simp; omega)) ?_) | (refine sA ?_; (conv => whnf); refine bT (roomL (by omega) rfl) ?_) | (refine sS ?_; (conv => whnf); refine bT (by first | rfl | exact iR8 _ | exact uNN _ | exact iR (by omega) | exact iR (by rw [hw]; omega) | exact nBlt (by omega) | exact nBle (by omega) | (simp; omega)) ?_) | (refine sM ?_; (conv => whnf); refine bT (mkOK (by omega) (by omega) (by omega) rfl) ?_) | (refine sC ?_; (conv => whnf); refine bT (nBle (by first | omega | (simp; omega))) ?_) | refine bDt (by omega) ?_ | refine bDf (by omega) ?_ | refine bNt (by omega) ?_ | refine bNf (by omega) ?_ | refine call_is (refFits _) ?_ | refine bNt hx ?_ | refine bD (fun _ => ?_) (fun _ => ?_) | refine bN (fun _ => ?_) (fun _ => ?_)) <;> conv => whnf)
      all_goals rfl
  · obtain rfl : i = l.length := by omega
    rw [List.take_length] at hf
    rw [if_neg (fun h => h.elim (by omega) (fun h => h.elim (by omega) (fun h => h hf)))]
    conv => whnf
    repeat' ((first | with_reducible refine bT rfl ?_ | with_reducible refine bF rfl ?_ | (refine sN ?_; (conv => whnf); refine bT (by first | rfl | exact iR8 _ | exact uNN _ | exact iR (by omega) | exact iR (by rw [hw]; omega) | exact nBlt (by omega) | exact nBle (by omega) | (simp; omega)) ?_) | (refine sA ?_; (conv => whnf); refine bT (roomL (by omega) rfl) ?_) | (refine sS ?_; (conv => whnf); refine bT (by first | rfl | exact iR8 _ | exact uNN _ | exact iR (by omega) | exact iR (by rw [hw]; omega) | exact nBlt (by omega) | exact nBle (by omega) | (simp; omega)) ?_) | (refine sM ?_; (conv => whnf); refine bT (mkOK (by omega) (by omega) (by omega) rfl) ?_) | (refine sC ?_; (conv => whnf); refine bT (nBle (by first | omega | (simp; omega))) ?_) | refine bDt (by omega) ?_ | refine bDf (by omega) ?_ | refine bNt (by omega) ?_ | refine bNf (by omega) ?_ | refine bD (fun _ => ?_) (fun _ => ?_) | refine bN (fun _ => ?_) (fun _ => ?_)) <;> conv => whnf)
    all_goals rfl
end Go.Proofs


set_option linter.unusedVariables false
set_option linter.unusedSimpArgs false
namespace Go.Proofs
open Ax Go
set_option maxRecDepth 10000
def keepLo (f r : Nat) : Option (List Nat) := match f, r with
  | 28, 9 => some [1, 2, 3, 6, 8, 35, 36, 37]
  | 28, 18 => some [3, 6, 13, 57, 58, 59]
  | 28, 23 => some [3, 6, 13, 16, 17, 57, 58, 59, 70, 71]
  | 29, 9 => some [0, 1, 2, 9, 10]
  | 29, 17 => some [0, 2, 9, 13, 14]
  | 29, 21 => some [0, 2, 9, 13, 14, 15, 16]
  | _, _ => none
def keepXLo (f r : Nat) : Option (List Nat) := match f, r with
  | 28, 9 => some [2, 3, 6, 7, 8]
  | 28, 18 => some [6, 7]
  | 28, 23 => some [3, 6, 13, 17, 57, 58, 59]
  | 29, 9 => some [0, 2, 6, 7, 9]
  | 29, 17 => some [6, 7, 13]
  | 29, 21 => some [0, 2, 9, 13, 14, 15]
  | _, _ => none
def ghLo (f r : Nat) : List Ghost := match f, r with
  | 28, 8 => [.adoptC 8]
  | 28, 22 => [.adopt 17]
  | _, _ => []
noncomputable def cxLo : Ctx where
  P := Try.prog
  inl := fun f => memN f [73, 74]
  keep := keepLo
  keepX := keepXLo
  xf := fun _ _ _ => false
  ow := fun _ => false
  gh := ghLo
  gf := fun _ => []
  ln := fun f => memN f [58]
  srt := srtT
theorem okLo {f a Q} (h : stepCall (SX Try.prog calmT) cxLo calmT f a Q) : CallOK Try.prog f a Q := okOf (cx := cxLo) rfl progOK h
def plc (s : List Sr) (x : Po) : Int × Bool := placeE x.s s 0
def lossL (s : List Sr) (l : List Po) (d : List Int) : List Int := l.map fun x => -(x.l - x.h) * d.getD (plc s x).1.toNat 0
def losE (l : List Po) (s : List Sr) (m : List (List Int)) : List Int × Int :=
  if chkE s m = 0 then (if posE l = 0 then (if ∀ x ∈ l, (plc s x).2 = true then (if ∀ d ∈ m, fitP (lossL s l d).sum then (m.map fun d => (lossL s l d).sum, 0) else ([], 3)) else ([], 11)) else ([], posE l)) else ([], chkE s m)
theorem firstE_0 {f : Nat → Int} : ∀ {n i : Nat}, firstE f n i = 0 → ∀ j, i ≤ j → j < i + n → f j = 0
  | 0, i, _, j, h1, h2 => by omega
  | n + 1, i, h, j, h1, h2 => by
    rw [firstE] at h
    by_cases hf : f i = 0
    · rw [if_pos hf] at h
      by_cases e : j = i
      · rw [e]; exact hf
      · exact firstE_0 h j (by omega) (by omega)
    · rw [if_neg hf] at h; exact absurd h hf
theorem mem_getD {α : Type} {l : List α} {x d : α} (h : x ∈ l) : ∃ i, i < l.length ∧ l.getD i d = x := by
  obtain ⟨i, hi, rfl⟩ := List.mem_iff_getElem.1 h
  exact ⟨i, hi, by rw [List.getD_eq_getElem?_getD, List.getElem?_eq_getElem hi]; rfl⟩
theorem chk_0 {s : List Sr} {m : List (List Int)} (h : chkE s m = 0) : s.length ≤ 128 ∧ m.length ≤ 512 ∧ ∀ d ∈ m, d.length = s.length ∧ ∀ x ∈ d, ¬ farP x := by
  unfold chkE at h
  split at h
  · cases h
  · rename_i h1
    split at h
    · refine ⟨by omega, by omega, fun d hd => ?_⟩
      obtain ⟨i, hi, rfl⟩ := mem_getD (d := EM.d) hd
      have := firstE_0 h i (Nat.zero_le _) (by omega)
      unfold dayAt at this
      split at this
      · rename_i h2
        refine ⟨h2, ?_⟩
        split at this
        · assumption
        · cases this
      · cases this
    · cases h
theorem pos_0 {l : List Po} (h : posE l = 0) : l.length ≤ 128 ∧ ∀ x ∈ l, (0 ≤ x.l ∧ x.l ≤ 1048576) ∧ (0 ≤ x.h ∧ x.h ≤ 1048576) := by
  unfold posE at h
  split at h
  · cases h
  · refine ⟨by omega, fun x hx => ?_⟩
    obtain ⟨i, hi, rfl⟩ := mem_getD (d := EP.d) hx
    have := firstE_0 h i (Nat.zero_le _) (by omega)
    unfold posAt at this
    split at this
    · cases this
    · split at this
      · rename_i h2; exact ⟨h2.1, h2.2.1⟩
      · cases this
theorem placeE_lt {x : Sr} : ∀ {s : List Sr} {i : Nat}, (placeE x s i).2 = true → ∃ k : Nat, (placeE x s i).1 = ((i + k : Nat) : Int) ∧ k < s.length
  | [], i, h => by cases h
  | y :: r, i, h => by
    rw [placeE] at h ⊢
    by_cases e : y = x
    · rw [if_pos e]; exact ⟨0, rfl, by simp⟩
    · rw [if_neg e] at h ⊢
      obtain ⟨k, h1, h2⟩ := placeE_lt h
      exact ⟨k + 1, by rw [h1]; omega, by simpa using h2⟩
theorem mul_b {a b : Int} (ha : -1048576 ≤ a ∧ a ≤ 1048576) (hb : ¬ farP b) : -72057594037927936 ≤ a * b ∧ a * b ≤ 72057594037927936 := by
  have h1 : a.natAbs ≤ 1048576 := by omega
  have h2 : b.natAbs ≤ 68719476736 := by have : ¬ (b < -68719476736 ∨ 68719476736 < b) := hb; omega
  have h3 := Nat.mul_le_mul h1 h2
  rw [← Int.natAbs_mul] at h3
  omega
theorem take_snoc {α : Type} {p : α → Prop} {l : List α} {d : α} {i : Nat} (hi : i < l.length) (h : ∀ x ∈ l.take i, p x) (hx : p (l.getD i d)) : ∀ x ∈ l.take (i + 1), p x := by
  rw [List.take_add_one, List.getElem?_eq_getElem hi]
  intro x hm
  rcases List.mem_append.1 hm with h1 | h1
  · exact h x h1
  · rw [List.getD_eq_getElem?_getD, List.getElem?_eq_getElem hi] at hx
    simp at h1
    rw [h1]; exact hx
theorem map_take {α β : Type} (f : α → β) {l : List α} {d : α} {i : Nat} (hi : i < l.length) : (l.take (i + 1)).map f = (l.take i).map f ++ [f (l.getD i d)] := by
  rw [List.take_add_one, List.getElem?_eq_getElem hi, List.getD_eq_getElem?_getD, List.getElem?_eq_getElem hi, List.map_append]
  rfl
theorem lossL_len (s : List Sr) (l : List Po) (d : List Int) : (lossL s l d).length = l.length := List.length_map ..
theorem loss_part {s : List Sr} {m : List (List Int)} {x : Po} {d : List Int} (hd : d.length = s.length ∧ ∀ y ∈ d, ¬ farP y) (hx : (0 ≤ x.l ∧ x.l ≤ 1048576) ∧ (0 ≤ x.h ∧ x.h ≤ 1048576)) (hp : (plc s x).2 = true) :
    ∃ k : Nat, (plc s x).1 = (k : Int) ∧ k < d.length ∧ -72057594037927936 ≤ -(x.l - x.h) * d.getD k 0 ∧ -(x.l - x.h) * d.getD k 0 ≤ 72057594037927936 := by
  obtain ⟨k, h1, h2⟩ := placeE_lt hp
  rw [Nat.zero_add] at h1
  have hk : k < d.length := by rw [hd.1]; exact h2
  exact ⟨k, h1, hk, mul_b (by omega) (hd.2 _ (Enc.get_mem (E := EI) hk))⟩
theorem loss_fit {s : List Sr} {m : List (List Int)} {l : List Po} {d : List Int} (hd : d.length = s.length ∧ ∀ y ∈ d, ¬ farP y) (hx : ∀ x ∈ l, (0 ≤ x.l ∧ x.l ≤ 1048576) ∧ (0 ≤ x.h ∧ x.h ≤ 1048576)) (hp : ∀ x ∈ l, (plc s x).2 = true) : sumE (lossL s l d) = fitE (lossL s l d).sum := by
  refine if_pos fun y hy => ?_
  obtain ⟨x, hxl, rfl⟩ := List.mem_map.1 hy
  obtain ⟨k, h1, h2, h3, h4⟩ := loss_part (m := m) hd (hx x hxl) (hp x hxl)
  rw [h1]
  exact ⟨by rw [Int.toNat_natCast]; omega, by rw [Int.toNat_natCast]; omega⟩
theorem getD_map {α β : Type} (f : α → β) {l : List α} {d : α} {e : β} {i : Nat} (h : i < l.length) : (l.map f).getD i e = f (l.getD i d) := by
  rw [List.getD_eq_getElem?_getD, List.getD_eq_getElem?_getD, List.getElem?_map, List.getElem?_eq_getElem h]; rfl
theorem refLosses (l : List Po) (s : List Sr) (m : List (List Int)) (hL : l.length ≤ 1000000) (hs : s.length ≤ 1073741824) (hm : m.length ≤ 9223372036854775807) (hl : ∀ d ∈ m, d.length ≤ 9223372036854775807) : CallOK Try.prog 29 [EP.L l, ER.L s, EM.L m] (fun r => r = lossAV (losE l s m)) := by
  refine okLo ?_
  have k1 := refCheck s m hs hm hl
  have k2 := refPosCheck l (by omega)
  unfold losE
  by_cases h1 : chkE s m = 0
  rotate_left
  · rw [if_neg h1]
    conv => whnf
    repeat' ((first | with_reducible refine bT rfl ?_ | with_reducible refine bF rfl ?_ | (refine sN ?_; (conv => whnf); refine bT (by first | rfl | exact iR8 _ | exact uNN _ | exact iR (by omega) | exact iR (by rw [hw]; omega) | exact nBlt (by omega) | exact nBle (by omega) | (simp; omega)) ?_) | (refine sA ?_; (conv => whnf); refine bT (roomL (by omega) rfl) ?_) | (refine sS ?_; (conv => whnf); refine bT (by first | rfl | exact iR8 _ | exact uNN _ | exact iR (by omega) | exact iR (by rw [hw]; omega) | exact nBlt (by omega) | exact nBle (by omega) | (simp; omega)) ?_) | (refine sM ?_; (conv => whnf); refine bT (mkOK (by omega) (by omega) (by omega) rfl) ?_) | (refine sC ?_; (conv => whnf); refine bT (nBle (by first | omega | (simp; omega))) ?_) | refine bDt (by omega) ?_ | refine bDf (by omega) ?_ | refine bNt (by omega) ?_ | refine bNf (by omega) ?_ | refine call_is k1 ?_ | refine bDf h1 ?_ | refine bNt h1 ?_ | refine bD (fun _ => ?_) (fun _ => ?_) | refine bN (fun _ => ?_) (fun _ => ?_)) <;> conv => whnf)
    all_goals exact congrArg (fun a => AV.tup [a, _]) (Enc.nil_av (E := EI) rfl rfl rfl)
  by_cases h2 : posE l = 0
  rotate_left
  · rw [if_pos h1, if_neg h2]
    conv => whnf
    repeat' ((first | with_reducible refine bT rfl ?_ | with_reducible refine bF rfl ?_ | (refine sN ?_; (conv => whnf); refine bT (by first | rfl | exact iR8 _ | exact uNN _ | exact iR (by omega) | exact iR (by rw [hw]; omega) | exact nBlt (by omega) | exact nBle (by omega) | (simp; omega)) ?_) | (refine sA ?_; (conv => whnf); refine bT (roomL (by omega) rfl) ?_) | (refine sS ?_; (conv => whnf); refine bT (by first | rfl | exact iR8 _ | exact uNN _ | exact iR (by omega) | exact iR (by rw [hw]; omega) | exact nBlt (by omega) | exact nBle (by omega) | (simp; omega)) ?_) | (refine sM ?_; (conv => whnf); refine bT (mkOK (by omega) (by omega) (by omega) rfl) ?_) | (refine sC ?_; (conv => whnf); refine bT (nBle (by first | omega | (simp; omega))) ?_) | refine bDt (by omega) ?_ | refine bDf (by omega) ?_ | refine bNt (by omega) ?_ | refine bNf (by omega) ?_ | refine call_is k1 ?_ | refine call_is k2 ?_ | refine bDt h1 ?_ | refine bNf h1 ?_ | refine bDf h2 ?_ | refine bNt h2 ?_ | refine bD (fun _ => ?_) (fun _ => ?_) | refine bN (fun _ => ?_) (fun _ => ?_)) <;> conv => whnf)
    all_goals exact congrArg (fun a => AV.tup [a, _]) (Enc.nil_av (E := EI) rfl rfl rfl)
  rw [if_pos h1, if_pos h2]
  conv => whnf
  repeat' ((first | with_reducible refine bT rfl ?_ | with_reducible refine bF rfl ?_ | (refine sN ?_; (conv => whnf); refine bT (by first | rfl | exact iR8 _ | exact uNN _ | exact iR (by omega) | exact iR (by rw [hw]; omega) | exact nBlt (by omega) | exact nBle (by omega) | (simp; omega)) ?_) | (refine sA ?_; (conv => whnf); refine bT (roomL (by omega) rfl) ?_) | (refine sS ?_; (conv => whnf); refine bT (by first | rfl | exact iR8 _ | exact uNN _ | exact iR (by omega) | exact iR (by rw [hw]; omega) | exact nBlt (by omega) | exact nBle (by omega) | (simp; omega)) ?_) | (refine sM ?_; (conv => whnf); refine bT (mkOK (by omega) (by omega) (by omega) rfl) ?_) | (refine sC ?_; (conv => whnf); refine bT (nBle (by first | omega | (simp; omega))) ?_) | refine bDt (by omega) ?_ | refine bDf (by omega) ?_ | refine bNt (by omega) ?_ | refine bNf (by omega) ?_ | refine call_is k1 ?_ | refine call_is k2 ?_ | refine bDt h1 ?_ | refine bNf h1 ?_ | refine bDt h2 ?_ | refine bNf h2 ?_ | refine bD (fun _ => ?_) (fun _ => ?_) | refine bN (fun _ => ?_) (fun _ => ?_)) <;> conv => whnf)
  clear k1 k2
  refine loop_by (cx := cxLo) rfl progOK (ι := {i : Nat // i ≤ l.length ∧ ∀ x ∈ l.take i, (plc s x).2 = true}) (fun i => l.length - i.1) (fun i => ⟨[(0, EP.L l), (1, ER.L s), (2, EM.L m), (9, .own (EI.L ((l.take i.1).map fun x => (plc s x).1))), (10, .int .i64 i.1)], [], [], none⟩) ?_ ⟨0, Nat.zero_le _, by simp⟩
  rintro ⟨i, hi, hf⟩ ih
  dsimp only
  by_cases hlt : i < l.length
  · have hp := refPlace s (l.getD i EP.d).s hs
    have ht : ((l.take i).map fun x => (plc s x).1).length = i := by rw [List.length_map, List.length_take_of_le hi]
    by_cases hx : (plc s (l.getD i EP.d)).2 = true
    · conv => whnf
      repeat' ((first | with_reducible refine bT rfl ?_ | with_reducible refine bF rfl ?_ | (refine sN ?_; (conv => whnf); refine bT (by first | rfl | exact iR8 _ | exact uNN _ | exact iR (by omega) | exact iR (by rw [hw]; omega) | exact nBlt (by omega) | exact nBle (by omega) | (simp; omega)) ?_) | (refine sA ?_; (conv => whnf); refine bT (roomL (by omega) rfl) ?_) | (refine sS ?_; (conv => whnf); refine bT (by first | rfl | exact iR8 _ | exact uNN _ | exact iR (by omega) | exact iR (by rw [hw]; omega) | exact nBlt (by omega) | exact nBle (by omega) | (simp; omega)) ?_) | (refine sM ?_; (conv => whnf); refine bT (mkOK (by omega) (by omega) (by omega) rfl) ?_) | (refine sC ?_; (conv => whnf); refine bT (nBle (by first | omega | (simp; omega))) ?_) | refine bDt (by omega) ?_ | refine bDf (by omega) ?_ | refine bNt (by omega) ?_ | refine bNf (by omega) ?_ | refine call_is hp ?_ | refine bT hx ?_ | refine bF (congrArg not hx) ?_ | refine loop_to ih ⟨i + 1, hlt, take_snoc hlt hf hx⟩ (show l.length - (i+1) < l.length - i by omega) ?_ | refine bD (fun _ => ?_) (fun _ => ?_) | refine bN (fun _ => ?_) (fun _ => ?_)) <;> conv => whnf)
      refine st_eq ?_ ?_
      all_goals repeat' (first | exact rfl | refine env_cons ?_ ?_ | refine heap_cons ?_ ?_)
      · exact congrArg AV.own (by rw [map_take _ (d := EP.d) hlt]; exact Enc.snoc_av rfl rfl rfl rfl rfl)
      · exact congrArg _ (next_i hlt (by omega))
    · rw [if_neg (fun h => hx (h _ (Enc.get_mem (E := EP) hlt)))]
      have hx : (plc s (l.getD i EP.d)).2 = false := by simpa using hx
      conv => whnf
      repeat' ((first | with_reducible refine bT rfl ?_ | with_reducible refine bF rfl ?_ | (refine sN ?_; (conv => whnf); refine bT (by first | rfl | exact iR8 _ | exact uNN _ | exact iR (by omega) | exact iR (by rw [hw]; omega) | exact nBlt (by omega) | exact nBle (by omega) | (simp; omega)) ?_) | (refine sA ?_; (conv => whnf); refine bT (roomL (by omega) rfl) ?_) | (refine sS ?_; (conv => whnf); refine bT (by first | rfl | exact iR8 _ | exact uNN _ | exact iR (by omega) | exact iR (by rw [hw]; omega) | exact nBlt (by omega) | exact nBle (by omega) | (simp; omega)) ?_) | (refine sM ?_; (conv => whnf); refine bT (mkOK (by omega) (by omega) (by omega) rfl) ?_) | (refine sC ?_; (conv => whnf); refine bT (nBle (by first | omega | (simp; omega))) ?_) | refine bDt (by omega) ?_ | refine bDf (by omega) ?_ | refine bNt (by omega) ?_ | refine bNf (by omega) ?_ | refine call_is hp ?_ | refine bF hx ?_ | refine bT (congrArg not hx) ?_ | refine bD (fun _ => ?_) (fun _ => ?_) | refine bN (fun _ => ?_) (fun _ => ?_)) <;> conv => whnf)
      exact congrArg (fun a => AV.tup [a, _]) (Enc.nil_av (E := EI) rfl rfl rfl)
  · obtain rfl : i = l.length := by omega
    rw [List.take_length] at hf
    rw [if_pos hf, List.take_length]
    clear ih
    have hf0 := hf
    conv => whnf
    repeat' ((first | with_reducible refine bT rfl ?_ | with_reducible refine bF rfl ?_ | (refine sN ?_; (conv => whnf); refine bT (by first | rfl | exact iR8 _ | exact uNN _ | exact iR (by omega) | exact iR (by rw [hw]; omega) | exact nBlt (by omega) | exact nBle (by omega) | (simp; omega)) ?_) | (refine sA ?_; (conv => whnf); refine bT (roomL (by omega) rfl) ?_) | (refine sS ?_; (conv => whnf); refine bT (by first | rfl | exact iR8 _ | exact uNN _ | exact iR (by omega) | exact iR (by rw [hw]; omega) | exact nBlt (by omega) | exact nBle (by omega) | (simp; omega)) ?_) | (refine sM ?_; (conv => whnf); refine bT (mkOK (by omega) (by omega) (by omega) rfl) ?_) | (refine sC ?_; (conv => whnf); refine bT (nBle (by first | omega | (simp; omega))) ?_) | refine bDt (by omega) ?_ | refine bDf (by omega) ?_ | refine bNt (by omega) ?_ | refine bNf (by omega) ?_ | refine bD (fun _ => ?_) (fun _ => ?_) | refine bN (fun _ => ?_) (fun _ => ?_)) <;> conv => whnf)
    obtain ⟨c1, c2, c3⟩ := chk_0 h1
    obtain ⟨c4, c5⟩ := pos_0 h2
    refine loop_by (cx := cxLo) rfl progOK (ι := {i : Nat // i ≤ m.length ∧ ∀ d ∈ m.take i, fitP (lossL s l d).sum}) (fun i => m.length - i.1) (fun i => ⟨[(0, EP.L l), (2, EM.L m), (9, .own (EI.L (l.map fun x => (plc s x).1))), (13, .own (EI.L ((m.take i.1).map fun d => (lossL s l d).sum))), (14, .int .i64 i.1)], [], [], none⟩) ?_ ⟨0, Nat.zero_le _, by simp⟩
    rintro ⟨i, hi, hf⟩ ih
    dsimp only
    by_cases hlt : i < m.length
    · have hd := c3 _ (Enc.get_mem (E := EM) hlt)
      conv => whnf
      repeat' ((first | with_reducible refine bT rfl ?_ | with_reducible refine bF rfl ?_ | (refine sN ?_; (conv => whnf); refine bT (by first | rfl | exact iR8 _ | exact uNN _ | exact iR (by omega) | exact iR (by rw [hw]; omega) | exact nBlt (by omega) | exact nBle (by omega) | (simp; omega)) ?_) | (refine sA ?_; (conv => whnf); refine bT (roomL (by omega) rfl) ?_) | (refine sS ?_; (conv => whnf); refine bT (by first | rfl | exact iR8 _ | exact uNN _ | exact iR (by omega) | exact iR (by rw [hw]; omega) | exact nBlt (by omega) | exact nBle (by omega) | (simp; omega)) ?_) | (refine sM ?_; (conv => whnf); refine bT (mkOK (by omega) (by omega) (by omega) rfl) ?_) | (refine sC ?_; (conv => whnf); refine bT (nBle (by first | omega | (simp; omega))) ?_) | refine bDt (by omega) ?_ | refine bDf (by omega) ?_ | refine bNt (by omega) ?_ | refine bNf (by omega) ?_ | refine bD (fun _ => ?_) (fun _ => ?_) | refine bN (fun _ => ?_) (fun _ => ?_)) <;> conv => whnf)
      have ih' := fun h => ih ⟨i + 1, hlt, h⟩ (show m.length - (i+1) < m.length - i by omega)
      clear ih
      refine loop_by (cx := cxLo) rfl progOK (ι := {j : Nat // j ≤ l.length}) (fun j => l.length - j.1) (fun j => ⟨[(0, EP.L l), (2, EM.L m), (9, .own (EI.L (l.map fun x => (plc s x).1))), (13, .own (EI.L ((m.take i).map fun d => (lossL s l d).sum))), (14, .int .i64 i), (15, .own (EI.L (lossL s (l.take j.1) (m.getD i EM.d)))), (16, .int .i64 j.1)], [], [], none⟩) ?_ ⟨0, Nat.zero_le _⟩
      rintro ⟨j, hj⟩ ih
      dsimp only
      by_cases hjl : j < l.length
      · have hxl := Enc.get_mem (E := EP) hjl
        obtain ⟨k, e1, e2, e3, e4⟩ := loss_part (m := m) hd (c5 _ hxl) (hf0 _ hxl)
        have hx := c5 _ hxl
        have e2' := e2
        rw [← Int.toNat_natCast i] at e2'
        have hml : (l.map fun x => (plc s x).1).length = l.length := List.length_map ..
        have hw : (l.map fun x => (plc s x).1).getD ((j : Int).toNat) EI.d = (k : Int) := by rw [Int.toNat_natCast, getD_map _ (d := EP.d) hjl, e1]
        have ht : (lossL s (l.take j) (m.getD i EM.d)).length = j := by rw [lossL_len, List.length_take_of_le hj]
        conv => whnf
        repeat' ((first | with_reducible refine bT rfl ?_ | with_reducible refine bF rfl ?_ | (refine sN ?_; (conv => whnf); refine bT (by first | rfl | exact iR8 _ | exact uNN _ | exact iR (by omega) | exact iR (by rw [hw]; omega) | exact nBlt (by omega) | exact nBle (by omega) | (simp; omega)) ?_) | (refine sA ?_; (conv => whnf); refine bT (roomL (by omega) rfl) ?_) | (refine sS ?_; (conv => whnf); refine bT (by first | rfl | exact iR8 _ | exact uNN _ | exact iR (by omega) | exact iR (by rw [hw]; omega) | exact nBlt (by omega) | exact nBle (by omega) | (simp; omega)) ?_) | (refine sM ?_; (conv => whnf); refine bT (mkOK (by omega) (by omega) (by omega) rfl) ?_) | (refine sC ?_; (conv => whnf); refine bT (nBle (by first | omega | (simp; omega))) ?_) | refine bDt (by omega) ?_ | refine bDf (by omega) ?_ | refine bNt (by omega) ?_ | refine bNf (by omega) ?_ | refine call_is (refNet _) ?_ | refine loop_to ih ⟨j + 1, hjl⟩ (show l.length - (j+1) < l.length - j by omega) ?_ | refine bD (fun _ => ?_) (fun _ => ?_) | refine bN (fun _ => ?_) (fun _ => ?_)) <;> conv => whnf)
        have ev : IntKind.i64.wrap (IntKind.i64.wrap (0 - IntKind.i64.wrap ((l.getD j EP.d).l - (l.getD j EP.d).h)) * (m.getD i EM.d).getD ((l.map fun x => (plc s x).1).getD ((j : Int).toNat) EI.d).toNat EI.d) = -((l.getD j EP.d).l - (l.getD j EP.d).h) * (m.getD i EM.d).getD (plc s (l.getD j EP.d)).1.toNat 0 := by
          rw [hw, e1, Int.toNat_natCast, wrap64 (x := (l.getD j EP.d).l - (l.getD j EP.d).h) (by omega), wrap64 (x := 0 - _) (by omega), show (0 : Int) - ((l.getD j EP.d).l - (l.getD j EP.d).h) = -((l.getD j EP.d).l - (l.getD j EP.d).h) by omega]
          exact wrap64 ⟨Int.le_trans (by decide) e3, Int.le_trans e4 (by decide)⟩
        refine st_eq ?_ ?_
        all_goals repeat' (first | exact rfl | refine env_cons ?_ ?_ | refine heap_cons ?_ ?_)
        · refine congrArg AV.own ?_
          rw [show lossL s (l.take (j + 1)) (m.getD i EM.d) = lossL s (l.take j) (m.getD i EM.d) ++ [_] from map_take _ (d := EP.d) hjl]
          exact Enc.snoc_av rfl rfl rfl rfl (congrArg (AV.int IntKind.i64) ev)
        · exact congrArg _ (next_i hjl (by omega))
      · obtain rfl : j = l.length := by omega
        have k3 := refSum (lossL s l (m.getD i EM.d)) (by rw [lossL_len]; omega)
        rw [loss_fit (m := m) hd c5 hf0, fitE] at k3
        by_cases hfit : fitP (lossL s l (m.getD i EM.d)).sum
        · rw [if_pos hfit] at k3
          rw [List.take_length]
          have ht : ((m.take i).map fun d => (lossL s l d).sum).length = i := by rw [List.length_map, List.length_take_of_le hi]
          have ih2 := ih' (take_snoc hlt hf hfit)
          conv => whnf
          repeat' ((first | with_reducible refine bT rfl ?_ | with_reducible refine bF rfl ?_ | (refine sN ?_; (conv => whnf); refine bT (by first | rfl | exact iR8 _ | exact uNN _ | exact iR (by omega) | exact iR (by rw [hw]; omega) | exact nBlt (by omega) | exact nBle (by omega) | (simp; omega)) ?_) | (refine sA ?_; (conv => whnf); refine bT (roomL (by omega) rfl) ?_) | (refine sS ?_; (conv => whnf); refine bT (by first | rfl | exact iR8 _ | exact uNN _ | exact iR (by omega) | exact iR (by rw [hw]; omega) | exact nBlt (by omega) | exact nBle (by omega) | (simp; omega)) ?_) | (refine sM ?_; (conv => whnf); refine bT (mkOK (by omega) (by omega) (by omega) rfl) ?_) | (refine sC ?_; (conv => whnf); refine bT (nBle (by first | omega | (simp; omega))) ?_) | refine bDt (by omega) ?_ | refine bDf (by omega) ?_ | refine bNt (by omega) ?_ | refine bNf (by omega) ?_ | refine call_is k3 ?_ | refine loop_start ?_ ih2 | refine bD (fun _ => ?_) (fun _ => ?_) | refine bN (fun _ => ?_) (fun _ => ?_)) <;> conv => whnf)
          refine st_eq ?_ ?_
          all_goals repeat' (first | exact rfl | refine env_cons ?_ ?_ | refine heap_cons ?_ ?_)
          · exact congrArg AV.own (by rw [map_take _ (d := EM.d) hlt]; exact Enc.snoc_av rfl rfl rfl rfl rfl)
          · exact congrArg _ (next_i hlt (by omega))
        · rw [if_neg hfit] at k3
          rw [List.take_length, if_neg (fun h => hfit (h _ (Enc.get_mem (E := EM) hlt)))]
          conv => whnf
          repeat' ((first | with_reducible refine bT rfl ?_ | with_reducible refine bF rfl ?_ | (refine sN ?_; (conv => whnf); refine bT (by first | rfl | exact iR8 _ | exact uNN _ | exact iR (by omega) | exact iR (by rw [hw]; omega) | exact nBlt (by omega) | exact nBle (by omega) | (simp; omega)) ?_) | (refine sA ?_; (conv => whnf); refine bT (roomL (by omega) rfl) ?_) | (refine sS ?_; (conv => whnf); refine bT (by first | rfl | exact iR8 _ | exact uNN _ | exact iR (by omega) | exact iR (by rw [hw]; omega) | exact nBlt (by omega) | exact nBle (by omega) | (simp; omega)) ?_) | (refine sM ?_; (conv => whnf); refine bT (mkOK (by omega) (by omega) (by omega) rfl) ?_) | (refine sC ?_; (conv => whnf); refine bT (nBle (by first | omega | (simp; omega))) ?_) | refine bDt (by omega) ?_ | refine bDf (by omega) ?_ | refine bNt (by omega) ?_ | refine bNf (by omega) ?_ | refine call_is k3 ?_ | refine bD (fun _ => ?_) (fun _ => ?_) | refine bN (fun _ => ?_) (fun _ => ?_)) <;> conv => whnf)
          exact congrArg (fun a => AV.tup [a, _]) (Enc.nil_av (E := EI) rfl rfl rfl)
    · obtain rfl : i = m.length := by omega
      rw [List.take_length] at hf
      rw [if_pos hf, List.take_length]
      conv => whnf
      repeat' ((first | with_reducible refine bT rfl ?_ | with_reducible refine bF rfl ?_ | (refine sN ?_; (conv => whnf); refine bT (by first | rfl | exact iR8 _ | exact uNN _ | exact iR (by omega) | exact iR (by rw [hw]; omega) | exact nBlt (by omega) | exact nBle (by omega) | (simp; omega)) ?_) | (refine sA ?_; (conv => whnf); refine bT (roomL (by omega) rfl) ?_) | (refine sS ?_; (conv => whnf); refine bT (by first | rfl | exact iR8 _ | exact uNN _ | exact iR (by omega) | exact iR (by rw [hw]; omega) | exact nBlt (by omega) | exact nBle (by omega) | (simp; omega)) ?_) | (refine sM ?_; (conv => whnf); refine bT (mkOK (by omega) (by omega) (by omega) rfl) ?_) | (refine sC ?_; (conv => whnf); refine bT (nBle (by first | omega | (simp; omega))) ?_) | refine bDt (by omega) ?_ | refine bDf (by omega) ?_ | refine bNt (by omega) ?_ | refine bNf (by omega) ?_ | refine bD (fun _ => ?_) (fun _ => ?_) | refine bN (fun _ => ?_) (fun _ => ?_)) <;> conv => whnf)
      rfl
def padL (f : Po → Int) (l : List Po) (i : Nat) : List Int := (l.take i).map f ++ List.replicate (l.length - i) 0
theorem padL_len {f : Po → Int} {l : List Po} {i : Nat} (hi : i ≤ l.length) : (padL f l i).length = l.length := by
  simp only [padL, List.length_append, List.length_map, List.length_take_of_le hi, List.length_replicate]; omega
theorem padL_set {f : Po → Int} {l : List Po} {i : Nat} (hi : i < l.length) : (padL f l i).set i (f (l.getD i EP.d)) = padL f l (i + 1) := by
  have h1 : ((l.take i).map f).length = i := by rw [List.length_map, List.length_take_of_le (by omega)]
  unfold padL
  rw [show l.length - i = (l.length - (i + 1)) + 1 by omega, List.replicate_succ, map_take _ (d := EP.d) hi, List.set_append_right _ _ (by omega), h1, Nat.sub_self, List.set_cons_zero, List.append_assoc]
  rfl
theorem padL_all (f : Po → Int) (l : List Po) : padL f l l.length = l.map f := by simp [padL]
def plL (s : List Sr) (l : List Po) (i : Nat) : List Int := padL (fun x => (plc s x).1) l i
def lossF (s : List Sr) (d : List Int) (x : Po) : Int := -(x.l - x.h) * d.getD (plc s x).1.toNat 0
theorem arr_set {L L' : List Int} {n k i : Nat} {x : Int} {v : AV} (hi : i < L.length) (hk : k = i) (hv : v = EI.f x) (hL : L.set i x = L') : AObj.arr 1 n (upd (fun j => EI.f (L.getD j EI.d)) k v) = AObj.arr 1 n fun j => EI.f (L'.getD j EI.d) := by
  subst hk; subst hL
  exact congrArg (AObj.arr 1 n) (Enc.set_eq (E := EI) hi hv)
theorem losses (l : List Po) (s : List Sr) (m : List (List Int)) (hL : l.length ≤ 1000000) (hs : s.length ≤ 1073741824) (hm : m.length ≤ 9223372036854775807) (hl : ∀ d ∈ m, d.length ≤ 9223372036854775807) : CallOK Try.prog 28 [EP.L l, ER.L s, EM.L m] (fun r => r = lossAV (losE l s m)) := by
  refine okLo ?_
  have k1 := check s m hs hm hl
  have k2 := posCheck l (by omega)
  unfold losE
  by_cases h1 : chkE s m = 0
  rotate_left
  · rw [if_neg h1]
    conv => whnf
    repeat' ((first | with_reducible refine bT rfl ?_ | with_reducible refine bF rfl ?_ | (refine sN ?_; (conv => whnf); refine bT (by first | rfl | exact iR8 _ | exact uNN _ | exact iR (by omega) | exact iR (by rw [hw]; omega) | exact nBlt (by omega) | exact nBle (by omega) | (simp; omega)) ?_) | (refine sA ?_; (conv => whnf); refine bT (roomL (by omega) rfl) ?_) | (refine sS ?_; (conv => whnf); refine bT (by first | rfl | exact iR8 _ | exact uNN _ | exact iR (by omega) | exact iR (by rw [hw]; omega) | exact nBlt (by omega) | exact nBle (by omega) | (simp; omega)) ?_) | (refine sM ?_; (conv => whnf); refine bT (mkOK (by omega) (by omega) (by omega) rfl) ?_) | (refine sC ?_; (conv => whnf); refine bT (nBle (by first | omega | (simp; omega))) ?_) | refine bDt (by omega) ?_ | refine bDf (by omega) ?_ | refine bNt (by omega) ?_ | refine bNf (by omega) ?_ | refine call_is k1 ?_ | refine bDf h1 ?_ | refine bNt h1 ?_ | refine bD (fun _ => ?_) (fun _ => ?_) | refine bN (fun _ => ?_) (fun _ => ?_)) <;> conv => whnf)
    all_goals exact congrArg (fun a => AV.tup [a, _]) (Enc.nil_av (E := EI) rfl rfl rfl)
  by_cases h2 : posE l = 0
  rotate_left
  · rw [if_pos h1, if_neg h2]
    conv => whnf
    repeat' ((first | with_reducible refine bT rfl ?_ | with_reducible refine bF rfl ?_ | (refine sN ?_; (conv => whnf); refine bT (by first | rfl | exact iR8 _ | exact uNN _ | exact iR (by omega) | exact iR (by rw [hw]; omega) | exact nBlt (by omega) | exact nBle (by omega) | (simp; omega)) ?_) | (refine sA ?_; (conv => whnf); refine bT (roomL (by omega) rfl) ?_) | (refine sS ?_; (conv => whnf); refine bT (by first | rfl | exact iR8 _ | exact uNN _ | exact iR (by omega) | exact iR (by rw [hw]; omega) | exact nBlt (by omega) | exact nBle (by omega) | (simp; omega)) ?_) | (refine sM ?_; (conv => whnf); refine bT (mkOK (by omega) (by omega) (by omega) rfl) ?_) | (refine sC ?_; (conv => whnf); refine bT (nBle (by first | omega | (simp; omega))) ?_) | refine bDt (by omega) ?_ | refine bDf (by omega) ?_ | refine bNt (by omega) ?_ | refine bNf (by omega) ?_ | refine call_is k1 ?_ | refine call_is k2 ?_ | refine bDt h1 ?_ | refine bNf h1 ?_ | refine bDf h2 ?_ | refine bNt h2 ?_ | refine bD (fun _ => ?_) (fun _ => ?_) | refine bN (fun _ => ?_) (fun _ => ?_)) <;> conv => whnf)
    all_goals exact congrArg (fun a => AV.tup [a, _]) (Enc.nil_av (E := EI) rfl rfl rfl)
  rw [if_pos h1, if_pos h2]
  conv => whnf
  repeat' ((first | with_reducible refine bT rfl ?_ | with_reducible refine bF rfl ?_ | (refine sN ?_; (conv => whnf); refine bT (by first | rfl | exact iR8 _ | exact uNN _ | exact iR (by omega) | exact iR (by rw [hw]; omega) | exact nBlt (by omega) | exact nBle (by omega) | (simp; omega)) ?_) | (refine sA ?_; (conv => whnf); refine bT (roomL (by omega) rfl) ?_) | (refine sS ?_; (conv => whnf); refine bT (by first | rfl | exact iR8 _ | exact uNN _ | exact iR (by omega) | exact iR (by rw [hw]; omega) | exact nBlt (by omega) | exact nBle (by omega) | (simp; omega)) ?_) | (refine sM ?_; (conv => whnf); refine bT (mkOK (by omega) (by omega) (by omega) rfl) ?_) | (refine sC ?_; (conv => whnf); refine bT (nBle (by first | omega | (simp; omega))) ?_) | refine bDt (by omega) ?_ | refine bDf (by omega) ?_ | refine bNt (by omega) ?_ | refine bNf (by omega) ?_ | refine call_is k1 ?_ | refine call_is k2 ?_ | refine bDt h1 ?_ | refine bNf h1 ?_ | refine bDt h2 ?_ | refine bNf h2 ?_ | refine bD (fun _ => ?_) (fun _ => ?_) | refine bN (fun _ => ?_) (fun _ => ?_)) <;> conv => whnf)
  clear k1 k2
  refine loop_start (st' := (⟨[(1, ER.L s), (2, EM.L m), (3, .ptr 0 0), (6, .own (EI.L [])), (8, .ptr 1 0), (35, EP.L l), (36, .int .i64 l.length), (37, .int .i64 (0 : Nat))], [.cells [EP.L l], .cells [.row 2 1 0 l.length], .arr 1 l.length fun j => EI.f ((plL s l 0).getD j EI.d)], [], none⟩ : St)) ?_ ?_
  · refine st_eq ?_ ?_
    all_goals repeat' (first | exact rfl | refine env_cons ?_ ?_ | refine heap_cons ?_ ?_)
    · exact congrArg (AObj.arr 1 l.length) (Enc.rep_eq (E := EI) rfl)
  refine loop_by (cx := cxLo) rfl progOK (ι := {i : Nat // i ≤ l.length ∧ ∀ x ∈ l.take i, (plc s x).2 = true}) (fun i => l.length - i.1) (fun i => ⟨[(1, ER.L s), (2, EM.L m), (3, .ptr 0 0), (6, .own (EI.L [])), (8, .ptr 1 0), (35, EP.L l), (36, .int .i64 l.length), (37, .int .i64 i.1)], [.cells [EP.L l], .cells [.row 2 1 0 l.length], .arr 1 l.length fun j => EI.f ((plL s l i.1).getD j EI.d)], [], none⟩) ?_ ⟨0, Nat.zero_le _, by simp⟩
  rintro ⟨i, hi, hf⟩ ih
  dsimp only
  by_cases hlt : i < l.length
  · have hp := place s (l.getD i EP.d).s hs
    by_cases hx : (plc s (l.getD i EP.d)).2 = true
    · conv => whnf
      repeat' ((first | with_reducible refine bT rfl ?_ | with_reducible refine bF rfl ?_ | (refine sN ?_; (conv => whnf); refine bT (by first | rfl | exact iR8 _ | exact uNN _ | exact iR (by omega) | exact iR (by rw [hw]; omega) | exact nBlt (by omega) | exact nBle (by omega) | (simp; omega)) ?_) | (refine sA ?_; (conv => whnf); refine bT (roomL (by omega) rfl) ?_) | (refine sS ?_; (conv => whnf); refine bT (by first | rfl | exact iR8 _ | exact uNN _ | exact iR (by omega) | exact iR (by rw [hw]; omega) | exact nBlt (by omega) | exact nBle (by omega) | (simp; omega)) ?_) | (refine sM ?_; (conv => whnf); refine bT (mkOK (by omega) (by omega) (by omega) rfl) ?_) | (refine sC ?_; (conv => whnf); refine bT (nBle (by first | omega | (simp; omega))) ?_) | refine bDt (by omega) ?_ | refine bDf (by omega) ?_ | refine bNt (by omega) ?_ | refine bNf (by omega) ?_ | refine call_is hp ?_ | refine bT hx ?_ | refine bF (congrArg not hx) ?_ | refine loop_to ih ⟨i + 1, hlt, take_snoc hlt hf hx⟩ (show l.length - (i+1) < l.length - i by omega) ?_ | refine bD (fun _ => ?_) (fun _ => ?_) | refine bN (fun _ => ?_) (fun _ => ?_)) <;> conv => whnf)
      refine st_eq ?_ ?_
      all_goals repeat' (first | exact rfl | refine env_cons ?_ ?_ | refine heap_cons ?_ ?_)
      · exact congrArg _ (next_i hlt (by omega))
      · exact arr_set (by rw [plL, padL_len hi]; exact hlt) (by omega) rfl (padL_set hlt)
    · rw [if_neg (fun h => hx (h _ (Enc.get_mem (E := EP) hlt)))]
      have hx : (plc s (l.getD i EP.d)).2 = false := by simpa using hx
      conv => whnf
      repeat' ((first | with_reducible refine bT rfl ?_ | with_reducible refine bF rfl ?_ | (refine sN ?_; (conv => whnf); refine bT (by first | rfl | exact iR8 _ | exact uNN _ | exact iR (by omega) | exact iR (by rw [hw]; omega) | exact nBlt (by omega) | exact nBle (by omega) | (simp; omega)) ?_) | (refine sA ?_; (conv => whnf); refine bT (roomL (by omega) rfl) ?_) | (refine sS ?_; (conv => whnf); refine bT (by first | rfl | exact iR8 _ | exact uNN _ | exact iR (by omega) | exact iR (by rw [hw]; omega) | exact nBlt (by omega) | exact nBle (by omega) | (simp; omega)) ?_) | (refine sM ?_; (conv => whnf); refine bT (mkOK (by omega) (by omega) (by omega) rfl) ?_) | (refine sC ?_; (conv => whnf); refine bT (nBle (by first | omega | (simp; omega))) ?_) | refine bDt (by omega) ?_ | refine bDf (by omega) ?_ | refine bNt (by omega) ?_ | refine bNf (by omega) ?_ | refine call_is hp ?_ | refine bF hx ?_ | refine bT (congrArg not hx) ?_ | refine bD (fun _ => ?_) (fun _ => ?_) | refine bN (fun _ => ?_) (fun _ => ?_)) <;> conv => whnf)
      exact congrArg (fun a => AV.tup [a, _]) (Enc.nil_av (E := EI) rfl rfl rfl)
  · obtain rfl : i = l.length := by omega
    rw [List.take_length] at hf
    rw [if_pos hf]
    clear ih
    have hf0 := hf
    conv => whnf
    repeat' ((first | with_reducible refine bT rfl ?_ | with_reducible refine bF rfl ?_ | (refine sN ?_; (conv => whnf); refine bT (by first | rfl | exact iR8 _ | exact uNN _ | exact iR (by omega) | exact iR (by rw [hw]; omega) | exact nBlt (by omega) | exact nBle (by omega) | (simp; omega)) ?_) | (refine sA ?_; (conv => whnf); refine bT (roomL (by omega) rfl) ?_) | (refine sS ?_; (conv => whnf); refine bT (by first | rfl | exact iR8 _ | exact uNN _ | exact iR (by omega) | exact iR (by rw [hw]; omega) | exact nBlt (by omega) | exact nBle (by omega) | (simp; omega)) ?_) | (refine sM ?_; (conv => whnf); refine bT (mkOK (by omega) (by omega) (by omega) rfl) ?_) | (refine sC ?_; (conv => whnf); refine bT (nBle (by first | omega | (simp; omega))) ?_) | refine bDt (by omega) ?_ | refine bDf (by omega) ?_ | refine bNt (by omega) ?_ | refine bNf (by omega) ?_ | refine bD (fun _ => ?_) (fun _ => ?_) | refine bN (fun _ => ?_) (fun _ => ?_)) <;> conv => whnf)
    obtain ⟨c1, c2, c3⟩ := chk_0 h1
    obtain ⟨c4, c5⟩ := pos_0 h2
    have hpl : plL s l l.length = l.map fun x => (plc s x).1 := padL_all _ _
    rw [hpl]
    refine loop_by (cx := cxLo) rfl progOK (ι := {i : Nat // i ≤ m.length ∧ ∀ d ∈ m.take i, fitP (lossL s l d).sum}) (fun i => m.length - i.1) (fun i => ⟨[(3, .ptr 0 0), (6, .own (EI.L ((m.take i.1).map fun d => (lossL s l d).sum))), (13, .fn 73 [] [.ptr 0 0, .ptr 1 0]), (57, EM.L m), (58, .int .i64 m.length), (59, .int .i64 i.1)], [.cells [EP.L l], .cells [.row 2 1 0 l.length], .arr 1 l.length fun j => EI.f ((l.map fun x => (plc s x).1).getD j EI.d)], [], none⟩) ?_ ⟨0, Nat.zero_le _, by simp⟩
    rintro ⟨i, hi, hf⟩ ih
    dsimp only
    by_cases hlt : i < m.length
    · have hd := c3 _ (Enc.get_mem (E := EM) hlt)
      conv => whnf
      repeat' ((first | with_reducible refine bT rfl ?_ | with_reducible refine bF rfl ?_ | (refine sN ?_; (conv => whnf); refine bT (by first | rfl | exact iR8 _ | exact uNN _ | exact iR (by omega) | exact iR (by rw [hw]; omega) | exact nBlt (by omega) | exact nBle (by omega) | (simp; omega)) ?_) | (refine sA ?_; (conv => whnf); refine bT (roomL (by omega) rfl) ?_) | (refine sS ?_; (conv => whnf); refine bT (by first | rfl | exact iR8 _ | exact uNN _ | exact iR (by omega) | exact iR (by rw [hw]; omega) | exact nBlt (by omega) | exact nBle (by omega) | (simp; omega)) ?_) | (refine sM ?_; (conv => whnf); refine bT (mkOK (by omega) (by omega) (by omega) rfl) ?_) | (refine sC ?_; (conv => whnf); refine bT (nBle (by first | omega | (simp; omega))) ?_) | refine bDt (by omega) ?_ | refine bDf (by omega) ?_ | refine bNt (by omega) ?_ | refine bNf (by omega) ?_ | refine bD (fun _ => ?_) (fun _ => ?_) | refine bN (fun _ => ?_) (fun _ => ?_)) <;> conv => whnf)
      have ih' := fun h => ih ⟨i + 1, hlt, h⟩ (show m.length - (i+1) < m.length - i by omega)
      clear ih
      refine loop_start (st' := (⟨[(3, .ptr 0 0), (6, .own (EI.L ((m.take i).map fun d => (lossL s l d).sum))), (13, .fn 73 [] [.ptr 0 0, .ptr 1 0]), (16, .fn 74 [] [.ptr 0 0, .ptr 3 0, .ptr 1 0]), (17, .row 4 1 0 l.length), (57, EM.L m), (58, .int .i64 m.length), (59, .int .i64 i), (70, .int .i64 l.length), (71, .int .i64 (0 : Nat))], [.cells [EP.L l], .cells [.row 2 1 0 l.length], .arr 1 l.length fun j => EI.f ((l.map fun x => (plc s x).1).getD j EI.d), .cells [EI.L (m.getD i EM.d)], .arr 1 l.length fun q => EI.f ((padL (lossF s (m.getD i EM.d)) l 0).getD q EI.d)], [], none⟩ : St)) ?_ ?_
      · refine st_eq ?_ ?_
        all_goals repeat' (first | exact rfl | refine env_cons ?_ ?_ | refine heap_cons ?_ ?_)
        · exact congrArg (AObj.arr 1 l.length) (Enc.rep_eq (E := EI) rfl)
      refine loop_by (cx := cxLo) rfl progOK (ι := {j : Nat // j ≤ l.length}) (fun j => l.length - j.1) (fun j => ⟨[(3, .ptr 0 0), (6, .own (EI.L ((m.take i).map fun d => (lossL s l d).sum))), (13, .fn 73 [] [.ptr 0 0, .ptr 1 0]), (16, .fn 74 [] [.ptr 0 0, .ptr 3 0, .ptr 1 0]), (17, .row 4 1 0 l.length), (57, EM.L m), (58, .int .i64 m.length), (59, .int .i64 i), (70, .int .i64 l.length), (71, .int .i64 j.1)], [.cells [EP.L l], .cells [.row 2 1 0 l.length], .arr 1 l.length fun j => EI.f ((l.map fun x => (plc s x).1).getD j EI.d), .cells [EI.L (m.getD i EM.d)], .arr 1 l.length fun q => EI.f ((padL (lossF s (m.getD i EM.d)) l j.1).getD q EI.d)], [], none⟩) ?_ ⟨0, Nat.zero_le _⟩
      rintro ⟨j, hj⟩ ih
      dsimp only
      by_cases hjl : j < l.length
      · have hxl := Enc.get_mem (E := EP) hjl
        obtain ⟨k, e1, e2, e3, e4⟩ := loss_part (m := m) hd (c5 _ hxl) (hf0 _ hxl)
        have hx := c5 _ hxl
        have e2' := e2
        rw [← Int.toNat_natCast i] at e2'
        have hml : (l.map fun x => (plc s x).1).length = l.length := List.length_map ..
        have hw : (l.map fun x => (plc s x).1).getD ((j : Int).toNat) EI.d = (k : Int) := by rw [Int.toNat_natCast, getD_map _ (d := EP.d) hjl, e1]
        have hw' : (l.map fun x => (plc s x).1).getD (0 + (j : Int).toNat) EI.d = (k : Int) := by rw [Nat.zero_add]; exact hw
        conv => whnf
        repeat' ((first | with_reducible refine bT rfl ?_ | with_reducible refine bF rfl ?_ | (refine sN ?_; (conv => whnf); refine bT (by first | rfl | exact iR8 _ | exact uNN _ | exact iR (by omega) | exact iR (by rw [hw]; omega) | exact nBlt (by omega) | exact nBle (by omega) | (simp; omega)) ?_) | (refine sA ?_; (conv => whnf); refine bT (roomL (by omega) rfl) ?_) | (refine sS ?_; (conv => whnf); refine bT (by first | rfl | exact iR8 _ | exact uNN _ | exact iR (by omega) | exact iR (by rw [hw]; omega) | exact nBlt (by omega) | exact nBle (by omega) | (simp; omega)) ?_) | (refine sM ?_; (conv => whnf); refine bT (mkOK (by omega) (by omega) (by omega) rfl) ?_) | (refine sC ?_; (conv => whnf); refine bT (nBle (by first | omega | (simp; omega))) ?_) | refine bDt (by omega) ?_ | refine bDf (by omega) ?_ | refine bNt (by omega) ?_ | refine bNf (by omega) ?_ | refine call_is (net _) ?_ | refine loop_to ih ⟨j + 1, hjl⟩ (show l.length - (j+1) < l.length - j by omega) ?_ | refine bD (fun _ => ?_) (fun _ => ?_) | refine bN (fun _ => ?_) (fun _ => ?_)) <;> conv => whnf)
        have ev : IntKind.i64.wrap (IntKind.i64.wrap (0 - IntKind.i64.wrap ((l.getD j EP.d).l - (l.getD j EP.d).h)) * (m.getD i EM.d).getD ((l.map fun x => (plc s x).1).getD (0 + (j : Int).toNat) EI.d).toNat EI.d) = lossF s (m.getD i EM.d) (l.getD j EP.d) := by
          rw [hw', lossF, e1, Int.toNat_natCast, wrap64 (x := (l.getD j EP.d).l - (l.getD j EP.d).h) (by omega), wrap64 (x := 0 - _) (by omega), show (0 : Int) - ((l.getD j EP.d).l - (l.getD j EP.d).h) = -((l.getD j EP.d).l - (l.getD j EP.d).h) by omega]
          exact wrap64 ⟨Int.le_trans (by decide) e3, Int.le_trans e4 (by decide)⟩
        refine st_eq ?_ ?_
        all_goals repeat' (first | exact rfl | refine env_cons ?_ ?_ | refine heap_cons ?_ ?_)
        · exact congrArg _ (next_i hjl (by omega))
        · exact arr_set (by rw [padL_len hj]; exact hjl) (by omega) (congrArg (AV.int IntKind.i64) ev) (padL_set hjl)
      · obtain rfl : j = l.length := by omega
        have k3 := sum (lossL s l (m.getD i EM.d)) (by rw [lossL_len]; omega)
        rw [loss_fit (m := m) hd c5 hf0, fitE] at k3
        rw [padL_all]
        have ea : (AV.vec 1 l.length fun j => EI.f ((l.map (lossF s (m.getD i EM.d))).getD (0 + j) EI.d)) = EI.L (lossL s l (m.getD i EM.d)) := by
          simp only [Nat.zero_add]; rw [Enc.L, lossL_len]; rfl
        rw [← ea] at k3
        by_cases hfit : fitP (lossL s l (m.getD i EM.d)).sum
        · rw [if_pos hfit] at k3
          have ht : ((m.take i).map fun d => (lossL s l d).sum).length = i := by rw [List.length_map, List.length_take_of_le hi]
          have ih2 := ih' (take_snoc hlt hf hfit)
          conv => whnf
          repeat' ((first | with_reducible refine bT rfl ?_ | with_reducible refine bF rfl ?_ | (refine sN ?_; (conv => whnf); refine bT (by first | rfl | exact iR8 _ | exact uNN _ | exact iR (by omega) | exact iR (by rw [hw]; omega) | exact nBlt (by omega) | exact nBle (by omega) | (simp; omega)) ?_) | (refine sA ?_; (conv => whnf); refine bT (roomL (by omega) rfl) ?_) | (refine sS ?_; (conv => whnf); refine bT (by first | rfl | exact iR8 _ | exact uNN _ | exact iR (by omega) | exact iR (by rw [hw]; omega) | exact nBlt (by omega) | exact nBle (by omega) | (simp; omega)) ?_) | (refine sM ?_; (conv => whnf); refine bT (mkOK (by omega) (by omega) (by omega) rfl) ?_) | (refine sC ?_; (conv => whnf); refine bT (nBle (by first | omega | (simp; omega))) ?_) | refine bDt (by omega) ?_ | refine bDf (by omega) ?_ | refine bNt (by omega) ?_ | refine bNf (by omega) ?_ | refine force_by (lend_row (id := 4) (sz := 1) (n := l.length) (n' := l.length) rfl (Nat.le_refl _)) ?_ | refine call_is k3 ?_ | refine loop_start ?_ ih2 | refine bD (fun _ => ?_) (fun _ => ?_) | refine bN (fun _ => ?_) (fun _ => ?_)) <;> conv => whnf)
          refine st_eq ?_ ?_
          all_goals repeat' (first | exact rfl | refine env_cons ?_ ?_ | refine heap_cons ?_ ?_)
          · exact congrArg AV.own (by rw [map_take _ (d := EM.d) hlt]; exact Enc.snoc_av rfl rfl rfl rfl rfl)
          · exact congrArg _ (next_i hlt (by omega))
        · rw [if_neg hfit] at k3
          rw [if_neg (fun h => hfit (h _ (Enc.get_mem (E := EM) hlt)))]
          conv => whnf
          repeat' ((first | with_reducible refine bT rfl ?_ | with_reducible refine bF rfl ?_ | (refine sN ?_; (conv => whnf); refine bT (by first | rfl | exact iR8 _ | exact uNN _ | exact iR (by omega) | exact iR (by rw [hw]; omega) | exact nBlt (by omega) | exact nBle (by omega) | (simp; omega)) ?_) | (refine sA ?_; (conv => whnf); refine bT (roomL (by omega) rfl) ?_) | (refine sS ?_; (conv => whnf); refine bT (by first | rfl | exact iR8 _ | exact uNN _ | exact iR (by omega) | exact iR (by rw [hw]; omega) | exact nBlt (by omega) | exact nBle (by omega) | (simp; omega)) ?_) | (refine sM ?_; (conv => whnf); refine bT (mkOK (by omega) (by omega) (by omega) rfl) ?_) | (refine sC ?_; (conv => whnf); refine bT (nBle (by first | omega | (simp; omega))) ?_) | refine bDt (by omega) ?_ | refine bDf (by omega) ?_ | refine bNt (by omega) ?_ | refine bNf (by omega) ?_ | refine force_by (lend_row (id := 4) (sz := 1) (n := l.length) (n' := l.length) rfl (Nat.le_refl _)) ?_ | refine call_is k3 ?_ | refine bD (fun _ => ?_) (fun _ => ?_) | refine bN (fun _ => ?_) (fun _ => ?_)) <;> conv => whnf)
          exact congrArg (fun a => AV.tup [a, _]) (Enc.nil_av (E := EI) rfl rfl rfl)
    · obtain rfl : i = m.length := by omega
      rw [List.take_length] at hf
      rw [if_pos hf, List.take_length]
      conv => whnf
      repeat' ((first | with_reducible refine bT rfl ?_ | with_reducible refine bF rfl ?_ | (refine sN ?_; (conv => whnf); refine bT (by first | rfl | exact iR8 _ | exact uNN _ | exact iR (by omega) | exact iR (by rw [hw]; omega) | exact nBlt (by omega) | exact nBle (by omega) | (simp; omega)) ?_) | (refine sA ?_; (conv => whnf); refine bT (roomL (by omega) rfl) ?_) | (refine sS ?_; (conv => whnf); refine bT (by first | rfl | exact iR8 _ | exact uNN _ | exact iR (by omega) | exact iR (by rw [hw]; omega) | exact nBlt (by omega) | exact nBle (by omega) | (simp; omega)) ?_) | (refine sM ?_; (conv => whnf); refine bT (mkOK (by omega) (by omega) (by omega) rfl) ?_) | (refine sC ?_; (conv => whnf); refine bT (nBle (by first | omega | (simp; omega))) ?_) | refine bDt (by omega) ?_ | refine bDf (by omega) ?_ | refine bNt (by omega) ?_ | refine bNf (by omega) ?_ | refine bD (fun _ => ?_) (fun _ => ?_) | refine bN (fun _ => ?_) (fun _ => ?_)) <;> conv => whnf)
      rfl
end Go.Proofs

