import Derived.Test.YtflebdkgdnfjoaaLV
import Derived.Test.YtflebdkgdnfjoaaAxMapV
set_option linter.unusedVariables false
set_option linter.unusedSimpArgs false
namespace Go.Proofs
open Ax Go
set_option maxRecDepth 10000
def keepZo (f r : Nat) : Option (List Nat) := match f, r with
  | 22, 3 => some [3, 4, 11, 12, 13]
  | 22, 9 => some [3, 35]
  | 23, 2 => some [0, 3]
  | 23, 6 => some [0, 3, 4, 5, 6]
  | _, _ => none
def keepXZo (f r : Nat) : Option (List Nat) := match f, r with
  | 22, 3 => some [3, 4]
  | 22, 9 => some [2]
  | 23, 2 => some [2]
  | 23, 6 => some [0, 3, 4, 5]
  | _, _ => none
noncomputable def cxZo : Ctx where
  P := Try.prog
  inl := fun _ => false
  keep := keepZo
  keepX := keepXZo
  xf := fun _ _ _ => false
  ow := fun _ => false
  gh := fun _ _ => []
  gf := fun _ => []
  ln := fun _ => false
  srt := srtT
theorem okZo {f a Q} (h : stepCall (SX Try.prog calmT) cxZo calmT f a Q) : CallOK Try.prog f a Q := okOf (cx := cxZo) rfl progOK h
structure Fl where
  m : ByteArray
  c : Int
  n : Int
  y : Int
def encFl (x : Fl) : AV := .agg [.str x.m, .int .i64 x.c, .int .i64 x.n, .int .i64 x.y]
def EFl : Enc Fl := ⟨4, encFl, ⟨ByteArray.empty, 0, 0, 0⟩⟩
def accS (g : Int → Int) : List Fl → Int → Int
  | [], _ => 0
  | x :: r, c => (if x.c = c then g x.n else 0) + accS g r c
theorem accS_app (g : Int → Int) (c : Int) : ∀ (l m : List Fl), accS g (l ++ m) c = accS g l c + accS g m c
  | [], m => by simp [accS]
  | x :: r, m => by simp only [List.cons_append, accS, accS_app g c r m]; omega
theorem accS_snoc (g : Int → Int) (l : List Fl) (x : Fl) (c : Int) : accS g (l ++ [x]) c = accS g l c + if x.c = c then g x.n else 0 := by
  rw [accS_app]; simp [accS]
def keyS : List Fl → List Int
  | l => l.foldl (fun ks x => insK ks x.c) []
theorem keyS_snoc (l : List Fl) (x : Fl) : keyS (l ++ [x]) = insK (keyS l) x.c := by simp [keyS]
def hiG (n : Int) : Int := n.fdiv 4294967296
def loG (n : Int) : Int := n.emod 4294967296
theorem keyS_memG {c : Int} : ∀ (l : List Fl) (ks : List Int), c ∈ l.foldl (fun ks x => insK ks x.c) ks ↔ c ∈ ks ∨ ∃ x ∈ l, x.c = c
  | [], ks => by simp
  | x :: r, ks => by
    simp only [List.foldl_cons, keyS_memG r, insK_mem, List.mem_cons, exists_eq_or_imp]
    constructor
    · rintro ((h | h) | h)
      · exact .inl h
      · exact .inr (.inl h.symm)
      · exact .inr (.inr h)
    · rintro (h | h | h)
      · exact .inl (.inl h)
      · exact .inl (.inr h.symm)
      · exact .inr h
theorem keyS_mem {c : Int} (l : List Fl) : c ∈ keyS l ↔ ∃ x ∈ l, x.c = c := by
  unfold keyS; rw [keyS_memG]; simp
theorem keyS_nodupG : ∀ (l : List Fl) (ks : List Int), ks.Nodup → (l.foldl (fun ks x => insK ks x.c) ks).Nodup
  | [], ks, h => h
  | x :: r, ks, h => keyS_nodupG r _ (insK_nodup h)
theorem keyS_nodup (l : List Fl) : (keyS l).Nodup := keyS_nodupG l [] (by simp)
theorem accS_none {g : Int → Int} {c : Int} : ∀ {l : List Fl}, (∀ x ∈ l, x.c ≠ c) → accS g l c = 0
  | [], _ => rfl
  | x :: r, h => by rw [accS, if_neg (h x (by simp)), accS_none (fun y hy => h y (by simp [hy]))]; rfl
theorem accS_key {g : Int → Int} {c : Int} {l : List Fl} (h : c ∉ keyS l) : accS g l c = 0 := accS_none fun x hx e => h ((keyS_mem l).2 ⟨x, hx, e⟩)
theorem accS_b {g : Int → Int} {A B : Int} (hA : A ≤ 0) (hB : 0 ≤ B) (c : Int) : ∀ {l : List Fl}, (∀ x ∈ l, A ≤ g x.n ∧ g x.n ≤ B) → A * l.length ≤ accS g l c ∧ accS g l c ≤ B * l.length
  | [], _ => by simp [accS]
  | x :: r, h => by
    have h1 := h x (by simp)
    have h2 := accS_b hA hB c (l := r) (fun y hy => h y (by simp [hy]))
    have e1 : A * ((x :: r).length : Int) = A * r.length + A := by simp [Int.mul_add]
    have e2 : B * ((x :: r).length : Int) = B * r.length + B := by simp [Int.mul_add]
    rw [accS, e1, e2]
    split <;> omega
theorem accS_split (c : Int) : ∀ (l : List Fl), accS id l c = 4294967296 * accS hiG l c + accS loG l c
  | [] => rfl
  | x :: r => by
    have h := accS_split c r
    have e : x.n = 4294967296 * hiG x.n + loG x.n := by
      unfold hiG loG
      rw [Int.fdiv_eq_ediv_of_nonneg _ (by omega)]
      have := Int.emod_add_mul_ediv x.n 4294967296
      show x.n = 4294967296 * (x.n / 4294967296) + x.n % 4294967296
      omega
    simp only [accS]
    split
    · simp only [id]; omega
    · omega
theorem hi_b {n : Int} (h : -9223372036854775808 ≤ n ∧ n ≤ 9223372036854775807) : -2147483648 ≤ hiG n ∧ hiG n ≤ 2147483647 := by
  unfold hiG
  rw [Int.fdiv_eq_ediv_of_nonneg _ (by omega)]
  omega
theorem lo_b (n : Int) : 0 ≤ loG n ∧ loG n ≤ 4294967295 := by
  unfold loG
  show 0 ≤ n % 4294967296 ∧ n % 4294967296 ≤ 4294967295
  omega
theorem and_lo (n : Int) : (IntKind.i64.wrap ((BitVec.ofInt IntKind.i64.bits n &&& BitVec.ofInt IntKind.i64.bits 4294967295).toNat : Int)) = loG n := by
  have e : (BitVec.ofInt 64 n &&& BitVec.ofInt 64 4294967295).toNat = (n % 4294967296).toNat := by
    rw [BitVec.toNat_and, BitVec.toNat_ofInt, BitVec.toNat_ofInt]
    have e1 : ((4294967295 : Int) % ((2 ^ 64 : Nat) : Int)).toNat = 2 ^ 32 - 1 := by decide
    rw [e1, Nat.and_two_pow_sub_one_eq_mod]
    omega
  show IntKind.i64.wrap (((BitVec.ofInt 64 n &&& BitVec.ofInt 64 4294967295).toNat : Nat) : Int) = _
  have hb := lo_b n
  unfold loG at hb ⊢
  rw [e, Int.toNat_of_nonneg (by omega), wrap64 (by omega)]
  rfl
theorem shr_hi (n : Int) : n.fdiv (2 ^ (min (32 : Int).toNat IntKind.i64.bits)) = hiG n := rfl
def vI (n : Int) : AV := .int .i64 n
def hiM (l : List Fl) : AObj := .map 3 true (mapV vI (accS hiG l) (keyS l))
def loM (l : List Fl) : AObj := .map 3 true (mapV vI (accS loG l) (keyS l))
theorem stepM (g : Int → Int) (l : List Fl) {v : Int} {i : Nat} (hi : i < l.length) (hv : v = accS g (l.take i) (l.getD i EFl.d).c + g (l.getD i EFl.d).n) :
    AObj.map 3 true (mapV vI (updF (accS g (l.take i)) (l.getD i EFl.d).c v) (insK (keyS (l.take i)) (l.getD i EFl.d).c)) = .map 3 true (mapV vI (accS g (l.take (i + 1))) (keyS (l.take (i + 1)))) := by
  rw [EFl.take_succ hi, keyS_snoc]
  congr 2
  funext x
  rw [accS_snoc]
  unfold updF
  by_cases e : x = (l.getD i EFl.d).c
  · subst e; rw [if_pos rfl, if_pos rfl]; exact hv
  · rw [if_neg e, if_neg (fun q => e q.symm)]; omega
theorem mapV_len {f : Int → Int} {ks : List Int} : (mapV vI f ks).length = ks.length := by simp [mapV]
theorem mapV_erase {f : Int → Int} : ∀ {ks : List Int} {j : Nat}, (mapV vI f ks).eraseIdx j = mapV vI f (ks.eraseIdx j)
  | [], j => by simp [mapV]
  | k :: r, 0 => by simp [mapV]
  | k :: r, j + 1 => by
    have := mapV_erase (f := f) (ks := r) (j := j)
    simp only [mapV, List.map_cons, List.eraseIdx_cons_succ] at this ⊢
    rw [this]
theorem mem_erase_or {ks : List Int} {j : Nat} {c : Int} (h : c ∈ ks) : c ∈ ks.eraseIdx j ∨ c = ks.getD j 0 := by
  obtain ⟨i, hi⟩ := List.getElem?_of_mem h
  by_cases e : i = j
  · subst e; right; rw [List.getD_eq_getElem?_getD, hi]; rfl
  · left
    rcases Nat.lt_or_ge i j with hl | hl
    · exact List.mem_of_getElem? (i := i) (by rw [List.getElem?_eraseIdx, if_pos hl]; exact hi)
    · exact List.mem_of_getElem? (i := i - 1) (by rw [List.getElem?_eraseIdx, if_neg (by omega)]; rw [show i - 1 + 1 = i by omega]; exact hi)
theorem leftAt_mapV {f : Int → Int} {ks : List Int} {j : Nat} (hj : j < ks.length) : leftAt (mapV vI f ks) j = .tup [.bool true, .int .i64 (ks.getD j 0), .int .i64 (f (ks.getD j 0))] := by
  have e : (mapV vI f ks)[j]? = some (.int .i64 ks[j], .int .i64 (f ks[j])) := by simp [mapV, hj, vI]
  have e2 : ks.getD j 0 = ks[j] := by simp [List.getD, hj]
  rw [e2]
  simp only [leftAt, List.getD, e, Option.getD_some, AV.strip]
theorem curAt_mapV {f : Int → Int} {ks : List Int} {j : Nat} (hj : j < ks.length) : curAt (mapV vI f ks) j = [(.int .i64 (ks.getD j 0), .int .i64 (f (ks.getD j 0)))] := by
  have e : (mapV vI f ks)[j]? = some (.int .i64 ks[j], .int .i64 (f ks[j])) := by simp [mapV, hj, vI]
  have e2 : ks.getD j 0 = ks[j] := by simp [List.getD, hj]
  rw [e2]
  simp only [curAt, List.getD, e, Option.getD_some]
theorem zero (l : List Fl) (hl : l.length ≤ 1000) (hb : ∀ x ∈ l, -9223372036854775808 ≤ x.n ∧ x.n ≤ 9223372036854775807) : CallOK Try.prog 22 [EFl.L l] (fun r => r = .bool (decide (∀ x ∈ l, accS id l x.c = 0))) := by
  refine okZo ?_
  conv => whnf
  repeat' ((first | with_reducible refine bT rfl ?_ | with_reducible refine bF rfl ?_ | (refine sN ?_; (conv => whnf); refine bT (by first | rfl | exact iR8 _ | exact uNN _ | exact iR (by omega) | exact iR (by rw [hw]; omega) | exact nBlt (by omega) | exact nBle (by omega) | (simp; omega)) ?_) | (refine sA ?_; (conv => whnf); refine bT (roomL (by omega) rfl) ?_) | (refine sS ?_; (conv => whnf); refine bT (by first | rfl | exact iR8 _ | exact uNN _ | exact iR (by omega) | exact iR (by rw [hw]; omega) | exact nBlt (by omega) | exact nBle (by omega) | (simp; omega)) ?_) | (refine sM ?_; (conv => whnf); refine bT (mkOK (by omega) (by omega) (by omega) rfl) ?_) | (refine sC ?_; (conv => whnf); refine bT (nBle (by first | omega | (simp; omega))) ?_) | refine bDt (by omega) ?_ | refine bDf (by omega) ?_ | refine bNt (by omega) ?_ | refine bNf (by omega) ?_ | refine bD (fun _ => ?_) (fun _ => ?_) | refine bN (fun _ => ?_) (fun _ => ?_)) <;> conv => whnf)
  refine loop_by (cx := cxZo) rfl progOK (ι := {i : Nat // i ≤ l.length}) (fun x => l.length - x.1) (fun x => ⟨[(3, .mapr 0), (4, .mapr (0 + 1)), (11, EFl.L l), (12, .int .i64 l.length), (13, .int .i64 x.1)], [hiM (l.take x.1), loM (l.take x.1)], [], none⟩) ?_ ⟨0, Nat.zero_le _⟩
  rintro ⟨i, hi⟩ ih
  dsimp only at hi ⊢
  by_cases hlt : i < l.length
  · have ht : l.take (i + 1) = l.take i ++ [l.getD i EFl.d] := EFl.take_succ hlt
    have hx := hb _ (EFl.get_mem hlt)
    have hm : ∀ x ∈ l.take i, x ∈ l := fun x hx => List.mem_of_mem_take hx
    have b1 := fun c => accS_b (g := hiG) (A := -2147483648) (B := 2147483647) (by omega) (by omega) c (l := l.take i) (fun x hx => hi_b (hb x (hm x hx)))
    have b2 := fun c => accS_b (g := loG) (A := 0) (B := 4294967295) (by omega) (by omega) c (l := l.take i) (fun x _ => lo_b x.n)
    have hlen : (l.take i).length ≤ 1000 := by simp; omega
    have c1 := b1 (l.getD i EFl.d).c
    have c2 := b2 (l.getD i EFl.d).c
    have d1 := hi_b hx
    have d2 := lo_b (l.getD i EFl.d).n
    clear b1 b2
    conv => whnf
    repeat' ((first | with_reducible refine bT rfl ?_ | with_reducible refine bF rfl ?_ | (refine sN ?_; (conv => whnf); refine bT (by first | rfl | exact iR8 _ | exact uNN _ | exact iR (by omega) | exact iR (by rw [hw]; omega) | exact nBlt (by omega) | exact nBle (by omega) | (simp; omega)) ?_) | (refine sA ?_; (conv => whnf); refine bT (roomL (by omega) rfl) ?_) | (refine sS ?_; (conv => whnf); refine bT (by first | rfl | exact iR8 _ | exact uNN _ | exact iR (by omega) | exact iR (by rw [hw]; omega) | exact nBlt (by omega) | exact nBle (by omega) | (simp; omega)) ?_) | (refine sM ?_; (conv => whnf); refine bT (mkOK (by omega) (by omega) (by omega) rfl) ?_) | (refine sC ?_; (conv => whnf); refine bT (nBle (by first | omega | (simp; omega))) ?_) | refine bDt (by omega) ?_ | refine bDf (by omega) ?_ | refine bNt (by omega) ?_ | refine bNf (by omega) ?_ | refine st_lookV (enc := vI) (f := accS hiG (l.take i)) (z := 0) rfl rfl rfl rfl rfl rfl rfl rfl accS_key ?_ | refine st_setV (enc := vI) (f := accS hiG (l.take i)) rfl rfl rfl rfl rfl rfl rfl rfl rfl (keyS_nodup _) ?_ | refine st_lookV (enc := vI) (f := accS loG (l.take i)) (z := 0) rfl rfl rfl rfl rfl rfl rfl rfl accS_key ?_ | refine st_setV (enc := vI) (f := accS loG (l.take i)) rfl rfl rfl rfl rfl rfl rfl rfl rfl (keyS_nodup _) ?_ | refine loop_to ih ⟨i + 1, hlt⟩ (show l.length - (i+1) < l.length - i by omega) ?_ | refine bD (fun _ => ?_) (fun _ => ?_) | refine bN (fun _ => ?_) (fun _ => ?_)) <;> conv => whnf)
    refine st_eq ?_ ?_
    · rw [next_i hlt (by omega)]; rfl
    · refine heap_cons (stepM hiG l hlt ?_) (heap_cons (stepM loG l hlt ?_) rfl)
      · rw [Int.toNat_natCast]
        show IntKind.i64.wrap (accS hiG (l.take i) (l.getD i EFl.d).c + hiG (l.getD i EFl.d).n) = _
        exact wrap64 (by omega)
      · show IntKind.i64.wrap (_ + IntKind.i64.wrap _) = _
        rw [Int.toNat_natCast, and_lo]
        exact wrap64 (by omega)
  · clear ih
    obtain rfl : i = l.length := by omega
    rw [List.take_length]
    conv => whnf
    repeat' ((first | with_reducible refine bT rfl ?_ | with_reducible refine bF rfl ?_ | (refine sN ?_; (conv => whnf); refine bT (by first | rfl | exact iR8 _ | exact uNN _ | exact iR (by omega) | exact iR (by rw [hw]; omega) | exact nBlt (by omega) | exact nBle (by omega) | (simp; omega)) ?_) | (refine sA ?_; (conv => whnf); refine bT (roomL (by omega) rfl) ?_) | (refine sS ?_; (conv => whnf); refine bT (by first | rfl | exact iR8 _ | exact uNN _ | exact iR (by omega) | exact iR (by rw [hw]; omega) | exact nBlt (by omega) | exact nBle (by omega) | (simp; omega)) ?_) | (refine sM ?_; (conv => whnf); refine bT (mkOK (by omega) (by omega) (by omega) rfl) ?_) | (refine sC ?_; (conv => whnf); refine bT (nBle (by first | omega | (simp; omega))) ?_) | refine bDt (by omega) ?_ | refine bDf (by omega) ?_ | refine bNt (by omega) ?_ | refine bNf (by omega) ?_ | refine bD (fun _ => ?_) (fun _ => ?_) | refine bN (fun _ => ?_) (fun _ => ?_)) <;> conv => whnf)
    refine loop_by (cx := cxZo) rfl progOK (ι := {p : List Int × List (AV × AV) // (∀ c ∈ p.1, c ∈ keyS l) ∧ ∀ c ∈ keyS l, c ∉ p.1 → accS id l c = 0}) (fun p => p.1.1.length) (fun p => ⟨[(3, .mapr 0), (35, .iter (0 + 1 + 1))], [hiM l, loM l, .iter (some (0 + 1)) (mapV vI (accS loG l) p.1.1) p.1.2], [], none⟩) ?_ ⟨(keyS l, []), fun c h => h, fun c h h' => absurd h h'⟩
    rintro ⟨⟨ks, cur⟩, h1, h2⟩ ih
    dsimp only at h1 h2 ⊢
    conv => whnf
    repeat' ((first | with_reducible refine bT rfl ?_ | with_reducible refine bF rfl ?_ | (refine sN ?_; (conv => whnf); refine bT (by first | rfl | exact iR8 _ | exact uNN _ | exact iR (by omega) | exact iR (by rw [hw]; omega) | exact nBlt (by omega) | exact nBle (by omega) | (simp; omega)) ?_) | (refine sA ?_; (conv => whnf); refine bT (roomL (by omega) rfl) ?_) | (refine sS ?_; (conv => whnf); refine bT (by first | rfl | exact iR8 _ | exact uNN _ | exact iR (by omega) | exact iR (by rw [hw]; omega) | exact nBlt (by omega) | exact nBle (by omega) | (simp; omega)) ?_) | (refine sM ?_; (conv => whnf); refine bT (mkOK (by omega) (by omega) (by omega) rfl) ?_) | (refine sC ?_; (conv => whnf); refine bT (nBle (by first | omega | (simp; omega))) ?_) | refine bDt (by omega) ?_ | refine bDf (by omega) ?_ | refine bNt (by omega) ?_ | refine bNf (by omega) ?_ | refine bD (fun _ => ?_) (fun _ => ?_) | refine bN (fun _ => ?_) (fun _ => ?_)) <;> conv => whnf)
    refine bB (fun hz => ?_) (fun hz j hj => ?_)
    · clear ih
      rw [mapV_len] at hz
      obtain rfl : ks = [] := by cases ks with | nil => rfl | cons a r => simp at hz
      conv => whnf
      repeat' ((first | with_reducible refine bT rfl ?_ | with_reducible refine bF rfl ?_ | (refine sN ?_; (conv => whnf); refine bT (by first | rfl | exact iR8 _ | exact uNN _ | exact iR (by omega) | exact iR (by rw [hw]; omega) | exact nBlt (by omega) | exact nBle (by omega) | (simp; omega)) ?_) | (refine sA ?_; (conv => whnf); refine bT (roomL (by omega) rfl) ?_) | (refine sS ?_; (conv => whnf); refine bT (by first | rfl | exact iR8 _ | exact uNN _ | exact iR (by omega) | exact iR (by rw [hw]; omega) | exact nBlt (by omega) | exact nBle (by omega) | (simp; omega)) ?_) | (refine sM ?_; (conv => whnf); refine bT (mkOK (by omega) (by omega) (by omega) rfl) ?_) | (refine sC ?_; (conv => whnf); refine bT (nBle (by first | omega | (simp; omega))) ?_) | refine bDt (by omega) ?_ | refine bDf (by omega) ?_ | refine bNt (by omega) ?_ | refine bNf (by omega) ?_ | refine bD (fun _ => ?_) (fun _ => ?_) | refine bN (fun _ => ?_) (fun _ => ?_)) <;> conv => whnf)
      exact congrArg AV.bool (decide_eq_true fun (x : Fl) hx => h2 x.c ((keyS_mem l).2 ⟨x, hx, rfl⟩) (by simp)).symm
    · rw [mapV_len] at hj hz
      have hpos : ks.length ≠ 0 := fun e => by rw [e] at hz; simp at hz
      have hj : j < ks.length := by omega
      rw [leftAt_mapV hj, curAt_mapV hj, mapV_erase]
      have hcm : ks.getD j 0 ∈ ks := by rw [List.getD_eq_getElem?_getD, List.getElem?_eq_getElem hj]; exact List.getElem_mem hj
      obtain ⟨x, hx, hxc⟩ := (keyS_mem l).1 (h1 _ hcm)
      generalize hc : ks.getD j 0 = c at *
      have b1 := accS_b (g := hiG) (A := -2147483648) (B := 2147483647) (by omega) (by omega) c (l := l) (fun x hx => hi_b (hb x hx))
      have b2 := accS_b (g := loG) (A := 0) (B := 4294967295) (by omega) (by omega) c (l := l) (fun x _ => lo_b x.n)
      have sp := accS_split c l
      have hw2 : IntKind.i64.wrap (accS hiG l c + (accS loG l c).fdiv (2 ^ (min (32 : Int).toNat IntKind.i64.bits))) = accS hiG l c + hiG (accS loG l c) := by
        show IntKind.i64.wrap (accS hiG l c + hiG (accS loG l c)) = _
        have := hi_b (n := accS loG l c) (by omega)
        exact wrap64 (by omega)
      have eh : hiG (accS loG l c) = accS loG l c / 4294967296 := by unfold hiG; exact Int.fdiv_eq_ediv_of_nonneg _ (by omega)
      have el : loG (accS loG l c) = accS loG l c % 4294967296 := rfl
      by_cases z : accS id l c = 0
      · have g1 : IntKind.i64.wrap ((BitVec.ofInt IntKind.i64.bits (accS loG l c) &&& BitVec.ofInt IntKind.i64.bits 4294967295).toNat : Int) = 0 := by rw [and_lo, el]; omega
        have g2 : IntKind.i64.wrap (accS hiG l c + (accS loG l c).fdiv (2 ^ (min (32 : Int).toNat IntKind.i64.bits))) = 0 := by rw [hw2, eh]; omega
        conv => whnf
        repeat' ((first | with_reducible refine bT rfl ?_ | with_reducible refine bF rfl ?_ | (refine sN ?_; (conv => whnf); refine bT (by first | rfl | exact iR8 _ | exact uNN _ | exact iR (by omega) | exact iR (by rw [hw]; omega) | exact nBlt (by omega) | exact nBle (by omega) | (simp; omega)) ?_) | (refine sA ?_; (conv => whnf); refine bT (roomL (by omega) rfl) ?_) | (refine sS ?_; (conv => whnf); refine bT (by first | rfl | exact iR8 _ | exact uNN _ | exact iR (by omega) | exact iR (by rw [hw]; omega) | exact nBlt (by omega) | exact nBle (by omega) | (simp; omega)) ?_) | (refine sM ?_; (conv => whnf); refine bT (mkOK (by omega) (by omega) (by omega) rfl) ?_) | (refine sC ?_; (conv => whnf); refine bT (nBle (by first | omega | (simp; omega))) ?_) | refine bDt (by omega) ?_ | refine bDf (by omega) ?_ | refine bNt (by omega) ?_ | refine bNf (by omega) ?_ | refine bNf g1 ?_ | refine st_lookV (enc := vI) (f := accS hiG l) (z := 0) rfl rfl rfl rfl rfl rfl rfl rfl accS_key ?_ | refine bNf g2 ?_ | refine loop_to ih ⟨(ks.eraseIdx j, _), fun c' h' => h1 c' (List.mem_of_mem_eraseIdx h'), fun c' h' h'' => ?_⟩ (show (ks.eraseIdx j).length < ks.length by rw [List.length_eraseIdx_of_lt hj]; omega) rfl | refine bD (fun _ => ?_) (fun _ => ?_) | refine bN (fun _ => ?_) (fun _ => ?_)) <;> conv => whnf)
        by_cases hk : c' ∈ ks
        · rcases mem_erase_or (j := j) hk with h3 | h3
          · exact absurd h3 h''
          · rw [h3, hc]; exact z
        · exact h2 c' h' hk
      · have no : AV.bool false = AV.bool (decide (∀ x ∈ l, accS id l x.c = 0)) := congrArg AV.bool (decide_eq_false fun h => z (hxc ▸ h x hx)).symm
        clear ih
        by_cases g1 : IntKind.i64.wrap ((BitVec.ofInt IntKind.i64.bits (accS loG l c) &&& BitVec.ofInt IntKind.i64.bits 4294967295).toNat : Int) = 0
        · have g2 : ¬ IntKind.i64.wrap (accS hiG l c + (accS loG l c).fdiv (2 ^ (min (32 : Int).toNat IntKind.i64.bits))) = 0 := by
            rw [and_lo, el] at g1
            rw [hw2, eh]; omega
          conv => whnf
          repeat' ((first | with_reducible refine bT rfl ?_ | with_reducible refine bF rfl ?_ | (refine sN ?_; (conv => whnf); refine bT (by first | rfl | exact iR8 _ | exact uNN _ | exact iR (by omega) | exact iR (by rw [hw]; omega) | exact nBlt (by omega) | exact nBle (by omega) | (simp; omega)) ?_) | (refine sA ?_; (conv => whnf); refine bT (roomL (by omega) rfl) ?_) | (refine sS ?_; (conv => whnf); refine bT (by first | rfl | exact iR8 _ | exact uNN _ | exact iR (by omega) | exact iR (by rw [hw]; omega) | exact nBlt (by omega) | exact nBle (by omega) | (simp; omega)) ?_) | (refine sM ?_; (conv => whnf); refine bT (mkOK (by omega) (by omega) (by omega) rfl) ?_) | (refine sC ?_; (conv => whnf); refine bT (nBle (by first | omega | (simp; omega))) ?_) | refine bDt (by omega) ?_ | refine bDf (by omega) ?_ | refine bNt (by omega) ?_ | refine bNf (by omega) ?_ | refine bNf g1 ?_ | refine st_lookV (enc := vI) (f := accS hiG l) (z := 0) rfl rfl rfl rfl rfl rfl rfl rfl accS_key ?_ | refine bNt g2 ?_ | refine bD (fun _ => ?_) (fun _ => ?_) | refine bN (fun _ => ?_) (fun _ => ?_)) <;> conv => whnf)
          all_goals exact no
        · conv => whnf
          repeat' ((first | with_reducible refine bT rfl ?_ | with_reducible refine bF rfl ?_ | (refine sN ?_; (conv => whnf); refine bT (by first | rfl | exact iR8 _ | exact uNN _ | exact iR (by omega) | exact iR (by rw [hw]; omega) | exact nBlt (by omega) | exact nBle (by omega) | (simp; omega)) ?_) | (refine sA ?_; (conv => whnf); refine bT (roomL (by omega) rfl) ?_) | (refine sS ?_; (conv => whnf); refine bT (by first | rfl | exact iR8 _ | exact uNN _ | exact iR (by omega) | exact iR (by rw [hw]; omega) | exact nBlt (by omega) | exact nBle (by omega) | (simp; omega)) ?_) | (refine sM ?_; (conv => whnf); refine bT (mkOK (by omega) (by omega) (by omega) rfl) ?_) | (refine sC ?_; (conv => whnf); refine bT (nBle (by first | omega | (simp; omega))) ?_) | refine bDt (by omega) ?_ | refine bDf (by omega) ?_ | refine bNt (by omega) ?_ | refine bNf (by omega) ?_ | refine bNt g1 ?_ | refine bD (fun _ => ?_) (fun _ => ?_) | refine bN (fun _ => ?_) (fun _ => ?_)) <;> conv => whnf)
          all_goals exact no
end Go.Proofs


set_option linter.unusedVariables false
set_option linter.unusedSimpArgs false
namespace Go.Proofs
open Ax Go
set_option maxRecDepth 10000
def hiT (n : Int) : Int := n.tdiv 4294967296
def loT (n : Int) : Int := n.tmod 4294967296
theorem splitT (n : Int) : 4294967296 * hiT n + loT n = n := Int.mul_tdiv_add_tmod n 4294967296
theorem loT_b (n : Int) : -4294967295 ≤ loT n ∧ loT n ≤ 4294967295 := by
  have h1 := Int.tmod_lt_of_pos n (show (0 : Int) < 4294967296 by omega)
  have h2 := Int.lt_tmod_of_pos n (show (0 : Int) < 4294967296 by omega)
  unfold loT
  omega
theorem hiT_b {n : Int} (h : -9223372036854775808 ≤ n ∧ n ≤ 9223372036854775807) : -2147483648 ≤ hiT n ∧ hiT n ≤ 2147483648 := by
  have h1 := splitT n
  have h2 := loT_b n
  omega
theorem accS_splitT (c : Int) : ∀ (l : List Fl), accS id l c = 4294967296 * accS hiT l c + accS loT l c
  | [] => rfl
  | x :: r => by
    have h := accS_splitT c r
    have e := splitT x.n
    simp only [accS]
    split
    · simp only [id]; omega
    · omega
theorem refZero (l : List Fl) (hl : l.length ≤ 1000) (hb : ∀ x ∈ l, -9223372036854775808 ≤ x.n ∧ x.n ≤ 9223372036854775807) : CallOK Try.prog 23 [EFl.L l] (fun r => r = .bool (decide (∀ x ∈ l, accS id l x.c = 0))) := by
  refine okZo ?_
  conv => whnf
  repeat' ((first | with_reducible refine bT rfl ?_ | with_reducible refine bF rfl ?_ | (refine sN ?_; (conv => whnf); refine bT (by first | rfl | exact iR8 _ | exact uNN _ | exact iR (by omega) | exact iR (by rw [hw]; omega) | exact nBlt (by omega) | exact nBle (by omega) | (simp; omega)) ?_) | (refine sA ?_; (conv => whnf); refine bT (roomL (by omega) rfl) ?_) | (refine sS ?_; (conv => whnf); refine bT (by first | rfl | exact iR8 _ | exact uNN _ | exact iR (by omega) | exact iR (by rw [hw]; omega) | exact nBlt (by omega) | exact nBle (by omega) | (simp; omega)) ?_) | (refine sM ?_; (conv => whnf); refine bT (mkOK (by omega) (by omega) (by omega) rfl) ?_) | (refine sC ?_; (conv => whnf); refine bT (nBle (by first | omega | (simp; omega))) ?_) | refine bDt (by omega) ?_ | refine bDf (by omega) ?_ | refine bNt (by omega) ?_ | refine bNf (by omega) ?_ | refine bD (fun _ => ?_) (fun _ => ?_) | refine bN (fun _ => ?_) (fun _ => ?_)) <;> conv => whnf)
  refine loop_by (cx := cxZo) rfl progOK (ι := {i : Nat // i ≤ l.length ∧ ∀ x ∈ l.take i, accS id l x.c = 0}) (fun x => l.length - x.1) (fun x => ⟨[(0, EFl.L l), (3, .int .i64 x.1)], [], [], none⟩) ?_ ⟨0, Nat.zero_le _, by simp⟩
  rintro ⟨i, hi, hz⟩ ih
  dsimp only at hi hz ⊢
  by_cases hlt : i < l.length
  rotate_left
  · obtain rfl : i = l.length := by omega
    clear ih
    conv => whnf
    repeat' ((first | with_reducible refine bT rfl ?_ | with_reducible refine bF rfl ?_ | (refine sN ?_; (conv => whnf); refine bT (by first | rfl | exact iR8 _ | exact uNN _ | exact iR (by omega) | exact iR (by rw [hw]; omega) | exact nBlt (by omega) | exact nBle (by omega) | (simp; omega)) ?_) | (refine sA ?_; (conv => whnf); refine bT (roomL (by omega) rfl) ?_) | (refine sS ?_; (conv => whnf); refine bT (by first | rfl | exact iR8 _ | exact uNN _ | exact iR (by omega) | exact iR (by rw [hw]; omega) | exact nBlt (by omega) | exact nBle (by omega) | (simp; omega)) ?_) | (refine sM ?_; (conv => whnf); refine bT (mkOK (by omega) (by omega) (by omega) rfl) ?_) | (refine sC ?_; (conv => whnf); refine bT (nBle (by first | omega | (simp; omega))) ?_) | refine bDt (by omega) ?_ | refine bDf (by omega) ?_ | refine bNt (by omega) ?_ | refine bNf (by omega) ?_ | refine bD (fun _ => ?_) (fun _ => ?_) | refine bN (fun _ => ?_) (fun _ => ?_)) <;> conv => whnf)
    rw [List.take_length] at hz
    exact congrArg AV.bool (decide_eq_true hz).symm
  conv => whnf
  repeat' ((first | with_reducible refine bT rfl ?_ | with_reducible refine bF rfl ?_ | (refine sN ?_; (conv => whnf); refine bT (by first | rfl | exact iR8 _ | exact uNN _ | exact iR (by omega) | exact iR (by rw [hw]; omega) | exact nBlt (by omega) | exact nBle (by omega) | (simp; omega)) ?_) | (refine sA ?_; (conv => whnf); refine bT (roomL (by omega) rfl) ?_) | (refine sS ?_; (conv => whnf); refine bT (by first | rfl | exact iR8 _ | exact uNN _ | exact iR (by omega) | exact iR (by rw [hw]; omega) | exact nBlt (by omega) | exact nBle (by omega) | (simp; omega)) ?_) | (refine sM ?_; (conv => whnf); refine bT (mkOK (by omega) (by omega) (by omega) rfl) ?_) | (refine sC ?_; (conv => whnf); refine bT (nBle (by first | omega | (simp; omega))) ?_) | refine bDt (by omega) ?_ | refine bDf (by omega) ?_ | refine bNt (by omega) ?_ | refine bNf (by omega) ?_ | refine bD (fun _ => ?_) (fun _ => ?_) | refine bN (fun _ => ?_) (fun _ => ?_)) <;> conv => whnf)
  have hxm := EFl.get_mem hlt
  generalize hX : l.getD i EFl.d = X at hxm
  refine loop_by (cx := cxZo) rfl progOK (ι := {k : Nat // k ≤ l.length}) (fun x => l.length - x.1) (fun x => ⟨[(0, EFl.L l), (3, .int .i64 i), (4, .int .i64 (accS hiT (l.take x.1) X.c)), (5, .int .i64 (accS loT (l.take x.1) X.c)), (6, .int .i64 x.1)], [], [], none⟩) ?_ ⟨0, Nat.zero_le _⟩
  rintro ⟨k, hk⟩ ih2
  dsimp only at hk ⊢
  have hm : ∀ x ∈ l.take k, x ∈ l := fun x hx => List.mem_of_mem_take hx
  have b1 := accS_b (g := hiT) (A := -2147483648) (B := 2147483648) (by omega) (by omega) X.c (l := l.take k) (fun x hx => hiT_b (hb x (hm x hx)))
  have b2 := accS_b (g := loT) (A := -4294967295) (B := 4294967295) (by omega) (by omega) X.c (l := l.take k) (fun x _ => loT_b x.n)
  have hlen : (l.take k).length ≤ 1000 := by simp; omega
  by_cases hkt : k < l.length
  · clear ih
    have d1 := hiT_b (hb _ (EFl.get_mem hkt))
    have d2 := loT_b (l.getD k EFl.d).n
    have e0 : IntKind.i64.wrap (hiT (l.getD k EFl.d).n) = hiT (l.getD k EFl.d).n := wrap64 (by omega)
    have e1 : IntKind.i64.wrap (accS hiT (l.take k) X.c + IntKind.i64.wrap (hiT (l.getD k EFl.d).n)) = accS hiT (l.take k) X.c + hiT (l.getD k EFl.d).n := by rw [e0]; exact wrap64 (by omega)
    have e2 : IntKind.i64.wrap (accS loT (l.take k) X.c + loT (l.getD k EFl.d).n) = accS loT (l.take k) X.c + loT (l.getD k EFl.d).n := wrap64 (by omega)
    have t1 := accS_snoc hiT (l.take k) (l.getD k EFl.d) X.c
    have t2 := accS_snoc loT (l.take k) (l.getD k EFl.d) X.c
    rw [← EFl.take_succ hkt] at t1 t2
    by_cases hc : (l.getD (k : Int).toNat EFl.d).c = (l.getD (i : Int).toNat EFl.d).c
    · conv => whnf
      repeat' ((first | with_reducible refine bT rfl ?_ | with_reducible refine bF rfl ?_ | (refine sN ?_; (conv => whnf); refine bT (by first | rfl | exact iR8 _ | exact uNN _ | exact iR (by omega) | exact iR (by rw [hw]; omega) | exact nBlt (by omega) | exact nBle (by omega) | (simp; omega)) ?_) | (refine sA ?_; (conv => whnf); refine bT (roomL (by omega) rfl) ?_) | (refine sS ?_; (conv => whnf); refine bT (by first | rfl | exact iR8 _ | exact uNN _ | exact iR (by omega) | exact iR (by rw [hw]; omega) | exact nBlt (by omega) | exact nBle (by omega) | (simp; omega)) ?_) | (refine sM ?_; (conv => whnf); refine bT (mkOK (by omega) (by omega) (by omega) rfl) ?_) | (refine sC ?_; (conv => whnf); refine bT (nBle (by first | omega | (simp; omega))) ?_) | refine bDt (by omega) ?_ | refine bDf (by omega) ?_ | refine bNt (by omega) ?_ | refine bNf (by omega) ?_ | refine bDt hc ?_ | refine loop_to ih2 ⟨k + 1, hkt⟩ (show l.length - (k+1) < l.length - k by omega) ?_ | refine bD (fun _ => ?_) (fun _ => ?_) | refine bN (fun _ => ?_) (fun _ => ?_)) <;> conv => whnf)
      rw [Int.toNat_natCast, Int.toNat_natCast, hX] at hc
      rw [if_pos hc] at t1 t2
      refine st_eq ?_ rfl
      refine env_cons rfl (env_cons rfl (env_cons ?_ (env_cons ?_ (env_cons ?_ rfl))))
      · show AV.int _ (IntKind.i64.wrap (_ + IntKind.i64.wrap (hiT _))) = _
        rw [Int.toNat_natCast, e1, t1]
      · show AV.int _ (IntKind.i64.wrap (_ + loT _)) = _
        rw [Int.toNat_natCast, e2, t2]
      · rw [next_i hkt (by omega)]
    · conv => whnf
      repeat' ((first | with_reducible refine bT rfl ?_ | with_reducible refine bF rfl ?_ | (refine sN ?_; (conv => whnf); refine bT (by first | rfl | exact iR8 _ | exact uNN _ | exact iR (by omega) | exact iR (by rw [hw]; omega) | exact nBlt (by omega) | exact nBle (by omega) | (simp; omega)) ?_) | (refine sA ?_; (conv => whnf); refine bT (roomL (by omega) rfl) ?_) | (refine sS ?_; (conv => whnf); refine bT (by first | rfl | exact iR8 _ | exact uNN _ | exact iR (by omega) | exact iR (by rw [hw]; omega) | exact nBlt (by omega) | exact nBle (by omega) | (simp; omega)) ?_) | (refine sM ?_; (conv => whnf); refine bT (mkOK (by omega) (by omega) (by omega) rfl) ?_) | (refine sC ?_; (conv => whnf); refine bT (nBle (by first | omega | (simp; omega))) ?_) | refine bDt (by omega) ?_ | refine bDf (by omega) ?_ | refine bNt (by omega) ?_ | refine bNf (by omega) ?_ | refine bDf hc ?_ | refine loop_to ih2 ⟨k + 1, hkt⟩ (show l.length - (k+1) < l.length - k by omega) ?_ | refine bD (fun _ => ?_) (fun _ => ?_) | refine bN (fun _ => ?_) (fun _ => ?_)) <;> conv => whnf)
      rw [Int.toNat_natCast, Int.toNat_natCast, hX] at hc
      rw [if_neg hc] at t1 t2
      refine st_eq ?_ rfl
      refine env_cons rfl (env_cons rfl (env_cons ?_ (env_cons ?_ (env_cons ?_ rfl))))
      · rw [t1, Int.add_zero]
      · rw [t2, Int.add_zero]
      · rw [next_i hkt (by omega)]
  · clear ih2
    obtain rfl : k = l.length := by omega
    rw [List.take_length] at b1 b2 ⊢
    have sp := accS_splitT X.c l
    have q1 := splitT (accS loT l X.c)
    have q2 := hiT_b (n := accS loT l X.c) (by omega)
    have q3 := loT_b (accS loT l X.c)
    have g2 : IntKind.i64.wrap (accS hiT l X.c + IntKind.i64.wrap ((accS loT l X.c).tdiv 4294967296)) = accS hiT l X.c + hiT (accS loT l X.c) := by
      show IntKind.i64.wrap (accS hiT l X.c + IntKind.i64.wrap (hiT (accS loT l X.c))) = _
      rw [wrap64 (x := hiT (accS loT l X.c)) (by omega)]
      exact wrap64 (by omega)
    by_cases z : accS id l X.c = 0
    · have h1 : (accS loT l X.c).tmod 4294967296 = 0 := by show loT (accS loT l X.c) = 0; omega
      have h2 : IntKind.i64.wrap (accS hiT l X.c + IntKind.i64.wrap ((accS loT l X.c).tdiv 4294967296)) = 0 := by rw [g2]; omega
      conv => whnf
      repeat' ((first | with_reducible refine bT rfl ?_ | with_reducible refine bF rfl ?_ | (refine sN ?_; (conv => whnf); refine bT (by first | rfl | exact iR8 _ | exact uNN _ | exact iR (by omega) | exact iR (by rw [hw]; omega) | exact nBlt (by omega) | exact nBle (by omega) | (simp; omega)) ?_) | (refine sA ?_; (conv => whnf); refine bT (roomL (by omega) rfl) ?_) | (refine sS ?_; (conv => whnf); refine bT (by first | rfl | exact iR8 _ | exact uNN _ | exact iR (by omega) | exact iR (by rw [hw]; omega) | exact nBlt (by omega) | exact nBle (by omega) | (simp; omega)) ?_) | (refine sM ?_; (conv => whnf); refine bT (mkOK (by omega) (by omega) (by omega) rfl) ?_) | (refine sC ?_; (conv => whnf); refine bT (nBle (by first | omega | (simp; omega))) ?_) | refine bDt (by omega) ?_ | refine bDf (by omega) ?_ | refine bNt (by omega) ?_ | refine bNf (by omega) ?_ | refine bNf h1 ?_ | refine bNf h2 ?_ | refine loop_to ih ⟨i + 1, hlt, ?_⟩ (show l.length - (i+1) < l.length - i by omega) ?_ | refine bD (fun _ => ?_) (fun _ => ?_) | refine bN (fun _ => ?_) (fun _ => ?_)) <;> conv => whnf)
      · intro x hx
        rw [EFl.take_succ hlt, List.mem_append] at hx
        rcases hx with hx | hx
        · exact hz x hx
        · simp only [List.mem_singleton] at hx; rw [hx, hX]; exact z
      · rw [next_i hlt (by omega)]; rfl
    · have no : AV.bool false = AV.bool (decide (∀ x ∈ l, accS id l x.c = 0)) := congrArg AV.bool (decide_eq_false fun h => z (h X hxm)).symm
      clear ih
      by_cases h1 : (accS loT l X.c).tmod 4294967296 = 0
      · have h2 : ¬ IntKind.i64.wrap (accS hiT l X.c + IntKind.i64.wrap ((accS loT l X.c).tdiv 4294967296)) = 0 := by
          have h1 : loT (accS loT l X.c) = 0 := h1
          rw [g2]; omega
        conv => whnf
        repeat' ((first | with_reducible refine bT rfl ?_ | with_reducible refine bF rfl ?_ | (refine sN ?_; (conv => whnf); refine bT (by first | rfl | exact iR8 _ | exact uNN _ | exact iR (by omega) | exact iR (by rw [hw]; omega) | exact nBlt (by omega) | exact nBle (by omega) | (simp; omega)) ?_) | (refine sA ?_; (conv => whnf); refine bT (roomL (by omega) rfl) ?_) | (refine sS ?_; (conv => whnf); refine bT (by first | rfl | exact iR8 _ | exact uNN _ | exact iR (by omega) | exact iR (by rw [hw]; omega) | exact nBlt (by omega) | exact nBle (by omega) | (simp; omega)) ?_) | (refine sM ?_; (conv => whnf); refine bT (mkOK (by omega) (by omega) (by omega) rfl) ?_) | (refine sC ?_; (conv => whnf); refine bT (nBle (by first | omega | (simp; omega))) ?_) | refine bDt (by omega) ?_ | refine bDf (by omega) ?_ | refine bNt (by omega) ?_ | refine bNf (by omega) ?_ | refine bNf h1 ?_ | refine bNt h2 ?_ | refine bD (fun _ => ?_) (fun _ => ?_) | refine bN (fun _ => ?_) (fun _ => ?_)) <;> conv => whnf)
        all_goals exact no
      · conv => whnf
        repeat' ((first | with_reducible refine bT rfl ?_ | with_reducible refine bF rfl ?_ | (refine sN ?_; (conv => whnf); refine bT (by first | rfl | exact iR8 _ | exact uNN _ | exact iR (by omega) | exact iR (by rw [hw]; omega) | exact nBlt (by omega) | exact nBle (by omega) | (simp; omega)) ?_) | (refine sA ?_; (conv => whnf); refine bT (roomL (by omega) rfl) ?_) | (refine sS ?_; (conv => whnf); refine bT (by first | rfl | exact iR8 _ | exact uNN _ | exact iR (by omega) | exact iR (by rw [hw]; omega) | exact nBlt (by omega) | exact nBle (by omega) | (simp; omega)) ?_) | (refine sM ?_; (conv => whnf); refine bT (mkOK (by omega) (by omega) (by omega) rfl) ?_) | (refine sC ?_; (conv => whnf); refine bT (nBle (by first | omega | (simp; omega))) ?_) | refine bDt (by omega) ?_ | refine bDf (by omega) ?_ | refine bNt (by omega) ?_ | refine bNf (by omega) ?_ | refine bNt h1 ?_ | refine bD (fun _ => ?_) (fun _ => ?_) | refine bN (fun _ => ?_) (fun _ => ?_)) <;> conv => whnf)
        all_goals exact no
end Go.Proofs

