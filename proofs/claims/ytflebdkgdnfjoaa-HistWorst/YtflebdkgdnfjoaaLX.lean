import Derived.Test.YtflebdkgdnfjoaaLW
import Derived.Test.YtflebdkgdnfjoaaAxRow
set_option linter.unusedVariables false
set_option linter.unusedSimpArgs false
namespace Go.Proofs
open Ax Go
set_option maxRecDepth 10000
def keepG7 (f r : Nat) : Option (List Nat) := match f, r with
  | 30, 4 => some [0, 1, 5]
  | 26, 3 => some [0, 1, 2, 7, 8]
  | _, _ => none
def keepXG7 (f r : Nat) : Option (List Nat) := match f, r with
  | 30, 4 => some [4]
  | 26, 3 => some [0, 1, 6]
  | _, _ => none
noncomputable def cxG7 : Ctx where
  P := Try.prog
  inl := fun _ => false
  keep := keepG7
  keepX := keepXG7
  xf := fun _ _ _ => false
  ow := fun _ => false
  gh := fun _ _ => []
  gf := fun _ => []
  ln := fun _ => false
  srt := srtT
theorem okG7 {f a Q} (h : stepCall (SX Try.prog calmT) cxG7 calmT f a Q) : CallOK Try.prog f a Q := okOf (cx := cxG7) rfl progOK h
theorem ints (a b : List Int) (ha : a.length ≤ 9223372036854775807) : CallOK Try.prog 30 [EI.L a, EI.L b] (fun r => r = .bool (decide (a = b))) := by
  refine okG7 ?_
  by_cases hn : a.length = b.length
  · conv => whnf
    repeat' ((first | with_reducible refine bT rfl ?_ | with_reducible refine bF rfl ?_ | (refine sN ?_; (conv => whnf); refine bT (by first | rfl | exact iR8 _ | exact uNN _ | exact iR (by omega) | exact iR (by rw [hw]; omega) | exact nBlt (by omega) | exact nBle (by omega) | (simp; omega)) ?_) | (refine sA ?_; (conv => whnf); refine bT (roomL (by omega) rfl) ?_) | (refine sS ?_; (conv => whnf); refine bT (by first | rfl | exact iR8 _ | exact uNN _ | exact iR (by omega) | exact iR (by rw [hw]; omega) | exact nBlt (by omega) | exact nBle (by omega) | (simp; omega)) ?_) | (refine sM ?_; (conv => whnf); refine bT (mkOK (by omega) (by omega) (by omega) rfl) ?_) | (refine sC ?_; (conv => whnf); refine bT (nBle (by first | omega | (simp; omega))) ?_) | refine bDt (by omega) ?_ | refine bDf (by omega) ?_ | refine bNt (by omega) ?_ | refine bNf (by omega) ?_ | refine bD (fun _ => ?_) (fun _ => ?_) | refine bN (fun _ => ?_) (fun _ => ?_)) <;> conv => whnf)
    refine loop_by (cx := cxG7) rfl progOK (ι := {i : Nat // i ≤ a.length ∧ ∀ j, j < i → a.getD j 0 = b.getD j 0}) (fun i => a.length - i.1) (fun i => ⟨[(0, EI.L a), (1, EI.L b), (5, .int .i64 i.1)], [], [], none⟩) ?_ ⟨0, Nat.zero_le _, fun j hj => absurd hj (Nat.not_lt_zero _)⟩
    rintro ⟨i, hi, hf⟩ ih
    dsimp only
    by_cases hlt : i < a.length
    · by_cases hx : a.getD i 0 = b.getD i 0
      · have hf' : ∀ j, j < i + 1 → a.getD j 0 = b.getD j 0 := fun j hj => by
          rcases Nat.lt_or_ge j i with h | h
          · exact hf j h
          · rw [show j = i by omega]; exact hx
        conv => whnf
        repeat' ((first | with_reducible refine bT rfl ?_ | with_reducible refine bF rfl ?_ | (refine sN ?_; (conv => whnf); refine bT (by first | rfl | exact iR8 _ | exact uNN _ | exact iR (by omega) | exact iR (by rw [hw]; omega) | exact nBlt (by omega) | exact nBle (by omega) | (simp; omega)) ?_) | (refine sA ?_; (conv => whnf); refine bT (roomL (by omega) rfl) ?_) | (refine sS ?_; (conv => whnf); refine bT (by first | rfl | exact iR8 _ | exact uNN _ | exact iR (by omega) | exact iR (by rw [hw]; omega) | exact nBlt (by omega) | exact nBle (by omega) | (simp; omega)) ?_) | (refine sM ?_; (conv => whnf); refine bT (mkOK (by omega) (by omega) (by omega) rfl) ?_) | (refine sC ?_; (conv => whnf); refine bT (nBle (by first | omega | (simp; omega))) ?_) | refine bDt (by omega) ?_ | refine bDf (by omega) ?_ | refine bNt (by omega) ?_ | refine bNf (by omega) ?_ | refine bDt hx ?_ | refine bNf hx ?_ | refine loop_to ih ⟨i + 1, hlt, hf'⟩ (show a.length - (i+1) < a.length - i by omega) ?_ | refine bD (fun _ => ?_) (fun _ => ?_) | refine bN (fun _ => ?_) (fun _ => ?_)) <;> conv => whnf)
        rw [next_i hlt (by omega)]; rfl
      · rw [show decide (a = b) = false from decide_eq_false fun h => hx (h ▸ rfl)]
        conv => whnf
        repeat' ((first | with_reducible refine bT rfl ?_ | with_reducible refine bF rfl ?_ | (refine sN ?_; (conv => whnf); refine bT (by first | rfl | exact iR8 _ | exact uNN _ | exact iR (by omega) | exact iR (by rw [hw]; omega) | exact nBlt (by omega) | exact nBle (by omega) | (simp; omega)) ?_) | (refine sA ?_; (conv => whnf); refine bT (roomL (by omega) rfl) ?_) | (refine sS ?_; (conv => whnf); refine bT (by first | rfl | exact iR8 _ | exact uNN _ | exact iR (by omega) | exact iR (by rw [hw]; omega) | exact nBlt (by omega) | exact nBle (by omega) | (simp; omega)) ?_) | (refine sM ?_; (conv => whnf); refine bT (mkOK (by omega) (by omega) (by omega) rfl) ?_) | (refine sC ?_; (conv => whnf); refine bT (nBle (by first | omega | (simp; omega))) ?_) | refine bDt (by omega) ?_ | refine bDf (by omega) ?_ | refine bNt (by omega) ?_ | refine bNf (by omega) ?_ | refine bDf hx ?_ | refine bNt hx ?_ | refine bD (fun _ => ?_) (fun _ => ?_) | refine bN (fun _ => ?_) (fun _ => ?_)) <;> conv => whnf)
        all_goals rfl
    · obtain rfl : i = a.length := by omega
      have e : a = b := by
        apply List.ext_getElem hn
        intro j h1 h2
        have := hf j h1
        rw [List.getD_eq_getElem?_getD, List.getD_eq_getElem?_getD, List.getElem?_eq_getElem h1, List.getElem?_eq_getElem h2] at this
        exact this
      rw [show decide (a = b) = true from decide_eq_true e]
      conv => whnf
      repeat' ((first | with_reducible refine bT rfl ?_ | with_reducible refine bF rfl ?_ | (refine sN ?_; (conv => whnf); refine bT (by first | rfl | exact iR8 _ | exact uNN _ | exact iR (by omega) | exact iR (by rw [hw]; omega) | exact nBlt (by omega) | exact nBle (by omega) | (simp; omega)) ?_) | (refine sA ?_; (conv => whnf); refine bT (roomL (by omega) rfl) ?_) | (refine sS ?_; (conv => whnf); refine bT (by first | rfl | exact iR8 _ | exact uNN _ | exact iR (by omega) | exact iR (by rw [hw]; omega) | exact nBlt (by omega) | exact nBle (by omega) | (simp; omega)) ?_) | (refine sM ?_; (conv => whnf); refine bT (mkOK (by omega) (by omega) (by omega) rfl) ?_) | (refine sC ?_; (conv => whnf); refine bT (nBle (by first | omega | (simp; omega))) ?_) | refine bDt (by omega) ?_ | refine bDf (by omega) ?_ | refine bNt (by omega) ?_ | refine bNf (by omega) ?_ | refine bD (fun _ => ?_) (fun _ => ?_) | refine bN (fun _ => ?_) (fun _ => ?_)) <;> conv => whnf)
      all_goals rfl
  · rw [show decide (a = b) = false from decide_eq_false fun h => hn (h ▸ rfl)]
    conv => whnf
    repeat' ((first | with_reducible refine bT rfl ?_ | with_reducible refine bF rfl ?_ | (refine sN ?_; (conv => whnf); refine bT (by first | rfl | exact iR8 _ | exact uNN _ | exact iR (by omega) | exact iR (by rw [hw]; omega) | exact nBlt (by omega) | exact nBle (by omega) | (simp; omega)) ?_) | (refine sA ?_; (conv => whnf); refine bT (roomL (by omega) rfl) ?_) | (refine sS ?_; (conv => whnf); refine bT (by first | rfl | exact iR8 _ | exact uNN _ | exact iR (by omega) | exact iR (by rw [hw]; omega) | exact nBlt (by omega) | exact nBle (by omega) | (simp; omega)) ?_) | (refine sM ?_; (conv => whnf); refine bT (mkOK (by omega) (by omega) (by omega) rfl) ?_) | (refine sC ?_; (conv => whnf); refine bT (nBle (by first | omega | (simp; omega))) ?_) | refine bDt (by omega) ?_ | refine bDf (by omega) ?_ | refine bNt (by omega) ?_ | refine bNf (by omega) ?_ | refine bD (fun _ => ?_) (fun _ => ?_) | refine bN (fun _ => ?_) (fun _ => ?_)) <;> conv => whnf)
    all_goals rfl
theorem sorted4 : sortD [5, -3, 9, 5] = [9, 5, 5, -3] := (sortD_eq (by decide) (by decide)).symm
theorem worE4 : worE [5, -3, 9, 5] 3 = ([9, 5, 5], 0) := by
  unfold worE
  rw [if_neg (by decide), if_neg (by decide), sorted4]; rfl
theorem kth4 : kthE [5, -3, 9, 5] 3 = (5, 0) := by
  unfold kthE
  rw [worE4, sorted4]; rfl
theorem sho4 : shoE [5, -3, 9, 5] 3 = (7, 0) := by
  unfold shoE
  rw [worE4, sorted4]; rfl
def oil : Sr := ⟨"oil".toUTF8, 1, 9, 0⟩
theorem los1 : losE [⟨oil, 0, 3⟩] [oil] [[10], [-4]] = ([30, -12], 0) := by decide +kernel
theorem at4 {n : Nat} {g : Nat → AV} (hn : n = 4) (h0 : g 0 = EI.f 5) (h1 : g 1 = EI.f (-3)) (h2 : g 2 = EI.f 9) (h3 : g 3 = EI.f 5) : Same (.vec 1 n g) (EI.L [5, -3, 9, 5]) :=
  Enc.At.same (E := EI) ⟨hn, fun i hi => by
    match i, hi with
    | 0, _ => exact h0
    | 1, _ => exact h1
    | 2, _ => exact h2
    | 3, _ => exact h3⟩
theorem at1 {α : Type} {E : Enc α} {x : α} {sz n : Nat} {g : Nat → AV} (hs : sz = E.sz) (hn : n = 1) (h0 : g 0 = E.f x) : Same (.vec sz n g) (E.L [x]) := by
  subst hs
  exact Enc.At.same (E := E) ⟨hn, fun i hi => by
    match i, hi with
    | 0, _ => exact h0⟩
theorem at2 {α : Type} {E : Enc α} {x y : α} {sz n : Nat} {g : Nat → AV} (hs : sz = E.sz) (hn : n = 2) (h0 : g 0 = E.f x) (h1 : g 1 = E.f y) : Same (.vec sz n g) (E.L [x, y]) := by
  subst hs
  exact Enc.At.same (E := E) ⟨hn, fun i hi => by
    match i, hi with
    | 0, _ => exact h0
    | 1, _ => exact h1⟩
theorem lit1 {x : Int} {g : Nat → AV} (h : ∀ i, g i = EI.f ([x].getD i 0)) : AV.vec 1 1 g = EM.f [x] := congrArg (AV.vec 1 1) (funext h)
theorem goes : CallOK Try.prog 27 [] (fun r => r = .bool true) := by
  refine okG7 ?_
  have k1 := kth [5, -3, 9, 5] 3 (by decide)
  have k2 := shortfall [5, -3, 9, 5] 3 (by decide)
  rw [kth4] at k1
  rw [sho4] at k2
  have k3 := buffer 100 0 255
  rw [show buE 100 0 255 = (126, 0) by decide +kernel] at k3
  have k4 := losses [⟨oil, 0, 3⟩] [oil] [[10], [-4]] (by decide) (by decide) (by decide) (by decide)
  rw [los1] at k4
  have k5 := ints [30, -12] [30, -12] (by decide)
  rw [show decide ([30, -12] = [30, -12]) = true by decide] at k5
  conv => whnf
  repeat' ((first | with_reducible refine bT rfl ?_ | with_reducible refine bF rfl ?_ | (refine sN ?_; (conv => whnf); refine bT (by first | rfl | exact iR8 _ | exact uNN _ | exact iR (by omega) | exact iR (by rw [hw]; omega) | exact nBlt (by omega) | exact nBle (by omega) | (simp; omega)) ?_) | (refine sA ?_; (conv => whnf); refine bT (roomL (by omega) rfl) ?_) | (refine sS ?_; (conv => whnf); refine bT (by first | rfl | exact iR8 _ | exact uNN _ | exact iR (by omega) | exact iR (by rw [hw]; omega) | exact nBlt (by omega) | exact nBle (by omega) | (simp; omega)) ?_) | (refine sM ?_; (conv => whnf); refine bT (mkOK (by omega) (by omega) (by omega) rfl) ?_) | (refine sC ?_; (conv => whnf); refine bT (nBle (by first | omega | (simp; omega))) ?_) | refine bDt (by omega) ?_ | refine bDf (by omega) ?_ | refine bNt (by omega) ?_ | refine bNf (by omega) ?_ | refine call_is (ok_same (.cons (at4 rfl rfl rfl rfl rfl) (.cons (Same.refl _) .nil)) k1) ?_ | refine call_is (ok_same (.cons (at4 rfl rfl rfl rfl rfl) (.cons (Same.refl _) .nil)) k2) ?_ | refine call_is k3 ?_ | refine call_is (ok_same (.cons (at1 (E := EP) rfl rfl rfl) (.cons (at1 (E := ER) rfl rfl rfl) (.cons (at2 (E := EM) rfl rfl (lit1 fun i => by cases i <;> rfl) (lit1 fun i => by cases i <;> rfl)) .nil))) k4) ?_ | refine call_is (ok_same (.cons (Same.refl _) (.cons (at2 (E := EI) rfl rfl rfl rfl) .nil)) k5) ?_ | refine bD (fun _ => ?_) (fun _ => ?_) | refine bN (fun _ => ?_) (fun _ => ?_)) <;> conv => whnf)
  all_goals rfl
end Go.Proofs


set_option linter.unusedVariables false
set_option linter.unusedSimpArgs false
namespace Go.Proofs
open Ax Go
set_option maxRecDepth 10000
theorem typed_slice {P : Program} {d : Nat} {t e : TypeId} {es : List AV} (ht : P.underlying t = some (.slice e)) (h : Typed P (d + 1) t es) : ∃ n g, es = [.vec (P.cellsOf e) n g] ∧ n ≤ maxLen ∧ ∀ i, i < n → TypedAV P d e (g i) := by
  unfold Typed at h
  rw [ht] at h
  exact h
theorem typed_struct {P : Program} {d : Nat} {t : TypeId} {fs : Array Field} {es : List AV} (ht : P.underlying t = some (.struct fs)) (h : Typed P (d + 1) t es) : TypedL (Typed P d) fs.toList es := by
  unfold Typed at h
  rw [ht] at h
  exact h
theorem typed_int {P : Program} {d : Nat} {t : TypeId} {k : IntKind} {es : List AV} (ht : P.underlying t = some (.int k)) (h : Typed P (d + 1) t es) : ∃ n, es = [.int k n] ∧ (Lit.int k n).wf = true := by
  unfold Typed at h
  rw [ht] at h
  exact h
theorem typed_str {P : Program} {d : Nat} {t : TypeId} {es : List AV} (ht : P.underlying t = some .string) (h : Typed P (d + 1) t es) : ∃ s : ByteArray, es = [.str s] ∧ s.size ≤ maxLen := by
  unfold Typed at h
  rw [ht] at h
  exact h
theorem typed_array {P : Program} {d n : Nat} {t e : TypeId} {es : List AV} (ht : P.underlying t = some (.array n e)) (h : Typed P (d + 1) t es) : TypedN (Typed P d e) n es := by
  unfold Typed at h
  rw [ht] at h
  exact h
theorem arg_int {d : Nat} {a : AV} (h : TypedAV Try.prog (d + 1) 3 a) : ∃ n, a = .int .i64 n ∧ (Lit.int .i64 n).wf = true := by
  obtain ⟨es, h1, h2, h3⟩ := h
  obtain ⟨n, rfl, hn⟩ := typed_int Try.underlying3 h3
  exact ⟨n, h1, hn⟩
theorem arg_sr {d : Nat} {a : AV} (h : TypedAV Try.prog (d + 2) 27 a) : ∃ s : Sr, a = encSr s := by
  obtain ⟨es, h1, h2, h3⟩ := h
  obtain ⟨a0, r0, rfl, k0, a1, r1, rfl, k1, a2, r2, rfl, k2, a3, r3, rfl, k3, rfl⟩ := typed_struct Try.underlying27 h3
  obtain ⟨m, rfl, hm⟩ := typed_str Try.underlying9 k0
  obtain ⟨c, rfl, _⟩ := typed_int Try.underlying3 k1
  obtain ⟨n, rfl, _⟩ := typed_int Try.underlying3 k2
  obtain ⟨s, rfl, _⟩ := typed_int Try.underlying3 k3
  exact ⟨⟨m, c, n, s⟩, h1⟩
theorem arg_po {d : Nat} {a : AV} (h : TypedAV Try.prog (d + 3) 63 a) : ∃ s : Po, a = encPo s := by
  obtain ⟨es, h1, h2, h3⟩ := h
  obtain ⟨b0, q0, rfl, j0, b1, q1, rfl, j1, b2, q2, rfl, j2, rfl⟩ := typed_struct Try.underlying63 h3
  obtain ⟨a0, r0, rfl, k0, a1, r1, rfl, k1, a2, r2, rfl, k2, a3, r3, rfl, k3, rfl⟩ := typed_struct Try.underlying27 j0
  obtain ⟨m, rfl, hm⟩ := typed_str Try.underlying9 k0
  obtain ⟨c, rfl, _⟩ := typed_int Try.underlying3 k1
  obtain ⟨n, rfl, _⟩ := typed_int Try.underlying3 k2
  obtain ⟨s, rfl, _⟩ := typed_int Try.underlying3 k3
  obtain ⟨x, rfl, _⟩ := typed_int Try.underlying3 j1
  obtain ⟨y, rfl, _⟩ := typed_int Try.underlying3 j2
  exact ⟨⟨⟨m, c, n, s⟩, x, y⟩, h1⟩
theorem list_of {α : Type} {E : Enc α} {n : Nat} {g : Nat → AV} (h : ∀ i, i < n → ∃ x, g i = E.f x) : ∃ l : List α, l.length = n ∧ Same (.vec E.sz n g) (E.L l) := by
  have each : ∀ i, ∃ x : α, i < n → g i = E.f x := fun i => by
    by_cases hi : i < n
    · obtain ⟨x, hx⟩ := h i hi; exact ⟨x, fun _ => hx⟩
    · exact ⟨E.d, fun h => absurd h hi⟩
  obtain ⟨f, hf⟩ := Classical.axiomOfChoice each
  have hl : ((List.range n).map f).length = n := by simp
  refine ⟨(List.range n).map f, hl, Enc.At.same (E := E) ⟨hl.symm, fun i hi => ?_⟩⟩
  rw [hl] at hi
  rw [hf i hi, List.getD_eq_getElem?_getD, List.getElem?_map, List.getElem?_range hi]; rfl
theorem arg_ints {d : Nat} {a : AV} (h : TypedAV Try.prog (d + 2) 50 a) : ∃ l : List Int, Same a (EI.L l) ∧ l.length ≤ maxLen := by
  obtain ⟨es, h1, h2, h3⟩ := h
  obtain ⟨n, g, rfl, hn, hg⟩ := typed_slice Try.underlying50 h3
  have h1 : a = .vec 1 n g := h1
  subst h1
  obtain ⟨l, e, hs⟩ := list_of (E := EI) (n := n) (g := g) fun i hi => let ⟨x, hx, _⟩ := arg_int (hg i hi); ⟨x, hx⟩
  exact ⟨l, hs, by rw [e]; exact hn⟩
theorem arg_srs {d : Nat} {a : AV} (h : TypedAV Try.prog (d + 3) 67 a) : ∃ l : List Sr, Same a (ER.L l) ∧ l.length ≤ maxLen := by
  obtain ⟨es, h1, h2, h3⟩ := h
  obtain ⟨n, g, rfl, hn, hg⟩ := typed_slice Try.underlying67 h3
  have h1 : a = .vec 4 n g := h1
  subst h1
  obtain ⟨l, e, hs⟩ := list_of (E := ER) (n := n) (g := g) fun i hi => arg_sr (hg i hi)
  exact ⟨l, hs, by rw [e]; exact hn⟩
theorem arg_pos {d : Nat} {a : AV} (h : TypedAV Try.prog (d + 4) 47 a) : ∃ l : List Po, Same a (EP.L l) ∧ l.length ≤ maxLen := by
  obtain ⟨es, h1, h2, h3⟩ := h
  obtain ⟨n, g, rfl, hn, hg⟩ := typed_slice Try.underlying47 h3
  have h1 : a = .vec 6 n g := h1
  subst h1
  obtain ⟨l, e, hs⟩ := list_of (E := EP) (n := n) (g := g) fun i hi => arg_po (hg i hi)
  exact ⟨l, hs, by rw [e]; exact hn⟩
theorem vec_same {n : Nat} {g g' : Nat → AV} (h1 : ∀ i, i < n → (g i).cells = [g i]) (h2 : ∀ i, i < n → (g' i).cells = [g' i]) (h : ∀ i, i < n → Same (g i) (g' i)) : Same (.vec 1 n g) (.vec 1 n g') := by
  intro w F U bl v hr
  cases hr with
  | vec hcap vals hz hs ho hc =>
    refine .vec hcap vals hz (fun i hi => by rw [h2 i hi]; rfl) ho (fun i j c hi hj => ?_)
    rw [h2 i hi] at hj
    cases j with
    | zero =>
      simp at hj
      subst hj
      exact h i hi _ _ _ _ _ (hc i 0 (g i) hi (by rw [h1 i hi]; rfl))
    | succ j => simp at hj
theorem arg_moves {d : Nat} {a : AV} (h : TypedAV Try.prog (d + 3) 68 a) : ∃ m : List (List Int), Same a (EM.L m) ∧ m.length ≤ maxLen ∧ ∀ x ∈ m, x.length ≤ maxLen := by
  obtain ⟨es, h1, h2, h3⟩ := h
  obtain ⟨n, g, rfl, hn, hg⟩ := typed_slice Try.underlying68 h3
  have h1 : a = .vec 1 n g := h1
  subst h1
  have each : ∀ i, ∃ x : List Int, i < n → Same (g i) (EI.L x) ∧ x.length ≤ maxLen ∧ (g i).cells = [g i] := fun i => by
    by_cases hi : i < n
    · obtain ⟨x, hx⟩ := arg_ints (hg i hi)
      obtain ⟨es, k1, k2, k3⟩ := hg i hi
      obtain ⟨q, g2, rfl, _, _⟩ := typed_slice Try.underlying50 k3
      exact ⟨x, fun _ => ⟨hx.1, hx.2, by rw [show g i = .vec (Try.prog.cellsOf 3) q g2 from k1]; rfl⟩⟩
    · exact ⟨[], fun h => absurd h hi⟩
  obtain ⟨f, hf⟩ := Classical.axiomOfChoice each
  have hl : ((List.range n).map f).length = n := by simp
  have hget : ∀ i, i < n → ((List.range n).map f).getD i EM.d = f i := fun i hi => by
    rw [List.getD_eq_getElem?_getD, List.getElem?_map, List.getElem?_range hi]; rfl
  refine ⟨(List.range n).map f, ?_, by rw [hl]; exact hn, fun x hx => ?_⟩
  · rw [Enc.L, hl]
    refine vec_same (fun i hi => (hf i hi).2.2) (fun i hi => rfl) fun i hi => ?_
    rw [hget i hi]
    exact (hf i hi).1
  · obtain ⟨i, hi, rfl⟩ := List.mem_map.1 hx
    exact (hf i (List.mem_range.1 hi)).2.1
theorem arg_three {d : Nat} {a : AV} (h : TypedAV Try.prog (d + 2) 30 a) : ∃ x y z : Int, a = .agg [.int .i64 x, .int .i64 y, .int .i64 z] := by
  obtain ⟨es, h1, h2, h3⟩ := h
  obtain ⟨a0, r0, rfl, k0, a1, r1, rfl, k1, a2, r2, rfl, k2, rfl⟩ := typed_array Try.underlying30 h3
  obtain ⟨x, rfl, _⟩ := typed_int Try.underlying3 k0
  obtain ⟨y, rfl, _⟩ := typed_int Try.underlying3 k1
  obtain ⟨z, rfl, _⟩ := typed_int Try.underlying3 k2
  exact ⟨x, y, z, h1⟩
end Go.Proofs


set_option linter.unusedVariables false
set_option linter.unusedSimpArgs false
namespace Go.Proofs
open Ax Go
set_option maxRecDepth 10000
def keepL7 (f r : Nat) : Option (List Nat) := match f, r with
  | 10, 6 => some [0, 1, 5, 7, 8, 9]
  | 11, 6 => some [0, 1, 2, 7, 8, 9, 10, 11]
  | 11, 18 => some [7, 8, 13, 15, 16, 17]
  | 26, 3 => some [0, 1, 2, 7, 8]
  | _, _ => none
def keepXL7 (f r : Nat) : Option (List Nat) := match f, r with
  | 10, 6 => some [0, 1, 5, 7, 8]
  | 11, 6 => some [1, 2, 6, 7, 8, 9, 10]
  | 11, 18 => some [6, 8, 16]
  | 26, 3 => some [0, 1, 6]
  | _, _ => none
noncomputable def cxL7 : Ctx where
  P := Try.prog
  inl := fun _ => false
  keep := keepL7
  keepX := keepXL7
  xf := fun _ _ _ => false
  ow := fun _ => false
  gh := fun _ _ => []
  gf := fun _ => []
  ln := fun _ => false
  srt := srtT
theorem okL7 {f a Q} (h : stepCall (SX Try.prog calmT) cxL7 calmT f a Q) : CallOK Try.prog f a Q := okOf (cx := cxL7) rfl progOK h
set_option maxHeartbeats 4000000 in
theorem lawScales : ∀ xs, TypedArgs Try.prog 8 Try.f12.params.toList xs → CallOK Try.prog 12 xs (fun r => r = .bool true) := by
  intro xs h
  obtain ⟨a, r, rfl, ha, rfl⟩ := h
  obtain ⟨x, y, z, rfl⟩ := arg_three ha
  refine okL7 ?_
  have k1 := scaled x y z
  have k2 := refScaled x y z
  have k3 := buffer x y z
  have k4 := refBuffer x y z
  generalize scE x y z = p at *
  generalize buE x y z = q at *
  conv => whnf
  repeat' ((first | with_reducible refine bT rfl ?_ | with_reducible refine bF rfl ?_ | (refine sN ?_; (conv => whnf); refine bT (by first | rfl | exact iR8 _ | exact uNN _ | exact iR (by omega) | exact iR (by rw [hw]; omega) | exact nBlt (by omega) | exact nBle (by omega) | (simp; omega)) ?_) | (refine sA ?_; (conv => whnf); refine bT (roomL (by omega) rfl) ?_) | (refine sS ?_; (conv => whnf); refine bT (by first | rfl | exact iR8 _ | exact uNN _ | exact iR (by omega) | exact iR (by rw [hw]; omega) | exact nBlt (by omega) | exact nBle (by omega) | (simp; omega)) ?_) | (refine sM ?_; (conv => whnf); refine bT (mkOK (by omega) (by omega) (by omega) rfl) ?_) | (refine sC ?_; (conv => whnf); refine bT (nBle (by first | omega | (simp; omega))) ?_) | refine bDt (by omega) ?_ | refine bDf (by omega) ?_ | refine bNt (by omega) ?_ | refine bNf (by omega) ?_ | refine call_is k1 ?_ | refine call_is k2 ?_ | refine call_is k3 ?_ | refine call_is k4 ?_ | refine call_is goes ?_ | refine bDt rfl ?_ | refine bNf rfl ?_ | refine bD (fun _ => ?_) (fun _ => ?_) | refine bN (fun _ => ?_) (fun _ => ?_) | refine bB (fun hb => ?_) (fun hb => ?_)) <;> conv => whnf)
  all_goals rfl
theorem max63 {n : Nat} (h : n ≤ maxLen) : n ≤ 9223372036854775807 := h
theorem smallOK (l : List Po) (s : List Sr) (m : List (List Int)) (hm : m.length ≤ 9223372036854775807) : CallOK Try.prog 26 [EP.L l, ER.L s, EM.L m] (fun r => ∃ b, r = .bool b ∧ (b = true → l.length ≤ 140 ∧ s.length ≤ 140)) := by
  refine okL7 ?_
  conv => whnf
  repeat' ((first | with_reducible refine bT rfl ?_ | with_reducible refine bF rfl ?_ | (refine sN ?_; (conv => whnf); refine bT (by first | rfl | exact iR8 _ | exact uNN _ | exact iR (by omega) | exact iR (by rw [hw]; omega) | exact nBlt (by omega) | exact nBle (by omega) | (simp; omega)) ?_) | (refine sA ?_; (conv => whnf); refine bT (roomL (by omega) rfl) ?_) | (refine sS ?_; (conv => whnf); refine bT (by first | rfl | exact iR8 _ | exact uNN _ | exact iR (by omega) | exact iR (by rw [hw]; omega) | exact nBlt (by omega) | exact nBle (by omega) | (simp; omega)) ?_) | (refine sM ?_; (conv => whnf); refine bT (mkOK (by omega) (by omega) (by omega) rfl) ?_) | (refine sC ?_; (conv => whnf); refine bT (nBle (by first | omega | (simp; omega))) ?_) | refine bDt (by omega) ?_ | refine bDf (by omega) ?_ | refine bNt (by omega) ?_ | refine bNf (by omega) ?_ | refine bD (fun _ => ?_) (fun _ => ?_) | refine bN (fun _ => ?_) (fun _ => ?_)) <;> conv => whnf)
  refine loop_by (cx := cxL7) rfl progOK (ι := {p : Nat × Int // p.1 ≤ m.length}) (fun p => m.length - p.1.1) (fun p => ⟨[(0, EP.L l), (1, ER.L s), (2, EM.L m), (7, .int .i64 p.1.2), (8, .int .i64 p.1.1)], [], [], none⟩) ?_ ⟨(0, 0), Nat.zero_le _⟩
  rintro ⟨⟨i, n⟩, hi⟩ ih
  dsimp only at hi ⊢
  by_cases hlt : i < m.length
  · conv => whnf
    repeat' ((first | with_reducible refine bT rfl ?_ | with_reducible refine bF rfl ?_ | (refine sN ?_; (conv => whnf); refine bT (by first | rfl | exact iR8 _ | exact uNN _ | exact iR (by omega) | exact iR (by rw [hw]; omega) | exact nBlt (by omega) | exact nBle (by omega) | (simp; omega)) ?_) | (refine sA ?_; (conv => whnf); refine bT (roomL (by omega) rfl) ?_) | (refine sS ?_; (conv => whnf); refine bT (by first | rfl | exact iR8 _ | exact uNN _ | exact iR (by omega) | exact iR (by rw [hw]; omega) | exact nBlt (by omega) | exact nBle (by omega) | (simp; omega)) ?_) | (refine sM ?_; (conv => whnf); refine bT (mkOK (by omega) (by omega) (by omega) rfl) ?_) | (refine sC ?_; (conv => whnf); refine bT (nBle (by first | omega | (simp; omega))) ?_) | refine bDt (by omega) ?_ | refine bDf (by omega) ?_ | refine bNt (by omega) ?_ | refine bNf (by omega) ?_ | refine loop_to ih ⟨(i + 1, IntKind.i64.wrap (n + IntKind.i64.wrap (1 + ((m.getD i EM.d).length : Int)))), hlt⟩ (show m.length - (i+1) < m.length - i by omega) ?_ | refine bD (fun _ => ?_) (fun _ => ?_) | refine bN (fun _ => ?_) (fun _ => ?_)) <;> conv => whnf)
    · exact ⟨false, rfl, fun h => by cases h⟩
    · rw [next_i hlt (by omega)]; rfl
  · clear ih
    conv => whnf
    repeat' ((first | with_reducible refine bT rfl ?_ | with_reducible refine bF rfl ?_ | (refine sN ?_; (conv => whnf); refine bT (by first | rfl | exact iR8 _ | exact uNN _ | exact iR (by omega) | exact iR (by rw [hw]; omega) | exact nBlt (by omega) | exact nBle (by omega) | (simp; omega)) ?_) | (refine sA ?_; (conv => whnf); refine bT (roomL (by omega) rfl) ?_) | (refine sS ?_; (conv => whnf); refine bT (by first | rfl | exact iR8 _ | exact uNN _ | exact iR (by omega) | exact iR (by rw [hw]; omega) | exact nBlt (by omega) | exact nBle (by omega) | (simp; omega)) ?_) | (refine sM ?_; (conv => whnf); refine bT (mkOK (by omega) (by omega) (by omega) rfl) ?_) | (refine sC ?_; (conv => whnf); refine bT (nBle (by first | omega | (simp; omega))) ?_) | refine bDt (by omega) ?_ | refine bDf (by omega) ?_ | refine bNt (by omega) ?_ | refine bNf (by omega) ?_ | refine bD (fun _ => ?_) (fun _ => ?_) | refine bN (fun _ => ?_) (fun _ => ?_)) <;> conv => whnf)
    · exact ⟨decide ((s.length : Int) ≤ 140), rfl, fun h => ⟨by omega, by have := of_decide_eq_true h; omega⟩⟩
    · exact ⟨false, rfl, fun h => by cases h⟩
set_option maxHeartbeats 4000000 in
theorem lawLosses : ∀ xs, TypedArgs Try.prog 8 Try.f8.params.toList xs → CallOK Try.prog 8 xs (fun r => r = .bool true) := by
  intro xs h
  obtain ⟨a, r, rfl, ha, b, r', rfl, hb, c, r'', rfl, hc, rfl⟩ := h
  obtain ⟨l, hl1, hl2⟩ := arg_pos ha
  obtain ⟨s, hs1, hs2⟩ := arg_srs hb
  obtain ⟨m, hm1, hm2, hm3⟩ := arg_moves hc
  refine ok_same (.cons hl1 (.cons hs1 (.cons hm1 .nil))) ?_
  refine okL7 ?_
  conv => whnf
  repeat' ((first | with_reducible refine bT rfl ?_ | with_reducible refine bF rfl ?_ | (refine sN ?_; (conv => whnf); refine bT (by first | rfl | exact iR8 _ | exact uNN _ | exact iR (by omega) | exact iR (by rw [hw]; omega) | exact nBlt (by omega) | exact nBle (by omega) | (simp; omega)) ?_) | (refine sA ?_; (conv => whnf); refine bT (roomL (by omega) rfl) ?_) | (refine sS ?_; (conv => whnf); refine bT (by first | rfl | exact iR8 _ | exact uNN _ | exact iR (by omega) | exact iR (by rw [hw]; omega) | exact nBlt (by omega) | exact nBle (by omega) | (simp; omega)) ?_) | (refine sM ?_; (conv => whnf); refine bT (mkOK (by omega) (by omega) (by omega) rfl) ?_) | (refine sC ?_; (conv => whnf); refine bT (nBle (by first | omega | (simp; omega))) ?_) | refine bDt (by omega) ?_ | refine bDf (by omega) ?_ | refine bNt (by omega) ?_ | refine bNf (by omega) ?_ | refine bD (fun _ => ?_) (fun _ => ?_) | refine bN (fun _ => ?_) (fun _ => ?_)) <;> conv => whnf)
  refine call_by (smallOK l s m (max63 hm2)) ⟨_, false, rfl, fun h => by cases h⟩ ?_
  rintro _ ⟨b, rfl, hb⟩
  cases b with
  | false =>
    conv => whnf
    repeat' ((first | with_reducible refine bT rfl ?_ | with_reducible refine bF rfl ?_ | (refine sN ?_; (conv => whnf); refine bT (by first | rfl | exact iR8 _ | exact uNN _ | exact iR (by omega) | exact iR (by rw [hw]; omega) | exact nBlt (by omega) | exact nBle (by omega) | (simp; omega)) ?_) | (refine sA ?_; (conv => whnf); refine bT (roomL (by omega) rfl) ?_) | (refine sS ?_; (conv => whnf); refine bT (by first | rfl | exact iR8 _ | exact uNN _ | exact iR (by omega) | exact iR (by rw [hw]; omega) | exact nBlt (by omega) | exact nBle (by omega) | (simp; omega)) ?_) | (refine sM ?_; (conv => whnf); refine bT (mkOK (by omega) (by omega) (by omega) rfl) ?_) | (refine sC ?_; (conv => whnf); refine bT (nBle (by first | omega | (simp; omega))) ?_) | refine bDt (by omega) ?_ | refine bDf (by omega) ?_ | refine bNt (by omega) ?_ | refine bNf (by omega) ?_ | refine call_is goes ?_ | refine bD (fun _ => ?_) (fun _ => ?_) | refine bN (fun _ => ?_) (fun _ => ?_)) <;> conv => whnf)
    all_goals rfl
  | true =>
    obtain ⟨b1, b2⟩ := hb rfl
    have k1 := losses l s m (by omega) (by omega) (max63 hm2) (fun d hd => max63 (hm3 d hd))
    have k2 := refLosses l s m (by omega) (by omega) (max63 hm2) (fun d hd => max63 (hm3 d hd))
    have k3 := check s m (by omega) (max63 hm2) (fun d hd => max63 (hm3 d hd))
    have k4 := refCheck s m (by omega) (max63 hm2) (fun d hd => max63 (hm3 d hd))
    have h0 : (losE l s m).1.length ≤ 9223372036854775807 := by
      unfold losE
      split
      · split
        · split
          · split
            · simp only [List.length_map]; exact max63 hm2
            · simp
          · simp
        · simp
      · simp
    generalize losE l s m = p at *
    have k5 := ints p.1 p.1 h0
    rw [show decide (p.1 = p.1) = true from decide_eq_true rfl] at k5
    conv => whnf
    repeat' ((first | with_reducible refine bT rfl ?_ | with_reducible refine bF rfl ?_ | (refine sN ?_; (conv => whnf); refine bT (by first | rfl | exact iR8 _ | exact uNN _ | exact iR (by omega) | exact iR (by rw [hw]; omega) | exact nBlt (by omega) | exact nBle (by omega) | (simp; omega)) ?_) | (refine sA ?_; (conv => whnf); refine bT (roomL (by omega) rfl) ?_) | (refine sS ?_; (conv => whnf); refine bT (by first | rfl | exact iR8 _ | exact uNN _ | exact iR (by omega) | exact iR (by rw [hw]; omega) | exact nBlt (by omega) | exact nBle (by omega) | (simp; omega)) ?_) | (refine sM ?_; (conv => whnf); refine bT (mkOK (by omega) (by omega) (by omega) rfl) ?_) | (refine sC ?_; (conv => whnf); refine bT (nBle (by first | omega | (simp; omega))) ?_) | refine bDt (by omega) ?_ | refine bDf (by omega) ?_ | refine bNt (by omega) ?_ | refine bNf (by omega) ?_ | refine call_is k1 ?_ | refine call_is k2 ?_ | refine call_is k3 ?_ | refine call_is k4 ?_ | refine call_is k5 ?_ | refine call_is goes ?_ | refine bDt rfl ?_ | refine bNf rfl ?_ | refine bD (fun _ => ?_) (fun _ => ?_) | refine bN (fun _ => ?_) (fun _ => ?_) | refine bB (fun hb => ?_) (fun hb => ?_)) <;> conv => whnf)
    all_goals rfl
end Go.Proofs


set_option linter.unusedVariables false
set_option linter.unusedSimpArgs false
namespace Ax
open Go
theorem st_ixR {P : Program} {o : Oper} {env : Env} {h : Heap} {t u : TypeId} {x q : Operand} {id sz n : Nat} {i : Int} {k : AV → Prop} {e : Prop} (ho : o.op = .indexAddr t x q) (hx : evo P t env x = .brow id sz n) (hi : intNat (evo P 0 env q) = some i) (ht : tyD P t = .slice u)
    (hs : Nat.beq sz (tySz P u) = true) (hz : Nat.blt 0 sz = true) (h0 : inRange i n = true) (hk : k (.eptr id sz i.toNat 0)) : (match evalOp P o env h with | some v => k v | none => e) := by
  refine st_some (v := .eptr id sz i.toNat 0) ?_ hk
  unfold evalOp
  simp only [ho, hi, hx, indexAddrAV, ht, hs, hz, h0, cond_true]
theorem st_ldR {P : Program} {o : Oper} {env : Env} {h : Heap} {t : TypeId} {p : Operand} {v v' : AV} {id sz n j : Nat} {g : Nat → AV} {k : AV → Prop} {e : Prop} (ho : o.op = .load t p) (hp : evo P 0 env p = .eptr id sz j 0) (hh : h.get id = .oarr sz n g) (hj : j < n) (hg : g j = v) (hpart : partAV P t v.cells 0 = some v') (hk : k v'.strip) : (match evalOp P o env h with | some v => k v | none => e) := by
  refine st_some (v := v'.strip) ?_ hk
  have e1 : Nat.blt j n = true := nBlt hj
  have e2 : Nat.beq sz sz = true := Nat.beq_refl sz
  unfold evalOp loadAV readCells
  simp only [ho, hp, hh, hg, e1, e2, hpart, Bool.and_self, cond_true, Option.map_some]
theorem st_apO {P : Program} {t u e : TypeId} {h : Heap} {b x : AV} {id sz n m : Nat} {g g' : Nat → AV} {A : Nat → AV → Heap → Prop} {B : Prop} (hb : b = .brow id sz n) (ht : tyD P t = .slice e) (hh : h.get id = .oarr sz n g) (hy : srcOf P e h x = some (m, g'))
    (hc : (isSliceT P u && (Nat.beq sz (tySz P e) && Nat.blt 0 sz && zeroFits P e && Nat.blt 0 (tyBy P e)) && noRef id h) = true) (hr : roomOK (n + m) (tyBy P e) = true) (hK : A id (.brow id sz (n + m)) (h.set id (.oarr sz (n + m) (vapp (zeroElem P e) g n (fun j => (g' j).strip1) m)))) :
    (match appendO P t u h b x with | some (id, v, h) => A id v h | none => B) := by
  have e1 : Nat.beq n n = true := Nat.beq_refl n
  have e2 : Nat.beq sz sz = true := Nat.beq_refl sz
  simp only [Bool.and_eq_true] at hc
  obtain ⟨⟨c1, ⟨⟨⟨c2, c3⟩, c4⟩, c5⟩⟩, c6⟩ := hc
  subst hb
  unfold appendO
  simp only [ht, hh, hy, e1, e2, c1, c2, c3, c4, c5, c6, hr, Bool.and_self, cond_true]
  exact hK
theorem st_apR {α : Type} {E : Enc α} {L : List α} {a : α} {P : Program} {t u e : TypeId} {h : Heap} {b x : AV} {id sz n : Nat} {g' : Nat → AV} {A : Nat → AV → Heap → Prop} {B : Prop} (hb : b = .brow id sz n) (ht : tyD P t = .slice e) (hh : h.get id = .oarr sz n (fun j => E.f (L.getD j E.d))) (hn : n = L.length) (hy : srcOf P e h x = some (1, g'))
    (hg : (g' 0).strip1 = E.f a) (hz : zeroElem P e = E.f E.d) (hc : (isSliceT P u && (Nat.beq sz (tySz P e) && Nat.blt 0 sz && zeroFits P e && Nat.blt 0 (tyBy P e)) && noRef id h) = true) (hr : roomOK (n + 1) (tyBy P e) = true) (hK : A id (.brow id sz (n + 1)) (h.set id (.oarr sz (n + 1) (fun j => E.f ((L ++ [a]).getD j E.d))))) :
    (match appendO P t u h b x with | some (id, v, h) => A id v h | none => B) := by
  refine st_apO hb ht hh hy hc hr ?_
  rw [Enc.snoc_eq (E := E) (v := fun j => (g' j).strip1) hn hz hg]
  exact hK
theorem ghost_freezeO {env : Env} {h : Heap} {q id sz n : Nat} {g : Nat → AV} (hq : env.get q = .brow id sz n) (hh : h.get id = .oarr sz n g) : ghosts [.freeze q] env h = some (env.set q (.vec sz n (fun j => (g j).strip1)), h.set id .dead) := by
  have e1 : Nat.beq sz sz = true := Nat.beq_refl sz
  have e2 : Nat.beq n n = true := Nat.beq_refl n
  simp only [ghosts, ghost1, hq, hh, e1, e2, Bool.and_self, cond_true]
theorem st_setR {α : Type} {E : Enc α} {P : Program} {h : Heap} {t : TypeId} {p v : AV} {id sz n j : Nat} {L : List α} {a : α} {A : Heap → Prop} {C : Prop} (hp : p = .eptr id sz j 0) (hh : h.get id = .oarr sz n (fun j => E.f (L.getD j E.d))) (hn : n = L.length) (hj : j < n) (hv : v = E.f a) (hc : (!(Nat.beq v.cells.length (tySz P t)) || !(v.cells.all AV.scal)) = false)
    (hd : (Nat.ble (0 + v.cells.length) sz && v.isData) = true) (hse : setElem (E.f (L.getD j E.d)) 0 sz v = v) (hK : A (h.set id (.oarr sz n (fun i => E.f ((L.set j a).getD i E.d))))) : (match storeAV P h t p v with | some h => A h | none => C) := by
  subst hp
  have e1 : Nat.blt j n = true := nBlt hj
  have e2 : Nat.beq sz sz = true := Nat.beq_refl sz
  rw [Bool.and_eq_true] at hd
  unfold storeAV storeArr
  simp only [hh, hc, e1, e2, hd.1, hd.2, hse, Bool.and_self, cond_true, cond_false]
  rw [Enc.set_eq (E := E) (hn ▸ hj) hv]
  exact hK
end Ax
namespace Go.Proofs
open Ax Go
set_option maxRecDepth 10000
def keepFg (f r : Nat) : Option (List Nat) := match f, r with
  | 83, 3 => some [0, 3, 4]
  | 83, 7 => some [0, 3, 4, 5]
  | _, _ => none
def keepXFg (f r : Nat) : Option (List Nat) := match f, r with
  | 83, 3 => some [3]
  | 83, 7 => some [0, 3, 4]
  | _, _ => none
def ghFg (f r : Nat) : List Ghost := match f, r with
  | 83, 2 => [.adoptO 3]
  | 83, 12 => [.freeze 3]
  | _, _ => []
noncomputable def cxFg : Ctx where
  P := Try.prog
  inl := fun _ => false
  keep := keepFg
  keepX := keepXFg
  xf := fun _ _ _ => false
  ow := fun _ => false
  gh := ghFg
  gf := fun _ => []
  ln := fun _ => false
  srt := srtT
theorem okFg {f a Q} (h : stepCall (SX Try.prog calmT) cxFg calmT f a Q) : CallOK Try.prog f a Q := okOf (cx := cxFg) rfl progOK h
def rowI (n : Nat) (l : List Int) : AObj := .oarr 1 n fun j => EI.f (l.getD j EI.d)
def midI (v : List Int) (x : Int) (k : Nat) : List Int := v.take k ++ x :: v.drop k
theorem midI_len {v : List Int} {x : Int} {k : Nat} (h : k ≤ v.length) : (midI v x k).length = v.length + 1 := by
  simp [midI]; omega
theorem midI_at {v : List Int} {x : Int} {k : Nat} (h : k ≤ v.length) : (midI v x k).getD k 0 = x := by
  have : (v.take k).length = k := List.length_take_of_le h
  rw [midI, List.getD_eq_getElem?_getD, List.getElem?_append_right (by omega), this]
  simp
theorem midI_pre {v : List Int} {x : Int} {k j : Nat} (h : k ≤ v.length) (hj : j < k) : (midI v x k).getD j 0 = v.getD j 0 := by
  have : (v.take k).length = k := List.length_take_of_le h
  rw [midI, List.getD_eq_getElem?_getD, List.getElem?_append_left (by omega), List.getD_eq_getElem?_getD, List.getElem?_take_of_lt hj]
theorem midI_all {v : List Int} {x : Int} : midI v x v.length = v ++ [x] := by simp [midI]
theorem midI_step {v : List Int} {x : Int} {k : Nat} (h : k + 1 ≤ v.length) : ((midI v x (k + 1)).set (k + 1) (v.getD k 0)).set k x = midI v x k := by
  have e : v = v.take k ++ v.getD k 0 :: v.drop (k + 1) := by
    rw [List.getD_eq_getElem?_getD, List.getElem?_eq_getElem h]
    simp
  have hl : (v.take k).length = k := List.length_take_of_le (by omega)
  generalize v.take k = a at *
  generalize v.getD k 0 = y at *
  generalize v.drop (k + 1) = b at *
  subst e
  subst hl
  have h1 : List.take (a.length + 1) (a ++ y :: b) = a ++ [y] := by
    rw [List.take_length_add_append]; rfl
  simp [midI, h1]
theorem midI_sorted {v : List Int} {x : Int} {k : Nat} (hv : v.Pairwise fun a b => b ≤ a) (h1 : ∀ y ∈ v.drop k, y < x) (h2 : ∀ y ∈ v.take k, x ≤ y) : (midI v x k).Pairwise fun a b => b ≤ a := by
  rw [midI, List.pairwise_append]
  refine ⟨hv.sublist (List.take_sublist k v), List.pairwise_cons.2 ⟨fun y hy => by have := h1 y hy; omega, hv.sublist (List.drop_sublist k v)⟩, fun a ha b hb => ?_⟩
  rw [List.mem_cons] at hb
  rcases hb with rfl | hb
  · exact h2 a ha
  · have := h1 b hb; have := h2 a ha; omega
theorem midI_perm {v : List Int} {x : Int} {k : Nat} : (midI v x k).Perm (v ++ [x]) := by
  have h1 : (v.take k ++ x :: v.drop k).Perm (x :: (v.take k ++ v.drop k)) := List.perm_middle
  rw [List.take_append_drop] at h1
  exact h1.trans (List.perm_append_singleton x v).symm
theorem sortD_mid {l : List Int} {i k : Nat} (hi : i < l.length) (h1 : ∀ y ∈ (sortD (l.take i)).drop k, y < l.getD i 0) (h2 : ∀ y ∈ (sortD (l.take i)).take k, l.getD i 0 ≤ y) : midI (sortD (l.take i)) (l.getD i 0) k = sortD (l.take (i + 1)) := by
  refine sortD_eq ?_ (midI_sorted (sortD_sorted _) h1 h2)
  have e : l.take (i + 1) = l.take i ++ [l.getD i 0] := Enc.take_succ (E := EI) hi
  rw [e]
  exact midI_perm.trans ((sortD_perm _).append_right _)
def srt : List Int → List Int
  | [] => []
  | x :: r => sortD (x :: r)
theorem srt_eq : ∀ l, srt l = sortD l
  | [] => (List.perm_nil.1 (sortD_perm [])).symm
  | _ :: _ => rfl
theorem falling (l : List Int) (hl : l.length ≤ 512) : CallOK Try.prog 83 [EI.L l] (fun r => r = EI.L (sortD l)) := by
  refine okFg ?_
  conv => whnf
  repeat' ((first | with_reducible refine bT rfl ?_ | with_reducible refine bF rfl ?_ | (refine sN ?_; (conv => whnf); refine bT (by first | rfl | exact iR8 _ | exact uNN _ | exact iR (by omega) | exact iR (by rw [hw]; omega) | exact nBlt (by omega) | exact nBle (by omega) | (simp; omega)) ?_) | (refine sA ?_; (conv => whnf); refine bT (roomL (by omega) rfl) ?_) | (refine sS ?_; (conv => whnf); refine bT (by first | rfl | exact iR8 _ | exact uNN _ | exact iR (by omega) | exact iR (by rw [hw]; omega) | exact nBlt (by omega) | exact nBle (by omega) | (simp; omega)) ?_) | (refine sM ?_; (conv => whnf); refine bT (mkOK (by omega) (by omega) (by omega) rfl) ?_) | (refine sC ?_; (conv => whnf); refine bT (nBle (by first | omega | (simp; omega))) ?_) | refine bDt (by omega) ?_ | refine bDf (by omega) ?_ | refine bNt (by omega) ?_ | refine bNf (by omega) ?_ | refine bD (fun _ => ?_) (fun _ => ?_) | refine bN (fun _ => ?_) (fun _ => ?_)) <;> conv => whnf)
  refine loop_by (cx := cxFg) rfl progOK (ι := {i : Nat // i ≤ l.length}) (fun i => l.length - i.1) (fun i => ⟨[(0, EI.L l), (3, .brow 0 1 i.1), (4, .int .i64 i.1)], [rowI i.1 (srt (l.take i.1))], [], none⟩) ?_ ⟨0, Nat.zero_le _⟩
  rintro ⟨i, hi⟩ ih
  dsimp only at hi ⊢
  by_cases hlt : i < l.length
  · have hv : (srt (l.take i)).length = i := by rw [srt_eq, (sortD_perm _).length_eq, List.length_take_of_le (by omega)]
    have hs := sortD_mid (k := 0) hlt
    generalize hvq : srt (l.take i) = v at *
    have hm : ∀ k, k ≤ i → (∀ y ∈ v.drop k, y < l.getD i 0) → (∀ y ∈ v.take k, l.getD i 0 ≤ y) → rowI (i + 1) (midI v (l.getD i 0) k) = rowI (i + 1) (srt (l.take (i + 1))) := by
      intro k hk h1 h2
      subst hvq
      rw [srt_eq] at h1 h2
      rw [srt_eq, srt_eq, sortD_mid hlt h1 h2]
    have hfin : ∀ k, k ≤ i → (∀ y ∈ v.drop k, y < l.getD i 0) → (k = 0 ∨ l.getD i 0 ≤ v.getD (k - 1) 0) → rowI (i + 1) (midI v (l.getD i 0) k) = rowI (i + 1) (srt (l.take (i + 1))) := by
      intro k hk h1 h2
      refine hm k hk h1 fun y hy => ?_
      have hvs : v.Pairwise fun a b => b ≤ a := by rw [← hvq, srt_eq]; exact sortD_sorted _
      rcases h2 with h2 | h2
      · subst h2; simp at hy
      · obtain ⟨j, hj, e⟩ := List.mem_iff_getElem.1 hy
        rw [List.getElem_take] at e
        have hj' := hj
        rw [List.length_take] at hj'
        have hk1 : k - 1 < v.length := by omega
        have e3 : v.getD (k - 1) 0 = v[k - 1] := by rw [List.getD_eq_getElem?_getD, List.getElem?_eq_getElem hk1]; rfl
        rw [e3] at h2
        by_cases q : j = k - 1
        · subst q; omega
        · have := List.pairwise_iff_getElem.1 hvs j (k - 1) (by omega) hk1 (by omega)
          omega
    conv => whnf
    repeat' ((first | with_reducible refine bT rfl ?_ | with_reducible refine bF rfl ?_ | (refine sN ?_; (conv => whnf); refine bT (by first | rfl | exact iR8 _ | exact uNN _ | exact iR (by omega) | exact iR (by rw [hw]; omega) | exact nBlt (by omega) | exact nBle (by omega) | (simp; omega)) ?_) | (refine sA ?_; (conv => whnf); refine bT (roomL (by omega) rfl) ?_) | (refine sS ?_; (conv => whnf); refine bT (by first | rfl | exact iR8 _ | exact uNN _ | exact iR (by omega) | exact iR (by rw [hw]; omega) | exact nBlt (by omega) | exact nBle (by omega) | (simp; omega)) ?_) | (refine sM ?_; (conv => whnf); refine bT (mkOK (by omega) (by omega) (by omega) rfl) ?_) | (refine sC ?_; (conv => whnf); refine bT (nBle (by first | omega | (simp; omega))) ?_) | refine bDt (by omega) ?_ | refine bDf (by omega) ?_ | refine bNt (by omega) ?_ | refine bNf (by omega) ?_ | refine st_apR (E := EI) (L := v) (a := l.getD i 0) (n := i) rfl rfl rfl hv.symm rfl rfl rfl rfl (roomL (by omega) rfl) ?_ | refine bD (fun _ => ?_) (fun _ => ?_) | refine bN (fun _ => ?_) (fun _ => ?_)) <;> conv => whnf)
    have e0 : rowI (i + 1) (v ++ [l.getD i 0]) = rowI (i + 1) (midI v (l.getD i 0) i) := by rw [← hv, midI_all]
    unfold rowI at e0
    rw [e0]
    refine loop_by (cx := cxFg) rfl progOK (ι := {k : Nat // k ≤ i ∧ ∀ y ∈ v.drop k, y < l.getD i 0}) (fun k => k.1) (fun k => ⟨[(0, EI.L l), (3, .brow 0 1 (i + 1)), (4, .int .i64 i), (5, .int .i64 k.1)], [rowI (i + 1) (midI v (l.getD i 0) k.1)], [], none⟩) ?_ ⟨i, Nat.le_refl _, by rw [List.drop_of_length_le (by omega)]; simp⟩
    rintro ⟨k, hk, hd⟩ ih2
    dsimp only at hk hd ⊢
    have hf := hfin k hk hd
    have hwi : IntKind.i64.wrap ((i : Int) + 1) = ((i + 1 : Nat) : Int) := next_i hlt (by omega)
    by_cases hk0 : k = 0
    · subst hk0
      conv => whnf
      repeat' ((first | with_reducible refine bT rfl ?_ | with_reducible refine bF rfl ?_ | (refine sN ?_; (conv => whnf); refine bT (by first | rfl | exact iR8 _ | exact uNN _ | exact iR (by omega) | exact iR (by rw [hw]; omega) | exact nBlt (by omega) | exact nBle (by omega) | (simp; omega)) ?_) | (refine sA ?_; (conv => whnf); refine bT (roomL (by omega) rfl) ?_) | (refine sS ?_; (conv => whnf); refine bT (by first | rfl | exact iR8 _ | exact uNN _ | exact iR (by omega) | exact iR (by rw [hw]; omega) | exact nBlt (by omega) | exact nBle (by omega) | (simp; omega)) ?_) | (refine sM ?_; (conv => whnf); refine bT (mkOK (by omega) (by omega) (by omega) rfl) ?_) | (refine sC ?_; (conv => whnf); refine bT (nBle (by first | omega | (simp; omega))) ?_) | refine bDt (by omega) ?_ | refine bDf (by omega) ?_ | refine bNt (by omega) ?_ | refine bNf (by omega) ?_ | refine loop_to ih ⟨i + 1, hlt⟩ (show l.length - (i + 1) < l.length - i by omega) ?_ | refine bD (fun _ => ?_) (fun _ => ?_) | refine bN (fun _ => ?_) (fun _ => ?_)) <;> conv => whnf)
      rw [hwi]
      refine st_eq ?_ ?_
      all_goals repeat' (first | exact rfl | refine env_cons ?_ ?_ | refine heap_cons ?_ ?_)
      · exact hf (.inl rfl)
    · obtain ⟨k, rfl⟩ : ∃ j, k = j + 1 := ⟨k - 1, by omega⟩
      have hw : IntKind.i64.wrap (((k + 1 : Nat) : Int) - 1) = (k : Nat) := by rw [wrap64 (by omega)]; omega
      have e1 : (midI v (l.getD i 0) (k + 1)).getD (k + 1) 0 = l.getD i 0 := midI_at (by omega)
      have e2 : (midI v (l.getD i 0) (k + 1)).getD k 0 = v.getD k 0 := midI_pre (by omega) (by omega)
      have hi1 : inRange ((k + 1 : Nat) : Int) (i + 1) = true := iR (by omega)
      have hi2 : inRange (IntKind.i64.wrap (((k + 1 : Nat) : Int) - 1)) (i + 1) = true := by rw [hw]; exact iR (by omega)
      have hj1 : (((k + 1 : Nat) : Int)).toNat < i + 1 := by omega
      have hj2 : (IntKind.i64.wrap (((k + 1 : Nat) : Int) - 1)).toNat < i + 1 := by rw [hw]; omega
      have c1 : (midI v (l.getD i 0) (k + 1)).getD (((k + 1 : Nat) : Int)).toNat EI.d = l.getD i 0 := by rw [Int.toNat_natCast]; exact e1
      have c2 : (midI v (l.getD i 0) (k + 1)).getD (IntKind.i64.wrap (((k + 1 : Nat) : Int) - 1)).toNat EI.d = v.getD k 0 := by rw [hw, Int.toNat_natCast]; exact e2
      have hlm : (midI v (l.getD i 0) (k + 1)).length = i + 1 := by rw [midI_len (by omega), hv]
      have hlm2 : ((midI v (l.getD i 0) (k + 1)).set (((k + 1 : Nat) : Int)).toNat (v.getD k 0)).length = i + 1 := by rw [List.length_set, hlm]
      by_cases hgt : v.getD k 0 < l.getD i 0
      · have hd2 : ∀ y ∈ v.drop k, y < l.getD i 0 := by
          intro y hy
          rw [List.drop_eq_getElem_cons (by omega), List.mem_cons] at hy
          rcases hy with rfl | hy
          · rw [List.getD_eq_getElem?_getD, List.getElem?_eq_getElem (by omega)] at hgt
            exact hgt
          · exact hd y hy
        conv => whnf
        repeat' ((first | with_reducible refine bT rfl ?_ | with_reducible refine bF rfl ?_ | (refine sN ?_; (conv => whnf); refine bT (by first | rfl | exact iR8 _ | exact uNN _ | exact iR (by omega) | exact iR (by rw [hw]; omega) | exact nBlt (by omega) | exact nBle (by omega) | (simp; omega)) ?_) | (refine sA ?_; (conv => whnf); refine bT (roomL (by omega) rfl) ?_) | (refine sS ?_; (conv => whnf); refine bT (by first | rfl | exact iR8 _ | exact uNN _ | exact iR (by omega) | exact iR (by rw [hw]; omega) | exact nBlt (by omega) | exact nBle (by omega) | (simp; omega)) ?_) | (refine sM ?_; (conv => whnf); refine bT (mkOK (by omega) (by omega) (by omega) rfl) ?_) | (refine sC ?_; (conv => whnf); refine bT (nBle (by first | omega | (simp; omega))) ?_) | refine bDt (by omega) ?_ | refine bDf (by omega) ?_ | refine bNt (by omega) ?_ | refine bNf (by omega) ?_ | refine st_ixR (i := ((k + 1 : Nat) : Int)) (n := i + 1) rfl rfl rfl rfl rfl rfl hi1 ?_ | refine st_ixR (i := IntKind.i64.wrap (((k + 1 : Nat) : Int) - 1)) (n := i + 1) rfl rfl rfl rfl rfl rfl hi2 ?_ | refine st_ldR (v := .int .i64 (l.getD i 0)) (g := fun j => EI.f ((midI v (l.getD i 0) (k + 1)).getD j EI.d)) rfl rfl rfl hj1 (congrArg (AV.int .i64) c1) rfl ?_ | refine st_ldR (v := .int .i64 (v.getD k 0)) (g := fun j => EI.f ((midI v (l.getD i 0) (k + 1)).getD j EI.d)) rfl rfl rfl hj2 (congrArg (AV.int .i64) c2) rfl ?_ | refine st_setR (E := EI) (L := midI v (l.getD i 0) (k + 1)) (a := v.getD k 0) rfl rfl hlm.symm hj1 rfl rfl rfl rfl ?_ | refine st_setR (E := EI) (L := (midI v (l.getD i 0) (k + 1)).set (((k + 1 : Nat) : Int)).toNat (v.getD k 0)) (a := l.getD i 0) rfl rfl hlm2.symm hj2 rfl rfl rfl rfl ?_ | refine loop_to ih2 ⟨k, by omega, hd2⟩ (Nat.lt_succ_self k) ?_ | refine bD (fun _ => ?_) (fun _ => ?_) | refine bN (fun _ => ?_) (fun _ => ?_)) <;> conv => whnf)
        rw [hw]
        refine st_eq ?_ ?_
        all_goals repeat' (first | exact rfl | refine env_cons ?_ ?_ | refine heap_cons ?_ ?_)
        · rw [Int.toNat_natCast, Int.toNat_natCast, midI_step (by omega)]; rfl
      · have hge : l.getD i 0 ≤ v.getD k 0 := by omega
        conv => whnf
        repeat' ((first | with_reducible refine bT rfl ?_ | with_reducible refine bF rfl ?_ | (refine sN ?_; (conv => whnf); refine bT (by first | rfl | exact iR8 _ | exact uNN _ | exact iR (by omega) | exact iR (by rw [hw]; omega) | exact nBlt (by omega) | exact nBle (by omega) | (simp; omega)) ?_) | (refine sA ?_; (conv => whnf); refine bT (roomL (by omega) rfl) ?_) | (refine sS ?_; (conv => whnf); refine bT (by first | rfl | exact iR8 _ | exact uNN _ | exact iR (by omega) | exact iR (by rw [hw]; omega) | exact nBlt (by omega) | exact nBle (by omega) | (simp; omega)) ?_) | (refine sM ?_; (conv => whnf); refine bT (mkOK (by omega) (by omega) (by omega) rfl) ?_) | (refine sC ?_; (conv => whnf); refine bT (nBle (by first | omega | (simp; omega))) ?_) | refine bDt (by omega) ?_ | refine bDf (by omega) ?_ | refine bNt (by omega) ?_ | refine bNf (by omega) ?_ | refine st_ixR (i := ((k + 1 : Nat) : Int)) (n := i + 1) rfl rfl rfl rfl rfl rfl hi1 ?_ | refine st_ixR (i := IntKind.i64.wrap (((k + 1 : Nat) : Int) - 1)) (n := i + 1) rfl rfl rfl rfl rfl rfl hi2 ?_ | refine st_ldR (v := .int .i64 (l.getD i 0)) (g := fun j => EI.f ((midI v (l.getD i 0) (k + 1)).getD j EI.d)) rfl rfl rfl hj1 (congrArg (AV.int .i64) c1) rfl ?_ | refine st_ldR (v := .int .i64 (v.getD k 0)) (g := fun j => EI.f ((midI v (l.getD i 0) (k + 1)).getD j EI.d)) rfl rfl rfl hj2 (congrArg (AV.int .i64) c2) rfl ?_ | refine loop_to ih ⟨i + 1, hlt⟩ (show l.length - (i + 1) < l.length - i by omega) ?_ | refine bD (fun _ => ?_) (fun _ => ?_) | refine bN (fun _ => ?_) (fun _ => ?_)) <;> conv => whnf)
        rw [hwi]
        refine st_eq ?_ ?_
        all_goals repeat' (first | exact rfl | refine env_cons ?_ ?_ | refine heap_cons ?_ ?_)
        · exact hf (.inr hge)
  · have hiq : i = l.length := by omega
    subst hiq
    rw [List.take_length, srt_eq]
    clear ih
    conv => whnf
    repeat' ((first | with_reducible refine bT rfl ?_ | with_reducible refine bF rfl ?_ | (refine sN ?_; (conv => whnf); refine bT (by first | rfl | exact iR8 _ | exact uNN _ | exact iR (by omega) | exact iR (by rw [hw]; omega) | exact nBlt (by omega) | exact nBle (by omega) | (simp; omega)) ?_) | (refine sA ?_; (conv => whnf); refine bT (roomL (by omega) rfl) ?_) | (refine sS ?_; (conv => whnf); refine bT (by first | rfl | exact iR8 _ | exact uNN _ | exact iR (by omega) | exact iR (by rw [hw]; omega) | exact nBlt (by omega) | exact nBle (by omega) | (simp; omega)) ?_) | (refine sM ?_; (conv => whnf); refine bT (mkOK (by omega) (by omega) (by omega) rfl) ?_) | (refine sC ?_; (conv => whnf); refine bT (nBle (by first | omega | (simp; omega))) ?_) | refine bDt (by omega) ?_ | refine bDf (by omega) ?_ | refine bNt (by omega) ?_ | refine bNf (by omega) ?_ | refine st_ghosts (ghost_freezeO (q := 3) (n := l.length) rfl rfl) ?_ | refine bD (fun _ => ?_) (fun _ => ?_) | refine bN (fun _ => ?_) (fun _ => ?_)) <;> conv => whnf)
    have hlen := (sortD_perm l).length_eq
    unfold Enc.L
    rw [hlen]
    rfl
theorem refKth (l : List Int) (k : Int) (hl : l.length ≤ 9223372036854775807) : CallOK Try.prog 34 [EI.L l, .int .i64 k] (fun r => r = tup2 (kthE l k)) := by
  refine okWo ?_
  have hw0 := wcheck l k hl
  unfold kthE
  by_cases h1 : (worE l k).2 = 0
  · rw [if_pos h1]
    obtain ⟨g1, g2, g3, g4, h3, g6⟩ := worE_0 h1
    have hf := falling l g1
    have hsl := (sortD_perm l).length_eq
    have hw : IntKind.i64.wrap (k - 1) = k - 1 := wrap64 (by omega)
    conv => whnf
    repeat' ((first | with_reducible refine bT rfl ?_ | with_reducible refine bF rfl ?_ | (refine sN ?_; (conv => whnf); refine bT (by first | rfl | exact iR8 _ | exact uNN _ | exact iR (by omega) | exact iR (by rw [hw]; omega) | exact nBlt (by omega) | exact nBle (by omega) | (simp; omega)) ?_) | (refine sA ?_; (conv => whnf); refine bT (roomL (by omega) rfl) ?_) | (refine sS ?_; (conv => whnf); refine bT (by first | rfl | exact iR8 _ | exact uNN _ | exact iR (by omega) | exact iR (by rw [hw]; omega) | exact nBlt (by omega) | exact nBle (by omega) | (simp; omega)) ?_) | (refine sM ?_; (conv => whnf); refine bT (mkOK (by omega) (by omega) (by omega) rfl) ?_) | (refine sC ?_; (conv => whnf); refine bT (nBle (by first | omega | (simp; omega))) ?_) | refine bDt (by omega) ?_ | refine bDf (by omega) ?_ | refine bNt (by omega) ?_ | refine bNf (by omega) ?_ | refine call_is hw0 ?_ | refine bDt h1 ?_ | refine bNf h1 ?_ | refine call_is hf ?_ | refine bD (fun _ => ?_) (fun _ => ?_) | refine bN (fun _ => ?_) (fun _ => ?_)) <;> conv => whnf)
    rw [hw, show (k - 1).toNat = k.toNat - 1 by omega]
    rfl
  · rw [if_neg h1]
    conv => whnf
    repeat' ((first | with_reducible refine bT rfl ?_ | with_reducible refine bF rfl ?_ | (refine sN ?_; (conv => whnf); refine bT (by first | rfl | exact iR8 _ | exact uNN _ | exact iR (by omega) | exact iR (by rw [hw]; omega) | exact nBlt (by omega) | exact nBle (by omega) | (simp; omega)) ?_) | (refine sA ?_; (conv => whnf); refine bT (roomL (by omega) rfl) ?_) | (refine sS ?_; (conv => whnf); refine bT (by first | rfl | exact iR8 _ | exact uNN _ | exact iR (by omega) | exact iR (by rw [hw]; omega) | exact nBlt (by omega) | exact nBle (by omega) | (simp; omega)) ?_) | (refine sM ?_; (conv => whnf); refine bT (mkOK (by omega) (by omega) (by omega) rfl) ?_) | (refine sC ?_; (conv => whnf); refine bT (nBle (by first | omega | (simp; omega))) ?_) | refine bDt (by omega) ?_ | refine bDf (by omega) ?_ | refine bNt (by omega) ?_ | refine bNf (by omega) ?_ | refine call_is hw0 ?_ | refine bDf h1 ?_ | refine bNt h1 ?_ | refine bD (fun _ => ?_) (fun _ => ?_) | refine bN (fun _ => ?_) (fun _ => ?_)) <;> conv => whnf)
    all_goals rfl
theorem refShort (l : List Int) (k : Int) (hl : l.length ≤ 9223372036854775807) : CallOK Try.prog 36 [EI.L l, .int .i64 k] (fun r => r = tup2 (shoE l k)) := by
  refine okWo ?_
  have hw0 := wcheck l k hl
  unfold shoE
  by_cases h1 : (worE l k).2 = 0
  · rw [if_pos h1]
    obtain ⟨g1, g2, g3, g4, h3, g6⟩ := worE_0 h1
    have hf := falling l g1
    conv => whnf
    repeat' ((first | with_reducible refine bT rfl ?_ | with_reducible refine bF rfl ?_ | (refine sN ?_; (conv => whnf); refine bT (by first | rfl | exact iR8 _ | exact uNN _ | exact iR (by omega) | exact iR (by rw [hw]; omega) | exact nBlt (by omega) | exact nBle (by omega) | (simp; omega)) ?_) | (refine sA ?_; (conv => whnf); refine bT (roomL (by omega) rfl) ?_) | (refine sS ?_; (conv => whnf); refine bT (by first | rfl | exact iR8 _ | exact uNN _ | exact iR (by omega) | exact iR (by rw [hw]; omega) | exact nBlt (by omega) | exact nBle (by omega) | (simp; omega)) ?_) | (refine sM ?_; (conv => whnf); refine bT (mkOK (by omega) (by omega) (by omega) rfl) ?_) | (refine sC ?_; (conv => whnf); refine bT (nBle (by first | omega | (simp; omega))) ?_) | refine bDt (by omega) ?_ | refine bDf (by omega) ?_ | refine bNt (by omega) ?_ | refine bNf (by omega) ?_ | refine call_is hw0 ?_ | refine bDt h1 ?_ | refine bNf h1 ?_ | refine call_is hf ?_ | refine bD (fun _ => ?_) (fun _ => ?_) | refine bN (fun _ => ?_) (fun _ => ?_)) <;> conv => whnf)
    have hsl := (sortD_perm l).length_eq
    have hfv : ∀ x ∈ sortD l, fitP x := fun x hx => g4 x ((sortD_perm l).mem_iff.1 hx)
    generalize sortD l = v at *
    clear hw0 h1 h3 hf
    have hk : 0 < k := by omega
    obtain ⟨K, hK⟩ : ∃ K : Nat, k = K := ⟨k.toNat, by omega⟩
    have hKv : K ≤ v.length := by omega
    refine loop_by (cx := cxWo) rfl progOK (ι := {i : Nat // i ≤ K}) (fun i => K - i.1) (fun i => ⟨[(1, .int .i64 k), (7, EI.L v), (8, .int .i64 ((v.take i.1).map (· / k)).sum), (9, .int .i64 ((v.take i.1).map (· % k)).sum), (10, .int .i64 i.1)], [], [], none⟩) ?_ ⟨0, Nat.zero_le _⟩
    rintro ⟨i, hi⟩ ih
    dsimp only
    have ht : (v.take i).length = i := List.length_take_of_le (by omega)
    have b1 := whole_b hk (l := v.take i) (by rw [ht]; omega) (fun x hx => hfv x (List.mem_of_mem_take hx))
    have b2 := rest_b hk (l := v.take i) (by rw [ht]; omega) (by omega)
    by_cases hlt : i < K
    · have hltv : i < v.length := by omega
      have hx := fitP_b (fit_get hfv hltv)
      have t1 := t_facts (v.getD i 0) hk
      obtain ⟨t2, t3⟩ := t_down2 (v.getD i 0) hk
      have ft := Enc.take_succ (E := EI) hltv
      have b3 := whole_b hk (l := v.take (i + 1)) (by rw [List.length_take_of_le hltv]; omega) (fun x hx => hfv x (List.mem_of_mem_take hx))
      have b4 := rest_b hk (l := v.take (i + 1)) (by rw [List.length_take_of_le hltv]; omega) (by omega)
      rw [ft, List.map_append, List.sum_append] at b3 b4
      obtain ⟨o1, o2, o3, o4⟩ := one_b hk (fit_get hfv hltv)
      simp only [List.map_cons, List.map_nil, List.sum_cons, List.sum_nil, Int.add_zero] at b3 b4
      by_cases hd : v.getD i 0 < (v.getD i 0).tdiv k * k
      · obtain ⟨t4, t5⟩ := t2 hd
        have t6 : ((v.getD i 0).tdiv k - 1) * k = (v.getD i 0).tdiv k * k - k := by rw [Int.sub_mul]; omega
        have w1 : IntKind.i64.wrap ((v.getD i 0).tdiv k) = (v.getD i 0).tdiv k := wrap64 (by omega)
        have w2 : IntKind.i64.wrap ((v.getD i 0).tdiv k * k) = (v.getD i 0).tdiv k * k := wrap64 (by omega)
        have w3 : IntKind.i64.wrap ((v.getD i 0).tdiv k - 1) = (v.getD i 0).tdiv k - 1 := wrap64 (by omega)
        conv => whnf
        repeat' ((first | with_reducible refine bT rfl ?_ | with_reducible refine bF rfl ?_ | (refine sN ?_; (conv => whnf); refine bT (by first | rfl | exact iR8 _ | exact uNN _ | exact iR (by omega) | exact iR (by rw [hw]; omega) | exact nBlt (by omega) | exact nBle (by omega) | (simp; omega)) ?_) | (refine sA ?_; (conv => whnf); refine bT (roomL (by omega) rfl) ?_) | (refine sS ?_; (conv => whnf); refine bT (by first | rfl | exact iR8 _ | exact uNN _ | exact iR (by omega) | exact iR (by rw [hw]; omega) | exact nBlt (by omega) | exact nBle (by omega) | (simp; omega)) ?_) | (refine sM ?_; (conv => whnf); refine bT (mkOK (by omega) (by omega) (by omega) rfl) ?_) | (refine sC ?_; (conv => whnf); refine bT (nBle (by first | omega | (simp; omega))) ?_) | refine bDt (by omega) ?_ | refine bDf (by omega) ?_ | refine bNt (by omega) ?_ | refine bNf (by omega) ?_ | refine bDt (by show v.getD i 0 < IntKind.i64.wrap (IntKind.i64.wrap ((v.getD i 0).tdiv k) * k); rw [w1, w2]; exact hd) ?_ | refine loop_to ih ⟨i + 1, hlt⟩ (show K - (i+1) < K - i by omega) ?_ | refine bD (fun _ => ?_) (fun _ => ?_) | refine bN (fun _ => ?_) (fun _ => ?_)) <;> conv => whnf)
        have w4 : IntKind.i64.wrap (((v.getD i 0).tdiv k - 1) * k) = ((v.getD i 0).tdiv k - 1) * k := wrap64 (by omega)
        have w5 : IntKind.i64.wrap (v.getD i 0 - ((v.getD i 0).tdiv k - 1) * k) = v.getD i 0 % k := by rw [t5]; exact wrap64 (by omega)
        refine st_eq ?_ ?_
        all_goals repeat' (first | exact rfl | refine env_cons ?_ ?_ | refine heap_cons ?_ ?_)
        · refine congrArg (AV.int IntKind.i64) ?_
          rw [ft, List.map_append, List.sum_append]
          show IntKind.i64.wrap (_ + IntKind.i64.wrap (IntKind.i64.wrap ((v.getD i 0).tdiv k) - 1)) = _
          rw [w1, w3, ← t4, wrap64 (by omega)]
          simp [EI]
        · refine congrArg (AV.int IntKind.i64) ?_
          rw [ft, List.map_append, List.sum_append]
          show IntKind.i64.wrap (_ + IntKind.i64.wrap (v.getD i 0 - IntKind.i64.wrap (IntKind.i64.wrap (IntKind.i64.wrap ((v.getD i 0).tdiv k) - 1) * k))) = _
          rw [w1, w3, w4, w5, wrap64 (by omega)]
          simp [EI]
        · exact congrArg _ (next_i hltv (by omega))
      · obtain ⟨t4, t5⟩ := t3 hd
        have w1 : IntKind.i64.wrap ((v.getD i 0).tdiv k) = (v.getD i 0).tdiv k := wrap64 (by omega)
        have w2 : IntKind.i64.wrap ((v.getD i 0).tdiv k * k) = (v.getD i 0).tdiv k * k := wrap64 (by omega)
        conv => whnf
        repeat' ((first | with_reducible refine bT rfl ?_ | with_reducible refine bF rfl ?_ | (refine sN ?_; (conv => whnf); refine bT (by first | rfl | exact iR8 _ | exact uNN _ | exact iR (by omega) | exact iR (by rw [hw]; omega) | exact nBlt (by omega) | exact nBle (by omega) | (simp; omega)) ?_) | (refine sA ?_; (conv => whnf); refine bT (roomL (by omega) rfl) ?_) | (refine sS ?_; (conv => whnf); refine bT (by first | rfl | exact iR8 _ | exact uNN _ | exact iR (by omega) | exact iR (by rw [hw]; omega) | exact nBlt (by omega) | exact nBle (by omega) | (simp; omega)) ?_) | (refine sM ?_; (conv => whnf); refine bT (mkOK (by omega) (by omega) (by omega) rfl) ?_) | (refine sC ?_; (conv => whnf); refine bT (nBle (by first | omega | (simp; omega))) ?_) | refine bDt (by omega) ?_ | refine bDf (by omega) ?_ | refine bNt (by omega) ?_ | refine bNf (by omega) ?_ | refine bDf (by show ¬ v.getD i 0 < IntKind.i64.wrap (IntKind.i64.wrap ((v.getD i 0).tdiv k) * k); rw [w1, w2]; exact hd) ?_ | refine loop_to ih ⟨i + 1, hlt⟩ (show K - (i+1) < K - i by omega) ?_ | refine bD (fun _ => ?_) (fun _ => ?_) | refine bN (fun _ => ?_) (fun _ => ?_)) <;> conv => whnf)
        have w5 : IntKind.i64.wrap (v.getD i 0 - (v.getD i 0).tdiv k * k) = v.getD i 0 % k := by rw [t5]; exact wrap64 (by omega)
        refine st_eq ?_ ?_
        all_goals repeat' (first | exact rfl | refine env_cons ?_ ?_ | refine heap_cons ?_ ?_)
        · refine congrArg (AV.int IntKind.i64) ?_
          rw [ft, List.map_append, List.sum_append]
          show IntKind.i64.wrap (_ + IntKind.i64.wrap ((v.getD i 0).tdiv k)) = _
          rw [w1, ← t4, wrap64 (by omega)]
          simp [EI]
        · refine congrArg (AV.int IntKind.i64) ?_
          rw [ft, List.map_append, List.sum_append]
          show IntKind.i64.wrap (_ + IntKind.i64.wrap (v.getD i 0 - IntKind.i64.wrap (IntKind.i64.wrap ((v.getD i 0).tdiv k) * k))) = _
          rw [w1, w2, w5, wrap64 (by omega)]
          simp [EI]
        · exact congrArg _ (next_i hltv (by omega))
    · obtain rfl : i = K := by omega
      rw [show k.toNat = i by omega]
      conv => whnf
      repeat' ((first | with_reducible refine bT rfl ?_ | with_reducible refine bF rfl ?_ | (refine sN ?_; (conv => whnf); refine bT (by first | rfl | exact iR8 _ | exact uNN _ | exact iR (by omega) | exact iR (by rw [hw]; omega) | exact nBlt (by omega) | exact nBle (by omega) | (simp; omega)) ?_) | (refine sA ?_; (conv => whnf); refine bT (roomL (by omega) rfl) ?_) | (refine sS ?_; (conv => whnf); refine bT (by first | rfl | exact iR8 _ | exact uNN _ | exact iR (by omega) | exact iR (by rw [hw]; omega) | exact nBlt (by omega) | exact nBle (by omega) | (simp; omega)) ?_) | (refine sM ?_; (conv => whnf); refine bT (mkOK (by omega) (by omega) (by omega) rfl) ?_) | (refine sC ?_; (conv => whnf); refine bT (nBle (by first | omega | (simp; omega))) ?_) | refine bDt (by omega) ?_ | refine bDf (by omega) ?_ | refine bNt (by omega) ?_ | refine bNf (by omega) ?_ | refine bD (fun _ => ?_) (fun _ => ?_) | refine bN (fun _ => ?_) (fun _ => ?_)) <;> conv => whnf)
      all_goals rw [← short_end hk (by omega) b1 b2]
      · rw [if_pos (by assumption)]; rfl
      · rw [if_neg (by assumption)]; rfl
  · rw [if_neg h1]
    conv => whnf
    repeat' ((first | with_reducible refine bT rfl ?_ | with_reducible refine bF rfl ?_ | (refine sN ?_; (conv => whnf); refine bT (by first | rfl | exact iR8 _ | exact uNN _ | exact iR (by omega) | exact iR (by rw [hw]; omega) | exact nBlt (by omega) | exact nBle (by omega) | (simp; omega)) ?_) | (refine sA ?_; (conv => whnf); refine bT (roomL (by omega) rfl) ?_) | (refine sS ?_; (conv => whnf); refine bT (by first | rfl | exact iR8 _ | exact uNN _ | exact iR (by omega) | exact iR (by rw [hw]; omega) | exact nBlt (by omega) | exact nBle (by omega) | (simp; omega)) ?_) | (refine sM ?_; (conv => whnf); refine bT (mkOK (by omega) (by omega) (by omega) rfl) ?_) | (refine sC ?_; (conv => whnf); refine bT (nBle (by first | omega | (simp; omega))) ?_) | refine bDt (by omega) ?_ | refine bDf (by omega) ?_ | refine bNt (by omega) ?_ | refine bNf (by omega) ?_ | refine call_is hw0 ?_ | refine bDf h1 ?_ | refine bNt h1 ?_ | refine bD (fun _ => ?_) (fun _ => ?_) | refine bN (fun _ => ?_) (fun _ => ?_)) <;> conv => whnf)
    all_goals rfl
end Go.Proofs


set_option linter.unusedVariables false
set_option linter.unusedSimpArgs false
namespace Go.Proofs
open Ax Go
set_option maxRecDepth 10000
theorem lawWorst : ∀ xs, TypedArgs Try.prog 8 Try.f9.params.toList xs → CallOK Try.prog 9 xs (fun r => r = .bool true) := by
  intro xs h
  obtain ⟨a, r, rfl, ha, b, r', rfl, hb, rfl⟩ := h
  obtain ⟨l, hl1, hl2⟩ := arg_ints ha
  obtain ⟨k, rfl, hk⟩ := arg_int hb
  refine ok_same (.cons hl1 (.cons (Same.refl _) .nil)) ?_
  refine okL7 ?_
  have k1 := kth l k (max63 hl2)
  have k2 := refKth l k (max63 hl2)
  have k3 := shortfall l k (max63 hl2)
  have k4 := refShort l k (max63 hl2)
  generalize kthE l k = p at *
  generalize shoE l k = q at *
  conv => whnf
  repeat' ((first | with_reducible refine bT rfl ?_ | with_reducible refine bF rfl ?_ | (refine sN ?_; (conv => whnf); refine bT (by first | rfl | exact iR8 _ | exact uNN _ | exact iR (by omega) | exact iR (by rw [hw]; omega) | exact nBlt (by omega) | exact nBle (by omega) | (simp; omega)) ?_) | (refine sA ?_; (conv => whnf); refine bT (roomL (by omega) rfl) ?_) | (refine sS ?_; (conv => whnf); refine bT (by first | rfl | exact iR8 _ | exact uNN _ | exact iR (by omega) | exact iR (by rw [hw]; omega) | exact nBlt (by omega) | exact nBle (by omega) | (simp; omega)) ?_) | (refine sM ?_; (conv => whnf); refine bT (mkOK (by omega) (by omega) (by omega) rfl) ?_) | (refine sC ?_; (conv => whnf); refine bT (nBle (by first | omega | (simp; omega))) ?_) | refine bDt (by omega) ?_ | refine bDf (by omega) ?_ | refine bNt (by omega) ?_ | refine bNf (by omega) ?_ | refine call_is k1 ?_ | refine call_is k2 ?_ | refine call_is k3 ?_ | refine call_is k4 ?_ | refine call_is goes ?_ | refine bDt rfl ?_ | refine bNf rfl ?_ | refine bD (fun _ => ?_) (fun _ => ?_) | refine bN (fun _ => ?_) (fun _ => ?_) | refine bB (fun hb => ?_) (fun hb => ?_)) <;> conv => whnf)
  all_goals rfl
end Go.Proofs

