import Derived.Test.YtflebdkgdnfjoaaLT
import Derived.Test.YtflebdkgdnfjoaaAxRow
set_option linter.unusedVariables false
set_option linter.unusedSimpArgs false
namespace Go.Proofs
open Ax Go
set_option maxRecDepth 10000
def keepG7 (f r : Nat) : Option (List Nat) := match f, r with
  | 30, 4 => some [0, 1, 5]
  | 26, 3 => some [0, 1, 2, 7, 8]
  | _, _ => none
def keepXG7 (f r : Nat) : Option (List Nat) := match f, r with
  | 30, 4 => some [4]
  | 26, 3 => some [0, 1, 6]
  | _, _ => none
noncomputable def cxG7 : Ctx where
  P := Try.prog
  inl := fun _ => false
  keep := keepG7
  keepX := keepXG7
  xf := fun _ _ _ => false
  ow := fun _ => false
  gh := fun _ _ => []
  gf := fun _ => []
  ln := fun _ => false
  srt := srtT
theorem okG7 {f a Q} (h : stepCall (SX Try.prog calmT) cxG7 calmT f a Q) : CallOK Try.prog f a Q := okOf (cx := cxG7) rfl progOK h
theorem ints (a b : List Int) (ha : a.length ≤ 9223372036854775807) : CallOK Try.prog 30 [EI.L a, EI.L b] (fun r => r = .bool (decide (a = b))) := by
  refine okG7 ?_
  by_cases hn : a.length = b.length
  · conv => whnf
    repeat' ((first | with_reducible refine bT rfl ?_ | with_reducible refine bF rfl ?_ | (refine sN ?_; (conv => whnf); refine bT (by first | rfl | exact iR8 _ | exact uNN _ | exact iR (by omega) | exact iR (by rw [hw]; omega) | exact nBlt (by omega) | exact nBle (by omega) | (simp; omega)) ?_) | (refine sA ?_; (conv => whnf); refine bT (roomL (by omega) rfl) ?_) | (refine sS ?_; (conv => whnf); refine bT (by first | rfl | exact iR8 _ | exact uNN _ | exact iR (by omega) | exact iR (by rw [hw]; omega) | exact nBlt (by omega) | exact nBle (by omega) | (simp; omega)) ?_) | (refine sM ?_; (conv => whnf); refine bT (mkOK (by omega) (by omega) (by omega) rfl) ?_) | (refine sC ?_; (conv => whnf); refine bT (nBle (by first | omega | (simp; omega))) ?_) | refine bDt (by omega) ?_ | refine bDf (by omega) ?_ | refine bNt (by omega) ?_ | refine bNf (by omega) ?_ | refine bD (fun _ => ?_) (fun _ => ?_) | refine bN (fun _ => ?_) (fun _ => ?_)) <;> conv => whnf)
    refine loop_by (cx := cxG7) rfl progOK (ι := {i : Nat // i ≤ a.length ∧ ∀ j, j < i → a.getD j 0 = b.getD j 0}) (fun i => a.length - i.1) (fun i => ⟨[(0, EI.L a), (1, EI.L b), (5, .int .i64 i.1)], [], [], none⟩) ?_ ⟨0, Nat.zero_le _, fun j hj => absurd hj (Nat.not_lt_zero _)⟩
    rintro ⟨i, hi, hf⟩ ih
    dsimp only
    by_cases hlt : i < a.length
    · by_cases hx : a.getD i 0 = b.getD i 0
      · have hf' : ∀ j, j < i + 1 → a.getD j 0 = b.getD j 0 := fun j hj => by
          rcases Nat.lt_or_ge j i with h | h
          · exact hf j h
          · rw [show j = i by omega]; exact hx
        conv => whnf
        repeat' ((first | with_reducible refine bT rfl ?_ | with_reducible refine bF rfl ?_ | (refine sN ?_; (conv => whnf); refine bT (by first | rfl | exact iR8 _ | exact uNN _ | exact iR (by omega) | exact iR (by rw [hw]; omega) | exact nBlt (by omega) | exact nBle (by omega) | (simp; omega)) ?_) | (refine sA ?_; (conv => whnf); refine bT (roomL (by omega) rfl) ?_) | (refine sS ?_; (conv => whnf); refine bT (by first | rfl | exact iR8 _ | exact uNN _ | exact iR (by omega) | exact iR (by rw [hw]; omega) | exact nBlt (by omega) | exact nBle (by omega) | (simp; omega)) ?_) | (refine sM ?_; (conv => whnf); refine bT (mkOK (by omega) (by omega) (by omega) rfl) ?_) | (refine sC ?_; (conv => whnf); refine bT (nBle (by first | omega | (simp; omega))) ?_) | refine bDt (by omega) ?_ | refine bDf (by omega) ?_ | refine bNt (by omega) ?_ | refine bNf (by omega) ?_ | refine bDt hx ?_ | refine bNf hx ?_ | refine loop_to ih ⟨i + 1, hlt, hf'⟩ (show a.length - (i+1) < a.length - i by omega) ?_ | refine bD (fun _ => ?_) (fun _ => ?_) | refine bN (fun _ => ?_) (fun _ => ?_)) <;> conv => whnf)
        rw [next_i hlt (by omega)]; rfl
      · rw [show decide (a = b) = false from decide_eq_false fun h => hx (h ▸ rfl)]
        conv => whnf
        repeat' ((first | with_reducible refine bT rfl ?_ | with_reducible refine bF rfl ?_ | (refine sN ?_; (conv => whnf); refine bT (by first | rfl | exact iR8 _ | exact uNN _ | exact iR (by omega) | exact iR (by rw [hw]; omega) | exact nBlt (by omega) | exact nBle (by omega) | (simp; omega)) ?_) | (refine sA ?_; (conv => whnf); refine bT (roomL (by omega) rfl) ?_) | (refine sS ?_; (conv => whnf); refine bT (by first | rfl | exact iR8 _ | exact uNN _ | exact iR (by omega) | exact iR (by rw [hw]; omega) | exact nBlt (by omega) | exact nBle (by omega) | (simp; omega)) ?_) | (refine sM ?_; (conv => whnf); refine bT (mkOK (by omega) (by omega) (by omega) rfl) ?_) | (refine sC ?_; (conv => whnf); refine bT (nBle (by first | omega | (simp; omega))) ?_) | refine bDt (by omega) ?_ | refine bDf (by omega) ?_ | refine bNt (by omega) ?_ | refine bNf (by omega) ?_ | refine bDf hx ?_ | refine bNt hx ?_ | refine bD (fun _ => ?_) (fun _ => ?_) | refine bN (fun _ => ?_) (fun _ => ?_)) <;> conv => whnf)
        all_goals rfl
    · obtain rfl : i = a.length := by omega
      have e : a = b := by
        apply List.ext_getElem hn
        intro j h1 h2
        have := hf j h1
        rw [List.getD_eq_getElem?_getD, List.getD_eq_getElem?_getD, List.getElem?_eq_getElem h1, List.getElem?_eq_getElem h2] at this
        exact this
      rw [show decide (a = b) = true from decide_eq_true e]
      conv => whnf
      repeat' ((first | with_reducible refine bT rfl ?_ | with_reducible refine bF rfl ?_ | (refine sN ?_; (conv => whnf); refine bT (by first | rfl | exact iR8 _ | exact uNN _ | exact iR (by omega) | exact iR (by rw [hw]; omega) | exact nBlt (by omega) | exact nBle (by omega) | (simp; omega)) ?_) | (refine sA ?_; (conv => whnf); refine bT (roomL (by omega) rfl) ?_) | (refine sS ?_; (conv => whnf); refine bT (by first | rfl | exact iR8 _ | exact uNN _ | exact iR (by omega) | exact iR (by rw [hw]; omega) | exact nBlt (by omega) | exact nBle (by omega) | (simp; omega)) ?_) | (refine sM ?_; (conv => whnf); refine bT (mkOK (by omega) (by omega) (by omega) rfl) ?_) | (refine sC ?_; (conv => whnf); refine bT (nBle (by first | omega | (simp; omega))) ?_) | refine bDt (by omega) ?_ | refine bDf (by omega) ?_ | refine bNt (by omega) ?_ | refine bNf (by omega) ?_ | refine bD (fun _ => ?_) (fun _ => ?_) | refine bN (fun _ => ?_) (fun _ => ?_)) <;> conv => whnf)
      all_goals rfl
  · rw [show decide (a = b) = false from decide_eq_false fun h => hn (h ▸ rfl)]
    conv => whnf
    repeat' ((first | with_reducible refine bT rfl ?_ | with_reducible refine bF rfl ?_ | (refine sN ?_; (conv => whnf); refine bT (by first | rfl | exact iR8 _ | exact uNN _ | exact iR (by omega) | exact iR (by rw [hw]; omega) | exact nBlt (by omega) | exact nBle (by omega) | (simp; omega)) ?_) | (refine sA ?_; (conv => whnf); refine bT (roomL (by omega) rfl) ?_) | (refine sS ?_; (conv => whnf); refine bT (by first | rfl | exact iR8 _ | exact uNN _ | exact iR (by omega) | exact iR (by rw [hw]; omega) | exact nBlt (by omega) | exact nBle (by omega) | (simp; omega)) ?_) | (refine sM ?_; (conv => whnf); refine bT (mkOK (by omega) (by omega) (by omega) rfl) ?_) | (refine sC ?_; (conv => whnf); refine bT (nBle (by first | omega | (simp; omega))) ?_) | refine bDt (by omega) ?_ | refine bDf (by omega) ?_ | refine bNt (by omega) ?_ | refine bNf (by omega) ?_ | refine bD (fun _ => ?_) (fun _ => ?_) | refine bN (fun _ => ?_) (fun _ => ?_)) <;> conv => whnf)
    all_goals rfl
theorem sorted4 : sortD [5, -3, 9, 5] = [9, 5, 5, -3] := (sortD_eq (by decide) (by decide)).symm
theorem worE4 : worE [5, -3, 9, 5] 3 = ([9, 5, 5], 0) := by
  unfold worE
  rw [if_neg (by decide), if_neg (by decide), sorted4]; rfl
theorem kth4 : kthE [5, -3, 9, 5] 3 = (5, 0) := by
  unfold kthE
  rw [worE4, sorted4]; rfl
theorem sho4 : shoE [5, -3, 9, 5] 3 = (7, 0) := by
  unfold shoE
  rw [worE4, sorted4]; rfl
def oil : Sr := ⟨"oil".toUTF8, 1, 9, 0⟩
theorem los1 : losE [⟨oil, 0, 3⟩] [oil] [[10], [-4]] = ([30, -12], 0) := by decide +kernel
theorem at4 {n : Nat} {g : Nat → AV} (hn : n = 4) (h0 : g 0 = EI.f 5) (h1 : g 1 = EI.f (-3)) (h2 : g 2 = EI.f 9) (h3 : g 3 = EI.f 5) : Same (.vec 1 n g) (EI.L [5, -3, 9, 5]) :=
  Enc.At.same (E := EI) ⟨hn, fun i hi => by
    match i, hi with
    | 0, _ => exact h0
    | 1, _ => exact h1
    | 2, _ => exact h2
    | 3, _ => exact h3⟩
theorem at1 {α : Type} {E : Enc α} {x : α} {sz n : Nat} {g : Nat → AV} (hs : sz = E.sz) (hn : n = 1) (h0 : g 0 = E.f x) : Same (.vec sz n g) (E.L [x]) := by
  subst hs
  exact Enc.At.same (E := E) ⟨hn, fun i hi => by
    match i, hi with
    | 0, _ => exact h0⟩
theorem at2 {α : Type} {E : Enc α} {x y : α} {sz n : Nat} {g : Nat → AV} (hs : sz = E.sz) (hn : n = 2) (h0 : g 0 = E.f x) (h1 : g 1 = E.f y) : Same (.vec sz n g) (E.L [x, y]) := by
  subst hs
  exact Enc.At.same (E := E) ⟨hn, fun i hi => by
    match i, hi with
    | 0, _ => exact h0
    | 1, _ => exact h1⟩
theorem lit1 {x : Int} {g : Nat → AV} (h : ∀ i, g i = EI.f ([x].getD i 0)) : AV.vec 1 1 g = EM.f [x] := congrArg (AV.vec 1 1) (funext h)
theorem goes : CallOK Try.prog 27 [] (fun r => r = .bool true) := by
  refine okG7 ?_
  have k1 := kth [5, -3, 9, 5] 3 (by decide)
  have k2 := shortfall [5, -3, 9, 5] 3 (by decide)
  rw [kth4] at k1
  rw [sho4] at k2
  have k3 := buffer 100 0 255
  rw [show buE 100 0 255 = (126, 0) by decide +kernel] at k3
  have k4 := losses [⟨oil, 0, 3⟩] [oil] [[10], [-4]] (by decide) (by decide) (by decide) (by decide)
  rw [los1] at k4
  have k5 := ints [30, -12] [30, -12] (by decide)
  rw [show decide ([30, -12] = [30, -12]) = true by decide] at k5
  conv => whnf
  repeat' ((first | with_reducible refine bT rfl ?_ | with_reducible refine bF rfl ?_ | (refine sN ?_; (conv => whnf); refine bT (by first | rfl | exact iR8 _ | exact uNN _ | exact iR (by omega) | exact iR (by rw [hw]; omega) | exact nBlt (by omega) | exact nBle (by omega) | (simp; omega)) ?_) | (refine sA ?_; (conv => whnf); refine bT (roomL (by omega) rfl) ?_) | (refine sS ?_; (conv => whnf); refine bT (by first | rfl | exact iR8 _ | exact uNN _ | exact iR (by omega) | exact iR (by rw [hw]; omega) | exact nBlt (by omega) | exact nBle (by omega) | (simp; omega)) ?_) | (refine sM ?_; (conv => whnf); refine bT (mkOK (by omega) (by omega) (by omega) rfl) ?_) | (refine sC ?_; (conv => whnf); refine bT (nBle (by first | omega | (simp; omega))) ?_) | refine bDt (by omega) ?_ | refine bDf (by omega) ?_ | refine bNt (by omega) ?_ | refine bNf (by omega) ?_ | refine call_is (ok_same (.cons (at4 rfl rfl rfl rfl rfl) (.cons (Same.refl _) .nil)) k1) ?_ | refine call_is (ok_same (.cons (at4 rfl rfl rfl rfl rfl) (.cons (Same.refl _) .nil)) k2) ?_ | refine call_is k3 ?_ | refine call_is (ok_same (.cons (at1 (E := EP) rfl rfl rfl) (.cons (at1 (E := ER) rfl rfl rfl) (.cons (at2 (E := EM) rfl rfl (lit1 fun i => by cases i <;> rfl) (lit1 fun i => by cases i <;> rfl)) .nil))) k4) ?_ | refine call_is (ok_same (.cons (Same.refl _) (.cons (at2 (E := EI) rfl rfl rfl rfl) .nil)) k5) ?_ | refine bD (fun _ => ?_) (fun _ => ?_) | refine bN (fun _ => ?_) (fun _ => ?_)) <;> conv => whnf)
  all_goals rfl
end Go.Proofs


set_option linter.unusedVariables false
set_option linter.unusedSimpArgs false
namespace Go.Proofs
open Ax Go
set_option maxRecDepth 10000
theorem typed_slice {P : Program} {d : Nat} {t e : TypeId} {es : List AV} (ht : P.underlying t = some (.slice e)) (h : Typed P (d + 1) t es) : ∃ n g, es = [.vec (P.cellsOf e) n g] ∧ n ≤ maxLen ∧ ∀ i, i < n → TypedAV P d e (g i) := by
  unfold Typed at h
  rw [ht] at h
  exact h
theorem typed_struct {P : Program} {d : Nat} {t : TypeId} {fs : Array Field} {es : List AV} (ht : P.underlying t = some (.struct fs)) (h : Typed P (d + 1) t es) : TypedL (Typed P d) fs.toList es := by
  unfold Typed at h
  rw [ht] at h
  exact h
theorem typed_int {P : Program} {d : Nat} {t : TypeId} {k : IntKind} {es : List AV} (ht : P.underlying t = some (.int k)) (h : Typed P (d + 1) t es) : ∃ n, es = [.int k n] ∧ (Lit.int k n).wf = true := by
  unfold Typed at h
  rw [ht] at h
  exact h
theorem typed_str {P : Program} {d : Nat} {t : TypeId} {es : List AV} (ht : P.underlying t = some .string) (h : Typed P (d + 1) t es) : ∃ s : ByteArray, es = [.str s] ∧ s.size ≤ maxLen := by
  unfold Typed at h
  rw [ht] at h
  exact h
theorem typed_array {P : Program} {d n : Nat} {t e : TypeId} {es : List AV} (ht : P.underlying t = some (.array n e)) (h : Typed P (d + 1) t es) : TypedN (Typed P d e) n es := by
  unfold Typed at h
  rw [ht] at h
  exact h
theorem arg_int {d : Nat} {a : AV} (h : TypedAV Try.prog (d + 1) 3 a) : ∃ n, a = .int .i64 n ∧ (Lit.int .i64 n).wf = true := by
  obtain ⟨es, h1, h2, h3⟩ := h
  obtain ⟨n, rfl, hn⟩ := typed_int Try.underlying3 h3
  exact ⟨n, h1, hn⟩
theorem arg_sr {d : Nat} {a : AV} (h : TypedAV Try.prog (d + 2) 27 a) : ∃ s : Sr, a = encSr s := by
  obtain ⟨es, h1, h2, h3⟩ := h
  obtain ⟨a0, r0, rfl, k0, a1, r1, rfl, k1, a2, r2, rfl, k2, a3, r3, rfl, k3, rfl⟩ := typed_struct Try.underlying27 h3
  obtain ⟨m, rfl, hm⟩ := typed_str Try.underlying9 k0
  obtain ⟨c, rfl, _⟩ := typed_int Try.underlying3 k1
  obtain ⟨n, rfl, _⟩ := typed_int Try.underlying3 k2
  obtain ⟨s, rfl, _⟩ := typed_int Try.underlying3 k3
  exact ⟨⟨m, c, n, s⟩, h1⟩
theorem arg_po {d : Nat} {a : AV} (h : TypedAV Try.prog (d + 3) 63 a) : ∃ s : Po, a = encPo s := by
  obtain ⟨es, h1, h2, h3⟩ := h
  obtain ⟨b0, q0, rfl, j0, b1, q1, rfl, j1, b2, q2, rfl, j2, rfl⟩ := typed_struct Try.underlying63 h3
  obtain ⟨a0, r0, rfl, k0, a1, r1, rfl, k1, a2, r2, rfl, k2, a3, r3, rfl, k3, rfl⟩ := typed_struct Try.underlying27 j0
  obtain ⟨m, rfl, hm⟩ := typed_str Try.underlying9 k0
  obtain ⟨c, rfl, _⟩ := typed_int Try.underlying3 k1
  obtain ⟨n, rfl, _⟩ := typed_int Try.underlying3 k2
  obtain ⟨s, rfl, _⟩ := typed_int Try.underlying3 k3
  obtain ⟨x, rfl, _⟩ := typed_int Try.underlying3 j1
  obtain ⟨y, rfl, _⟩ := typed_int Try.underlying3 j2
  exact ⟨⟨⟨m, c, n, s⟩, x, y⟩, h1⟩
theorem list_of {α : Type} {E : Enc α} {n : Nat} {g : Nat → AV} (h : ∀ i, i < n → ∃ x, g i = E.f x) : ∃ l : List α, l.length = n ∧ Same (.vec E.sz n g) (E.L l) := by
  have each : ∀ i, ∃ x : α, i < n → g i = E.f x := fun i => by
    by_cases hi : i < n
    · obtain ⟨x, hx⟩ := h i hi; exact ⟨x, fun _ => hx⟩
    · exact ⟨E.d, fun h => absurd h hi⟩
  obtain ⟨f, hf⟩ := Classical.axiomOfChoice each
  have hl : ((List.range n).map f).length = n := by simp
  refine ⟨(List.range n).map f, hl, Enc.At.same (E := E) ⟨hl.symm, fun i hi => ?_⟩⟩
  rw [hl] at hi
  rw [hf i hi, List.getD_eq_getElem?_getD, List.getElem?_map, List.getElem?_range hi]; rfl
theorem arg_ints {d : Nat} {a : AV} (h : TypedAV Try.prog (d + 2) 50 a) : ∃ l : List Int, Same a (EI.L l) ∧ l.length ≤ maxLen := by
  obtain ⟨es, h1, h2, h3⟩ := h
  obtain ⟨n, g, rfl, hn, hg⟩ := typed_slice Try.underlying50 h3
  have h1 : a = .vec 1 n g := h1
  subst h1
  obtain ⟨l, e, hs⟩ := list_of (E := EI) (n := n) (g := g) fun i hi => let ⟨x, hx, _⟩ := arg_int (hg i hi); ⟨x, hx⟩
  exact ⟨l, hs, by rw [e]; exact hn⟩
theorem arg_srs {d : Nat} {a : AV} (h : TypedAV Try.prog (d + 3) 67 a) : ∃ l : List Sr, Same a (ER.L l) ∧ l.length ≤ maxLen := by
  obtain ⟨es, h1, h2, h3⟩ := h
  obtain ⟨n, g, rfl, hn, hg⟩ := typed_slice Try.underlying67 h3
  have h1 : a = .vec 4 n g := h1
  subst h1
  obtain ⟨l, e, hs⟩ := list_of (E := ER) (n := n) (g := g) fun i hi => arg_sr (hg i hi)
  exact ⟨l, hs, by rw [e]; exact hn⟩
theorem arg_pos {d : Nat} {a : AV} (h : TypedAV Try.prog (d + 4) 47 a) : ∃ l : List Po, Same a (EP.L l) ∧ l.length ≤ maxLen := by
  obtain ⟨es, h1, h2, h3⟩ := h
  obtain ⟨n, g, rfl, hn, hg⟩ := typed_slice Try.underlying47 h3
  have h1 : a = .vec 6 n g := h1
  subst h1
  obtain ⟨l, e, hs⟩ := list_of (E := EP) (n := n) (g := g) fun i hi => arg_po (hg i hi)
  exact ⟨l, hs, by rw [e]; exact hn⟩
theorem vec_same {n : Nat} {g g' : Nat → AV} (h1 : ∀ i, i < n → (g i).cells = [g i]) (h2 : ∀ i, i < n → (g' i).cells = [g' i]) (h : ∀ i, i < n → Same (g i) (g' i)) : Same (.vec 1 n g) (.vec 1 n g') := by
  intro w F U bl v hr
  cases hr with
  | vec hcap vals hz hs ho hc =>
    refine .vec hcap vals hz (fun i hi => by rw [h2 i hi]; rfl) ho (fun i j c hi hj => ?_)
    rw [h2 i hi] at hj
    cases j with
    | zero =>
      simp at hj
      subst hj
      exact h i hi _ _ _ _ _ (hc i 0 (g i) hi (by rw [h1 i hi]; rfl))
    | succ j => simp at hj
theorem arg_moves {d : Nat} {a : AV} (h : TypedAV Try.prog (d + 3) 68 a) : ∃ m : List (List Int), Same a (EM.L m) ∧ m.length ≤ maxLen ∧ ∀ x ∈ m, x.length ≤ maxLen := by
  obtain ⟨es, h1, h2, h3⟩ := h
  obtain ⟨n, g, rfl, hn, hg⟩ := typed_slice Try.underlying68 h3
  have h1 : a = .vec 1 n g := h1
  subst h1
  have each : ∀ i, ∃ x : List Int, i < n → Same (g i) (EI.L x) ∧ x.length ≤ maxLen ∧ (g i).cells = [g i] := fun i => by
    by_cases hi : i < n
    · obtain ⟨x, hx⟩ := arg_ints (hg i hi)
      obtain ⟨es, k1, k2, k3⟩ := hg i hi
      obtain ⟨q, g2, rfl, _, _⟩ := typed_slice Try.underlying50 k3
      exact ⟨x, fun _ => ⟨hx.1, hx.2, by rw [show g i = .vec (Try.prog.cellsOf 3) q g2 from k1]; rfl⟩⟩
    · exact ⟨[], fun h => absurd h hi⟩
  obtain ⟨f, hf⟩ := Classical.axiomOfChoice each
  have hl : ((List.range n).map f).length = n := by simp
  have hget : ∀ i, i < n → ((List.range n).map f).getD i EM.d = f i := fun i hi => by
    rw [List.getD_eq_getElem?_getD, List.getElem?_map, List.getElem?_range hi]; rfl
  refine ⟨(List.range n).map f, ?_, by rw [hl]; exact hn, fun x hx => ?_⟩
  · rw [Enc.L, hl]
    refine vec_same (fun i hi => (hf i hi).2.2) (fun i hi => rfl) fun i hi => ?_
    rw [hget i hi]
    exact (hf i hi).1
  · obtain ⟨i, hi, rfl⟩ := List.mem_map.1 hx
    exact (hf i (List.mem_range.1 hi)).2.1
theorem arg_three {d : Nat} {a : AV} (h : TypedAV Try.prog (d + 2) 30 a) : ∃ x y z : Int, a = .agg [.int .i64 x, .int .i64 y, .int .i64 z] := by
  obtain ⟨es, h1, h2, h3⟩ := h
  obtain ⟨a0, r0, rfl, k0, a1, r1, rfl, k1, a2, r2, rfl, k2, rfl⟩ := typed_array Try.underlying30 h3
  obtain ⟨x, rfl, _⟩ := typed_int Try.underlying3 k0
  obtain ⟨y, rfl, _⟩ := typed_int Try.underlying3 k1
  obtain ⟨z, rfl, _⟩ := typed_int Try.underlying3 k2
  exact ⟨x, y, z, h1⟩
end Go.Proofs


set_option linter.unusedVariables false
set_option linter.unusedSimpArgs false
namespace Go.Proofs
open Ax Go
set_option maxRecDepth 10000
def keepL7 (f r : Nat) : Option (List Nat) := match f, r with
  | 10, 6 => some [0, 1, 5, 7, 8, 9]
  | 11, 6 => some [0, 1, 2, 7, 8, 9, 10, 11]
  | 11, 18 => some [7, 8, 13, 15, 16, 17]
  | 26, 3 => some [0, 1, 2, 7, 8]
  | _, _ => none
def keepXL7 (f r : Nat) : Option (List Nat) := match f, r with
  | 10, 6 => some [0, 1, 5, 7, 8]
  | 11, 6 => some [1, 2, 6, 7, 8, 9, 10]
  | 11, 18 => some [6, 8, 16]
  | 26, 3 => some [0, 1, 6]
  | _, _ => none
noncomputable def cxL7 : Ctx where
  P := Try.prog
  inl := fun _ => false
  keep := keepL7
  keepX := keepXL7
  xf := fun _ _ _ => false
  ow := fun _ => false
  gh := fun _ _ => []
  gf := fun _ => []
  ln := fun _ => false
  srt := srtT
theorem okL7 {f a Q} (h : stepCall (SX Try.prog calmT) cxL7 calmT f a Q) : CallOK Try.prog f a Q := okOf (cx := cxL7) rfl progOK h
set_option maxHeartbeats 4000000 in
theorem lawScales : ∀ xs, TypedArgs Try.prog 8 Try.f12.params.toList xs → CallOK Try.prog 12 xs (fun r => r = .bool true) := by
  intro xs h
  obtain ⟨a, r, rfl, ha, rfl⟩ := h
  obtain ⟨x, y, z, rfl⟩ := arg_three ha
  refine okL7 ?_
  have k1 := scaled x y z
  have k2 := refScaled x y z
  have k3 := buffer x y z
  have k4 := refBuffer x y z
  generalize scE x y z = p at *
  generalize buE x y z = q at *
  conv => whnf
  repeat' ((first | with_reducible refine bT rfl ?_ | with_reducible refine bF rfl ?_ | (refine sN ?_; (conv => whnf); refine bT (by first | rfl | exact iR8 _ | exact uNN _ | exact iR (by omega) | exact iR (by rw [hw]; omega) | exact nBlt (by omega) | exact nBle (by omega) | (simp; omega)) ?_) | (refine sA ?_; (conv => whnf); refine bT (roomL (by omega) rfl) ?_) | (refine sS ?_; (conv => whnf); refine bT (by first | rfl | exact iR8 _ | exact uNN _ | exact iR (by omega) | exact iR (by rw [hw]; omega) | exact nBlt (by omega) | exact nBle (by omega) | (simp; omega)) ?_) | (refine sM ?_; (conv => whnf); refine bT (mkOK (by omega) (by omega) (by omega) rfl) ?_) | (refine sC ?_; (conv => whnf); refine bT (nBle (by first | omega | (simp; omega))) ?_) | refine bDt (by omega) ?_ | refine bDf (by omega) ?_ | refine bNt (by omega) ?_ | refine bNf (by omega) ?_ | refine call_is k1 ?_ | refine call_is k2 ?_ | refine call_is k3 ?_ | refine call_is k4 ?_ | refine call_is goes ?_ | refine bDt rfl ?_ | refine bNf rfl ?_ | refine bD (fun _ => ?_) (fun _ => ?_) | refine bN (fun _ => ?_) (fun _ => ?_) | refine bB (fun hb => ?_) (fun hb => ?_)) <;> conv => whnf)
  all_goals rfl
theorem max63 {n : Nat} (h : n ≤ maxLen) : n ≤ 9223372036854775807 := h
theorem smallOK (l : List Po) (s : List Sr) (m : List (List Int)) (hm : m.length ≤ 9223372036854775807) : CallOK Try.prog 26 [EP.L l, ER.L s, EM.L m] (fun r => ∃ b, r = .bool b ∧ (b = true → l.length ≤ 140 ∧ s.length ≤ 140)) := by
  refine okL7 ?_
  conv => whnf
  repeat' ((first | with_reducible refine bT rfl ?_ | with_reducible refine bF rfl ?_ | (refine sN ?_; (conv => whnf); refine bT (by first | rfl | exact iR8 _ | exact uNN _ | exact iR (by omega) | exact iR (by rw [hw]; omega) | exact nBlt (by omega) | exact nBle (by omega) | (simp; omega)) ?_) | (refine sA ?_; (conv => whnf); refine bT (roomL (by omega) rfl) ?_) | (refine sS ?_; (conv => whnf); refine bT (by first | rfl | exact iR8 _ | exact uNN _ | exact iR (by omega) | exact iR (by rw [hw]; omega) | exact nBlt (by omega) | exact nBle (by omega) | (simp; omega)) ?_) | (refine sM ?_; (conv => whnf); refine bT (mkOK (by omega) (by omega) (by omega) rfl) ?_) | (refine sC ?_; (conv => whnf); refine bT (nBle (by first | omega | (simp; omega))) ?_) | refine bDt (by omega) ?_ | refine bDf (by omega) ?_ | refine bNt (by omega) ?_ | refine bNf (by omega) ?_ | refine bD (fun _ => ?_) (fun _ => ?_) | refine bN (fun _ => ?_) (fun _ => ?_)) <;> conv => whnf)
  refine loop_by (cx := cxL7) rfl progOK (ι := {p : Nat × Int // p.1 ≤ m.length}) (fun p => m.length - p.1.1) (fun p => ⟨[(0, EP.L l), (1, ER.L s), (2, EM.L m), (7, .int .i64 p.1.2), (8, .int .i64 p.1.1)], [], [], none⟩) ?_ ⟨(0, 0), Nat.zero_le _⟩
  rintro ⟨⟨i, n⟩, hi⟩ ih
  dsimp only at hi ⊢
  by_cases hlt : i < m.length
  · conv => whnf
    repeat' ((first | with_reducible refine bT rfl ?_ | with_reducible refine bF rfl ?_ | (refine sN ?_; (conv => whnf); refine bT (by first | rfl | exact iR8 _ | exact uNN _ | exact iR (by omega) | exact iR (by rw [hw]; omega) | exact nBlt (by omega) | exact nBle (by omega) | (simp; omega)) ?_) | (refine sA ?_; (conv => whnf); refine bT (roomL (by omega) rfl) ?_) | (refine sS ?_; (conv => whnf); refine bT (by first | rfl | exact iR8 _ | exact uNN _ | exact iR (by omega) | exact iR (by rw [hw]; omega) | exact nBlt (by omega) | exact nBle (by omega) | (simp; omega)) ?_) | (refine sM ?_; (conv => whnf); refine bT (mkOK (by omega) (by omega) (by omega) rfl) ?_) | (refine sC ?_; (conv => whnf); refine bT (nBle (by first | omega | (simp; omega))) ?_) | refine bDt (by omega) ?_ | refine bDf (by omega) ?_ | refine bNt (by omega) ?_ | refine bNf (by omega) ?_ | refine loop_to ih ⟨(i + 1, IntKind.i64.wrap (n + IntKind.i64.wrap (1 + ((m.getD i EM.d).length : Int)))), hlt⟩ (show m.length - (i+1) < m.length - i by omega) ?_ | refine bD (fun _ => ?_) (fun _ => ?_) | refine bN (fun _ => ?_) (fun _ => ?_)) <;> conv => whnf)
    · exact ⟨false, rfl, fun h => by cases h⟩
    · rw [next_i hlt (by omega)]; rfl
  · clear ih
    conv => whnf
    repeat' ((first | with_reducible refine bT rfl ?_ | with_reducible refine bF rfl ?_ | (refine sN ?_; (conv => whnf); refine bT (by first | rfl | exact iR8 _ | exact uNN _ | exact iR (by omega) | exact iR (by rw [hw]; omega) | exact nBlt (by omega) | exact nBle (by omega) | (simp; omega)) ?_) | (refine sA ?_; (conv => whnf); refine bT (roomL (by omega) rfl) ?_) | (refine sS ?_; (conv => whnf); refine bT (by first | rfl | exact iR8 _ | exact uNN _ | exact iR (by omega) | exact iR (by rw [hw]; omega) | exact nBlt (by omega) | exact nBle (by omega) | (simp; omega)) ?_) | (refine sM ?_; (conv => whnf); refine bT (mkOK (by omega) (by omega) (by omega) rfl) ?_) | (refine sC ?_; (conv => whnf); refine bT (nBle (by first | omega | (simp; omega))) ?_) | refine bDt (by omega) ?_ | refine bDf (by omega) ?_ | refine bNt (by omega) ?_ | refine bNf (by omega) ?_ | refine bD (fun _ => ?_) (fun _ => ?_) | refine bN (fun _ => ?_) (fun _ => ?_)) <;> conv => whnf)
    · exact ⟨decide ((s.length : Int) ≤ 140), rfl, fun h => ⟨by omega, by have := of_decide_eq_true h; omega⟩⟩
    · exact ⟨false, rfl, fun h => by cases h⟩
set_option maxHeartbeats 4000000 in
theorem lawLosses : ∀ xs, TypedArgs Try.prog 8 Try.f8.params.toList xs → CallOK Try.prog 8 xs (fun r => r = .bool true) := by
  intro xs h
  obtain ⟨a, r, rfl, ha, b, r', rfl, hb, c, r'', rfl, hc, rfl⟩ := h
  obtain ⟨l, hl1, hl2⟩ := arg_pos ha
  obtain ⟨s, hs1, hs2⟩ := arg_srs hb
  obtain ⟨m, hm1, hm2, hm3⟩ := arg_moves hc
  refine ok_same (.cons hl1 (.cons hs1 (.cons hm1 .nil))) ?_
  refine okL7 ?_
  conv => whnf
  repeat' ((first | with_reducible refine bT rfl ?_ | with_reducible refine bF rfl ?_ | (refine sN ?_; (conv => whnf); refine bT (by first | rfl | exact iR8 _ | exact uNN _ | exact iR (by omega) | exact iR (by rw [hw]; omega) | exact nBlt (by omega) | exact nBle (by omega) | (simp; omega)) ?_) | (refine sA ?_; (conv => whnf); refine bT (roomL (by omega) rfl) ?_) | (refine sS ?_; (conv => whnf); refine bT (by first | rfl | exact iR8 _ | exact uNN _ | exact iR (by omega) | exact iR (by rw [hw]; omega) | exact nBlt (by omega) | exact nBle (by omega) | (simp; omega)) ?_) | (refine sM ?_; (conv => whnf); refine bT (mkOK (by omega) (by omega) (by omega) rfl) ?_) | (refine sC ?_; (conv => whnf); refine bT (nBle (by first | omega | (simp; omega))) ?_) | refine bDt (by omega) ?_ | refine bDf (by omega) ?_ | refine bNt (by omega) ?_ | refine bNf (by omega) ?_ | refine bD (fun _ => ?_) (fun _ => ?_) | refine bN (fun _ => ?_) (fun _ => ?_)) <;> conv => whnf)
  refine call_by (smallOK l s m (max63 hm2)) ⟨_, false, rfl, fun h => by cases h⟩ ?_
  rintro _ ⟨b, rfl, hb⟩
  cases b with
  | false =>
    conv => whnf
    repeat' ((first | with_reducible refine bT rfl ?_ | with_reducible refine bF rfl ?_ | (refine sN ?_; (conv => whnf); refine bT (by first | rfl | exact iR8 _ | exact uNN _ | exact iR (by omega) | exact iR (by rw [hw]; omega) | exact nBlt (by omega) | exact nBle (by omega) | (simp; omega)) ?_) | (refine sA ?_; (conv => whnf); refine bT (roomL (by omega) rfl) ?_) | (refine sS ?_; (conv => whnf); refine bT (by first | rfl | exact iR8 _ | exact uNN _ | exact iR (by omega) | exact iR (by rw [hw]; omega) | exact nBlt (by omega) | exact nBle (by omega) | (simp; omega)) ?_) | (refine sM ?_; (conv => whnf); refine bT (mkOK (by omega) (by omega) (by omega) rfl) ?_) | (refine sC ?_; (conv => whnf); refine bT (nBle (by first | omega | (simp; omega))) ?_) | refine bDt (by omega) ?_ | refine bDf (by omega) ?_ | refine bNt (by omega) ?_ | refine bNf (by omega) ?_ | refine call_is goes ?_ | refine bD (fun _ => ?_) (fun _ => ?_) | refine bN (fun _ => ?_) (fun _ => ?_)) <;> conv => whnf)
    all_goals rfl
  | true =>
    obtain ⟨b1, b2⟩ := hb rfl
    have k1 := losses l s m (by omega) (by omega) (max63 hm2) (fun d hd => max63 (hm3 d hd))
    have k2 := refLosses l s m (by omega) (by omega) (max63 hm2) (fun d hd => max63 (hm3 d hd))
    have k3 := check s m (by omega) (max63 hm2) (fun d hd => max63 (hm3 d hd))
    have k4 := refCheck s m (by omega) (max63 hm2) (fun d hd => max63 (hm3 d hd))
    have h0 : (losE l s m).1.length ≤ 9223372036854775807 := by
      unfold losE
      split
      · split
        · split
          · split
            · simp only [List.length_map]; exact max63 hm2
            · simp
          · simp
        · simp
      · simp
    generalize losE l s m = p at *
    have k5 := ints p.1 p.1 h0
    rw [show decide (p.1 = p.1) = true from decide_eq_true rfl] at k5
    conv => whnf
    repeat' ((first | with_reducible refine bT rfl ?_ | with_reducible refine bF rfl ?_ | (refine sN ?_; (conv => whnf); refine bT (by first | rfl | exact iR8 _ | exact uNN _ | exact iR (by omega) | exact iR (by rw [hw]; omega) | exact nBlt (by omega) | exact nBle (by omega) | (simp; omega)) ?_) | (refine sA ?_; (conv => whnf); refine bT (roomL (by omega) rfl) ?_) | (refine sS ?_; (conv => whnf); refine bT (by first | rfl | exact iR8 _ | exact uNN _ | exact iR (by omega) | exact iR (by rw [hw]; omega) | exact nBlt (by omega) | exact nBle (by omega) | (simp; omega)) ?_) | (refine sM ?_; (conv => whnf); refine bT (mkOK (by omega) (by omega) (by omega) rfl) ?_) | (refine sC ?_; (conv => whnf); refine bT (nBle (by first | omega | (simp; omega))) ?_) | refine bDt (by omega) ?_ | refine bDf (by omega) ?_ | refine bNt (by omega) ?_ | refine bNf (by omega) ?_ | refine call_is k1 ?_ | refine call_is k2 ?_ | refine call_is k3 ?_ | refine call_is k4 ?_ | refine call_is k5 ?_ | refine call_is goes ?_ | refine bDt rfl ?_ | refine bNf rfl ?_ | refine bD (fun _ => ?_) (fun _ => ?_) | refine bN (fun _ => ?_) (fun _ => ?_) | refine bB (fun hb => ?_) (fun hb => ?_)) <;> conv => whnf)
    all_goals rfl
end Go.Proofs


/- The worst losses are ordered, and the shortfall lies between them. Numbers alone. -/
namespace Go.Proofs
theorem count_drop {p : Int → Bool} {S : List Int} (hs : S.Pairwise fun a b => b ≤ a) {j : Nat} (hj : j < S.length) (hp : ∀ x, x ≤ S.getD j 0 → p x = false) : S.countP p ≤ j := by
  rw [← List.take_append_drop j S, List.countP_append]
  have h1 : (S.take j).countP p ≤ j := Nat.le_trans List.countP_le_length (by rw [List.length_take]; exact Nat.min_le_left _ _)
  have h2 : (S.drop j).countP p = 0 := by
    rw [List.countP_eq_zero]
    intro x hx
    rw [hp x]
    · simp
    · obtain ⟨i, hi, rfl⟩ := List.mem_iff_getElem.1 hx
      rw [List.getElem_drop, List.getD_eq_getElem?_getD, List.getElem?_eq_getElem hj]
      rw [List.length_drop] at hi
      rcases Nat.eq_zero_or_pos i with rfl | h0
      · exact Int.le_refl _
      · exact List.pairwise_iff_getElem.1 hs j (j + i) hj (by omega) (by omega)
  omega
theorem count_take {p : Int → Bool} {S : List Int} (hs : S.Pairwise fun a b => b ≤ a) {j : Nat} (hj : j < S.length) (hp : ∀ x, S.getD j 0 ≤ x → p x = true) : j + 1 ≤ S.countP p := by
  rw [← List.take_append_drop (j + 1) S, List.countP_append]
  have h2 : (S.take (j + 1)).countP p = j + 1 := by
    rw [List.countP_eq_length.2, List.length_take_of_le hj]
    intro x hx
    refine hp x ?_
    obtain ⟨i, hi, rfl⟩ := List.mem_iff_getElem.1 hx
    rw [List.length_take] at hi
    rw [List.getElem_take, List.getD_eq_getElem?_getD, List.getElem?_eq_getElem hj]
    rcases Nat.lt_or_ge i j with h | h
    · exact List.pairwise_iff_getElem.1 hs i j (by omega) hj h
    · have : i = j := by omega
      subst this; exact Int.le_refl _
  omega
theorem desc_le {S : List Int} (hs : S.Pairwise fun a b => b ≤ a) {i j : Nat} (hij : i ≤ j) (hj : j < S.length) : S.getD j 0 ≤ S.getD i 0 := by
  rw [List.getD_eq_getElem?_getD, List.getD_eq_getElem?_getD, List.getElem?_eq_getElem hj, List.getElem?_eq_getElem (show i < S.length by omega)]
  rcases Nat.lt_or_ge i j with h | h
  · exact List.pairwise_iff_getElem.1 hs i j (by omega) hj h
  · have : i = j := by omega
    subst this; exact Int.le_refl _
theorem sum_parts (k : Int) (v : List Int) : v.sum = k * (v.map (· / k)).sum + (v.map (· % k)).sum := by
  induction v with
  | nil => simp
  | cons x r ih =>
    have := Int.mul_ediv_add_emod x k
    simp only [List.map_cons, List.sum_cons, Int.mul_add]
    omega
/-- The average, upward, of k numbers between two bounds lies between them. -/
theorem avg_b {k n m : Int} (hk : 0 < k) {v : List Int} (hl : (v.length : Int) = k) (h : ∀ x ∈ v, n ≤ x ∧ x ≤ m) : n ≤ (v.map (· / k)).sum + ((v.map (· % k)).sum + k - 1) / k ∧ (v.map (· / k)).sum + ((v.map (· % k)).sum + k - 1) / k ≤ m := by
  have h1 := sum_parts k v
  have h2 := sum_b (l := v) (f := fun x => x) (a := n) (b := m) h
  rw [List.map_id', hl] at h2
  generalize (v.map (· / k)).sum = q at *
  generalize (v.map (· % k)).sum = r at *
  have h3 := Int.mul_ediv_add_emod (r + k - 1) k
  have h4 := Int.emod_nonneg (r + k - 1) (show k ≠ 0 by omega)
  have h5 := Int.emod_lt_of_pos (r + k - 1) hk
  generalize (r + k - 1) / k = c at *
  generalize (r + k - 1) % k = t at *
  have h6 : k * (q + c) = k * q + k * c := Int.mul_add ..
  constructor
  · have : k * n < k * (q + c + 1) := by rw [Int.mul_add, Int.mul_one, h6, Int.mul_comm k n]; omega
    have := Int.lt_of_mul_lt_mul_left this (by omega)
    omega
  · have : k * (q + c) < k * (m + 1) := by rw [Int.mul_add k m, Int.mul_one, h6, Int.mul_comm k m]; omega
    have := Int.lt_of_mul_lt_mul_left this (by omega)
    omega
end Go.Proofs

set_option linter.unusedVariables false
set_option linter.unusedSimpArgs false
namespace Go.Proofs
open Ax Go
set_option maxRecDepth 10000
theorem kth_bad {l : List Int} {k : Int} (h : ¬ (worE l k).2 = 0) : kthE l k = (0, (worE l k).2) := if_neg h
theorem kth_ok {l : List Int} {k : Int} (h : (worE l k).2 = 0) : kthE l k = ((sortD l).getD (k.toNat - 1) 0, 0) := if_pos h
theorem worE_ok {l : List Int} {k : Int} (h1 : l.length ≤ 512) (h2 : 1 ≤ k) (h3 : k ≤ l.length) (h4 : ∀ x ∈ l, fitP x) : (worE l k).2 = 0 := by
  unfold worE
  rw [if_neg (by omega), if_neg (fun h => h.elim (by omega) (fun h => h.elim (by omega) (fun h => h h4)))]
set_option maxHeartbeats 8000000 in
theorem lawFalls : ∀ xs, TypedArgs Try.prog 8 Try.f10.params.toList xs → CallOK Try.prog 10 xs (fun r => r = .bool true) := by
  intro xs h
  obtain ⟨a, r, rfl, ha, b, r', rfl, hb, rfl⟩ := h
  obtain ⟨l, hl1, hl2⟩ := arg_ints ha
  obtain ⟨k, rfl, hk⟩ := arg_int hb
  refine ok_same (.cons hl1 (.cons (Same.refl _) .nil)) ?_
  refine okL7 ?_
  have k1 := kth l k (max63 hl2)
  by_cases h1 : (worE l k).2 = 0
  rotate_left
  · rw [kth_bad h1] at k1
    conv => whnf
    repeat' ((first | with_reducible refine bT rfl ?_ | with_reducible refine bF rfl ?_ | (refine sN ?_; (conv => whnf); refine bT (by first | rfl | exact iR8 _ | exact uNN _ | exact iR (by omega) | exact iR (by rw [hw]; omega) | exact nBlt (by omega) | exact nBle (by omega) | (simp; omega)) ?_) | (refine sA ?_; (conv => whnf); refine bT (roomL (by omega) rfl) ?_) | (refine sS ?_; (conv => whnf); refine bT (by first | rfl | exact iR8 _ | exact uNN _ | exact iR (by omega) | exact iR (by rw [hw]; omega) | exact nBlt (by omega) | exact nBle (by omega) | (simp; omega)) ?_) | (refine sM ?_; (conv => whnf); refine bT (mkOK (by omega) (by omega) (by omega) rfl) ?_) | (refine sC ?_; (conv => whnf); refine bT (nBle (by first | omega | (simp; omega))) ?_) | refine bDt (by omega) ?_ | refine bDf (by omega) ?_ | refine bNt (by omega) ?_ | refine bNf (by omega) ?_ | refine call_is k1 ?_ | refine call_is goes ?_ | refine bDf h1 ?_ | refine bNt h1 ?_ | refine bDt rfl ?_ | refine bNf rfl ?_ | refine bD (fun _ => ?_) (fun _ => ?_) | refine bN (fun _ => ?_) (fun _ => ?_)) <;> conv => whnf)
    all_goals rfl
  rw [kth_ok h1] at k1
  obtain ⟨g1, g2, g3, g4, g5, g6⟩ := worE_0 h1
  have hsl := (sortD_perm l).length_eq
  have hsd := sortD_sorted l
  have c1 := count_drop hsd (p := fun x => decide ((sortD l).getD (k.toNat - 1) 0 < x)) (j := k.toNat - 1) (by omega) (fun x hx => decide_eq_false (by omega))
  have c2 := count_take hsd (p := fun x => decide ((sortD l).getD (k.toNat - 1) 0 ≤ x)) (j := k.toNat - 1) (by omega) (fun x hx => decide_eq_true hx)
  rw [(sortD_perm l).countP_eq] at c1 c2
  have k2 := kth l 1 (max63 hl2)
  rw [kth_ok (worE_ok g1 (by omega) (by omega) g4)] at k2
  have k3 := shortfall l k (max63 hl2)
  rw [shoE, if_pos h1] at k3
  have hk4 : 1 < k → CallOK Try.prog 33 [EI.L l, .int .i64 (k - 1)] (fun r => r = tup2 ((sortD l).getD ((k - 1).toNat - 1) 0, 0)) := fun h => by
    have := kth l (k - 1) (max63 hl2)
    rwa [kth_ok (worE_ok g1 (by omega) (by omega) g4)] at this
  have d1 : (sortD l).getD (k.toNat - 1) 0 ≤ (sortD l).getD ((1 : Int).toNat - 1) 0 := desc_le hsd (by omega) (by omega)
  have d2 : (sortD l).getD (k.toNat - 1) 0 ≤ (sortD l).getD ((k - 1).toNat - 1) 0 := desc_le hsd (by omega) (by omega)
  have av := avg_b (k := k) (by omega) (v := (sortD l).take k.toNat) (by rw [g6]; omega) (n := (sortD l).getD (k.toNat - 1) 0) (m := (sortD l).getD ((1 : Int).toNat - 1) 0) (fun x hx => by
    obtain ⟨i, hi, rfl⟩ := mem_getD (d := 0) hx
    rw [g6] at hi
    rw [List.getD_eq_getElem?_getD (l := List.take _ _), List.getElem?_take_of_lt hi, ← List.getD_eq_getElem?_getD]
    exact ⟨desc_le hsd (by omega) (by omega), desc_le hsd (by omega) (by omega)⟩)
  generalize (((sortD l).take k.toNat).map (· / k)).sum + ((((sortD l).take k.toNat).map (· % k)).sum + k - 1) / k = A at *
  clear g5 g6 h1 hsd
  generalize (sortD l).getD (k.toNat - 1) 0 = n at *
  generalize (sortD l).getD ((1 : Int).toNat - 1) 0 = f at *
  generalize (sortD l).getD ((k - 1).toNat - 1) 0 = q at *
  conv => whnf
  repeat' ((first | with_reducible refine bT rfl ?_ | with_reducible refine bF rfl ?_ | (refine sN ?_; (conv => whnf); refine bT (by first | rfl | exact iR8 _ | exact uNN _ | exact iR (by omega) | exact iR (by rw [hw]; omega) | exact nBlt (by omega) | exact nBle (by omega) | (simp; omega)) ?_) | (refine sA ?_; (conv => whnf); refine bT (roomL (by omega) rfl) ?_) | (refine sS ?_; (conv => whnf); refine bT (by first | rfl | exact iR8 _ | exact uNN _ | exact iR (by omega) | exact iR (by rw [hw]; omega) | exact nBlt (by omega) | exact nBle (by omega) | (simp; omega)) ?_) | (refine sM ?_; (conv => whnf); refine bT (mkOK (by omega) (by omega) (by omega) rfl) ?_) | (refine sC ?_; (conv => whnf); refine bT (nBle (by first | omega | (simp; omega))) ?_) | refine bDt (by omega) ?_ | refine bDf (by omega) ?_ | refine bNt (by omega) ?_ | refine bNf (by omega) ?_ | refine call_is k1 ?_ | refine bDt rfl ?_ | refine bNf rfl ?_ | refine bD (fun _ => ?_) (fun _ => ?_) | refine bN (fun _ => ?_) (fun _ => ?_)) <;> conv => whnf)
  refine loop_by (cx := cxL7) rfl progOK (ι := {i : Nat // i ≤ l.length}) (fun i => l.length - i.1) (fun i => ⟨[(0, EI.L l), (1, .int .i64 k), (5, .int .i64 n), (7, .int .i64 ((l.take i.1).countP fun x => decide (n < x))), (8, .int .i64 ((l.take i.1).countP fun x => decide (n ≤ x))), (9, .int .i64 i.1)], [], [], none⟩) ?_ ⟨0, Nat.zero_le _⟩
  rintro ⟨i, hi⟩ ih
  dsimp only
  have e1 : (l.take i).countP (fun x => decide (n < x)) ≤ i := Nat.le_trans List.countP_le_length (by rw [List.length_take]; exact Nat.min_le_left _ _)
  have e2 : (l.take i).countP (fun x => decide (n ≤ x)) ≤ i := Nat.le_trans List.countP_le_length (by rw [List.length_take]; exact Nat.min_le_left _ _)
  by_cases hlt : i < l.length
  · have ft := Enc.take_succ (E := EI) hlt
    have cnt : ∀ p : Int → Bool, (l.take (i + 1)).countP p = (l.take i).countP p + (if p (l.getD i 0) = true then 1 else 0) := fun p => by rw [ft, List.countP_append, List.countP_singleton]; rfl
    conv => whnf
    repeat' ((first | with_reducible refine bT rfl ?_ | with_reducible refine bF rfl ?_ | (refine sN ?_; (conv => whnf); refine bT (by first | rfl | exact iR8 _ | exact uNN _ | exact iR (by omega) | exact iR (by rw [hw]; omega) | exact nBlt (by omega) | exact nBle (by omega) | (simp; omega)) ?_) | (refine sA ?_; (conv => whnf); refine bT (roomL (by omega) rfl) ?_) | (refine sS ?_; (conv => whnf); refine bT (by first | rfl | exact iR8 _ | exact uNN _ | exact iR (by omega) | exact iR (by rw [hw]; omega) | exact nBlt (by omega) | exact nBle (by omega) | (simp; omega)) ?_) | (refine sM ?_; (conv => whnf); refine bT (mkOK (by omega) (by omega) (by omega) rfl) ?_) | (refine sC ?_; (conv => whnf); refine bT (nBle (by first | omega | (simp; omega))) ?_) | refine bDt (by omega) ?_ | refine bDf (by omega) ?_ | refine bNt (by omega) ?_ | refine bNf (by omega) ?_ | refine loop_to ih ⟨i + 1, hlt⟩ (show l.length - (i+1) < l.length - i by omega) ?_ | refine bD (fun _ => ?_) (fun _ => ?_) | refine bN (fun _ => ?_) (fun _ => ?_)) <;> conv => whnf)
    · rename_i hx1
      have hx1 : n < l.getD i 0 := hx1
      have hx2 : n ≤ l.getD i 0 := Int.le_of_lt hx1
      have p1 := cnt fun x => decide (n < x)
      have p2 := cnt fun x => decide (n ≤ x)
      rw [if_pos (decide_eq_true hx1)] at p1
      rw [if_pos (decide_eq_true hx2)] at p2
      rw [next_i hlt (by omega), wrap64 (x := _ + 1) (by omega), wrap64 (x := _ + 1) (by omega)]
      dsimp only
      rw [p1, p2]; rfl
    · rename_i hx1 hx2
      have hx1 : ¬ n < l.getD i 0 := hx1
      have hx2 : n ≤ l.getD i 0 := hx2
      have p1 := cnt fun x => decide (n < x)
      have p2 := cnt fun x => decide (n ≤ x)
      rw [if_neg (by rw [decide_eq_true_eq]; exact hx1)] at p1
      rw [if_pos (decide_eq_true hx2)] at p2
      rw [next_i hlt (by omega), wrap64 (x := _ + 1) (by omega)]
      dsimp only
      rw [p1, p2]; rfl
    · rename_i hx1 hx2
      have hx1 : ¬ n < l.getD i 0 := hx1
      have hx2 : ¬ n ≤ l.getD i 0 := hx2
      have p1 := cnt fun x => decide (n < x)
      have p2 := cnt fun x => decide (n ≤ x)
      rw [if_neg (by rw [decide_eq_true_eq]; exact hx1)] at p1
      rw [if_neg (by rw [decide_eq_true_eq]; exact hx2)] at p2
      rw [next_i hlt (by omega)]
      dsimp only
      rw [p1, p2]; rfl
  · obtain rfl : i = l.length := by omega
    rw [List.take_length] at *
    clear ih
    by_cases hk1 : 1 < k
    · have k4 := hk4 hk1
      have hw : IntKind.i64.wrap (k - 1) = k - 1 := wrap64 (by omega)
      rw [← hw] at k4
      conv => whnf
      repeat' ((first | with_reducible refine bT rfl ?_ | with_reducible refine bF rfl ?_ | (refine sN ?_; (conv => whnf); refine bT (by first | rfl | exact iR8 _ | exact uNN _ | exact iR (by omega) | exact iR (by rw [hw]; omega) | exact nBlt (by omega) | exact nBle (by omega) | (simp; omega)) ?_) | (refine sA ?_; (conv => whnf); refine bT (roomL (by omega) rfl) ?_) | (refine sS ?_; (conv => whnf); refine bT (by first | rfl | exact iR8 _ | exact uNN _ | exact iR (by omega) | exact iR (by rw [hw]; omega) | exact nBlt (by omega) | exact nBle (by omega) | (simp; omega)) ?_) | (refine sM ?_; (conv => whnf); refine bT (mkOK (by omega) (by omega) (by omega) rfl) ?_) | (refine sC ?_; (conv => whnf); refine bT (nBle (by first | omega | (simp; omega))) ?_) | refine bDt (by omega) ?_ | refine bDf (by omega) ?_ | refine bNt (by omega) ?_ | refine bNf (by omega) ?_ | refine call_is k2 ?_ | refine call_is k3 ?_ | refine call_is k4 ?_ | refine call_is goes ?_ | refine bDt rfl ?_ | refine bNf rfl ?_ | refine bD (fun _ => ?_) (fun _ => ?_) | refine bN (fun _ => ?_) (fun _ => ?_)) <;> conv => whnf)
      all_goals rfl
    · conv => whnf
      repeat' ((first | with_reducible refine bT rfl ?_ | with_reducible refine bF rfl ?_ | (refine sN ?_; (conv => whnf); refine bT (by first | rfl | exact iR8 _ | exact uNN _ | exact iR (by omega) | exact iR (by rw [hw]; omega) | exact nBlt (by omega) | exact nBle (by omega) | (simp; omega)) ?_) | (refine sA ?_; (conv => whnf); refine bT (roomL (by omega) rfl) ?_) | (refine sS ?_; (conv => whnf); refine bT (by first | rfl | exact iR8 _ | exact uNN _ | exact iR (by omega) | exact iR (by rw [hw]; omega) | exact nBlt (by omega) | exact nBle (by omega) | (simp; omega)) ?_) | (refine sM ?_; (conv => whnf); refine bT (mkOK (by omega) (by omega) (by omega) rfl) ?_) | (refine sC ?_; (conv => whnf); refine bT (nBle (by first | omega | (simp; omega))) ?_) | refine bDt (by omega) ?_ | refine bDf (by omega) ?_ | refine bNt (by omega) ?_ | refine bNf (by omega) ?_ | refine call_is k2 ?_ | refine call_is k3 ?_ | refine call_is goes ?_ | refine bDt rfl ?_ | refine bNf rfl ?_ | refine bD (fun _ => ?_) (fun _ => ?_) | refine bN (fun _ => ?_) (fun _ => ?_)) <;> conv => whnf)
      all_goals rfl
end Go.Proofs

