import Derived.Test.YtflebdkgdnfjoaaLT
import Derived.Test.YtflebdkgdnfjoaaAxRow
set_option linter.unusedVariables false
set_option linter.unusedSimpArgs false
namespace Go.Proofs
open Ax Go
set_option maxRecDepth 10000
def keepG7 (f r : Nat) : Option (List Nat) := match f, r with
  | 30, 4 => some [0, 1, 5]
  | 26, 3 => some [0, 1, 2, 7, 8]
  | _, _ => none
def keepXG7 (f r : Nat) : Option (List Nat) := match f, r with
  | 30, 4 => some [4]
  | 26, 3 => some [0, 1, 6]
  | _, _ => none
noncomputable def cxG7 : Ctx where
  P := Try.prog
  inl := fun _ => false
  keep := keepG7
  keepX := keepXG7
  xf := fun _ _ _ => false
  ow := fun _ => false
  gh := fun _ _ => []
  gf := fun _ => []
  ln := fun _ => false
  srt := srtT
theorem okG7 {f a Q} (h : stepCall (SX Try.prog calmT) cxG7 calmT f a Q) : CallOK Try.prog f a Q := okOf (cx := cxG7) rfl progOK h
theorem ints (a b : List Int) (ha : a.length ≤ 9223372036854775807) : CallOK Try.prog 30 [EI.L a, EI.L b] (fun r => r = .bool (decide (a = b))) := by
  refine okG7 ?_
  by_cases hn : a.length = b.length
  · conv => whnf
    repeat' ((first | with_reducible refine bT rfl ?_ | with_reducible refine bF rfl ?_ | (refine sN ?_; (conv => whnf); refine bT (by first | rfl | exact iR8 _ | exact uNN _ | exact iR (by omega) | exact iR (by rw [hw]; omega) | exact nBlt (by omega) | exact nBle (by omega) | (simp; omega)) ?_) | (refine sA ?_; (conv => whnf); refine bT (roomL (by omega) rfl) ?_) | (refine sS ?_; (conv => whnf); refine bT (by first | rfl | exact iR8 _ | exact uNN _ | exact iR (by omega) | exact iR (by rw [hw]; omega) | exact nBlt (by omega) | exact nBle (by omega) | (simp; omega)) ?_) | (refine sM ?_; (conv => whnf); refine bT (mkOK (by omega) (by omega) (by omega) rfl) ?_) | (refine sC ?_; (conv => whnf); refine bT (nBle (by first | omega | (simp; omega))) ?_) | refine bDt (by omega) ?_ | refine bDf (by omega) ?_ | refine bNt (by omega) ?_ | refine bNf (by omega) ?_ | refine bD (fun _ => ?_) (fun _ => ?_) | refine bN (fun _ => ?_) (fun _ => ?_)) <;> conv => whnf)
    refine loop_by (cx := cxG7) rfl progOK (ι := {i : Nat // i ≤ a.length ∧ ∀ j, j < i → a.getD j 0 = b.getD j 0}) (fun i => a.length - i.1) (fun i => ⟨[(0, EI.L a), (1, EI.L b), (5, .int .i64 i.1)], [], [], none⟩) ?_ ⟨0, Nat.zero_le _, fun j hj => absurd hj (Nat.not_lt_zero _)⟩
    rintro ⟨i, hi, hf⟩ ih
    dsimp only
    by_cases hlt : i < a.length
    · by_cases hx : a.getD i 0 = b.getD i 0
      · have hf' : ∀ j, j < i + 1 → a.getD j 0 = b.getD j 0 := fun j hj => by
          rcases Nat.lt_or_ge j i with h | h
          · exact hf j h
          · rw [show j = i by omega]; exact hx
        conv => whnf
        repeat' ((first | with_reducible refine bT rfl ?_ | with_reducible refine bF rfl ?_ | (refine sN ?_; (conv => whnf); refine bT (by first | rfl | exact iR8 _ | exact uNN _ | exact iR (by omega) | exact iR (by rw [hw]; omega) | exact nBlt (by omega) | exact nBle (by omega) | (simp; omega)) ?_) | (refine sA ?_; (conv => whnf); refine bT (roomL (by omega) rfl) ?_) | (refine sS ?_; (conv => whnf); refine bT (by first | rfl | exact iR8 _ | exact uNN _ | exact iR (by omega) | exact iR (by rw [hw]; omega) | exact nBlt (by omega) | exact nBle (by omega) | (simp; omega)) ?_) | (refine sM ?_; (conv => whnf); refine bT (mkOK (by omega) (by omega) (by omega) rfl) ?_) | (refine sC ?_; (conv => whnf); refine bT (nBle (by first | omega | (simp; omega))) ?_) | refine bDt (by omega) ?_ | refine bDf (by omega) ?_ | refine bNt (by omega) ?_ | refine bNf (by omega) ?_ | refine bDt hx ?_ | refine bNf hx ?_ | refine loop_to ih ⟨i + 1, hlt, hf'⟩ (show a.length - (i+1) < a.length - i by omega) ?_ | refine bD (fun _ => ?_) (fun _ => ?_) | refine bN (fun _ => ?_) (fun _ => ?_)) <;> conv => whnf)
        rw [next_i hlt (by omega)]; rfl
      · rw [show decide (a = b) = false from decide_eq_false fun h => hx (h ▸ rfl)]
        conv => whnf
        repeat' ((first | with_reducible refine bT rfl ?_ | with_reducible refine bF rfl ?_ | (refine sN ?_; (conv => whnf); refine bT (by first | rfl | exact iR8 _ | exact uNN _ | exact iR (by omega) | exact iR (by rw [hw]; omega) | exact nBlt (by omega) | exact nBle (by omega) | (simp; omega)) ?_) | (refine sA ?_; (conv => whnf); refine bT (roomL (by omega) rfl) ?_) | (refine sS ?_; (conv => whnf); refine bT (by first | rfl | exact iR8 _ | exact uNN _ | exact iR (by omega) | exact iR (by rw [hw]; omega) | exact nBlt (by omega) | exact nBle (by omega) | (simp; omega)) ?_) | (refine sM ?_; (conv => whnf); refine bT (mkOK (by omega) (by omega) (by omega) rfl) ?_) | (refine sC ?_; (conv => whnf); refine bT (nBle (by first | omega | (simp; omega))) ?_) | refine bDt (by omega) ?_ | refine bDf (by omega) ?_ | refine bNt (by omega) ?_ | refine bNf (by omega) ?_ | refine bDf hx ?_ | refine bNt hx ?_ | refine bD (fun _ => ?_) (fun _ => ?_) | refine bN (fun _ => ?_) (fun _ => ?_)) <;> conv => whnf)
        all_goals rfl
    · obtain rfl : i = a.length := by omega
      have e : a = b := by
        apply List.ext_getElem hn
        intro j h1 h2
        have := hf j h1
        rw [List.getD_eq_getElem?_getD, List.getD_eq_getElem?_getD, List.getElem?_eq_getElem h1, List.getElem?_eq_getElem h2] at this
        exact this
      rw [show decide (a = b) = true from decide_eq_true e]
      conv => whnf
      repeat' ((first | with_reducible refine bT rfl ?_ | with_reducible refine bF rfl ?_ | (refine sN ?_; (conv => whnf); refine bT (by first | rfl | exact iR8 _ | exact uNN _ | exact iR (by omega) | exact iR (by rw [hw]; omega) | exact nBlt (by omega) | exact nBle (by omega) | (simp; omega)) ?_) | (refine sA ?_; (conv => whnf); refine bT (roomL (by omega) rfl) ?_) | (refine sS ?_; (conv => whnf); refine bT (by first | rfl | exact iR8 _ | exact uNN _ | exact iR (by omega) | exact iR (by rw [hw]; omega) | exact nBlt (by omega) | exact nBle (by omega) | (simp; omega)) ?_) | (refine sM ?_; (conv => whnf); refine bT (mkOK (by omega) (by omega) (by omega) rfl) ?_) | (refine sC ?_; (conv => whnf); refine bT (nBle (by first | omega | (simp; omega))) ?_) | refine bDt (by omega) ?_ | refine bDf (by omega) ?_ | refine bNt (by omega) ?_ | refine bNf (by omega) ?_ | refine bD (fun _ => ?_) (fun _ => ?_) | refine bN (fun _ => ?_) (fun _ => ?_)) <;> conv => whnf)
      all_goals rfl
  · rw [show decide (a = b) = false from decide_eq_false fun h => hn (h ▸ rfl)]
    conv => whnf
    repeat' ((first | with_reducible refine bT rfl ?_ | with_reducible refine bF rfl ?_ | (refine sN ?_; (conv => whnf); refine bT (by first | rfl | exact iR8 _ | exact uNN _ | exact iR (by omega) | exact iR (by rw [hw]; omega) | exact nBlt (by omega) | exact nBle (by omega) | (simp; omega)) ?_) | (refine sA ?_; (conv => whnf); refine bT (roomL (by omega) rfl) ?_) | (refine sS ?_; (conv => whnf); refine bT (by first | rfl | exact iR8 _ | exact uNN _ | exact iR (by omega) | exact iR (by rw [hw]; omega) | exact nBlt (by omega) | exact nBle (by omega) | (simp; omega)) ?_) | (refine sM ?_; (conv => whnf); refine bT (mkOK (by omega) (by omega) (by omega) rfl) ?_) | (refine sC ?_; (conv => whnf); refine bT (nBle (by first | omega | (simp; omega))) ?_) | refine bDt (by omega) ?_ | refine bDf (by omega) ?_ | refine bNt (by omega) ?_ | refine bNf (by omega) ?_ | refine bD (fun _ => ?_) (fun _ => ?_) | refine bN (fun _ => ?_) (fun _ => ?_)) <;> conv => whnf)
    all_goals rfl
theorem sorted4 : sortD [5, -3, 9, 5] = [9, 5, 5, -3] := (sortD_eq (by decide) (by decide)).symm
theorem worE4 : worE [5, -3, 9, 5] 3 = ([9, 5, 5], 0) := by
  unfold worE
  rw [if_neg (by decide), if_neg (by decide), sorted4]; rfl
theorem kth4 : kthE [5, -3, 9, 5] 3 = (5, 0) := by
  unfold kthE
  rw [worE4, sorted4]; rfl
theorem sho4 : shoE [5, -3, 9, 5] 3 = (7, 0) := by
  unfold shoE
  rw [worE4, sorted4]; rfl
def oil : Sr := ⟨"oil".toUTF8, 1, 9, 0⟩
theorem los1 : losE [⟨oil, 0, 3⟩] [oil] [[10], [-4]] = ([30, -12], 0) := by decide +kernel
theorem at4 {n : Nat} {g : Nat → AV} (hn : n = 4) (h0 : g 0 = EI.f 5) (h1 : g 1 = EI.f (-3)) (h2 : g 2 = EI.f 9) (h3 : g 3 = EI.f 5) : Same (.vec 1 n g) (EI.L [5, -3, 9, 5]) :=
  Enc.At.same (E := EI) ⟨hn, fun i hi => by
    match i, hi with
    | 0, _ => exact h0
    | 1, _ => exact h1
    | 2, _ => exact h2
    | 3, _ => exact h3⟩
theorem at1 {α : Type} {E : Enc α} {x : α} {sz n : Nat} {g : Nat → AV} (hs : sz = E.sz) (hn : n = 1) (h0 : g 0 = E.f x) : Same (.vec sz n g) (E.L [x]) := by
  subst hs
  exact Enc.At.same (E := E) ⟨hn, fun i hi => by
    match i, hi with
    | 0, _ => exact h0⟩
theorem at2 {α : Type} {E : Enc α} {x y : α} {sz n : Nat} {g : Nat → AV} (hs : sz = E.sz) (hn : n = 2) (h0 : g 0 = E.f x) (h1 : g 1 = E.f y) : Same (.vec sz n g) (E.L [x, y]) := by
  subst hs
  exact Enc.At.same (E := E) ⟨hn, fun i hi => by
    match i, hi with
    | 0, _ => exact h0
    | 1, _ => exact h1⟩
theorem lit1 {x : Int} {g : Nat → AV} (h : ∀ i, g i = EI.f ([x].getD i 0)) : AV.vec 1 1 g = EM.f [x] := congrArg (AV.vec 1 1) (funext h)
theorem goes : CallOK Try.prog 27 [] (fun r => r = .bool true) := by
  refine okG7 ?_
  have k1 := kth [5, -3, 9, 5] 3 (by decide)
  have k2 := shortfall [5, -3, 9, 5] 3 (by decide)
  rw [kth4] at k1
  rw [sho4] at k2
  have k3 := buffer 100 0 255
  rw [show buE 100 0 255 = (126, 0) by decide +kernel] at k3
  have k4 := losses [⟨oil, 0, 3⟩] [oil] [[10], [-4]] (by decide) (by decide) (by decide) (by decide)
  rw [los1] at k4
  have k5 := ints [30, -12] [30, -12] (by decide)
  rw [show decide ([30, -12] = [30, -12]) = true by decide] at k5
  conv => whnf
  repeat' ((first | with_reducible refine bT rfl ?_ | with_reducible refine bF rfl ?_ | (refine sN ?_; (conv => whnf); refine bT (by first | rfl | exact iR8 _ | exact uNN _ | exact iR (by omega) | exact iR (by rw [hw]; omega) | exact nBlt (by omega) | exact nBle (by omega) | (simp; omega)) ?_) | (refine sA ?_; (conv => whnf); refine bT (roomL (by omega) rfl) ?_) | (refine sS ?_; (conv => whnf); refine bT (by first | rfl | exact iR8 _ | exact uNN _ | exact iR (by omega) | exact iR (by rw [hw]; omega) | exact nBlt (by omega) | exact nBle (by omega) | (simp; omega)) ?_) | (refine sM ?_; (conv => whnf); refine bT (mkOK (by omega) (by omega) (by omega) rfl) ?_) | (refine sC ?_; (conv => whnf); refine bT (nBle (by first | omega | (simp; omega))) ?_) | refine bDt (by omega) ?_ | refine bDf (by omega) ?_ | refine bNt (by omega) ?_ | refine bNf (by omega) ?_ | refine call_is (ok_same (.cons (at4 rfl rfl rfl rfl rfl) (.cons (Same.refl _) .nil)) k1) ?_ | refine call_is (ok_same (.cons (at4 rfl rfl rfl rfl rfl) (.cons (Same.refl _) .nil)) k2) ?_ | refine call_is k3 ?_ | refine call_is (ok_same (.cons (at1 (E := EP) rfl rfl rfl) (.cons (at1 (E := ER) rfl rfl rfl) (.cons (at2 (E := EM) rfl rfl (lit1 fun i => by cases i <;> rfl) (lit1 fun i => by cases i <;> rfl)) .nil))) k4) ?_ | refine call_is (ok_same (.cons (Same.refl _) (.cons (at2 (E := EI) rfl rfl rfl rfl) .nil)) k5) ?_ | refine bD (fun _ => ?_) (fun _ => ?_) | refine bN (fun _ => ?_) (fun _ => ?_)) <;> conv => whnf)
  all_goals rfl
end Go.Proofs


set_option linter.unusedVariables false
set_option linter.unusedSimpArgs false
namespace Go.Proofs
open Ax Go
set_option maxRecDepth 10000
theorem typed_slice {P : Program} {d : Nat} {t e : TypeId} {es : List AV} (ht : P.underlying t = some (.slice e)) (h : Typed P (d + 1) t es) : ∃ n g, es = [.vec (P.cellsOf e) n g] ∧ n ≤ maxLen ∧ ∀ i, i < n → TypedAV P d e (g i) := by
  unfold Typed at h
  rw [ht] at h
  exact h
theorem typed_struct {P : Program} {d : Nat} {t : TypeId} {fs : Array Field} {es : List AV} (ht : P.underlying t = some (.struct fs)) (h : Typed P (d + 1) t es) : TypedL (Typed P d) fs.toList es := by
  unfold Typed at h
  rw [ht] at h
  exact h
theorem typed_int {P : Program} {d : Nat} {t : TypeId} {k : IntKind} {es : List AV} (ht : P.underlying t = some (.int k)) (h : Typed P (d + 1) t es) : ∃ n, es = [.int k n] ∧ (Lit.int k n).wf = true := by
  unfold Typed at h
  rw [ht] at h
  exact h
theorem typed_str {P : Program} {d : Nat} {t : TypeId} {es : List AV} (ht : P.underlying t = some .string) (h : Typed P (d + 1) t es) : ∃ s : ByteArray, es = [.str s] ∧ s.size ≤ maxLen := by
  unfold Typed at h
  rw [ht] at h
  exact h
theorem typed_array {P : Program} {d n : Nat} {t e : TypeId} {es : List AV} (ht : P.underlying t = some (.array n e)) (h : Typed P (d + 1) t es) : TypedN (Typed P d e) n es := by
  unfold Typed at h
  rw [ht] at h
  exact h
theorem arg_int {d : Nat} {a : AV} (h : TypedAV Try.prog (d + 1) 3 a) : ∃ n, a = .int .i64 n ∧ (Lit.int .i64 n).wf = true := by
  obtain ⟨es, h1, h2, h3⟩ := h
  obtain ⟨n, rfl, hn⟩ := typed_int Try.underlying3 h3
  exact ⟨n, h1, hn⟩
theorem arg_sr {d : Nat} {a : AV} (h : TypedAV Try.prog (d + 2) 27 a) : ∃ s : Sr, a = encSr s := by
  obtain ⟨es, h1, h2, h3⟩ := h
  obtain ⟨a0, r0, rfl, k0, a1, r1, rfl, k1, a2, r2, rfl, k2, a3, r3, rfl, k3, rfl⟩ := typed_struct Try.underlying27 h3
  obtain ⟨m, rfl, hm⟩ := typed_str Try.underlying9 k0
  obtain ⟨c, rfl, _⟩ := typed_int Try.underlying3 k1
  obtain ⟨n, rfl, _⟩ := typed_int Try.underlying3 k2
  obtain ⟨s, rfl, _⟩ := typed_int Try.underlying3 k3
  exact ⟨⟨m, c, n, s⟩, h1⟩
theorem arg_po {d : Nat} {a : AV} (h : TypedAV Try.prog (d + 3) 63 a) : ∃ s : Po, a = encPo s := by
  obtain ⟨es, h1, h2, h3⟩ := h
  obtain ⟨b0, q0, rfl, j0, b1, q1, rfl, j1, b2, q2, rfl, j2, rfl⟩ := typed_struct Try.underlying63 h3
  obtain ⟨a0, r0, rfl, k0, a1, r1, rfl, k1, a2, r2, rfl, k2, a3, r3, rfl, k3, rfl⟩ := typed_struct Try.underlying27 j0
  obtain ⟨m, rfl, hm⟩ := typed_str Try.underlying9 k0
  obtain ⟨c, rfl, _⟩ := typed_int Try.underlying3 k1
  obtain ⟨n, rfl, _⟩ := typed_int Try.underlying3 k2
  obtain ⟨s, rfl, _⟩ := typed_int Try.underlying3 k3
  obtain ⟨x, rfl, _⟩ := typed_int Try.underlying3 j1
  obtain ⟨y, rfl, _⟩ := typed_int Try.underlying3 j2
  exact ⟨⟨⟨m, c, n, s⟩, x, y⟩, h1⟩
theorem list_of {α : Type} {E : Enc α} {n : Nat} {g : Nat → AV} (h : ∀ i, i < n → ∃ x, g i = E.f x) : ∃ l : List α, l.length = n ∧ Same (.vec E.sz n g) (E.L l) := by
  have each : ∀ i, ∃ x : α, i < n → g i = E.f x := fun i => by
    by_cases hi : i < n
    · obtain ⟨x, hx⟩ := h i hi; exact ⟨x, fun _ => hx⟩
    · exact ⟨E.d, fun h => absurd h hi⟩
  obtain ⟨f, hf⟩ := Classical.axiomOfChoice each
  have hl : ((List.range n).map f).length = n := by simp
  refine ⟨(List.range n).map f, hl, Enc.At.same (E := E) ⟨hl.symm, fun i hi => ?_⟩⟩
  rw [hl] at hi
  rw [hf i hi, List.getD_eq_getElem?_getD, List.getElem?_map, List.getElem?_range hi]; rfl
theorem arg_ints {d : Nat} {a : AV} (h : TypedAV Try.prog (d + 2) 50 a) : ∃ l : List Int, Same a (EI.L l) ∧ l.length ≤ maxLen := by
  obtain ⟨es, h1, h2, h3⟩ := h
  obtain ⟨n, g, rfl, hn, hg⟩ := typed_slice Try.underlying50 h3
  have h1 : a = .vec 1 n g := h1
  subst h1
  obtain ⟨l, e, hs⟩ := list_of (E := EI) (n := n) (g := g) fun i hi => let ⟨x, hx, _⟩ := arg_int (hg i hi); ⟨x, hx⟩
  exact ⟨l, hs, by rw [e]; exact hn⟩
theorem arg_srs {d : Nat} {a : AV} (h : TypedAV Try.prog (d + 3) 67 a) : ∃ l : List Sr, Same a (ER.L l) ∧ l.length ≤ maxLen := by
  obtain ⟨es, h1, h2, h3⟩ := h
  obtain ⟨n, g, rfl, hn, hg⟩ := typed_slice Try.underlying67 h3
  have h1 : a = .vec 4 n g := h1
  subst h1
  obtain ⟨l, e, hs⟩ := list_of (E := ER) (n := n) (g := g) fun i hi => arg_sr (hg i hi)
  exact ⟨l, hs, by rw [e]; exact hn⟩
theorem arg_pos {d : Nat} {a : AV} (h : TypedAV Try.prog (d + 4) 47 a) : ∃ l : List Po, Same a (EP.L l) ∧ l.length ≤ maxLen := by
  obtain ⟨es, h1, h2, h3⟩ := h
  obtain ⟨n, g, rfl, hn, hg⟩ := typed_slice Try.underlying47 h3
  have h1 : a = .vec 6 n g := h1
  subst h1
  obtain ⟨l, e, hs⟩ := list_of (E := EP) (n := n) (g := g) fun i hi => arg_po (hg i hi)
  exact ⟨l, hs, by rw [e]; exact hn⟩
theorem vec_same {n : Nat} {g g' : Nat → AV} (h1 : ∀ i, i < n → (g i).cells = [g i]) (h2 : ∀ i, i < n → (g' i).cells = [g' i]) (h : ∀ i, i < n → Same (g i) (g' i)) : Same (.vec 1 n g) (.vec 1 n g') := by
  intro w F U bl v hr
  cases hr with
  | vec hcap vals hz hs ho hc =>
    refine .vec hcap vals hz (fun i hi => by rw [h2 i hi]; rfl) ho (fun i j c hi hj => ?_)
    rw [h2 i hi] at hj
    cases j with
    | zero =>
      simp at hj
      subst hj
      exact h i hi _ _ _ _ _ (hc i 0 (g i) hi (by rw [h1 i hi]; rfl))
    | succ j => simp at hj
theorem arg_moves {d : Nat} {a : AV} (h : TypedAV Try.prog (d + 3) 68 a) : ∃ m : List (List Int), Same a (EM.L m) ∧ m.length ≤ maxLen ∧ ∀ x ∈ m, x.length ≤ maxLen := by
  obtain ⟨es, h1, h2, h3⟩ := h
  obtain ⟨n, g, rfl, hn, hg⟩ := typed_slice Try.underlying68 h3
  have h1 : a = .vec 1 n g := h1
  subst h1
  have each : ∀ i, ∃ x : List Int, i < n → Same (g i) (EI.L x) ∧ x.length ≤ maxLen ∧ (g i).cells = [g i] := fun i => by
    by_cases hi : i < n
    · obtain ⟨x, hx⟩ := arg_ints (hg i hi)
      obtain ⟨es, k1, k2, k3⟩ := hg i hi
      obtain ⟨q, g2, rfl, _, _⟩ := typed_slice Try.underlying50 k3
      exact ⟨x, fun _ => ⟨hx.1, hx.2, by rw [show g i = .vec (Try.prog.cellsOf 3) q g2 from k1]; rfl⟩⟩
    · exact ⟨[], fun h => absurd h hi⟩
  obtain ⟨f, hf⟩ := Classical.axiomOfChoice each
  have hl : ((List.range n).map f).length = n := by simp
  have hget : ∀ i, i < n → ((List.range n).map f).getD i EM.d = f i := fun i hi => by
    rw [List.getD_eq_getElem?_getD, List.getElem?_map, List.getElem?_range hi]; rfl
  refine ⟨(List.range n).map f, ?_, by rw [hl]; exact hn, fun x hx => ?_⟩
  · rw [Enc.L, hl]
    refine vec_same (fun i hi => (hf i hi).2.2) (fun i hi => rfl) fun i hi => ?_
    rw [hget i hi]
    exact (hf i hi).1
  · obtain ⟨i, hi, rfl⟩ := List.mem_map.1 hx
    exact (hf i (List.mem_range.1 hi)).2.1
theorem arg_three {d : Nat} {a : AV} (h : TypedAV Try.prog (d + 2) 30 a) : ∃ x y z : Int, a = .agg [.int .i64 x, .int .i64 y, .int .i64 z] := by
  obtain ⟨es, h1, h2, h3⟩ := h
  obtain ⟨a0, r0, rfl, k0, a1, r1, rfl, k1, a2, r2, rfl, k2, rfl⟩ := typed_array Try.underlying30 h3
  obtain ⟨x, rfl, _⟩ := typed_int Try.underlying3 k0
  obtain ⟨y, rfl, _⟩ := typed_int Try.underlying3 k1
  obtain ⟨z, rfl, _⟩ := typed_int Try.underlying3 k2
  exact ⟨x, y, z, h1⟩
end Go.Proofs


set_option linter.unusedVariables false
set_option linter.unusedSimpArgs false
namespace Go.Proofs
open Ax Go
set_option maxRecDepth 10000
def keepL7 (f r : Nat) : Option (List Nat) := match f, r with
  | 10, 6 => some [0, 1, 5, 7, 8, 9]
  | 11, 6 => some [0, 1, 2, 7, 8, 9, 10, 11]
  | 11, 18 => some [7, 8, 13, 15, 16, 17]
  | 26, 3 => some [0, 1, 2, 7, 8]
  | _, _ => none
def keepXL7 (f r : Nat) : Option (List Nat) := match f, r with
  | 10, 6 => some [0, 1, 5, 7, 8]
  | 11, 6 => some [1, 2, 6, 7, 8, 9, 10]
  | 11, 18 => some [6, 8, 16]
  | 26, 3 => some [0, 1, 6]
  | _, _ => none
noncomputable def cxL7 : Ctx where
  P := Try.prog
  inl := fun _ => false
  keep := keepL7
  keepX := keepXL7
  xf := fun _ _ _ => false
  ow := fun _ => false
  gh := fun _ _ => []
  gf := fun _ => []
  ln := fun _ => false
  srt := srtT
theorem okL7 {f a Q} (h : stepCall (SX Try.prog calmT) cxL7 calmT f a Q) : CallOK Try.prog f a Q := okOf (cx := cxL7) rfl progOK h
set_option maxHeartbeats 4000000 in
theorem lawScales : ∀ xs, TypedArgs Try.prog 8 Try.f12.params.toList xs → CallOK Try.prog 12 xs (fun r => r = .bool true) := by
  intro xs h
  obtain ⟨a, r, rfl, ha, rfl⟩ := h
  obtain ⟨x, y, z, rfl⟩ := arg_three ha
  refine okL7 ?_
  have k1 := scaled x y z
  have k2 := refScaled x y z
  have k3 := buffer x y z
  have k4 := refBuffer x y z
  generalize scE x y z = p at *
  generalize buE x y z = q at *
  conv => whnf
  repeat' ((first | with_reducible refine bT rfl ?_ | with_reducible refine bF rfl ?_ | (refine sN ?_; (conv => whnf); refine bT (by first | rfl | exact iR8 _ | exact uNN _ | exact iR (by omega) | exact iR (by rw [hw]; omega) | exact nBlt (by omega) | exact nBle (by omega) | (simp; omega)) ?_) | (refine sA ?_; (conv => whnf); refine bT (roomL (by omega) rfl) ?_) | (refine sS ?_; (conv => whnf); refine bT (by first | rfl | exact iR8 _ | exact uNN _ | exact iR (by omega) | exact iR (by rw [hw]; omega) | exact nBlt (by omega) | exact nBle (by omega) | (simp; omega)) ?_) | (refine sM ?_; (conv => whnf); refine bT (mkOK (by omega) (by omega) (by omega) rfl) ?_) | (refine sC ?_; (conv => whnf); refine bT (nBle (by first | omega | (simp; omega))) ?_) | refine bDt (by omega) ?_ | refine bDf (by omega) ?_ | refine bNt (by omega) ?_ | refine bNf (by omega) ?_ | refine call_is k1 ?_ | refine call_is k2 ?_ | refine call_is k3 ?_ | refine call_is k4 ?_ | refine call_is goes ?_ | refine bDt rfl ?_ | refine bNf rfl ?_ | refine bD (fun _ => ?_) (fun _ => ?_) | refine bN (fun _ => ?_) (fun _ => ?_) | refine bB (fun hb => ?_) (fun hb => ?_)) <;> conv => whnf)
  all_goals rfl
theorem max63 {n : Nat} (h : n ≤ maxLen) : n ≤ 9223372036854775807 := h
theorem smallOK (l : List Po) (s : List Sr) (m : List (List Int)) (hm : m.length ≤ 9223372036854775807) : CallOK Try.prog 26 [EP.L l, ER.L s, EM.L m] (fun r => ∃ b, r = .bool b ∧ (b = true → l.length ≤ 140 ∧ s.length ≤ 140)) := by
  refine okL7 ?_
  conv => whnf
  repeat' ((first | with_reducible refine bT rfl ?_ | with_reducible refine bF rfl ?_ | (refine sN ?_; (conv => whnf); refine bT (by first | rfl | exact iR8 _ | exact uNN _ | exact iR (by omega) | exact iR (by rw [hw]; omega) | exact nBlt (by omega) | exact nBle (by omega) | (simp; omega)) ?_) | (refine sA ?_; (conv => whnf); refine bT (roomL (by omega) rfl) ?_) | (refine sS ?_; (conv => whnf); refine bT (by first | rfl | exact iR8 _ | exact uNN _ | exact iR (by omega) | exact iR (by rw [hw]; omega) | exact nBlt (by omega) | exact nBle (by omega) | (simp; omega)) ?_) | (refine sM ?_; (conv => whnf); refine bT (mkOK (by omega) (by omega) (by omega) rfl) ?_) | (refine sC ?_; (conv => whnf); refine bT (nBle (by first | omega | (simp; omega))) ?_) | refine bDt (by omega) ?_ | refine bDf (by omega) ?_ | refine bNt (by omega) ?_ | refine bNf (by omega) ?_ | refine bD (fun _ => ?_) (fun _ => ?_) | refine bN (fun _ => ?_) (fun _ => ?_)) <;> conv => whnf)
  refine loop_by (cx := cxL7) rfl progOK (ι := {p : Nat × Int // p.1 ≤ m.length}) (fun p => m.length - p.1.1) (fun p => ⟨[(0, EP.L l), (1, ER.L s), (2, EM.L m), (7, .int .i64 p.1.2), (8, .int .i64 p.1.1)], [], [], none⟩) ?_ ⟨(0, 0), Nat.zero_le _⟩
  rintro ⟨⟨i, n⟩, hi⟩ ih
  dsimp only at hi ⊢
  by_cases hlt : i < m.length
  · conv => whnf
    repeat' ((first | with_reducible refine bT rfl ?_ | with_reducible refine bF rfl ?_ | (refine sN ?_; (conv => whnf); refine bT (by first | rfl | exact iR8 _ | exact uNN _ | exact iR (by omega) | exact iR (by rw [hw]; omega) | exact nBlt (by omega) | exact nBle (by omega) | (simp; omega)) ?_) | (refine sA ?_; (conv => whnf); refine bT (roomL (by omega) rfl) ?_) | (refine sS ?_; (conv => whnf); refine bT (by first | rfl | exact iR8 _ | exact uNN _ | exact iR (by omega) | exact iR (by rw [hw]; omega) | exact nBlt (by omega) | exact nBle (by omega) | (simp; omega)) ?_) | (refine sM ?_; (conv => whnf); refine bT (mkOK (by omega) (by omega) (by omega) rfl) ?_) | (refine sC ?_; (conv => whnf); refine bT (nBle (by first | omega | (simp; omega))) ?_) | refine bDt (by omega) ?_ | refine bDf (by omega) ?_ | refine bNt (by omega) ?_ | refine bNf (by omega) ?_ | refine loop_to ih ⟨(i + 1, IntKind.i64.wrap (n + IntKind.i64.wrap (1 + ((m.getD i EM.d).length : Int)))), hlt⟩ (show m.length - (i+1) < m.length - i by omega) ?_ | refine bD (fun _ => ?_) (fun _ => ?_) | refine bN (fun _ => ?_) (fun _ => ?_)) <;> conv => whnf)
    · exact ⟨false, rfl, fun h => by cases h⟩
    · rw [next_i hlt (by omega)]; rfl
  · clear ih
    conv => whnf
    repeat' ((first | with_reducible refine bT rfl ?_ | with_reducible refine bF rfl ?_ | (refine sN ?_; (conv => whnf); refine bT (by first | rfl | exact iR8 _ | exact uNN _ | exact iR (by omega) | exact iR (by rw [hw]; omega) | exact nBlt (by omega) | exact nBle (by omega) | (simp; omega)) ?_) | (refine sA ?_; (conv => whnf); refine bT (roomL (by omega) rfl) ?_) | (refine sS ?_; (conv => whnf); refine bT (by first | rfl | exact iR8 _ | exact uNN _ | exact iR (by omega) | exact iR (by rw [hw]; omega) | exact nBlt (by omega) | exact nBle (by omega) | (simp; omega)) ?_) | (refine sM ?_; (conv => whnf); refine bT (mkOK (by omega) (by omega) (by omega) rfl) ?_) | (refine sC ?_; (conv => whnf); refine bT (nBle (by first | omega | (simp; omega))) ?_) | refine bDt (by omega) ?_ | refine bDf (by omega) ?_ | refine bNt (by omega) ?_ | refine bNf (by omega) ?_ | refine bD (fun _ => ?_) (fun _ => ?_) | refine bN (fun _ => ?_) (fun _ => ?_)) <;> conv => whnf)
    · exact ⟨decide ((s.length : Int) ≤ 140), rfl, fun h => ⟨by omega, by have := of_decide_eq_true h; omega⟩⟩
    · exact ⟨false, rfl, fun h => by cases h⟩
set_option maxHeartbeats 4000000 in
theorem lawLosses : ∀ xs, TypedArgs Try.prog 8 Try.f8.params.toList xs → CallOK Try.prog 8 xs (fun r => r = .bool true) := by
  intro xs h
  obtain ⟨a, r, rfl, ha, b, r', rfl, hb, c, r'', rfl, hc, rfl⟩ := h
  obtain ⟨l, hl1, hl2⟩ := arg_pos ha
  obtain ⟨s, hs1, hs2⟩ := arg_srs hb
  obtain ⟨m, hm1, hm2, hm3⟩ := arg_moves hc
  refine ok_same (.cons hl1 (.cons hs1 (.cons hm1 .nil))) ?_
  refine okL7 ?_
  conv => whnf
  repeat' ((first | with_reducible refine bT rfl ?_ | with_reducible refine bF rfl ?_ | (refine sN ?_; (conv => whnf); refine bT (by first | rfl | exact iR8 _ | exact uNN _ | exact iR (by omega) | exact iR (by rw [hw]; omega) | exact nBlt (by omega) | exact nBle (by omega) | (simp; omega)) ?_) | (refine sA ?_; (conv => whnf); refine bT (roomL (by omega) rfl) ?_) | (refine sS ?_; (conv => whnf); refine bT (by first | rfl | exact iR8 _ | exact uNN _ | exact iR (by omega) | exact iR (by rw [hw]; omega) | exact nBlt (by omega) | exact nBle (by omega) | (simp; omega)) ?_) | (refine sM ?_; (conv => whnf); refine bT (mkOK (by omega) (by omega) (by omega) rfl) ?_) | (refine sC ?_; (conv => whnf); refine bT (nBle (by first | omega | (simp; omega))) ?_) | refine bDt (by omega) ?_ | refine bDf (by omega) ?_ | refine bNt (by omega) ?_ | refine bNf (by omega) ?_ | refine bD (fun _ => ?_) (fun _ => ?_) | refine bN (fun _ => ?_) (fun _ => ?_)) <;> conv => whnf)
  refine call_by (smallOK l s m (max63 hm2)) ⟨_, false, rfl, fun h => by cases h⟩ ?_
  rintro _ ⟨b, rfl, hb⟩
  cases b with
  | false =>
    conv => whnf
    repeat' ((first | with_reducible refine bT rfl ?_ | with_reducible refine bF rfl ?_ | (refine sN ?_; (conv => whnf); refine bT (by first | rfl | exact iR8 _ | exact uNN _ | exact iR (by omega) | exact iR (by rw [hw]; omega) | exact nBlt (by omega) | exact nBle (by omega) | (simp; omega)) ?_) | (refine sA ?_; (conv => whnf); refine bT (roomL (by omega) rfl) ?_) | (refine sS ?_; (conv => whnf); refine bT (by first | rfl | exact iR8 _ | exact uNN _ | exact iR (by omega) | exact iR (by rw [hw]; omega) | exact nBlt (by omega) | exact nBle (by omega) | (simp; omega)) ?_) | (refine sM ?_; (conv => whnf); refine bT (mkOK (by omega) (by omega) (by omega) rfl) ?_) | (refine sC ?_; (conv => whnf); refine bT (nBle (by first | omega | (simp; omega))) ?_) | refine bDt (by omega) ?_ | refine bDf (by omega) ?_ | refine bNt (by omega) ?_ | refine bNf (by omega) ?_ | refine call_is goes ?_ | refine bD (fun _ => ?_) (fun _ => ?_) | refine bN (fun _ => ?_) (fun _ => ?_)) <;> conv => whnf)
    all_goals rfl
  | true =>
    obtain ⟨b1, b2⟩ := hb rfl
    have k1 := losses l s m (by omega) (by omega) (max63 hm2) (fun d hd => max63 (hm3 d hd))
    have k2 := refLosses l s m (by omega) (by omega) (max63 hm2) (fun d hd => max63 (hm3 d hd))
    have k3 := check s m (by omega) (max63 hm2) (fun d hd => max63 (hm3 d hd))
    have k4 := refCheck s m (by omega) (max63 hm2) (fun d hd => max63 (hm3 d hd))
    have h0 : (losE l s m).1.length ≤ 9223372036854775807 := by
      unfold losE
      split
      · split
        · split
          · split
            · simp only [List.length_map]; exact max63 hm2
            · simp
          · simp
        · simp
      · simp
    generalize losE l s m = p at *
    have k5 := ints p.1 p.1 h0
    rw [show decide (p.1 = p.1) = true from decide_eq_true rfl] at k5
    conv => whnf
    repeat' ((first | with_reducible refine bT rfl ?_ | with_reducible refine bF rfl ?_ | (refine sN ?_; (conv => whnf); refine bT (by first | rfl | exact iR8 _ | exact uNN _ | exact iR (by omega) | exact iR (by rw [hw]; omega) | exact nBlt (by omega) | exact nBle (by omega) | (simp; omega)) ?_) | (refine sA ?_; (conv => whnf); refine bT (roomL (by omega) rfl) ?_) | (refine sS ?_; (conv => whnf); refine bT (by first | rfl | exact iR8 _ | exact uNN _ | exact iR (by omega) | exact iR (by rw [hw]; omega) | exact nBlt (by omega) | exact nBle (by omega) | (simp; omega)) ?_) | (refine sM ?_; (conv => whnf); refine bT (mkOK (by omega) (by omega) (by omega) rfl) ?_) | (refine sC ?_; (conv => whnf); refine bT (nBle (by first | omega | (simp; omega))) ?_) | refine bDt (by omega) ?_ | refine bDf (by omega) ?_ | refine bNt (by omega) ?_ | refine bNf (by omega) ?_ | refine call_is k1 ?_ | refine call_is k2 ?_ | refine call_is k3 ?_ | refine call_is k4 ?_ | refine call_is k5 ?_ | refine call_is goes ?_ | refine bDt rfl ?_ | refine bNf rfl ?_ | refine bD (fun _ => ?_) (fun _ => ?_) | refine bN (fun _ => ?_) (fun _ => ?_) | refine bB (fun hb => ?_) (fun hb => ?_)) <;> conv => whnf)
    all_goals rfl
end Go.Proofs


set_option linter.unusedVariables false
set_option linter.unusedSimpArgs false
namespace Go.Proofs
open Ax Go
set_option maxRecDepth 10000
def turnP (x : Po) : Po := ⟨x.s, x.h, x.l⟩
def dblP (x : Po) : Po := ⟨x.s, 2 * x.l, 2 * x.h⟩
theorem firstE_congr {f g : Nat → Int} : ∀ {n i : Nat}, (∀ j, i ≤ j → j < i + n → f j = g j) → firstE f n i = firstE g n i
  | 0, _, _ => rfl
  | n + 1, i, h => by
    rw [firstE, firstE, h i (Nat.le_refl _) (by omega), firstE_congr (n := n) (i := i + 1) fun j h1 h2 => h j (by omega) (by omega)]
theorem posE_map {f : Po → Po} {l : List Po} (hs : ∀ x, (f x).s = x.s) (hq : ∀ x ∈ l, ((0 ≤ (f x).l ∧ (f x).l ≤ 1048576) ∧ (0 ≤ (f x).h ∧ (f x).h ≤ 1048576) ∧ ¬ ((f x).l = 0 ∧ (f x).h = 0)) ↔ ((0 ≤ x.l ∧ x.l ≤ 1048576) ∧ (0 ≤ x.h ∧ x.h ≤ 1048576) ∧ ¬ (x.l = 0 ∧ x.h = 0))) : posE (l.map f) = posE l := by
  unfold posE
  rw [List.length_map, firstE_congr (g := posAt l) fun j _ hj => ?_]
  have hj : j < l.length := by omega
  have e1 : (l.map f).getD j EP.d = f (l.getD j EP.d) := getD_map f hj
  have e2 : 0 < j → (l.map f).getD (j - 1) EP.d = f (l.getD (j - 1) EP.d) := fun h => getD_map f (by omega)
  unfold posAt
  rw [e1, hs]
  have q := hq _ (Enc.get_mem (E := EP) hj)
  by_cases h0 : 0 < j
  · rw [e2 h0, hs]
    simp only [q]
  · simp only [h0, false_and, if_false, q]
theorem sum_map_mul (c : Int) (l : List Int) : (l.map (c * ·)).sum = c * l.sum := by
  induction l with
  | nil => simp
  | cons x r ih => simp only [List.map_cons, List.sum_cons, ih, Int.mul_add]
theorem los_scale {f : Po → Po} {c : Int} {l : List Po} {s : List Sr} {m : List (List Int)} (hs : ∀ x, (f x).s = x.s) (hp : posE (l.map f) = posE l) (hf : ∀ x, -((f x).l - (f x).h) = c * -(x.l - x.h)) (d : List Int) : (lossL s (l.map f) d).sum = c * (lossL s l d).sum := by
  rw [← sum_map_mul]
  unfold lossL
  rw [List.map_map, List.map_map]
  congr 1
  apply List.map_congr_left
  intro x _
  simp only [Function.comp, plc, hs, hf, Int.mul_assoc]
theorem plc_map {f : Po → Po} {l : List Po} {s : List Sr} (hs : ∀ x, (f x).s = x.s) : (∀ x ∈ l.map f, (plc s x).2 = true) ↔ ∀ x ∈ l, (plc s x).2 = true := by
  constructor
  · intro h x hx
    have := h _ (List.mem_map_of_mem hx)
    rwa [plc, hs] at this
  · intro h x hx
    obtain ⟨y, hy, rfl⟩ := List.mem_map.1 hx
    rw [plc, hs]; exact h y hy
theorem los_turn (l : List Po) (s : List Sr) (m : List (List Int)) : losE (l.map turnP) s m = ((losE l s m).1.map (-1 * ·), (losE l s m).2) := by
  have hp : posE (l.map turnP) = posE l := posE_map (fun _ => rfl) fun x _ => by simp only [turnP]; omega
  have hq : ∀ d, (lossL s (l.map turnP) d).sum = -1 * (lossL s l d).sum := los_scale (m := m) (fun _ => rfl) hp (fun x => by simp only [turnP]; omega)
  have hfit : (∀ d ∈ m, fitP (-1 * (lossL s l d).sum)) ↔ ∀ d ∈ m, fitP (lossL s l d).sum :=
    ⟨fun h d hd => by have := fitP_b (h d hd); exact ⟨by omega, by omega⟩, fun h d hd => by have := fitP_b (h d hd); exact ⟨by omega, by omega⟩⟩
  unfold losE
  rw [hp]
  simp only [plc_map (f := turnP) (l := l) (s := s) (fun _ => rfl), hq, hfit]
  by_cases h0 : chkE s m = 0
  · by_cases h1 : posE l = 0
    · by_cases h2 : ∀ x ∈ l, (plc s x).2 = true
      · by_cases h3 : ∀ d ∈ m, fitP (lossL s l d).sum
        · simp only [h0, h1, if_true]
          repeat rw [if_pos h2]
          repeat rw [if_pos h3]
          simp [List.map_map, Function.comp]
        · simp only [h0, h1, if_true]
          repeat rw [if_pos h2]
          repeat rw [if_neg h3]
          rfl
      · simp only [h0, h1, if_true]
        repeat rw [if_neg h2]
        rfl
    · simp only [h0, h1, if_true, if_false]; rfl
  · simp only [h0, if_false]; rfl
theorem los_dbl {l : List Po} (s : List Sr) (m : List (List Int)) (hb : ∀ x ∈ l, (0 ≤ x.l ∧ x.l ≤ 524288) ∧ (0 ≤ x.h ∧ x.h ≤ 524288)) : losE (l.map dblP) s m = ((losE l s m).1.map (2 * ·), (losE l s m).2) ∨ losE (l.map dblP) s m = ([], 3) ∧ ((losE l s m).2 = 0 ∨ (losE l s m).2 = 3) := by
  have hp : posE (l.map dblP) = posE l := posE_map (fun _ => rfl) fun x hx => by have := hb x hx; simp only [dblP]; omega
  have hq : ∀ d, (lossL s (l.map dblP) d).sum = 2 * (lossL s l d).sum := los_scale (m := m) (fun _ => rfl) hp (fun x => by simp only [dblP]; omega)
  unfold losE
  rw [hp]
  simp only [plc_map (f := dblP) (l := l) (s := s) (fun _ => rfl), hq]
  split
  · split
    · split
      · by_cases h1 : ∀ d ∈ m, fitP (2 * (lossL s l d).sum)
        · have h2 : ∀ d ∈ m, fitP (lossL s l d).sum := fun d hd => by have := fitP_b (h1 d hd); exact ⟨by omega, by omega⟩
          rw [if_pos h1, if_pos h2]
          left; simp [List.map_map, Function.comp]
        · rw [if_neg h1]
          right
          refine ⟨rfl, ?_⟩
          split
          · left; rfl
          · right; rfl
      · left; rfl
    · left; rfl
  · left; rfl
theorem los_nil {l : List Po} {s : List Sr} {m : List (List Int)} (h : (losE l s m).2 ≠ 0) : (losE l s m).1 = [] := by
  unfold losE at h ⊢
  split
  · split
    · split
      · split
        · rename_i h1 h2 h3 h4; rw [if_pos h1, if_pos h2, if_pos h3, if_pos h4] at h; exact absurd rfl h
        · rfl
      · rfl
    · rfl
  · rfl
theorem los_fit {l : List Po} {s : List Sr} {m : List (List Int)} : (losE l s m).1.length ≤ 512 ∧ ∀ x ∈ (losE l s m).1, fitP x := by
  unfold losE
  split
  · rename_i h0
    have hc := (chk_0 h0).2.1
    split
    · split
      · split
        · rename_i h4
          refine ⟨by simp only [List.length_map]; exact hc, fun x hx => ?_⟩
          obtain ⟨d, hd, rfl⟩ := List.mem_map.1 hx
          exact h4 d hd
        · exact ⟨by simp, by simp⟩
      · exact ⟨by simp, by simp⟩
    · exact ⟨by simp, by simp⟩
  · exact ⟨by simp, by simp⟩
set_option maxHeartbeats 8000000 in
theorem lawTurned : ∀ xs, TypedArgs Try.prog 8 Try.f11.params.toList xs → CallOK Try.prog 11 xs (fun r => r = .bool true) := by
  intro xs h
  obtain ⟨a, r, rfl, ha, b, r', rfl, hb, c, r'', rfl, hc, rfl⟩ := h
  obtain ⟨l, hl1, hl2⟩ := arg_pos ha
  obtain ⟨s, hs1, hs2⟩ := arg_srs hb
  obtain ⟨m, hm1, hm2, hm3⟩ := arg_moves hc
  refine ok_same (.cons hl1 (.cons hs1 (.cons hm1 .nil))) ?_
  refine okL7 ?_
  conv => whnf
  repeat' ((first | with_reducible refine bT rfl ?_ | with_reducible refine bF rfl ?_ | (refine sN ?_; (conv => whnf); refine bT (by first | rfl | exact iR8 _ | exact uNN _ | exact iR (by omega) | exact iR (by rw [hw]; omega) | exact nBlt (by omega) | exact nBle (by omega) | (simp; omega)) ?_) | (refine sA ?_; (conv => whnf); refine bT (roomL (by omega) rfl) ?_) | (refine sS ?_; (conv => whnf); refine bT (by first | rfl | exact iR8 _ | exact uNN _ | exact iR (by omega) | exact iR (by rw [hw]; omega) | exact nBlt (by omega) | exact nBle (by omega) | (simp; omega)) ?_) | (refine sM ?_; (conv => whnf); refine bT (mkOK (by omega) (by omega) (by omega) rfl) ?_) | (refine sC ?_; (conv => whnf); refine bT (nBle (by first | omega | (simp; omega))) ?_) | refine bDt (by omega) ?_ | refine bDf (by omega) ?_ | refine bNt (by omega) ?_ | refine bNf (by omega) ?_ | refine bD (fun _ => ?_) (fun _ => ?_) | refine bN (fun _ => ?_) (fun _ => ?_)) <;> conv => whnf)
  refine call_by (smallOK l s m (max63 hm2)) ⟨_, false, rfl, fun h => by cases h⟩ ?_
  rintro _ ⟨b, rfl, hb⟩
  cases b with
  | false =>
    conv => whnf
    repeat' ((first | with_reducible refine bT rfl ?_ | with_reducible refine bF rfl ?_ | (refine sN ?_; (conv => whnf); refine bT (by first | rfl | exact iR8 _ | exact uNN _ | exact iR (by omega) | exact iR (by rw [hw]; omega) | exact nBlt (by omega) | exact nBle (by omega) | (simp; omega)) ?_) | (refine sA ?_; (conv => whnf); refine bT (roomL (by omega) rfl) ?_) | (refine sS ?_; (conv => whnf); refine bT (by first | rfl | exact iR8 _ | exact uNN _ | exact iR (by omega) | exact iR (by rw [hw]; omega) | exact nBlt (by omega) | exact nBle (by omega) | (simp; omega)) ?_) | (refine sM ?_; (conv => whnf); refine bT (mkOK (by omega) (by omega) (by omega) rfl) ?_) | (refine sC ?_; (conv => whnf); refine bT (nBle (by first | omega | (simp; omega))) ?_) | refine bDt (by omega) ?_ | refine bDf (by omega) ?_ | refine bNt (by omega) ?_ | refine bNf (by omega) ?_ | refine call_is goes ?_ | refine bD (fun _ => ?_) (fun _ => ?_) | refine bN (fun _ => ?_) (fun _ => ?_)) <;> conv => whnf)
    all_goals rfl
  | true =>
    obtain ⟨b1, b2⟩ := hb rfl
    have k1 := losses l s m (by omega) (by omega) (max63 hm2) (fun d hd => max63 (hm3 d hd))
    conv => whnf
    repeat' ((first | with_reducible refine bT rfl ?_ | with_reducible refine bF rfl ?_ | (refine sN ?_; (conv => whnf); refine bT (by first | rfl | exact iR8 _ | exact uNN _ | exact iR (by omega) | exact iR (by rw [hw]; omega) | exact nBlt (by omega) | exact nBle (by omega) | (simp; omega)) ?_) | (refine sA ?_; (conv => whnf); refine bT (roomL (by omega) rfl) ?_) | (refine sS ?_; (conv => whnf); refine bT (by first | rfl | exact iR8 _ | exact uNN _ | exact iR (by omega) | exact iR (by rw [hw]; omega) | exact nBlt (by omega) | exact nBle (by omega) | (simp; omega)) ?_) | (refine sM ?_; (conv => whnf); refine bT (mkOK (by omega) (by omega) (by omega) rfl) ?_) | (refine sC ?_; (conv => whnf); refine bT (nBle (by first | omega | (simp; omega))) ?_) | refine bDt (by omega) ?_ | refine bDf (by omega) ?_ | refine bNt (by omega) ?_ | refine bNf (by omega) ?_ | refine call_is k1 ?_ | refine bD (fun _ => ?_) (fun _ => ?_) | refine bN (fun _ => ?_) (fun _ => ?_)) <;> conv => whnf)
    refine loop_start (st' := (⟨[(0, EP.L l), (1, ER.L s), (2, EM.L m), (7, EI.L (losE l s m).1), (8, .int .i64 (losE l s m).2), (9, .own (EP.L ((l.take 0).map turnP))), (10, .own (EP.L ((l.take 0).map dblP))), (11, .int .i64 (0 : Nat))], [], [], none⟩ : St)) ?_ ?_
    · refine st_eq ?_ ?_
      all_goals repeat' (first | exact rfl | refine env_cons ?_ ?_ | refine heap_cons ?_ ?_)
      all_goals exact congrArg AV.own (Enc.nil_av (E := EP) rfl rfl rfl)
    refine loop_by (cx := cxL7) rfl progOK (ι := {i : Nat // i ≤ l.length ∧ ∀ x ∈ l.take i, (0 ≤ x.l ∧ x.l ≤ 524288) ∧ (0 ≤ x.h ∧ x.h ≤ 524288)}) (fun i => l.length - i.1) (fun i => ⟨[(0, EP.L l), (1, ER.L s), (2, EM.L m), (7, EI.L (losE l s m).1), (8, .int .i64 (losE l s m).2), (9, .own (EP.L ((l.take i.1).map turnP))), (10, .own (EP.L ((l.take i.1).map dblP))), (11, .int .i64 i.1)], [], [], none⟩) ?_ ⟨0, Nat.zero_le _, by simp⟩
    rintro ⟨i, hi, hf⟩ ih
    dsimp only
    have t1 : ((l.take i).map turnP).length = i := by rw [List.length_map, List.length_take_of_le hi]
    have t2 : ((l.take i).map dblP).length = i := by rw [List.length_map, List.length_take_of_le hi]
    by_cases hlt : i < l.length
    · by_cases hx : (0 ≤ (l.getD i EP.d).l ∧ (l.getD i EP.d).l ≤ 524288) ∧ (0 ≤ (l.getD i EP.d).h ∧ (l.getD i EP.d).h ≤ 524288)
      · have hx' := hx
        rw [← Int.toNat_natCast i] at hx'
        conv => whnf
        repeat' ((first | with_reducible refine bT rfl ?_ | with_reducible refine bF rfl ?_ | (refine sN ?_; (conv => whnf); refine bT (by first | rfl | exact iR8 _ | exact uNN _ | exact iR (by omega) | exact iR (by rw [hw]; omega) | exact nBlt (by omega) | exact nBle (by omega) | (simp; omega)) ?_) | (refine sA ?_; (conv => whnf); refine bT (roomL (by omega) rfl) ?_) | (refine sS ?_; (conv => whnf); refine bT (by first | rfl | exact iR8 _ | exact uNN _ | exact iR (by omega) | exact iR (by rw [hw]; omega) | exact nBlt (by omega) | exact nBle (by omega) | (simp; omega)) ?_) | (refine sM ?_; (conv => whnf); refine bT (mkOK (by omega) (by omega) (by omega) rfl) ?_) | (refine sC ?_; (conv => whnf); refine bT (nBle (by first | omega | (simp; omega))) ?_) | refine bDt (by omega) ?_ | refine bDf (by omega) ?_ | refine bNt (by omega) ?_ | refine bNf (by omega) ?_ | refine call_is goes ?_ | refine loop_to ih ⟨i + 1, hlt, take_snoc hlt hf hx⟩ (show l.length - (i+1) < l.length - i by omega) ?_ | refine bD (fun _ => ?_) (fun _ => ?_) | refine bN (fun _ => ?_) (fun _ => ?_)) <;> conv => whnf)
        have w1 : IntKind.i64.wrap (2 * (l.getD i EP.d).l) = 2 * (l.getD i EP.d).l := wrap64 (by omega)
        have w2 : IntKind.i64.wrap (2 * (l.getD i EP.d).h) = 2 * (l.getD i EP.d).h := wrap64 (by omega)
        refine st_eq ?_ ?_
        all_goals repeat' (first | exact rfl | refine env_cons ?_ ?_ | refine heap_cons ?_ ?_)
        · exact congrArg AV.own (by rw [map_take _ (d := EP.d) hlt]; exact Enc.snoc_av rfl rfl rfl rfl rfl)
        · refine congrArg AV.own ?_
          rw [map_take _ (d := EP.d) hlt]
          refine Enc.snoc_av rfl rfl rfl rfl ?_
          show AV.agg [_, _, _, _, .int .i64 (IntKind.i64.wrap (2 * (l.getD i EP.d).l)), .int .i64 (IntKind.i64.wrap (2 * (l.getD i EP.d).h))] = _
          rw [w1, w2]; rfl
        · exact congrArg _ (next_i hlt (by omega))
      · have hx' := hx
        rw [← Int.toNat_natCast i] at hx'
        conv => whnf
        repeat' ((first | with_reducible refine bT rfl ?_ | with_reducible refine bF rfl ?_ | (refine sN ?_; (conv => whnf); refine bT (by first | rfl | exact iR8 _ | exact uNN _ | exact iR (by omega) | exact iR (by rw [hw]; omega) | exact nBlt (by omega) | exact nBle (by omega) | (simp; omega)) ?_) | (refine sA ?_; (conv => whnf); refine bT (roomL (by omega) rfl) ?_) | (refine sS ?_; (conv => whnf); refine bT (by first | rfl | exact iR8 _ | exact uNN _ | exact iR (by omega) | exact iR (by rw [hw]; omega) | exact nBlt (by omega) | exact nBle (by omega) | (simp; omega)) ?_) | (refine sM ?_; (conv => whnf); refine bT (mkOK (by omega) (by omega) (by omega) rfl) ?_) | (refine sC ?_; (conv => whnf); refine bT (nBle (by first | omega | (simp; omega))) ?_) | refine bDt (by omega) ?_ | refine bDf (by omega) ?_ | refine bNt (by omega) ?_ | refine bNf (by omega) ?_ | refine call_is goes ?_ | refine bD (fun _ => ?_) (fun _ => ?_) | refine bN (fun _ => ?_) (fun _ => ?_)) <;> conv => whnf)
        all_goals rfl
    · obtain rfl : i = l.length := by omega
      rw [List.take_length] at hf t1 t2
      rw [List.take_length]
      clear ih
      have k2 := losses (l.map turnP) s m (by rw [t1]; omega) (by omega) (max63 hm2) (fun d hd => max63 (hm3 d hd))
      have k3 := losses (l.map dblP) s m (by rw [t2]; omega) (by omega) (max63 hm2) (fun d hd => max63 (hm3 d hd))
      rw [los_turn] at k2
      have hnil : (losE l s m).2 ≠ 0 → (losE l s m).1 = [] := los_nil
      have hfit := los_fit (l := l) (s := s) (m := m)
      have hdbl := los_dbl s m hf
      clear k1 hf
      generalize losE l s m = P at *
      generalize losE (l.map dblP) s m = Q at *
      obtain ⟨n, e⟩ := P
      obtain ⟨o, g⟩ := Q
      dsimp only at *
      have hml : (n.map (-1 * ·)).length = n.length := List.length_map ..
      have hml' : (Prod.fst (n.map (-1 * ·), (0 : Int))).length = n.length := List.length_map ..
      by_cases he : e = 0
      · subst he
        conv => whnf
        repeat' ((first | with_reducible refine bT rfl ?_ | with_reducible refine bF rfl ?_ | (refine sN ?_; (conv => whnf); refine bT (by first | rfl | exact iR8 _ | exact uNN _ | exact iR (by omega) | exact iR (by rw [hw]; omega) | exact nBlt (by omega) | exact nBle (by omega) | (simp; omega)) ?_) | (refine sA ?_; (conv => whnf); refine bT (roomL (by omega) rfl) ?_) | (refine sS ?_; (conv => whnf); refine bT (by first | rfl | exact iR8 _ | exact uNN _ | exact iR (by omega) | exact iR (by rw [hw]; omega) | exact nBlt (by omega) | exact nBle (by omega) | (simp; omega)) ?_) | (refine sM ?_; (conv => whnf); refine bT (mkOK (by omega) (by omega) (by omega) rfl) ?_) | (refine sC ?_; (conv => whnf); refine bT (nBle (by first | omega | (simp; omega))) ?_) | refine bDt (by omega) ?_ | refine bDf (by omega) ?_ | refine bNt (by omega) ?_ | refine bNf (by omega) ?_ | refine call_is k2 ?_ | refine call_is k3 ?_ | refine bDt rfl ?_ | refine bNf rfl ?_ | refine bD (fun _ => ?_) (fun _ => ?_) | refine bN (fun _ => ?_) (fun _ => ?_)) <;> conv => whnf)
        refine loop_by (cx := cxL7) rfl progOK (ι := {i : Nat // i ≤ n.length}) (fun i => n.length - i.1) (fun i => ⟨[(7, EI.L n), (8, .int .i64 0), (13, EI.L (n.map (-1 * ·))), (15, EI.L o), (16, .int .i64 g), (17, .int .i64 i.1)], [], [], none⟩) ?_ ⟨0, Nat.zero_le _⟩
        rintro ⟨i, hi⟩ ih
        dsimp only
        by_cases hlt : i < n.length
        · have hx := fitP_b (fit_get hfit.2 hlt)
          have q1 : n.getD i 0 = IntKind.i64.wrap (0 - (n.map (-1 * ·)).getD i 0) := by
            rw [getD_map _ (d := 0) hlt, wrap64 (by omega)]; omega
          rcases hdbl with hd | ⟨hd, _⟩
          · injection hd with h1 h2
            subst h1; subst h2
            have hol : (n.map (2 * ·)).length = n.length := List.length_map ..
            have q2 : (n.map (2 * ·)).getD i 0 = IntKind.i64.wrap (2 * n.getD i 0) := by
              rw [getD_map _ (d := 0) hlt, wrap64 (by omega)]
            conv => whnf
            repeat' ((first | with_reducible refine bT rfl ?_ | with_reducible refine bF rfl ?_ | (refine sN ?_; (conv => whnf); refine bT (by first | rfl | exact iR8 _ | exact uNN _ | exact iR (by omega) | exact iR (by rw [hw]; omega) | exact nBlt (by omega) | exact nBle (by omega) | (simp; omega)) ?_) | (refine sA ?_; (conv => whnf); refine bT (roomL (by omega) rfl) ?_) | (refine sS ?_; (conv => whnf); refine bT (by first | rfl | exact iR8 _ | exact uNN _ | exact iR (by omega) | exact iR (by rw [hw]; omega) | exact nBlt (by omega) | exact nBle (by omega) | (simp; omega)) ?_) | (refine sM ?_; (conv => whnf); refine bT (mkOK (by omega) (by omega) (by omega) rfl) ?_) | (refine sC ?_; (conv => whnf); refine bT (nBle (by first | omega | (simp; omega))) ?_) | refine bDt (by omega) ?_ | refine bDf (by omega) ?_ | refine bNt (by omega) ?_ | refine bNf (by omega) ?_ | refine bNf q1 ?_ | refine bNf q2 ?_ | refine loop_to ih ⟨i + 1, hlt⟩ (show n.length - (i+1) < n.length - i by omega) ?_ | refine bD (fun _ => ?_) (fun _ => ?_) | refine bN (fun _ => ?_) (fun _ => ?_) | refine bB (fun hb => ?_) (fun hb => ?_)) <;> conv => whnf)
            all_goals (rw [next_i hlt (by have := hfit.1; omega)]; rfl)
          · injection hd with h1 h2
            subst h1; subst h2
            conv => whnf
            repeat' ((first | with_reducible refine bT rfl ?_ | with_reducible refine bF rfl ?_ | (refine sN ?_; (conv => whnf); refine bT (by first | rfl | exact iR8 _ | exact uNN _ | exact iR (by omega) | exact iR (by rw [hw]; omega) | exact nBlt (by omega) | exact nBle (by omega) | (simp; omega)) ?_) | (refine sA ?_; (conv => whnf); refine bT (roomL (by omega) rfl) ?_) | (refine sS ?_; (conv => whnf); refine bT (by first | rfl | exact iR8 _ | exact uNN _ | exact iR (by omega) | exact iR (by rw [hw]; omega) | exact nBlt (by omega) | exact nBle (by omega) | (simp; omega)) ?_) | (refine sM ?_; (conv => whnf); refine bT (mkOK (by omega) (by omega) (by omega) rfl) ?_) | (refine sC ?_; (conv => whnf); refine bT (nBle (by first | omega | (simp; omega))) ?_) | refine bDt (by omega) ?_ | refine bDf (by omega) ?_ | refine bNt (by omega) ?_ | refine bNf (by omega) ?_ | refine bNf q1 ?_ | refine loop_to ih ⟨i + 1, hlt⟩ (show n.length - (i+1) < n.length - i by omega) ?_ | refine bD (fun _ => ?_) (fun _ => ?_) | refine bN (fun _ => ?_) (fun _ => ?_) | refine bB (fun hb => ?_) (fun hb => ?_)) <;> conv => whnf)
            all_goals (rw [next_i hlt (by have := hfit.1; omega)]; rfl)
        · rcases hdbl with hd | ⟨hd, _⟩
          · injection hd with h1 h2
            subst h2
            conv => whnf
            repeat' ((first | with_reducible refine bT rfl ?_ | with_reducible refine bF rfl ?_ | (refine sN ?_; (conv => whnf); refine bT (by first | rfl | exact iR8 _ | exact uNN _ | exact iR (by omega) | exact iR (by rw [hw]; omega) | exact nBlt (by omega) | exact nBle (by omega) | (simp; omega)) ?_) | (refine sA ?_; (conv => whnf); refine bT (roomL (by omega) rfl) ?_) | (refine sS ?_; (conv => whnf); refine bT (by first | rfl | exact iR8 _ | exact uNN _ | exact iR (by omega) | exact iR (by rw [hw]; omega) | exact nBlt (by omega) | exact nBle (by omega) | (simp; omega)) ?_) | (refine sM ?_; (conv => whnf); refine bT (mkOK (by omega) (by omega) (by omega) rfl) ?_) | (refine sC ?_; (conv => whnf); refine bT (nBle (by first | omega | (simp; omega))) ?_) | refine bDt (by omega) ?_ | refine bDf (by omega) ?_ | refine bNt (by omega) ?_ | refine bNf (by omega) ?_ | refine call_is goes ?_ | refine bD (fun _ => ?_) (fun _ => ?_) | refine bN (fun _ => ?_) (fun _ => ?_) | refine bB (fun hb => ?_) (fun hb => ?_)) <;> conv => whnf)
            all_goals rfl
          · injection hd with h1 h2
            subst h2
            conv => whnf
            repeat' ((first | with_reducible refine bT rfl ?_ | with_reducible refine bF rfl ?_ | (refine sN ?_; (conv => whnf); refine bT (by first | rfl | exact iR8 _ | exact uNN _ | exact iR (by omega) | exact iR (by rw [hw]; omega) | exact nBlt (by omega) | exact nBle (by omega) | (simp; omega)) ?_) | (refine sA ?_; (conv => whnf); refine bT (roomL (by omega) rfl) ?_) | (refine sS ?_; (conv => whnf); refine bT (by first | rfl | exact iR8 _ | exact uNN _ | exact iR (by omega) | exact iR (by rw [hw]; omega) | exact nBlt (by omega) | exact nBle (by omega) | (simp; omega)) ?_) | (refine sM ?_; (conv => whnf); refine bT (mkOK (by omega) (by omega) (by omega) rfl) ?_) | (refine sC ?_; (conv => whnf); refine bT (nBle (by first | omega | (simp; omega))) ?_) | refine bDt (by omega) ?_ | refine bDf (by omega) ?_ | refine bNt (by omega) ?_ | refine bNf (by omega) ?_ | refine call_is goes ?_ | refine bD (fun _ => ?_) (fun _ => ?_) | refine bN (fun _ => ?_) (fun _ => ?_) | refine bB (fun hb => ?_) (fun hb => ?_)) <;> conv => whnf)
            all_goals rfl
      · obtain rfl := hnil he
        conv => whnf
        repeat' ((first | with_reducible refine bT rfl ?_ | with_reducible refine bF rfl ?_ | (refine sN ?_; (conv => whnf); refine bT (by first | rfl | exact iR8 _ | exact uNN _ | exact iR (by omega) | exact iR (by rw [hw]; omega) | exact nBlt (by omega) | exact nBle (by omega) | (simp; omega)) ?_) | (refine sA ?_; (conv => whnf); refine bT (roomL (by omega) rfl) ?_) | (refine sS ?_; (conv => whnf); refine bT (by first | rfl | exact iR8 _ | exact uNN _ | exact iR (by omega) | exact iR (by rw [hw]; omega) | exact nBlt (by omega) | exact nBle (by omega) | (simp; omega)) ?_) | (refine sM ?_; (conv => whnf); refine bT (mkOK (by omega) (by omega) (by omega) rfl) ?_) | (refine sC ?_; (conv => whnf); refine bT (nBle (by first | omega | (simp; omega))) ?_) | refine bDt (by omega) ?_ | refine bDf (by omega) ?_ | refine bNt (by omega) ?_ | refine bNf (by omega) ?_ | refine call_is k2 ?_ | refine call_is k3 ?_ | refine bDt rfl ?_ | refine bNf rfl ?_ | refine bDf he ?_ | refine bNt he ?_ | refine bD (fun _ => ?_) (fun _ => ?_) | refine bN (fun _ => ?_) (fun _ => ?_)) <;> conv => whnf)
        refine loop_by (cx := cxL7) rfl progOK (ι := Unit) (fun _ => 0) (fun _ => ⟨[(7, EI.L []), (8, .int .i64 e), (13, EI.L []), (15, EI.L o), (16, .int .i64 g), (17, .int .i64 0)], [], [], none⟩) ?_ ()
        rintro _ ih
        dsimp only
        clear ih
        rcases hdbl with hd | ⟨hd, hd2⟩
        · injection hd with h1 h2
          subst h2
          conv => whnf
          repeat' ((first | with_reducible refine bT rfl ?_ | with_reducible refine bF rfl ?_ | (refine sN ?_; (conv => whnf); refine bT (by first | rfl | exact iR8 _ | exact uNN _ | exact iR (by omega) | exact iR (by rw [hw]; omega) | exact nBlt (by omega) | exact nBle (by omega) | (simp; omega)) ?_) | (refine sA ?_; (conv => whnf); refine bT (roomL (by omega) rfl) ?_) | (refine sS ?_; (conv => whnf); refine bT (by first | rfl | exact iR8 _ | exact uNN _ | exact iR (by omega) | exact iR (by rw [hw]; omega) | exact nBlt (by omega) | exact nBle (by omega) | (simp; omega)) ?_) | (refine sM ?_; (conv => whnf); refine bT (mkOK (by omega) (by omega) (by omega) rfl) ?_) | (refine sC ?_; (conv => whnf); refine bT (nBle (by first | omega | (simp; omega))) ?_) | refine bDt (by omega) ?_ | refine bDf (by omega) ?_ | refine bNt (by omega) ?_ | refine bNf (by omega) ?_ | refine call_is goes ?_ | refine bDt rfl ?_ | refine bNf rfl ?_ | refine bDf he ?_ | refine bNt he ?_ | refine bD (fun _ => ?_) (fun _ => ?_) | refine bN (fun _ => ?_) (fun _ => ?_) | refine bB (fun hb => ?_) (fun hb => ?_)) <;> conv => whnf)
          all_goals rfl
        · injection hd with h1 h2
          subst h2
          obtain rfl : e = 3 := by omega
          conv => whnf
          repeat' ((first | with_reducible refine bT rfl ?_ | with_reducible refine bF rfl ?_ | (refine sN ?_; (conv => whnf); refine bT (by first | rfl | exact iR8 _ | exact uNN _ | exact iR (by omega) | exact iR (by rw [hw]; omega) | exact nBlt (by omega) | exact nBle (by omega) | (simp; omega)) ?_) | (refine sA ?_; (conv => whnf); refine bT (roomL (by omega) rfl) ?_) | (refine sS ?_; (conv => whnf); refine bT (by first | rfl | exact iR8 _ | exact uNN _ | exact iR (by omega) | exact iR (by rw [hw]; omega) | exact nBlt (by omega) | exact nBle (by omega) | (simp; omega)) ?_) | (refine sM ?_; (conv => whnf); refine bT (mkOK (by omega) (by omega) (by omega) rfl) ?_) | (refine sC ?_; (conv => whnf); refine bT (nBle (by first | omega | (simp; omega))) ?_) | refine bDt (by omega) ?_ | refine bDf (by omega) ?_ | refine bNt (by omega) ?_ | refine bNf (by omega) ?_ | refine call_is goes ?_ | refine bDt rfl ?_ | refine bNf rfl ?_ | refine bD (fun _ => ?_) (fun _ => ?_) | refine bN (fun _ => ?_) (fun _ => ?_) | refine bB (fun hb => ?_) (fun hb => ?_)) <;> conv => whnf)
          all_goals rfl
end Go.Proofs

