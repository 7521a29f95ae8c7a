import Derived.Test.YtflebdkgdnfjoaaAxFuel
import Derived.Test.YtflebdkgdnfjoaaLM
import Derived.Test.YtflebdkgdnfjoaaLV
import Derived.Test.YtflebdkgdnfjoaaLX
namespace Go.Proofs
open Ax Go
noncomputable def cxG20 : Ctx where
  P := Try.prog
  inl := fun _ => false
  keep := fun _ _ => none
  keepX := fun _ _ => none
  xf := fun _ _ _ => false
  ow := fun _ => true
  gh := fun _ _ => []
  gf := fun f => match f with | 52 => [.shutC 2] | _ => []
  ln := fun _ => false
  srt := srtT
set_option maxRecDepth 100000
end Go.Proofs


namespace Go.Proofs
open Ax Go
set_option maxRecDepth 100000
theorem goes20 : CallOK Try.prog 17 [] (fun r => r = .bool true) :=
  lfp_sound (cx := cxG20) rfl progOK (fuel_call (calm := calmT) 120 (q := isTrueAV) (fun r h => isTrueAV_of h) (by decide +kernel))
end Go.Proofs


set_option linter.unusedVariables false
set_option linter.unusedSimpArgs false
namespace Go.Proofs
open Ax Go
set_option maxRecDepth 10000
noncomputable def cxLN : Ctx where
  P := Try.prog
  inl := fun _ => false
  keep := fun _ _ => none
  keepX := fun _ _ => none
  xf := fun _ _ _ => false
  ow := fun _ => false
  gh := fun _ _ => []
  gf := fun _ => []
  ln := fun _ => false
  srt := srtT
theorem okLN {f a Q} (h : stepCall (SX Try.prog calmT) cxLN calmT f a Q) : CallOK Try.prog f a Q := okOf (cx := cxLN) rfl progOK h
theorem arg_fl {d : Nat} {a : AV} (h : TypedAV Try.prog (d + 2) 65 a) : ∃ s : Fl, a = encFl s ∧ (-9223372036854775808 ≤ s.n ∧ s.n ≤ 9223372036854775807) := by
  obtain ⟨es, h1, h2, h3⟩ := h
  obtain ⟨a0, r0, rfl, k0, a1, r1, rfl, k1, a2, r2, rfl, k2, a3, r3, rfl, k3, rfl⟩ := typed_struct Try.underlying65 h3
  obtain ⟨m, rfl, hm⟩ := typed_str Try.underlying9 k0
  obtain ⟨c, rfl, _⟩ := typed_int Try.underlying3 k1
  obtain ⟨n, rfl, hn⟩ := typed_int Try.underlying3 k2
  obtain ⟨s, rfl, _⟩ := typed_int Try.underlying3 k3
  refine ⟨⟨m, c, n, s⟩, h1, ?_⟩
  simp [Lit.wf, IntKind.min, IntKind.max, IntKind.signed, IntKind.bits] at hn
  exact hn
theorem list_ofP {α : Type} {E : Enc α} {p : α → Prop} {n : Nat} {g : Nat → AV} (h : ∀ i, i < n → ∃ x, g i = E.f x ∧ p x) : ∃ l : List α, l.length = n ∧ Same (.vec E.sz n g) (E.L l) ∧ ∀ x ∈ l, p x := by
  have each : ∀ i, ∃ x : α, i < n → g i = E.f x ∧ p x := fun i => by
    by_cases hi : i < n
    · obtain ⟨x, hx⟩ := h i hi; exact ⟨x, fun _ => hx⟩
    · exact ⟨E.d, fun h => absurd h hi⟩
  obtain ⟨f, hf⟩ := Classical.axiomOfChoice each
  have hl : ((List.range n).map f).length = n := by simp
  refine ⟨(List.range n).map f, hl, Enc.At.same (E := E) ⟨hl.symm, fun i hi => ?_⟩, fun x hx => ?_⟩
  · rw [hl] at hi
    rw [(hf i hi).1, List.getD_eq_getElem?_getD, List.getElem?_map, List.getElem?_range hi]; rfl
  · obtain ⟨i, hi, rfl⟩ := List.mem_map.1 hx
    exact (hf i (List.mem_range.1 hi)).2
theorem arg_fls {d : Nat} {a : AV} (h : TypedAV Try.prog (d + 3) 57 a) : ∃ l : List Fl, Same a (EFl.L l) ∧ l.length ≤ maxLen ∧ ∀ x ∈ l, -9223372036854775808 ≤ x.n ∧ x.n ≤ 9223372036854775807 := by
  obtain ⟨es, h1, h2, h3⟩ := h
  obtain ⟨n, g, rfl, hn, hg⟩ := typed_slice Try.underlying57 h3
  have h1 : a = .vec 4 n g := h1
  subst h1
  obtain ⟨l, e, hs, hp⟩ := list_ofP (E := EFl) (n := n) (g := g) fun i hi => arg_fl (hg i hi)
  exact ⟨l, hs, by rw [e]; exact hn, hp⟩
theorem lawNought : ∀ xs, TypedArgs Try.prog 8 Try.f5.params.toList xs → CallOK Try.prog 5 xs (fun r => r = .bool true) := by
  intro xs h
  obtain ⟨a, r, rfl, ha, rfl⟩ := h
  obtain ⟨l, hl1, hl2, hl3⟩ := arg_fls ha
  refine ok_same (.cons hl1 .nil) ?_
  refine okLN ?_
  by_cases hlen : l.length ≤ 300
  · have k1 := zero l (by omega) hl3
    have k2 := refZero l (by omega) hl3
    generalize decide (∀ x ∈ l, accS id l x.c = 0) = b at *
    cases b
    · conv => whnf
      repeat' ((first | with_reducible refine bT rfl ?_ | with_reducible refine bF rfl ?_ | (refine sN ?_; (conv => whnf); refine bT (by first | rfl | exact iR8 _ | exact uNN _ | exact iR (by omega) | exact iR (by rw [hw]; omega) | exact nBlt (by omega) | exact nBle (by omega) | (simp; omega)) ?_) | (refine sA ?_; (conv => whnf); refine bT (roomL (by omega) rfl) ?_) | (refine sS ?_; (conv => whnf); refine bT (by first | rfl | exact iR8 _ | exact uNN _ | exact iR (by omega) | exact iR (by rw [hw]; omega) | exact nBlt (by omega) | exact nBle (by omega) | (simp; omega)) ?_) | (refine sM ?_; (conv => whnf); refine bT (mkOK (by omega) (by omega) (by omega) rfl) ?_) | (refine sC ?_; (conv => whnf); refine bT (nBle (by first | omega | (simp; omega))) ?_) | refine bDt (by omega) ?_ | refine bDf (by omega) ?_ | refine bNt (by omega) ?_ | refine bNf (by omega) ?_ | refine call_is k1 ?_ | refine call_is k2 ?_ | refine call_is goes20 ?_ | refine bD (fun _ => ?_) (fun _ => ?_) | refine bN (fun _ => ?_) (fun _ => ?_)) <;> conv => whnf)
      all_goals rfl
    · conv => whnf
      repeat' ((first | with_reducible refine bT rfl ?_ | with_reducible refine bF rfl ?_ | (refine sN ?_; (conv => whnf); refine bT (by first | rfl | exact iR8 _ | exact uNN _ | exact iR (by omega) | exact iR (by rw [hw]; omega) | exact nBlt (by omega) | exact nBle (by omega) | (simp; omega)) ?_) | (refine sA ?_; (conv => whnf); refine bT (roomL (by omega) rfl) ?_) | (refine sS ?_; (conv => whnf); refine bT (by first | rfl | exact iR8 _ | exact uNN _ | exact iR (by omega) | exact iR (by rw [hw]; omega) | exact nBlt (by omega) | exact nBle (by omega) | (simp; omega)) ?_) | (refine sM ?_; (conv => whnf); refine bT (mkOK (by omega) (by omega) (by omega) rfl) ?_) | (refine sC ?_; (conv => whnf); refine bT (nBle (by first | omega | (simp; omega))) ?_) | refine bDt (by omega) ?_ | refine bDf (by omega) ?_ | refine bNt (by omega) ?_ | refine bNf (by omega) ?_ | refine call_is k1 ?_ | refine call_is k2 ?_ | refine call_is goes20 ?_ | refine bD (fun _ => ?_) (fun _ => ?_) | refine bN (fun _ => ?_) (fun _ => ?_)) <;> conv => whnf)
      all_goals rfl
  · conv => whnf
    repeat' ((first | with_reducible refine bT rfl ?_ | with_reducible refine bF rfl ?_ | (refine sN ?_; (conv => whnf); refine bT (by first | rfl | exact iR8 _ | exact uNN _ | exact iR (by omega) | exact iR (by rw [hw]; omega) | exact nBlt (by omega) | exact nBle (by omega) | (simp; omega)) ?_) | (refine sA ?_; (conv => whnf); refine bT (roomL (by omega) rfl) ?_) | (refine sS ?_; (conv => whnf); refine bT (by first | rfl | exact iR8 _ | exact uNN _ | exact iR (by omega) | exact iR (by rw [hw]; omega) | exact nBlt (by omega) | exact nBle (by omega) | (simp; omega)) ?_) | (refine sM ?_; (conv => whnf); refine bT (mkOK (by omega) (by omega) (by omega) rfl) ?_) | (refine sC ?_; (conv => whnf); refine bT (nBle (by first | omega | (simp; omega))) ?_) | refine bDt (by omega) ?_ | refine bDf (by omega) ?_ | refine bNt (by omega) ?_ | refine bNf (by omega) ?_ | refine call_is goes20 ?_ | refine bD (fun _ => ?_) (fun _ => ?_) | refine bN (fun _ => ?_) (fun _ => ?_)) <;> conv => whnf)
    all_goals rfl
end Go.Proofs

