import Derived.Test.YtflebdkgdnfjoaaGreatML
set_option linter.unusedVariables false
set_option linter.unusedSimpArgs false
namespace Ax
open Go Go.RowKit
def isInt (k : Int) : AV → Bool
  | .int .i64 n => decide (n = k)
  | _ => false
theorem isInt_of {k : Int} {r : AV} (h : isInt k r = true) : r = .int .i64 k := by
  unfold isInt at h
  split at h
  · simp at h; subst h; rfl
  · simp at h
def cmpB (cmp : AV → AV → (AV → Bool) → Bool) (a b : AV) : Int :=
  bif cmp a b (isInt (-1)) then -1 else bif cmp a b (isInt 1) then 1 else bif cmp a b (isInt 0) then 0 else 7
def insB (cmp : AV → AV → (AV → Bool) → Bool) (a : AV) : List AV → List AV
  | [] => [a]
  | b :: r => bif decide (cmpB cmp b a < 0) then b :: insB cmp a r else a :: b :: r
def sortL (cmp : AV → AV → (AV → Bool) → Bool) : List AV → List AV
  | [] => []
  | a :: r => insB cmp a (sortL cmp r)
def strictB (cmp : AV → AV → (AV → Bool) → Bool) : List AV → Bool
  | [] => true
  | a :: r => decide (cmpB cmp a a = 0) && r.all (fun b => decide (cmpB cmp a b = -1) && decide (cmpB cmp b a = 1)) && strictB cmp r
def sortB (l : List AV) (cmp : AV → AV → (AV → Bool) → Bool) (K : List AV → Bool) : Bool := decide (l.length < 4611686018427387904) && (strictB cmp (sortL cmp l) && K (sortL cmp l))
theorem insB_perm (cmp : AV → AV → (AV → Bool) → Bool) (a : AV) : ∀ l, (insB cmp a l).Perm (a :: l)
  | [] => .refl _
  | b :: r => by
    simp only [insB]
    cases decide (cmpB cmp b a < 0) with
    | true => exact ((insB_perm cmp a r).cons b).trans (.swap a b r)
    | false => exact .refl _
theorem sortL_perm (cmp : AV → AV → (AV → Bool) → Bool) : ∀ l, (sortL cmp l).Perm l
  | [] => .refl _
  | a :: r => (insB_perm cmp a _).trans ((sortL_perm cmp r).cons a)
theorem strictB_of {cmp : AV → AV → (AV → Bool) → Bool} : ∀ {l : List AV}, strictB cmp l = true → (∀ a ∈ l, cmpB cmp a a = 0) ∧ l.Pairwise fun a b => cmpB cmp a b = -1 ∧ cmpB cmp b a = 1
  | [], _ => ⟨fun a h => by simp at h, .nil⟩
  | a :: r, h => by
    simp only [strictB, Bool.and_eq_true, decide_eq_true_eq, List.all_eq_true] at h
    obtain ⟨⟨h1, h2⟩, h3⟩ := h
    obtain ⟨k1, k2⟩ := strictB_of h3
    exact ⟨fun b hb => by rcases List.mem_cons.1 hb with rfl | hb; exact h1; exact k1 b hb, .cons (fun b hb => h2 b hb) k2⟩
open Classical in
noncomputable def rankL : List AV → AV → Nat
  | [], _ => 0
  | b :: r, a => if a = b then 0 else rankL r a + 1
theorem rank_lt {R : AV → AV → Prop} (hR : ∀ a, ¬ R a a) : ∀ {l : List AV}, l.Pairwise R → l.Pairwise fun a b => rankL l a < rankL l b
  | [], _ => .nil
  | x :: r, h => by
    cases h with
    | cons h1 h2 =>
      have hne : ∀ b ∈ r, ¬ b = x := fun b hb e => hR x (e ▸ h1 b hb)
      refine .cons (fun b hb => ?_) ?_
      · simp only [rankL, if_neg (hne b hb), if_true]; omega
      · refine (rank_lt hR h2).imp_of_mem fun {a b} ha hb hab => ?_
        simp only [rankL, if_neg (hne a ha), if_neg (hne b hb)]; omega
theorem cmpB_of {cmp : AV → AV → (AV → Bool) → Bool} {a b : AV} {k : Int} (hk : k = -1 ∨ k = 0 ∨ k = 1) (h : cmpB cmp a b = k) : cmp a b (isInt k) = true := by
  unfold cmpB at h
  cases h1 : cmp a b (isInt (-1)) with
  | true => rw [h1] at h; simp at h; subst h; exact h1
  | false =>
    rw [h1] at h
    cases h2 : cmp a b (isInt 1) with
    | true => rw [h2] at h; simp at h; subst h; exact h2
    | false =>
      rw [h2] at h
      cases h3 : cmp a b (isInt 0) with
      | true => rw [h3] at h; simp at h; subst h; exact h3
      | false => rw [h3] at h; simp at h; omega
theorem sortB_rel {l : List AV} {cmp : AV → AV → (AV → Bool) → Bool} {cmp' : AV → AV → (AV → Prop) → Prop} {K : List AV → Bool} {K' : List AV → Prop}
    (h1 : ∀ a b (Q : AV → Bool) (Q' : AV → Prop), (∀ r, Q r = true → Q' r) → cmp a b Q = true → cmp' a b Q') (h2 : ∀ l, K l = true → K' l) (h : sortB l cmp K = true) : sortP l cmp' K' := by
  unfold sortB at h
  rw [Bool.and_eq_true, Bool.and_eq_true, decide_eq_true_eq] at h
  obtain ⟨hlen, hs, hK⟩ := h
  obtain ⟨s1, s2⟩ := strictB_of hs
  have hp := sortL_perm cmp l
  generalize sortL cmp l = L at *
  have hirr : ∀ a, ¬ (cmpB cmp a a = -1 ∧ cmpB cmp a a = 1) := fun a h => by omega
  have hrk := rank_lt hirr s2
  let c : AV → AV → Int := fun a b => if rankL L a < rankL L b then -1 else if rankL L b < rankL L a then 1 else 0
  have hall : ∀ a ∈ L, ∀ b ∈ L, cmpB cmp a b = c a b := by
    intro a ha b hb
    obtain ⟨i, hi⟩ := List.getElem?_of_mem ha
    obtain ⟨j, hj⟩ := List.getElem?_of_mem hb
    have hil := (List.getElem?_eq_some_iff.1 hi)
    have hjl := (List.getElem?_eq_some_iff.1 hj)
    obtain ⟨hi1, hi2⟩ := hil
    obtain ⟨hj1, hj2⟩ := hjl
    rw [List.pairwise_iff_getElem] at s2 hrk
    rcases Nat.lt_trichotomy i j with hij | rfl | hij
    · have q1 := s2 i j hi1 hj1 hij
      have q2 := hrk i j hi1 hj1 hij
      rw [hi2, hj2] at q1 q2
      simp only [c, if_pos q2]; exact q1.1
    · rw [hi2] at hj2; subst hj2
      simp only [c, Nat.lt_irrefl, if_false]; exact s1 a ha
    · have q1 := s2 j i hj1 hi1 hij
      have q2 := hrk j i hj1 hi1 hij
      rw [hi2, hj2] at q1 q2
      have : ¬ rankL L a < rankL L b := by omega
      simp only [c, if_neg this, if_pos q2]; exact q1.2
  refine ⟨hlen, c, fun a ha b hb => ?_, ⟨fun a => ?_, fun a b d => ?_, fun a b d => ?_⟩, fun l' p1 p2 => ?_⟩
  · have := hall a (hp.mem_iff.2 ha) b (hp.mem_iff.2 hb)
    refine h1 a b (isInt (c a b)) _ (fun r hr => isInt_of hr) (cmpB_of ?_ this)
    simp only [c]; split
    · exact .inl rfl
    · split
      · exact .inr (.inr rfl)
      · exact .inr (.inl rfl)
  · simp [c]
  · simp only [c]; intro h1 h2
    split at h1
    · split at h2
      · rw [if_pos (by omega)]; omega
      · split at h2 <;> simp at h2
    · split at h1 <;> simp at h1
  · simp only [c]; intro h1 h2
    by_cases q1 : rankL L a < rankL L b
    · rw [if_pos q1] at h1; simp at h1
    · by_cases q2 : rankL L b < rankL L d
      · rw [if_pos q2] at h2; simp at h2
      · rw [if_neg (by omega)]; split <;> simp
  · have hLl : L = l' := by
      refine List.Perm.eq_of_pairwise (le := fun a b => rankL L a ≤ rankL L b) ?_ (hrk.imp fun h => Nat.le_of_lt h) (p2.imp fun {a b} h => ?_) (hp.trans p1.symm)
      · intro a b ha hb hab hba
        have hb : b ∈ L := (hp.trans p1.symm).mem_iff.2 hb
        obtain ⟨i, hi⟩ := List.getElem?_of_mem ha
        obtain ⟨j, hj⟩ := List.getElem?_of_mem hb
        obtain ⟨hi1, hi2⟩ := List.getElem?_eq_some_iff.1 hi
        obtain ⟨hj1, hj2⟩ := List.getElem?_eq_some_iff.1 hj
        rw [List.pairwise_iff_getElem] at hrk
        rcases Nat.lt_trichotomy i j with hij | rfl | hij
        · have := hrk i j hi1 hj1 hij; rw [hi2, hj2] at this; omega
        · rw [← hi2, ← hj2]
        · have := hrk j i hj1 hi1 hij; rw [hi2, hj2] at this; omega
      · simp only [c] at h
        by_cases q : rankL L b < rankL L a
        · rw [if_pos q] at h; simp at h
        · omega
    rw [← hLl]; exact h2 _ hK
def fuelRec (cx : Ctx) (calm : List Oper → Bool) : Nat → Rec Bool
  | 0 => ⟨false, fun _ _ => false, fun _ _ _ => false, fun _ _ _ _ _ _ => false, fun _ _ _ => false, fun b y n => bif b then y else n⟩
  | n + 1 => ⟨false, fun m k => (List.range m).all k, fun f a Q => stepCall (fuelRec cx calm n) cx calm f a Q, fun d fid m b st K => stepLoop (fuelRec cx calm n) cx calm d fid m b st K, sortB, fun b y n => bif b then y else n⟩
theorem fuel_rel {cx : Ctx} {calm : List Oper → Bool} : ∀ n, RelRec (fun (b : Bool) (p : Prop) => b = true → p) (fuelRec cx calm n) (lfp cx calm)
  | 0 => { fail := fun h => by simp [fuelRec] at h, call := fun f a Q Q' _ h => by simp [fuelRec] at h, loop := fun d fid n b st K K' _ h => by simp [fuelRec] at h, sort := fun l cmp cmp' K K' _ _ h => by simp [fuelRec] at h, br := fun b y y' n n' h1 h2 h => by cases b; exact ⟨fun e => absurd e (by simp), fun _ => h2 h⟩; exact ⟨fun _ => h1 h, fun e => absurd e (by simp)⟩, all := fun n k k' _ _ h => by simp [fuelRec] at h }
  | n + 1 =>
    { fail := fun h => by simp [fuelRec] at h
      call := fun f a Q Q' hq h => lfp_call (stepCall_rel (fuel_rel n) hq h)
      loop := fun d fid m b st K K' hk h => lfp_loop (stepLoop_rel (fuel_rel n) hk h)
      sort := fun l cmp cmp' K K' h1 h2 h => sortB_rel h1 h2 h
      br := fun b y y' n n' h1 h2 h => by cases b; exact ⟨fun e => absurd e (by simp), fun _ => h2 h⟩; exact ⟨fun _ => h1 h, fun e => absurd e (by simp)⟩
      all := fun m k k' _ hk h => fun i hi => hk i (List.all_eq_true.1 h i (List.mem_range.2 hi)) }
theorem fuel_call {cx : Ctx} {calm : List Oper → Bool} (n : Nat) {f : FuncId} {a : List AV} {q : AV → Bool} {Q : AV → Prop} (hq : ∀ r, q r = true → Q r) (h : (fuelRec cx calm n).call f a q = true) : (lfp cx calm).call f a Q :=
  (fuel_rel n).call f a q Q hq h
end Ax
