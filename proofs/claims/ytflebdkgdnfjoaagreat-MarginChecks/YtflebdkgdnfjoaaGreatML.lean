import Derived.Test.YtflebdkgdnfjoaaGreatMJ
import Derived.Test.YtflebdkgdnfjoaaGreatMK
set_option linter.unusedVariables false
set_option linter.unusedSimpArgs false
namespace Ax
open Go Go.RowKit
structure RelRec {R S : Type} (Rl : R → S → Prop) (X : Rec R) (Y : Rec S) : Prop where
  fail : Rl X.fail Y.fail
  call : ∀ f a Q Q', (∀ r, Rl (Q r) (Q' r)) → Rl (X.call f a Q) (Y.call f a Q')
  loop : ∀ d fid n b st K K', (∀ e s, Rl (K e s) (K' e s)) → Rl (X.loop d fid n b st K) (Y.loop d fid n b st K')
  sort : ∀ l cmp cmp' K K', (∀ a b Q Q', (∀ r, Rl (Q r) (Q' r)) → Rl (cmp a b Q) (cmp' a b Q')) → (∀ l, Rl (K l) (K' l)) → Rl (X.sort l cmp K) (Y.sort l cmp' K')
  br : ∀ b y y' n n', Rl y y' → Rl n n' → Rl (X.br b y n) (Y.br b y' n')
  all : ∀ n k k', 0 < n → (∀ i, Rl (k i) (k' i)) → Rl (X.all n k) (Y.all n k')
def RelI {R S : Type} (Rl : R → S → Prop) (I : FuncId → List AV → Heap → (AV → Heap → R) → R) (J : FuncId → List AV → Heap → (AV → Heap → S) → S) : Prop :=
  ∀ f a h k k', (∀ r h, Rl (k r h) (k' r h)) → Rl (I f a h k) (J f a h k')
section
variable {R S : Type} {Rl : R → S → Prop} {X : Rec R} {Y : Rec S} {cx : Ctx} {I : FuncId → List AV → Heap → (AV → Heap → R) → R} {J : FuncId → List AV → Heap → (AV → Heap → S) → S}
theorem denDC_rel (hX : RelRec Rl X Y) {d : Option Nat} {g : FuncId} {args : List AV} {st : St} {k : St → R} {k' : St → S} (hk : ∀ s, Rl (k s) (k' s)) : Rl (denDC X cx d g args st k) (denDC Y cx d g args st k') := by
  obtain ⟨env, heap, defers, bor⟩ := st
  unfold denDC
  cases Nat.blt 0 (cx.srt g) with
  | true =>
    simp only [cond_true]
    split
    · cases Nat.beq (cx.srt g) 100 with
      | false => exact hX.fail
      | true =>
        simp only [cond_true]
        split
        · simp only [Heap.force_eq, forceV_eq, putK_setO]
          exact hk _
        · exact hX.fail
    · rename_i id sz lo n h caps
      split
      · rename_i sz' n' e hg
        cases !Nat.beq (cx.srt g) 100 && Nat.beq sz sz' && Nat.beq sz (cx.srt g) && Nat.beq lo 0 && Nat.beq n n' with
        | false => exact hX.fail
        | true =>
          simp only [cond_true, AV.forceL_eq]
          cases AV.isDataL (caps.map (lendAV (heap.set id .dead))) with
          | false => exact hX.fail
          | true =>
            simp only [cond_true]
            refine hX.sort _ _ _ _ _ (fun a b Q Q' hQ => hX.call _ _ _ _ hQ) (fun l => ?_)
            simp only [Heap.force_eq, putK_setO]
            exact hk _
      · exact hX.fail
    · exact hX.fail
  | false =>
    simp only [cond_false, AV.forceL_eq]
    cases AV.isDataL (lendL heap args) with
    | false => exact hX.fail
    | true =>
      simp only [cond_true]
      refine hX.call _ _ _ _ fun r => ?_
      cases r.scalR with
      | false => exact hX.fail
      | true => simp only [cond_true, putK_setO]; exact hk _
theorem denOp_rel (hX : RelRec Rl X Y) (hI : RelI Rl I J) {drawn : Bool} {fid rid ix base : Nat} {o : Oper} {rest : List Oper} {st : St} {k : St → R} {k' : St → S} (hk : ∀ s, Rl (k s) (k' s)) :
    Rl (denOp X cx I drawn fid rid ix base o rest st k) (denOp Y cx J drawn fid rid ix base o rest st k') := by
  obtain ⟨env, heap, defers, bor⟩ := st
  rw [denOp_eff, denOp_eff]
  cases effOp cx drawn fid rid ix base o rest env heap with
  | fail => exact hX.fail
  | put b ws h => exact hk _
  | call g args => exact hX.call _ _ _ _ fun r => hk _
  | inl g args =>
    simp only [effSem]
    split
    · exact hX.fail
    · cases !noO heap
      · exact hI _ _ _ _ _ fun r h => hk _
      · exact hX.fail
  | dc g args => simp only [effSem]; exact denDC_rel hX hk
  | nilT n b => simp only [effSem]; exact hX.br _ _ _ _ _ (hX.all _ _ _ (by omega) fun i => hk _) (hk _)
  | app i v h => exact hk _
  | mkO s n z => exact hk _
  | nxt i q l =>
    simp only [effSem]
    exact hX.br _ _ _ _ _ (hk _) (hX.all _ _ _ (by omega) fun i => hk _)
theorem ghostK_rel (hX : RelRec Rl X Y) {l : List Ghost} {st : St} {k : St → R} {k' : St → S} (hk : ∀ s, Rl (k s) (k' s)) : Rl (ghostK X l st k) (ghostK Y l st k') := by
  obtain ⟨env, heap, defers, bor⟩ := st
  unfold ghostK
  cases l with
  | nil => exact hk _
  | cons g r =>
    dsimp only
    cases ghosts (g :: r) env heap with
    | none => exact hX.fail
    | some p => obtain ⟨e, h⟩ := p; simp only [Env.forceV_eq, Heap.force_eq]; exact hk _
theorem denOps_rel (hX : RelRec Rl X Y) (hI : RelI Rl I J) {drawn : Bool} {fid rid : Nat} {all : List Oper} {k : St → R} {k' : St → S} (hk : ∀ s, Rl (k s) (k' s)) : ∀ (rest : List Oper) (ix base : Nat) (st : St),
    Rl (denOps X cx I drawn fid rid all ix base rest st k) (denOps Y cx J drawn fid rid all ix base rest st k')
  | [], ix, base, st => by simp only [denOps]; exact hk _
  | o :: rest, ix, base, ⟨env, heap, defers, bor⟩ => by
    have ih := fun st => denOps_rel (drawn := drawn) (fid := fid) (rid := rid) (all := all) hX hI hk rest (ix + 1) (base + (hoisted cx.P o).length) st
    unfold denOps
    cases o.guard with
    | none => exact denOp_rel hX hI ih
    | some jw =>
      obtain ⟨j, want⟩ := jw
      dsimp only
      split
      · cases want <;> dsimp only [branch] <;> refine hX.br _ _ _ _ _ ?_ ?_ <;> simp only [putK_setO] <;> first | exact denOp_rel hX hI ih | exact ih _
      · rw [putK_setO, putK_setO]; exact ih _
      · exact hX.fail
theorem cleanK_rel (hX : RelRec Rl X Y) {ks : Option (List Nat)} {n : Nat} {st : St} {k : St → R} {k' : St → S} (hk : ∀ s, Rl (k s) (k' s)) : Rl (cleanK X ks n st k) (cleanK Y ks n st k') := by
  obtain ⟨env, heap, defers, bor⟩ := st
  simp only [cleanK, Env.forceV_eq, Heap.force_eq]
  cases underH n n heap
  · exact hX.fail
  · exact hk _
theorem denAny_rel (hX : RelRec Rl X Y) (hI : RelI Rl I J) {fid rid base : Nat} {all : List Oper} {k : St → R} {k' : St → S} (hk : ∀ s, Rl (k s) (k' s)) : ∀ (n : Nat) (done : List Nat) (st : St),
    Rl (denAny X cx I fid rid base all n done st k) (denAny Y cx J fid rid base all n done st k')
  | 0, done, st => by
    simp only [denAny]
    split
    · exact hk _
    · exact hX.fail
  | n + 1, done, st => by
    have one : ∀ i, Rl (denOne X cx I fid rid base all i st fun st => denAny X cx I fid rid base all n (i :: done) st k) (denOne Y cx J fid rid base all i st fun st => denAny Y cx J fid rid base all n (i :: done) st k') := by
      intro i
      obtain ⟨env, heap, defers, bor⟩ := st
      unfold denOne
      cases all[i]? with
      | none => exact hX.fail
      | some o =>
        cases hg : o.guard with
        | none => dsimp only; rw [hg]; exact denOp_rel hX hI fun s => denAny_rel hX hI hk n (i :: done) s
        | some q => dsimp only; rw [hg]; exact hX.fail
    simp only [denAny]
    split
    · exact hk _
    · exact one _
    · rename_i l h1 h2
      refine hX.all _ _ _ ?_ fun j => one _
      rcases hl : readyN all done with _ | ⟨a, r⟩
      · exact absurd hl h1
      · simp
theorem den_rel (hX : RelRec Rl X Y) (hI : RelI Rl I J) {calm : List Oper → Bool} {nt d : Nat} {fid : FuncId} : ∀ (c : Code) (st : St) (k : Ex → St → R) (k' : Ex → St → S), (∀ e s, Rl (k e s) (k' e s)) →
    Rl (den X cx I calm nt d fid c st k) (den Y cx J calm nt d fid c st k') := by
  intro c
  induction c with
  | skip => intro st k k' hk; simp only [den]; exact hk _ _
  | label l => intro st k k' hk; simp only [den]; exact hk _ _
  | region id ops draw =>
    intro st k k' hk
    simp only [den]
    cases (!draw || calm ops.toList) && dstOk nt ops.toList
    · simp only [cond_false]
      cases draw && dstOk nt ops.toList && noHoist cx.P ops.toList
      · exact hX.fail
      · simp only [cond_true]
        refine ghostK_rel hX fun s => ?_
        obtain ⟨env, heap, defers, bor⟩ := s
        simp only [forceNat_eq]
        exact denAny_rel hX hI (fun s => hk _ s) _ _ _
    · simp only [cond_true]
      refine ghostK_rel hX fun s => ?_
      obtain ⟨env, heap, defers, bor⟩ := s
      simp only [forceNat_eq, Heap.force_eq]
      exact denOps_rel hX hI (fun s => hk _ s) _ _ _ _
  | seq a b iha ihb =>
    intro st k k' hk
    simp only [den]
    refine iha _ _ _ fun e s => ?_
    cases e with
    | normal => exact ihb _ _ _ hk
    | exit id => exact hk _ _
    | ret => exact hk _ _
  | cond c a b iha ihb =>
    rintro ⟨env, heap, defers, bor⟩ k k' hk
    simp only [den]
    split
    · simp only [branch]
      refine hX.br _ _ _ _ _ ?_ ?_ <;> simp only [putK_setO]
      · exact iha _ _ _ hk
      · exact ihb _ _ _ hk
    · exact hX.fail
  | block id b ih =>
    intro st k k' hk
    simp only [den]
    refine ih _ _ _ fun e s => ?_
    cases e with
    | normal => exact hk _ _
    | exit id' => dsimp only; cases Nat.beq id' id <;> exact hk _ _
    | ret => exact hk _ _
  | loop b ih =>
    intro st k k' hk
    simp only [den]
    refine ghostK_rel hX fun s => ?_
    obtain ⟨env, heap, defers, bor⟩ := s
    simp only [forceNat_eq]
    exact cleanK_rel hX fun s => hX.loop _ _ _ _ _ _ _ hk
  | exit id => intro st k k' hk; simp only [den]; exact hk _ _
  | ret => intro st k k' hk; simp only [den]; exact hk _ _
  | scope b ih => intro st k k' hk; simp only [den]; exact ih _ _ _ hk
  | rangeFunc f ps x y => intro st k k' hk; simp only [den]; exact hX.fail
  | goto l => intro st k k' hk; simp only [den]; exact hX.fail
  | refuse y => intro st k k' hk; simp only [den]; exact hX.fail
theorem finish_rel (hX : RelRec Rl X Y) {f : FuncId} {fn : Func} {k : AV → Heap → R} {k' : AV → Heap → S} (hk : ∀ r h, Rl (k r h) (k' r h)) (e : Ex) (st : St) : Rl (finish X cx f fn k e st) (finish Y cx f fn k' e st) := by
  have key : ∀ st : St, Rl (match st with
    | ⟨env, heap, defers, bor⟩ => match defers, bor with
      | [], none =>
        match resultsOf cx env heap fn.results.toList with
        | some (vs, heap) => (packR vs).force fun r => k r heap
        | none => X.fail
      | _, _ => X.fail) (match st with
    | ⟨env, heap, defers, bor⟩ => match defers, bor with
      | [], none =>
        match resultsOf cx env heap fn.results.toList with
        | some (vs, heap) => (packR vs).force fun r => k' r heap
        | none => Y.fail
      | _, _ => Y.fail) := by
    intro st
    obtain ⟨env, heap, dd, bb⟩ := st
    cases dd with
    | cons a l => exact hX.fail
    | nil =>
      cases bb with
      | some q => exact hX.fail
      | none =>
        dsimp only
        cases resultsOf cx env heap fn.results.toList with
        | none => exact hX.fail
        | some vs => obtain ⟨vs, h⟩ := vs; simp only [AV.force_eq]; exact hk _ _
  cases e with
  | exit id => exact hX.fail
  | normal => exact ghostK_rel hX key
  | ret => exact ghostK_rel hX key
theorem params_rel {k : Env → R} {k' : Env → S} : ∀ (l : List AV) (t : Nat) (k : Env → R) (k' : Env → S), (∀ e, Rl (k e) (k' e)) → Rl (params t l k) (params t l k')
  | [], t, k, k', h => h _
  | v :: r, t, k, k', h => by simp only [params, AV.force_eq]; exact params_rel (k := k) (k' := k') r _ _ _ fun e => h _
theorem runBody_rel (hX : RelRec Rl X Y) (hI : RelI Rl I J) {calm : List Oper → Bool} {d : Nat} : RelI Rl (runBody X cx I calm d) (runBody Y cx J calm d) := by
  intro f a h k k' hk
  unfold runBody
  split
  · split
    · exact params_rel (k := fun _ => X.fail) (k' := fun _ => Y.fail) _ _ _ _ fun e => den_rel hX hI _ _ _ _ (finish_rel hX hk)
    · exact hX.fail
  · exact hX.fail
theorem inlN_rel (hX : RelRec Rl X Y) {calm : List Oper → Bool} : ∀ d, RelI Rl (inlN X cx calm d) (inlN Y cx calm d)
  | 0 => fun _ _ _ _ _ _ => hX.fail
  | d + 1 => runBody_rel hX (inlN_rel hX d)
theorem stepCall_rel (hX : RelRec Rl X Y) {calm : List Oper → Bool} {f : FuncId} {a : List AV} {Q : AV → R} {Q' : AV → S} (hQ : ∀ r, Rl (Q r) (Q' r)) : Rl (stepCall X cx calm f a Q) (stepCall Y cx calm f a Q') := by
  refine runBody_rel hX (inlN_rel hX _) _ _ _ _ _ fun r h => ?_
  unfold giveOut giveOut2
  cases (bif cx.ow f then release h r else r).isData
  · exact hX.fail
  · simp only [cond_true, AV.force_eq]; exact hQ _
theorem stepLoop_rel (hX : RelRec Rl X Y) {calm : List Oper → Bool} {d : Nat} {fid : FuncId} {n : Nat} {b : Code} {st : St} {K : Ex → St → R} {K' : Ex → St → S} (hK : ∀ e s, Rl (K e s) (K' e s)) :
    Rl (stepLoop X cx calm d fid n b st K) (stepLoop Y cx calm d fid n b st K') := by
  refine den_rel hX (inlN_rel hX _) _ _ _ _ fun e s => ?_
  cases e with
  | normal => simp only [loopNext]; exact cleanK_rel hX fun s => hX.loop _ _ _ _ _ _ _ hK
  | exit id => simp only [loopNext]; exact cleanK_rel hX fun s => hK _ _
  | ret => simp only [loopNext]; exact cleanK_rel hX fun s => hK _ _
end
theorem rel_lfp {cx : Ctx} {calm : List Oper → Bool} {X : Rec Prop} (hX : PreFix cx calm X) : RelRec (fun p q : Prop => p → q) (lfp cx calm) X where
  fail h := h.elim
  call f a Q Q' h hc := hX.cmono f a Q Q' h (hc X hX)
  loop d fid n b st K K' h hc := hX.lmono d fid n b st K K' h (hc X hX)
  sort l cmp cmp' K K' h1 h2 hc := by
    rw [hX.sort]
    obtain ⟨c0, c, c1, c2, c3⟩ := hc
    exact ⟨c0, c, fun a ha b hb => h1 a b _ _ (fun r h => h) (c1 a ha b hb), c2, fun l' p1 p2 => h2 l' (c3 l' p1 p2)⟩
  br b y y' n n' h1 h2 hc := by
    rw [hX.br]
    exact ⟨fun e => h1 (hc.yes e), fun e => h2 (hc.no e)⟩
  all n k k' _ h hc := by
    rw [hX.all]
    exact fun i hi => h i (hc i hi)
theorem lfp_call {cx : Ctx} {calm : List Oper → Bool} {f : FuncId} {a : List AV} {Q : AV → Prop} (h : stepCall (lfp cx calm) cx calm f a Q) : (lfp cx calm).call f a Q :=
  fun X hX => hX.call f a Q (stepCall_rel (rel_lfp hX) (fun r h => h) h)
theorem lfp_loop {cx : Ctx} {calm : List Oper → Bool} {d : Nat} {fid : FuncId} {n : Nat} {b : Code} {st : St} {K : Ex → St → Prop} (h : stepLoop (lfp cx calm) cx calm d fid n b st K) : (lfp cx calm).loop d fid n b st K :=
  fun X hX => hX.loop d fid n b st K (stepLoop_rel (rel_lfp hX) (fun e s h => h) h)
theorem sorted_some {c : AV → AV → Int} (hc : Swo c) (l : List AV) : ∃ l' : List AV, l'.Perm l ∧ l'.Pairwise (fun a b => ¬ c b a < 0) := by
  refine ⟨l.mergeSort (fun a b => decide (¬ c b a < 0)), List.mergeSort_perm _ _, ?_⟩
  have := List.pairwise_mergeSort (le := fun a b => decide (¬ c b a < 0)) (fun a b d h1 h2 => by
      simp only [decide_eq_true_eq] at *
      exact hc.ntrans d b a h2 h1) (fun a b => by
      simp only [Bool.or_eq_true, decide_eq_true_eq]
      by_cases h : c b a < 0
      · right; intro h2; exact hc.irrefl _ (hc.trans _ _ _ h h2)
      · exact .inl h) l
  exact this.imp fun h => by simpa using h
theorem rel_some {X : Rec Prop} (hs : X.sort = sortP) (hb : X.br = BrP) (ha : X.all = fun n k => ∀ i, i < n → k i) (hf : ¬ X.fail) (hc : ∀ f a Q, X.call f a Q → ∃ r, Q r) (hl : ∀ d fid n b st K, X.loop d fid n b st K → ∃ e s, K e s) (C : Prop) :
    RelRec (fun (p : Prop) (_ : Unit) => p → C) X ⟨(), fun _ _ => (), fun _ _ _ => (), fun _ _ _ _ _ _ => (), fun _ _ _ => (), fun _ _ _ => ()⟩ where
  fail h := absurd h hf
  call f a Q Q' h hq := let ⟨r, hr⟩ := hc f a Q hq; h r hr
  loop d fid n b st K K' h hq := let ⟨e, s, hs⟩ := hl d fid n b st K hq; h e s hs
  sort l cmp cmp' K K' h1 h2 hq := by
    rw [hs] at hq
    obtain ⟨_, c, c1, c2, c3⟩ := hq
    obtain ⟨l', p1, p2⟩ := sorted_some c2 l
    exact h2 l' (c3 l' p1 p2)
  br b y y' n n' h1 h2 hc := by
    rw [hb] at hc
    cases b
    · exact h2 (hc.no rfl)
    · exact h1 (hc.yes rfl)
  all n k k' h0 h hc := by
    rw [ha] at hc
    exact h 0 (hc 0 h0)
theorem some_call {cx : Ctx} {calm : List Oper → Bool} {X : Rec Prop} (hs : X.sort = sortP) (hb : X.br = BrP) (ha : X.all = fun n k => ∀ i, i < n → k i) (hf : ¬ X.fail) (hc : ∀ f a Q, X.call f a Q → ∃ r, Q r) (hl : ∀ d fid n b st K, X.loop d fid n b st K → ∃ e s, K e s) {f : FuncId} {a : List AV} {Q : AV → Prop}
    (h : stepCall X cx calm f a Q) : ∃ r, Q r :=
  stepCall_rel (Q' := fun _ => ()) (rel_some hs hb ha hf hc hl (∃ r, Q r)) (fun r hr => ⟨r, hr⟩) h
theorem some_loop {cx : Ctx} {calm : List Oper → Bool} {X : Rec Prop} (hs : X.sort = sortP) (hb : X.br = BrP) (ha : X.all = fun n k => ∀ i, i < n → k i) (hf : ¬ X.fail) (hc : ∀ f a Q, X.call f a Q → ∃ r, Q r) (hl : ∀ d fid n b st K, X.loop d fid n b st K → ∃ e s, K e s) {d : Nat} {fid : FuncId} {n : Nat} {b : Code} {st : St} {K : Ex → St → Prop}
    (h : stepLoop X cx calm d fid n b st K) : ∃ e s, K e s :=
  stepLoop_rel (K' := fun _ _ => ()) (rel_some hs hb ha hf hc hl (∃ e s, K e s)) (fun e s hr => ⟨e, s, hr⟩) h
end Ax

namespace Ax
open Go Go.RowKit
def Post (P : Program) (A : Amb) (nt : Nat) (k : Ex → St → Prop) : Exit → Act → World → Prop
  | .normal, a, w => ∃ st, Good P A nt [] st a w ∧ k .normal st
  | .exit id, a, w => ∃ st, Good P A nt [] st a w ∧ k (.exit id) st
  | .ret, a, w => ∃ st, Good P A nt [] st a w ∧ k .ret st
  | _, _, _ => False
def ntmpsOf (P : Program) (fid : FuncId) : Nat := match P.funcs[fid]? with | some fn => fn.ntmps | none => 0
def codeCalm (calm : List Oper → Bool) : Code → Bool
  | .region _ ops draw => !draw || !calm ops.toList || calmB ops.toList
  | .seq a b => codeCalm calm a && codeCalm calm b
  | .cond _ a b => codeCalm calm a && codeCalm calm b
  | .block _ b => codeCalm calm b
  | .loop b => codeCalm calm b
  | .scope b => codeCalm calm b
  | _ => true
def LoopOK (P : Program) (calm : List Oper → Bool) (fid : FuncId) (n : Nat) (b : Code) (st : St) (K : Ex → St → Prop) : Prop :=
  codeCalm calm b = true → ∀ (A : Amb) (a : Act) (w : World), A.bl0.length ≤ n → Good P A (ntmpsOf P fid) [] st a w → ∀ (fr : Frame) (k : List Item) (cs : List Frame),
    ∃ e a' w', Post P A (ntmpsOf P fid) K e a' w' ∧ Arrives P (lone (fr.at a (.code b :: .inLoop b :: k)) cs w) fr k cs e a' w'
structure ProgOK (P : Program) (calm : List Oper → Bool) (srt : FuncId → Nat) : Prop where
  name : NameOK P
  mixed : P.follows .mixedOrders = true
  prim : ∀ f, 0 < srt f → (srt f ≠ 100 → SortPrim P f (srt f)) ∧ (srt f = 100 → InsPrim P f)
  calm : ∀ (f : Nat) fn c, P.funcs[f]? = some fn → fn.body = some c → codeCalm calm c = true
section
variable {P : Program} {A : Amb} {nt : Nat} {X : Rec Prop} {cx : Ctx} {I : FuncId → List AV → Heap → (AV → Heap → Prop) → Prop}
theorem hoist_plain (P : Program) : ∀ (l : List Oper), ∀ o ∈ hoistAll P l, o.isArr = false
  | [], o, h => by simp [hoistAll] at h
  | x :: r, o, h => by
    simp only [hoistAll, List.mem_append] at h
    rcases h with h | h
    · unfold hoisted at h
      split at h
      · simp at h; subst h; rfl
      · split at h <;> (simp at h; subst h; rfl)
      · simp at h
    · exact hoist_plain P r o h
theorem ghostK_sound {l : List Ghost} {st : St} {k : St → Prop} {a : Act} {w : World} (hX : ¬ X.fail) (hg : Good P A nt [] st a w) (hk : ghostK X l st k) : ∃ st', Good P A nt [] st' a w ∧ k st' := by
  obtain ⟨env, heap, defers, bor⟩ := st
  unfold ghostK at hk
  cases l with
  | nil => exact ⟨_, hg, hk⟩
  | cons g r =>
    dsimp only at hk
    split at hk
    · rename_i env' heap' he
      rw [Env.forceV_eq, Heap.force_eq] at hk
      have hlen := good_len hg
      obtain ⟨ha, rfl, U, bl, ob, h⟩ := hg
      obtain ⟨⟨U', bl', ob', h'⟩, _⟩ := ghosts_sound _ h hlen he
      exact ⟨_, ⟨ha, rfl, U', bl', ob', h'⟩, hk⟩
    · exact absurd hk hX
theorem hoisted_none : ∀ {l : List Oper}, hoistAll P l = [] → ∀ (i : Nat) o, l[i]? = some o → hoisted P o = []
  | [], h, i, o, ho => by simp at ho
  | p :: r, h, i, o, ho => by
    simp only [hoistAll, List.append_eq_nil_iff] at h
    cases i with
    | zero => simp at ho; subst ho; exact h.1
    | succ i => exact hoisted_none h.2 i o (by simpa using ho)
theorem dst_of : ∀ {l : List Oper}, dstOk nt l = true → ∀ (i : Nat) o, l[i]? = some o → ∀ s, o.dst = some s → s < nt
  | [], hd, i, o, h => by simp at h
  | p :: r, hd, i, o, h => by
    simp only [dstOk, Bool.and_eq_true] at hd
    intro s hs
    cases i with
    | zero => simp at h; subst h; have := hd.1; rw [hs] at this; simpa [blt_eq] using this
    | succ i => exact dst_of hd.2 i o (by simpa using h) s hs
theorem ready_eq {ops : Array Oper} {listed : Array Bool} {done : List Nat} (hs : listed.size = ops.size) (hl : ∀ i, listed.getD i false = memN i done) : Region.ready .any ops listed = readyN ops.toList done := by
  unfold Region.ready readyN
  have e : ops.toList.length = ops.size := by simp
  rw [e]
  refine List.filter_congr fun i hi => ?_
  have hi : i < ops.size := List.mem_range.1 hi
  have h1 : listed.getD i true = memN i done := by
    rw [← hl i]; simp [Array.getD, hs, hi]
  rw [h1]
  congr 1
  have h2 : ops[i]? = some ops[i] := by simp [hi]
  have h3 : ops.toList[i]? = some ops[i] := by simp [hi]
  rw [h2, h3]
  simp only [Option.map_some, Option.getD_some]
  rw [← Array.all_toList]
  congr 1
  funext e
  rw [hl]
theorem anyAll_sound (hL : Leans P cx X I) (hP : cx.P = P) {fid rid : Nat} {ops : Array Oper} {n : Nat} (hA : A.bl0.length ≤ n) (hd : dstOk nt ops.toList = true) (hno : hoistAll P ops.toList = []) {k : St → Prop} {Q : Exit → Act → World → Prop}
    (hQ : ∀ st a w, Good P A nt [] st a w → k st → Q .normal a w) : ∀ (fuel : Nat) (done : List Nat) (listed : Array Bool) (st : St) (a : Act) (w : World),
    listed.size = ops.size → (∀ i, listed.getD i false = memN i done) → True → Good P A nt [] st a w → denAny X cx I fid rid n ops.toList fuel done st k → wpAny P .any ops Q fuel listed a w := by
  intro fuel
  induction fuel with
  | zero =>
    intro done listed st a w hs hl _ hg hk
    simp only [denAny] at hk
    unfold wpAny
    rw [ready_eq hs hl]
    split at hk
    · rename_i he; exact ⟨he, hQ _ _ _ hg hk⟩
    · exact absurd hk hL.fail
  | succ fuel ih =>
    intro done listed st a w hs hl _ hg hk
    have one : ∀ i, i ∈ readyN ops.toList done → denOne X cx I fid rid n ops.toList i st (fun st => denAny X cx I fid rid n ops.toList fuel (i :: done) st k) → wpOp P ops Q i (wpAny P .any ops Q fuel (listed.setIfInBounds i true)) a w := by
      intro i hi hk
      have hi : i < ops.size := by
        have := (List.mem_filter.1 hi).1
        simpa using this
      obtain ⟨env, heap, defers, bor⟩ := st
      unfold denOne at hk
      have h3 : ops.toList[i]? = some ops[i] := by simp [hi]
      rw [h3] at hk
      dsimp only at hk
      cases hgd : ops[i].guard with
      | some q => rw [hgd] at hk; exact absurd hk hL.fail
      | none =>
        rw [hgd] at hk
        dsimp only at hk
        have hho := hoisted_none hno i _ h3
        have hop := denOp_sound (Q := Q) hL hP (pend' := []) hg (by rw [hho]; intro p hp; simp [waits] at hp) (fun p hp => by simp at hp) hA (good_len hg) (dst_of hd i _ h3) hk
        refine wpOp_mono (K := NextIs P A nt [] fun st => denAny X cx I fid rid n ops.toList fuel (i :: done) st k) (fun a' w' => ?_) ?_
        · rintro ⟨st', hg', hk'⟩
          refine ih (i :: done) _ st' a' w' (by simp [hs]) (fun j => ?_) trivial hg' hk'
          rw [Array.getD_eq_getD_getElem?, Array.getElem?_setIfInBounds]
          simp only [memN, beq_eq]
          by_cases e : i = j
          · subst e; simp [hs, hi]
          · rw [if_neg e, ← Array.getD_eq_getD_getElem?, hl j]; simp [e]
        · unfold wpOp
          have h2 : ops[i]? = some ops[i] := by simp [hi]
          rw [h2]
          dsimp only
          rw [if_pos (by simp [Region.wanted, hgd])]
          exact .inl hop
    unfold wpAny
    rw [ready_eq hs hl]
    simp only [denAny] at hk
    split at hk
    · rename_i he
      rw [he]
      exact ⟨fun _ => hQ _ _ _ hg hk, fun i hi => by simp at hi⟩
    · rename_i i he
      refine ⟨fun h => (by rw [he] at h; cases h), fun j hj => ?_⟩
      have : j = i := by rw [he] at hj; simpa using hj
      subst this
      exact one _ hj hk
    · rename_i l h1 h2
      rw [hL.all] at hk
      refine ⟨fun h => absurd h h1, fun j hj => ?_⟩
      obtain ⟨q, hq⟩ := List.getElem?_of_mem hj
      have hlt := (List.getElem?_eq_some_iff.1 hq).1
      have := hk q hlt
      simp only [List.getD_eq_getElem?_getD, hq, Option.getD_some] at this
      exact one _ hj this
theorem den_sound (hL : Leans P cx X I) (hX : Calm X) (hP : cx.P = P) {calm : List Oper → Bool} (hM : P.follows .mixedOrders = true) {d : Nat} {fid : FuncId} (hnt : nt = ntmpsOf P fid)
    (hl : ∀ n b st K, X.loop d fid n b st K → LoopOK P calm fid n b st K) : ∀ (c : Code), codeCalm calm c = true → ∀ (st : St) (k : Ex → St → Prop) (a : Act) (w : World),
    Good P A nt [] st a w → den X cx I calm nt d fid c st k → c.wp P (Post P A nt k) a w := by
  intro c
  induction c with
  | skip => intro hcc st k a w hg hk; exact wp_skip ⟨st, hg, by simpa only [den] using hk⟩
  | label l => intro hcc st k a w hg hk; exact wp_label ⟨st, hg, by simpa only [den] using hk⟩
  | region id ops draw =>
    rintro hcc st0 k a w hg0 hk
    simp only [den] at hk
    rcases cond_elim hk with ⟨hc, hk⟩ | ⟨_, hk⟩
    · rw [Bool.and_eq_true] at hc
      obtain ⟨hdr, hd⟩ := hc
      obtain ⟨⟨env, heap, defers, bor⟩, hg, hk⟩ := ghostK_sound hL.fail hg0 hk
      dsimp only at hk
      rw [forceNat_eq, Heap.force_eq] at hk
      cases draw with
      | true =>
        have hcalm : calmB ops.toList = true := by
          have h1 : calm ops.toList = true := by simpa using hdr
          simpa [codeCalm, h1] using hcc
        have hlen := good_len hg
        obtain ⟨ha, rfl, U, bl, ob, h⟩ := hg
        have h' := (h.hoist (hoistAll P ops.toList) (hoist_plain P ops.toList)).ext (drew_ext w (w.drawn + 1) U (Nat.le_succ _))
        rw [List.nil_append, ← pendT_tags ops.toList 0] at h'
        rw [hP] at hk
        have hcl : Closed fun st => ∃ st0, EqSt st0 st ∧ k .normal st0 := fun a b hab ⟨s0, h1, h2⟩ => ⟨s0, h1.trans hab, h2⟩
        have hk' := denOps_steps hX (k := fun st => ∃ st0, EqSt st0 st ∧ k .normal st0) hcl (fun st h => ⟨st, EqSt.refl st, h⟩) _ _ _ _ ⟨[], rfl⟩ hk
        rw [hP] at hk'
        have hlt : left (tags P 0 heap.length ops.toList) (Array.replicate ops.size false) = tags P 0 heap.length ops.toList := by
          refine List.filter_eq_self.2 fun t ht => ?_
          obtain ⟨_, t2, _⟩ := tags_mem ht
          have := (List.getElem?_eq_some_iff.1 t2).1
          simp at this
          simp [Array.getD, this]
        refine wp_region_any hM (any_sound hL hX hP (n := heap.length) hcalm hlen hd hcl ?_ ops.size (Array.replicate ops.size false) ⟨env, heap ++ hoistAll P ops.toList, [], bor⟩ a _ (by simp) ?_ ?_ (by rw [hlt]; exact ⟨ha, rfl, U, _, ob, h'⟩) (by rw [hlt]; exact hk'))
        · rintro ⟨env1, heap1, defers1, bor1⟩ a w ⟨ha, hdf, U, bl, ob, hr⟩ ⟨⟨env0, heap0, defers0, bor0⟩, ⟨e1, e2, e3, e4⟩, hk0⟩
          dsimp only at e1 e2 e3 e4
          subst e2 e3 e4
          exact ⟨_, ⟨ha, hdf, U, bl, ob, hr.envEq e1⟩, hk0⟩
        · intro i hi
          simp [Array.getD] at hi
        · rw [hlt]
          have : ∀ (l : List Oper) ix base, (tags P ix base l).length = l.length := by
            intro l
            induction l with
            | nil => intro ix base; rfl
            | cons o r ih => intro ix base; simp [tags, ih]
          rw [this]; simp
      | false =>
      have hlen := good_len hg
      obtain ⟨ha, rfl, U, bl, ob, h⟩ := hg
      have h' := h.hoist (hoistAll P ops.toList) (hoist_plain P ops.toList)
      rw [List.nil_append] at h'
      rw [hP] at hk
      refine wp_region_list (denOps_sound hL hP (fun st a w hg hk => ⟨st, hg, hk⟩) _ 0 heap.length _ a w ⟨ha, rfl, U, _, ob, h'⟩ hlen hd hk)
    · rcases cond_elim hk with ⟨hc, hk2⟩ | ⟨_, hk2⟩
      · simp only [Bool.and_eq_true] at hc
        obtain ⟨⟨rfl, hd⟩, hno⟩ := hc
        obtain ⟨⟨env, heap, defers, bor⟩, hg, hk⟩ := ghostK_sound hL.fail hg0 hk2
        dsimp only at hk
        rw [forceNat_eq] at hk
        have hlen := good_len hg
        obtain ⟨ha, rfl, U, bl, ob, h⟩ := hg
        have hno : hoistAll P ops.toList = [] := by
          rw [hP] at hno
          unfold noHoist at hno
          split at hno
          · rename_i h; exact h
          · cases hno
        refine wp_region_any hM (anyAll_sound hL hP (n := heap.length) hlen hd hno (fun st a w hg hk => ⟨st, hg, hk⟩) ops.size [] (Array.replicate ops.size false) ⟨env, heap, [], bor⟩ a _ (by simp) (fun i => ?_) (by simp) ⟨ha, rfl, _, bl, ob, h.ext (drew_ext w (w.drawn + 1) U (Nat.le_succ _))⟩ (by simpa using hk))
        simp only [Array.getD_eq_getD_getElem?, Array.getElem?_replicate, memN]
        split <;> rfl
      · exact absurd hk2 hL.fail
  | seq x y ihx ihy =>
    intro hcc st k a w hg hk
    simp only [den] at hk
    refine wp_seq (wp_mono (ihx (by simp only [codeCalm, Bool.and_eq_true] at hcc; exact hcc.1) st _ a w hg hk) ?_)
    intro e a w hp
    cases e with
    | normal => obtain ⟨st', hg', hk'⟩ := hp; exact ihy (by simp only [codeCalm, Bool.and_eq_true] at hcc; exact hcc.2) st' k a w hg' hk'
    | exit id => exact hp
    | ret => exact hp
    | goto l => exact hp
    | panic ch => exact hp
    | outgrown => exact hp
  | cond c x y ihx ihy =>
    rintro hcc ⟨env, heap, defers, bor⟩ k a w hg hk
    simp only [den] at hk
    obtain ⟨ha, rfl, U, bl, ob, h⟩ := hg
    split at hk
    · rename_i b hb
      have hr := evo_at h 0 c
      rw [hP] at hb
      rw [hb] at hr
      rw [branch_eq hL.br] at hk
      have hs : ∀ s, condSlot c = some s → env.get s = .bool b := by
        intro s hs
        cases c <;> simp [condSlot] at hs
        subst hs; exact hb
      refine wp_cond (rep_bool' hr) ?_
      cases b
      · exact ihy (by simp only [codeCalm, Bool.and_eq_true] at hcc; exact hcc.2) _ k a w ⟨ha, rfl, U, bl, ob, h.settle hs⟩ hk
      · exact ihx (by simp only [codeCalm, Bool.and_eq_true] at hcc; exact hcc.1) _ k a w ⟨ha, rfl, U, bl, ob, h.settle hs⟩ hk
    · exact absurd hk hL.fail
  | block id b ih =>
    intro hcc st k a w hg hk
    simp only [den] at hk
    refine wp_block (wp_mono (ih hcc st _ a w hg hk) ?_)
    intro e a w hp
    cases e with
    | normal => exact hp
    | exit id' =>
      obtain ⟨st', hg', hk'⟩ := hp
      simp only [beq_eq] at hk'
      by_cases e : id' = id
      · simp only [Exit.inBlock, e, if_true]
        simp only [e, decide_true, cond_true] at hk'
        exact ⟨st', hg', hk'⟩
      · simp only [Exit.inBlock, if_neg e]
        simp only [e, decide_false, cond_false] at hk'
        exact ⟨st', hg', hk'⟩
    | ret => exact hp
    | goto l => exact hp
    | panic ch => exact hp
    | outgrown => exact hp
  | loop b ih =>
    intro hcc st0 k a w hg0 hk
    simp only [den, forceNat_eq] at hk
    obtain ⟨⟨env, heap, defers, bor⟩, hg, hk⟩ := ghostK_sound hL.fail hg0 hk
    obtain ⟨st', hg', hk'⟩ := cleanK_sound hL.fail hg (good_len hg) hk
    intro fr kk cs
    subst hnt
    obtain ⟨e, a', w', hp, harr⟩ := hl _ _ _ _ hk' hcc A a w (good_len hg) hg' fr kk cs
    exact ⟨e, a', w', hp, .of_steps (.one step_loop) harr⟩
  | rangeFunc f ps x y ihx ihy => intro hcc st k a w hg hk; exact absurd hk (by simp only [den]; exact hL.fail)
  | exit id => intro hcc st k a w hg hk; exact wp_exit ⟨st, hg, by simpa only [den] using hk⟩
  | scope b ih =>
    intro hcc st k a w hg hk
    simp only [den] at hk
    refine wp_scope_straight (wp_mono (ih hcc st _ a w hg hk) ?_)
    intro e a w hp
    cases e with
    | goto l => exact hp
    | _ => exact hp
  | goto l => intro hcc st k a w hg hk; exact absurd hk (by simp only [den]; exact hL.fail)
  | ret => intro hcc st k a w hg hk; exact wp_ret ⟨st, hg, by simpa only [den] using hk⟩
  | refuse y => intro hcc st k a w hg hk; exact absurd hk (by simp only [den]; exact hL.fail)
theorem stepLoop_sound (hL : Leans P cx X I) (hX : Calm X) (hP : cx.P = P) {calm : List Oper → Bool} (hM : P.follows .mixedOrders = true) {d : Nat} {fid : FuncId} (hl : ∀ n b st K, X.loop d fid n b st K → LoopOK P calm fid n b st K)
    {n : Nat} {b : Code} {st : St} {K : Ex → St → Prop} (h : den X cx I calm (ntmpsOf P fid) d fid b st (loopNext X cx d fid n b K)) : LoopOK P calm fid n b st K := by
  intro hcc A a w hA hg fr k cs
  obtain ⟨e, a₁, w₁, hq, harr⟩ := den_sound hL hX hP hM rfl hl b hcc st _ a w hg h fr (.inLoop b :: k) cs
  cases e with
  | normal =>
    obtain ⟨st', hg', hk'⟩ := hq
    obtain ⟨st'', hg'', hk''⟩ := cleanK_sound hL.fail hg' hA (by unfold loopNext at hk'; exact hk')
    obtain ⟨e₂, a₂, w₂, hq₂, harr₂⟩ := hl _ _ _ _ hk'' hcc A a₁ w₁ hA hg'' fr k cs
    exact ⟨e₂, a₂, w₂, hq₂, .of_steps (Steps.trans harr (.one step_inLoop)) harr₂⟩
  | exit id =>
    obtain ⟨st', hg', hk'⟩ := hq
    obtain ⟨st'', hg'', hk''⟩ := cleanK_sound hL.fail hg' hA (by unfold loopNext at hk'; exact hk')
    exact ⟨.exit id, a₁, w₁, ⟨st'', hg'', hk''⟩, .pass (x := .inLoop b) rfl (fun _ _ => .inl (by simp)) harr⟩
  | ret =>
    obtain ⟨st', hg', hk'⟩ := hq
    obtain ⟨st'', hg'', hk''⟩ := cleanK_sound hL.fail hg' hA (by unfold loopNext at hk'; exact hk')
    exact ⟨.ret, a₁, w₁, ⟨st'', hg'', hk''⟩, .pass (x := .inLoop b) rfl (fun _ _ => .inl (by simp)) harr⟩
  | goto l => exact hq.elim
  | panic ch => exact hq.elim
  | outgrown => exact hq.elim
theorem params_get {R : Type} : ∀ (args : List AV) (t : Nat) (k : Env → R), ∃ env, params t args k = k env ∧ ∀ s, env.get s = if t ≤ s then ((args[s - t]?).map AV.strip).getD .undef else .undef
  | [], t, k => ⟨[], rfl, fun s => by simp [Env.get]⟩
  | v :: r, t, k => by
    obtain ⟨env, h1, h2⟩ := params_get r (t + 1) (fun r => k ((t, v.strip) :: r))
    refine ⟨(t, v.strip) :: env, by simp only [params, AV.force_eq]; exact h1, fun s => ?_⟩
    simp only [Env.get, beq_eq]
    by_cases e : t = s
    · subst e; simp
    · simp only [e, decide_false, cond_false, h2 s]
      by_cases hl : t ≤ s
      · have : s - t = (s - (t + 1)) + 1 := by omega
        rw [if_pos (by omega), if_pos hl, this]; simp
      · rw [if_neg (by omega), if_neg hl]
def topR : List ResultVar → Nat
  | [] => 0
  | .tmp t :: r => max (t + 1) (topR r)
  | .cell a _ :: r => max (a + 1) (topR r)
def runR (tm : Array Value) (rs : List ResultVar) : Sem (List Value) := rs.mapM (fun
      | .tmp t => pure (tm.getD t undef)
      | .cell b t => do loadVar t (← asAddr (tm.getD b undef)) : ResultVar → Sem Value)
theorem runR_eq {tm tm' : Array Value} : ∀ {rs : List ResultVar}, (∀ t, t < topR rs → tm.getD t undef = tm'.getD t undef) → runR tm rs = runR tm' rs
  | [], h => rfl
  | .tmp t :: r, h => by
    have ih := runR_eq (rs := r) fun s hs => h s (by simp only [topR]; omega)
    unfold runR at ih ⊢
    simp only [List.mapM_cons, h t (by simp only [topR]; omega), ih]
  | .cell a t :: r, h => by
    have ih := runR_eq (rs := r) fun s hs => h s (by simp only [topR]; omega)
    unfold runR at ih ⊢
    simp only [List.mapM_cons, h a (by simp only [topR]; omega), ih]
theorem resultsOf_eq {cx : Ctx} {env env' : Env} : ∀ {rs : List ResultVar} {heap : Heap}, (∀ t, t < topR rs → env.get t = env'.get t) → resultsOf cx env heap rs = resultsOf cx env' heap rs
  | [], heap, h => rfl
  | .tmp t :: r, heap, h => by
    have ih := resultsOf_eq (cx := cx) (rs := r) (heap := heap) fun s hs => h s (by simp only [topR]; omega)
    simp only [resultsOf, h t (by simp only [topR]; omega), ih]
  | .cell a t :: r, heap, h => by
    have ih := fun heap => resultsOf_eq (cx := cx) (rs := r) (heap := heap) fun s hs => h s (by simp only [topR]; omega)
    simp only [resultsOf, h a (by simp only [topR]; omega), ih]
theorem take_forb {cx : Ctx} {heap heap' : Heap} {bl : Blocks} {t : TypeId} {p v : AV} (h : takeAV cx heap t p = some (v, heap')) (b : Nat) (hf : forb A bl heap' b) : forb A bl heap b := by
  unfold takeAV at h
  split at h
  · rename_i id off
    split at h
    · rename_i cs hg
      split at h
      · rename_i v0 hpart
        cases hc : (!tyAgg cx.P t && v0.scal) with
        | false => rw [hc] at h; simp at h
        | true =>
          rw [hc] at h
          simp only [cond_true, Option.some.injEq, Prod.mk.injEq] at h
          obtain ⟨rfl, rfl⟩ := h
          rcases hf with hf | ⟨j, hj, hd⟩
          · exact .inl hf
          · refine .inr ⟨j, hj, ?_⟩
            rw [heap_get_set] at hd
            by_cases e : id = j ∧ j < heap.length
            · rw [← e.1, hg]; simp
            · rwa [if_neg e] at hd
      · simp at h
    · simp at h
  · rename_i id sz i off
    split at h
    · rename_i sz' n g hg
      cases hc0 : (Nat.beq sz sz' && Nat.blt i n) with
      | false => rw [hc0] at h; simp at h
      | true =>
        rw [hc0] at h
        simp only [cond_true] at h
        split at h
        · rename_i v0 hpart
          cases hc : (!tyAgg cx.P t && v0.scal) with
          | false => rw [hc] at h; simp at h
          | true =>
            rw [hc] at h
            simp only [cond_true, Option.some.injEq, Prod.mk.injEq] at h
            obtain ⟨rfl, rfl⟩ := h
            rcases hf with hf | ⟨j, hj, hd⟩
            · exact .inl hf
            · refine .inr ⟨j, hj, ?_⟩
              rw [heap_get_set] at hd
              by_cases e : id = j ∧ j < heap.length
              · rw [← e.1, hg]; simp
              · rwa [if_neg e] at hd
        · simp at h
    · simp at h
  · simp at h
structure Results (P : Program) (A : Amb) (w : World) (U : Nat → Nat) (bl : Blocks) (ob : Loc → Option Nat) (heap : Heap) (rs : List ResultVar) (n : Nat) (sl : Nat → Option Nat) (vs : List AV) (xs : List Value) : Prop where
  len : vs.length = rs.length
  len' : xs.length = rs.length
  rep : ∀ (i : Nat) v x, vs[i]? = some v → xs[i]? = some x → Rep w (forb A bl heap) U bl v x
  own : ∀ (i : Nat) v x, vs[i]? = some v → xs[i]? = some x → Bare v ∨ ∃ t, sl i = some t ∧ OwnAt w (forb A bl heap) U A.B (fun p => ob (.env t p)) v x
  inj : ∀ (i j t : Nat), sl i = some t → sl j = some t → i = j
  from' : ∀ (i t : Nat), sl i = some t → (∃ j : Nat, rs[j]? = some (.tmp t) ∧ i = j) ∨ n ≤ t
theorem usedT_in {t : Nat} : ∀ {rs : List ResultVar} {j : Nat}, rs[j]? = some (.tmp t) → usedT t rs = true
  | [], j, h => by simp at h
  | .tmp s :: r, 0, h => by simp at h; subst h; simp [usedT, beq_eq]
  | .cell a u :: r, 0, h => by simp at h
  | .tmp s :: r, j + 1, h => by simp [usedT, usedT_in (rs := r) (j := j) (by simpa using h)]
  | .cell a u :: r, j + 1, h => by simpa [usedT] using usedT_in (rs := r) (j := j) (by simpa using h)
theorem topR_in {t : Nat} : ∀ {rs : List ResultVar} {j : Nat}, rs[j]? = some (.tmp t) → t < topR rs
  | [], j, h => by simp at h
  | .tmp s :: r, 0, h => by simp at h; subst h; simp only [topR]; omega
  | .cell a u :: r, 0, h => by simp at h
  | .tmp s :: r, j + 1, h => by have := topR_in (rs := r) (j := j) (by simpa using h); simp only [topR]; omega
  | .cell a u :: r, j + 1, h => by have := topR_in (rs := r) (j := j) (by simpa using h); simp only [topR]; omega
theorem Rel.push {heap : Heap} {bor} {env : Env} {tm : Array Value} {w : World} {U : Nat → Nat} {bl : Blocks} {ob : Loc → Option Nat} {pend} (h : Rel P A nt pend env heap bor tm w U bl ob) : Rel P A (tm.size + 1) pend env heap bor (tm.push undef) w U bl ob := by
  have hg : ∀ t, (tm.push undef).getD t undef = tm.getD t undef := by
    intro t
    simp only [Array.getD_eq_getD_getElem?, Array.getElem?_push]
    by_cases e : t = tm.size
    · subst e; simp
    · rw [if_neg e]
  exact { h with size := by simp, env := fun t => by rw [hg t]; exact h.env t }
theorem resultsOf_sound {cx : Ctx} (hP : cx.P = P) {bor} {w : World} {U : Nat → Nat} {bl : Blocks} {pend} :
    ∀ (rs : List ResultVar) (env : Env) (heap heap' : Heap) (tm : Array Value) (ob : Loc → Option Nat) (vs : List AV), Rel P A tm.size pend env heap bor tm w U bl ob → topR rs ≤ tm.size → resultsOf cx env heap rs = some (vs, heap') →
    ∃ xs env' tm' ob' sl, (runR tm rs).run P w = .ok xs w ∧ Rel P A tm'.size pend env' heap' bor tm' w U bl ob' ∧ (∀ t, t < tm.size → env'.get t = env.get t ∧ tm'.getD t undef = tm.getD t undef) ∧ (∀ b, forb A bl heap' b → forb A bl heap b) ∧ Results P A w U bl ob' heap' rs tm.size sl vs xs
  | [], env, heap, heap', tm, ob, vs, h, ht, hr => by
    simp only [resultsOf, Option.some.injEq, Prod.mk.injEq] at hr
    obtain ⟨rfl, rfl⟩ := hr
    exact ⟨[], env, tm, ob, fun _ => none, by simp [runR], h, fun t _ => ⟨rfl, rfl⟩, fun b hb => hb, ⟨rfl, rfl, fun i v x hv => by simp at hv, fun i v x hv => by simp at hv, fun i j t hi => by simp at hi, fun i t hi => by simp at hi⟩⟩
  | .tmp t :: r, env, heap, heap', tm, ob, vs, h, ht, hr => by
    simp only [topR] at ht
    simp only [resultsOf] at hr
    split at hr
    · rename_i vs' h1' hr'
      simp only [Option.some.injEq, Prod.mk.injEq] at hr
      obtain ⟨rfl, rfl⟩ := hr
      obtain ⟨xs, env', tm', ob', sl, h1, h2, h3, h4, h5⟩ := resultsOf_sound hP r env heap _ tm ob vs' h (by omega) hr'
      have hlt : t < tm.size := Nat.lt_of_lt_of_le (Nat.lt_of_lt_of_le (Nat.lt_succ_self t) (Nat.le_max_left _ _)) ht
      have he := h2.env t
      rw [(h3 t hlt).1, (h3 t hlt).2] at he
      refine ⟨tm.getD t undef :: xs, env', tm', ob', fun i => match i with | 0 => if usedT t r then none else some t | i + 1 => sl i, ?_, h2, h3, h4, ⟨by simp [h5.len], by simp [h5.len'], fun i v x hv hx => ?_, fun i v x hv hx => ?_, fun i j s hi hj => ?_, fun i s hi => ?_⟩⟩
      · unfold runR at h1 ⊢
        simp only [List.mapM_cons, Sem.run_bind, Sem.run_pure, Result.andThen_ok] at h1 ⊢
        rw [h1]; rfl
      · cases i with
        | zero =>
          simp only [List.getElem?_cons_zero, Option.some.injEq] at hv hx
          subst hv hx
          cases usedT t r
          · exact he.1
          · exact he.1.strip
        | succ i => exact h5.rep i v x (by simpa using hv) (by simpa using hx)
      · cases i with
        | zero =>
          simp only [List.getElem?_cons_zero, Option.some.injEq] at hv hx
          subst hv hx
          cases hu : usedT t r
          · exact .inr ⟨t, by simp, he.2⟩
          · exact .inl (strip_bare _)
        | succ i => exact h5.own i v x (by simpa using hv) (by simpa using hx)
      · have key : ∀ i, sl i = some t → usedT t r = true := by
          intro i hi
          rcases h5.from' i t hi with ⟨j, hj, _⟩ | hn
          · exact usedT_in hj
          · omega
        cases i with
        | zero =>
          cases j with
          | zero => rfl
          | succ j =>
            dsimp only at hi hj
            split at hi
            · cases hi
            · rename_i hu; cases hi; exact absurd (key j hj) hu
        | succ i =>
          cases j with
          | zero =>
            dsimp only at hi hj
            split at hj
            · cases hj
            · rename_i hu; cases hj; exact absurd (key i hi) hu
          | succ j => exact congrArg (· + 1) (h5.inj i j s hi hj)
      · cases i with
        | zero =>
          dsimp only at hi
          split at hi
          · cases hi
          · cases hi; exact .inl ⟨0, rfl, rfl⟩
        | succ i =>
          rcases h5.from' i s hi with ⟨j, hj, rfl⟩ | hn
          · exact .inl ⟨i + 1, by simpa using hj, rfl⟩
          · exact .inr hn
    · simp at hr
  | .cell b t :: r, env, heap, heap', tm, ob, vs, h, ht, hr => by
    simp only [topR] at ht
    simp only [resultsOf] at hr
    have toRun : ∀ {x0 : Value}, (Instr.loadAt t (tm.getD b undef)).run P w = .ok x0 w → (do loadVar t (← asAddr (tm.getD b undef)) : Sem Value).run P w = .ok x0 w := by
      intro x0 hx0
      generalize tm.getD b undef = y at hx0
      simp only [Instr.loadAt, Sem.run_bind] at hx0 ⊢
      cases y with
      | pointer p =>
        cases p with
        | none => simp [Instr.sureAddr, stuck] at hx0
        | some p => simpa [Instr.sureAddr, asAddr] using hx0
      | _ => simp [Instr.sureAddr, stuck] at hx0
    split at hr
    · rename_i v0 heap1 htk
      split at hr
      · rename_i vs' h1' hr'
        simp only [Option.some.injEq, Prod.mk.injEq] at hr
        obtain ⟨rfl, rfl⟩ := hr
        have hp := h.push
        obtain ⟨y, hy, ob1, h1⟩ := take_sound (d := some tm.size) hP hp htk (h.env b).1 (by rintro s ⟨⟩; exact Nat.lt_succ_self _)
        have htm1 : ∀ s, s < tm.size → (putO (tm.push undef) (some tm.size) y).getD s undef = tm.getD s undef := by
          intro s hs
          simp [putO, Array.getD_eq_getD_getElem?, Array.getElem?_setIfInBounds, Array.getElem?_push, show ¬ tm.size = s by omega, show ¬ s = tm.size by omega]
        have htmn : (putO (tm.push undef) (some tm.size) y).getD tm.size undef = y := by
          simp [putO, Array.getD_eq_getD_getElem?]
        have hsz : (putO (tm.push undef) (some tm.size) y).size = tm.size + 1 := by simp [putO]
        have henv1 : ∀ s, s < tm.size → (setO env (some tm.size) v0).get s = env.get s := by
          intro s hs
          simp only [setO]; rw [get_set, if_neg (by omega)]
        have henvn : (setO env (some tm.size) v0).get tm.size = v0 := by simp only [setO]; rw [get_set]; simp
        rw [resultsOf_eq (env' := setO env (some tm.size) v0) fun s hs => (henv1 s (by omega)).symm] at hr'
        obtain ⟨xs, env', tm', ob', sl, k1, k2, k3, k4, k5⟩ := resultsOf_sound hP r (setO env (some tm.size) v0) heap1 _ _ ob1 vs' (by rw [hsz]; exact h1) (by rw [hsz]; omega) hr'
        rw [runR_eq (tm' := tm) fun s hs => htm1 s (by omega)] at k1
        rw [hsz] at k3 k5
        have he := k2.env tm.size
        rw [(k3 _ (Nat.lt_succ_self _)).1, (k3 _ (Nat.lt_succ_self _)).2, henvn, htmn] at he
        refine ⟨y :: xs, env', tm', ob', fun i => match i with | 0 => some tm.size | i + 1 => sl i, ?_, k2, fun s hs => ⟨(k3 s (by omega)).1.trans (henv1 s hs), (k3 s (by omega)).2.trans (htm1 s hs)⟩, fun c hc => take_forb htk c (k4 c hc), ⟨by simp [k5.len], by simp [k5.len'], fun i v x hv hx => ?_, fun i v x hv hx => ?_, fun i j s hi hj => ?_, fun i s hi => ?_⟩⟩
        · have hx0' := toRun hy
          unfold runR at k1 ⊢
          simp only [List.mapM_cons, Sem.run_bind, Sem.run_pure, Result.andThen_ok] at k1 hx0' ⊢
          rw [hx0']; simp only [Result.andThen_ok]
          rw [k1]; rfl
        · cases i with
          | zero =>
            simp only [List.getElem?_cons_zero, Option.some.injEq] at hv hx
            subst hv hx
            exact he.1
          | succ i => exact k5.rep i v x (by simpa using hv) (by simpa using hx)
        · cases i with
          | zero =>
            simp only [List.getElem?_cons_zero, Option.some.injEq] at hv hx
            subst hv hx
            exact .inr ⟨_, rfl, he.2⟩
          | succ i => exact k5.own i v x (by simpa using hv) (by simpa using hx)
        · have key : ∀ i, sl i ≠ some tm.size := by
            intro i hi
            rcases k5.from' i _ hi with ⟨j, hj, _⟩ | hn
            · have := topR_in hj; omega
            · omega
          cases i with
          | zero =>
            cases j with
            | zero => rfl
            | succ j => cases hi; exact absurd hj (key j)
          | succ i =>
            cases j with
            | zero => cases hj; exact absurd hi (key i)
            | succ j => exact congrArg (· + 1) (k5.inj i j s hi hj)
        · cases i with
          | zero => cases hi; exact .inr (Nat.le_refl _)
          | succ i =>
            rcases k5.from' i s hi with ⟨j, hj, rfl⟩ | hn
            · exact .inl ⟨i + 1, by simpa using hj, rfl⟩
            · exact .inr (by omega)
      · simp at hr
    · split at hr
      · rename_i v0 vs' h1' hl hr'
        simp only [Option.some.injEq, Prod.mk.injEq] at hr
        obtain ⟨rfl, rfl⟩ := hr
        rw [hP] at hl
        obtain ⟨xs, env', tm', ob', sl, k1, k2, k3, k4, k5⟩ := resultsOf_sound hP r env heap _ tm ob vs' h (by omega) hr'
        obtain ⟨x0, hx0, hv0⟩ := loadAV_sound hl (h.env b).1 h.objsOK
        refine ⟨x0 :: xs, env', tm', ob', fun i => match i with | 0 => none | i + 1 => sl i, ?_, k2, k3, k4, ⟨by simp [k5.len], by simp [k5.len'], fun i v x hv hx => ?_, fun i v x hv hx => ?_, fun i j s hi hj => ?_, fun i s hi => ?_⟩⟩
        · have hx0' := toRun hx0
          unfold runR at k1 ⊢
          simp only [List.mapM_cons, Sem.run_bind, Sem.run_pure, Result.andThen_ok] at k1 hx0' ⊢
          rw [hx0']; simp only [Result.andThen_ok]
          rw [k1]; rfl
        · cases i with
          | zero =>
            simp only [List.getElem?_cons_zero, Option.some.injEq] at hv hx
            subst hv hx
            exact hv0.strip.mono ⟨fun c _ hf => .inl (k4 c hf), fun c _ _ => ⟨Nat.le_refl _, fun _ _ => rfl⟩, fun _ hb => ⟨hb, Nat.le_refl _⟩⟩ (BlLe.refl _)
          | succ i => exact k5.rep i v x (by simpa using hv) (by simpa using hx)
        · cases i with
          | zero =>
            simp only [List.getElem?_cons_zero, Option.some.injEq] at hv hx
            subst hv hx
            exact .inl (strip_bare _)
          | succ i => exact k5.own i v x (by simpa using hv) (by simpa using hx)
        · cases i with
          | zero => cases hi
          | succ i =>
            cases j with
            | zero => cases hj
            | succ j => exact congrArg (· + 1) (k5.inj i j s hi hj)
        · cases i with
          | zero => cases hi
          | succ i =>
            rcases k5.from' i s hi with ⟨j, hj, rfl⟩ | hn
            · exact .inl ⟨i + 1, by simpa using hj, rfl⟩
            · exact .inr hn
      · simp at hr
end
end Ax

namespace Ax
open Go Go.RowKit
def ownR (ob : Loc → Option Nat) (sl : Nat → Option Nat) : List Nat → Option Nat
  | i :: q => match sl i with
    | some t => ob (.env t q)
    | none => none
  | [] => none
theorem ownR_of {ob : Loc → Option Nat} {sl : Nat → Option Nat} {p : List Nat} {b : Nat} (h : ownR ob sl p = some b) : ∃ i q t, p = i :: q ∧ sl i = some t ∧ ob (.env t q) = some b := by
  cases p with
  | nil => simp [ownR] at h
  | cons i q =>
    simp only [ownR] at h
    split at h
    · rename_i t ht; exact ⟨i, q, t, rfl, ht, h⟩
    · simp at h
theorem ownR_inj {ob : Loc → Option Nat} (hob : ∀ l m b, ob l = some b → ob m = some b → l = m) {sl : Nat → Option Nat} (hsl : ∀ (i j t : Nat), sl i = some t → sl j = some t → i = j) {p q : List Nat} {b : Nat} (h : ownR ob sl p = some b) (k : ownR ob sl q = some b) : p = q := by
  obtain ⟨i, p', t, rfl, h1, h3⟩ := ownR_of h
  obtain ⟨j, q', s, rfl, k1, k3⟩ := ownR_of k
  have := hob _ _ _ h3 k3
  injection this with e1 e2
  subst e1 e2
  rw [hsl i j t h1 k1]
section
variable {P : Program} {A : Amb} {nt : Nat} {X : Rec Prop} {cx : Ctx} {I : FuncId → List AV → Heap → (AV → Heap → Prop) → Prop}
theorem Rel.forget {env : Env} {heap : Heap} {bor} {tm : Array Value} {w : World} {U : Nat → Nat} {bl : Blocks} {ob : Loc → Option Nat} {pend} (h : Rel P A nt pend env heap bor tm w U bl ob) :
    Rel P A 0 [] [] heap bor #[] w U bl (fun l => match l with | .env _ _ => none | l => ob l) where
  size := Nat.zero_le _
  env t := ⟨.undef, .bare (bare_of rfl)⟩
  len := h.len
  objs id b hid := h.objs id b hid
  inj := h.inj
  base := h.base
  obinj l m b hl hm := h.obinj l m b (by cases l <;> first | exact hl | simp at hl) (by cases m <;> first | exact hm | simp at hm)
  obok l b hl := h.obok l b (by cases l <;> first | exact hl | simp at hl)
  since := h.since
  f0 := h.f0
  hB := h.hB
  hG := h.hG
  pend p hp := by simp at hp
  fro := h.fro
theorem Rel.pad {heap : Heap} {bor} {env : Env} {tm : Array Value} {w : World} {U : Nat → Nat} {bl : Blocks} {ob : Loc → Option Nat} {pend} (h : Rel P A nt pend env heap bor tm w U bl ob) (n : Nat) : Rel P A (tm ++ Array.replicate n undef).size pend env heap bor (tm ++ Array.replicate n undef) w U bl ob := by
  have hg : ∀ t, (tm ++ Array.replicate n undef).getD t undef = tm.getD t undef := by
    intro t
    simp only [Array.getD_eq_getD_getElem?]
    by_cases e : t < tm.size
    · rw [Array.getElem?_append_left e]
    · rw [Array.getElem?_append_right (by omega), Array.getElem?_eq_none (xs := tm) (by omega), Array.getElem?_replicate]
      split <;> rfl
  exact { h with size := Nat.le_refl _, env := fun t => by rw [hg t]; exact h.env t }
theorem finish_sound (hX : ¬ X.fail) {f : FuncId} {fn : Func} {k : AV → Heap → Prop} {e : Ex} {st : St} {a : Act} {w : World} (hP : cx.P = P) (hg : Good P A nt [] st a w) (hk : finish X cx f fn k e st) :
    a.defers = A.ds ∧ ∃ v, (results fn a.tmps).run P w = .ok v w ∧ ∃ r heap' U' bl' ob' own, Rel P A 0 [] [] heap' none #[] w U' bl' ob' ∧ Rep w (forb A bl' heap') U' bl' r v ∧ OwnAt w (forb A bl' heap') U' A.B own r v ∧
    (∀ p b, own p = some b → (¬ A.G b ∧ b < w.heap.size ∧ ∀ id : Nat, bl'[id]? ≠ some (some b)) ∧ (∀ q, own q = some b → p = q) ∧ ∀ l, ob' l ≠ some b) ∧ k r heap' := by
  have hk' : ∃ st', Good P A nt [] st' a w ∧ (match st' with
    | ⟨env, heap, defers, bor⟩ => match defers, bor with
      | [], none =>
        match resultsOf cx env heap fn.results.toList with
        | some (vs, heap) => (packR vs).force fun r => k r heap
        | none => X.fail
      | _, _ => X.fail) := by
    unfold finish at hk
    cases e with
    | exit id => exact absurd hk hX
    | normal => exact ghostK_sound hX hg hk
    | ret => exact ghostK_sound hX hg hk
  clear hk hg
  obtain ⟨⟨env0, heap0, defers, bor⟩, hg, hk⟩ := hk'
  obtain ⟨ha, rfl, U, bl, ob0, h0⟩ := hg
  refine ⟨ha, ?_⟩
  have hk : (match bor with | none => (match resultsOf cx env0 heap0 fn.results.toList with | some (vs, heap) => k (packR vs) heap | none => X.fail) | some _ => X.fail) := by
    cases bor with
    | some q => exact hk
    | none =>
      dsimp only at hk ⊢
      split at hk
      · simpa only [AV.force_eq] using hk
      · exact absurd hk hX
  cases bor with
  | some q => exact absurd hk hX
  | none =>
    simp only at hk
    split at hk
    · rename_i vs heap hvs
      have hp := h0.pad (topR fn.results.toList)
      obtain ⟨xs, env, tm, ob, sl, hrun, h, _, _, hR⟩ := resultsOf_sound hP _ _ _ _ _ _ _ hp (by simp) hvs
      rw [runR_eq (tm' := a.tmps) fun t _ => by
        simp only [Array.getD_eq_getD_getElem?]
        by_cases e : t < a.tmps.size
        · rw [Array.getElem?_append_left e]
        · rw [Array.getElem?_append_right (by omega), Array.getElem?_eq_none (xs := a.tmps) (by omega), Array.getElem?_replicate]
          split <;> rfl] at hrun
      have hlen : vs.length = xs.length := hR.len.trans hR.len'.symm
      have hres : (results fn a.tmps).run P w = .ok (if h : xs.length = 1 then xs[0] else .tuple xs.toArray) w := by
        have key : ∀ m : Sem (List Value), m.run P w = .ok xs w → ((List.toArray <$> m) >>= fun vs => pure (if h : vs.size = 1 then vs[0] else .tuple vs) : Sem Value).run P w = .ok (if h : xs.length = 1 then xs[0] else .tuple xs.toArray) w := by
          intro m hm
          simp only [Sem.run_bind, map_eq_pure_bind, hm, Result.andThen_ok, Sem.run_pure]
          by_cases e1 : xs.length = 1 <;> simp [e1]
        unfold results
        rw [Array.mapM_eq_mapM_toList]
        exact key _ hrun
      have hnot : ∀ q t b, ob (.env t q) = some b → ((¬ A.G b ∧ b < w.heap.size ∧ ∀ id : Nat, bl[id]? ≠ some (some b)) ∧ ∀ l, (match l with | Loc.env _ _ => none | l => ob l) ≠ some b) := by
        intro q t b hb
        refine ⟨h.obok _ b hb, fun l hl => ?_⟩
        cases l with
        | env s p => simp at hl
        | cell id i p => have := h.obinj _ _ b hb hl; simp at this
        | mapv id i p => have := h.obinj _ _ b hb hl; simp at this
      have hown : ∀ (i : Nat) v x, vs[i]? = some v → xs[i]? = some x → OwnAt w (forb A bl heap) U A.B (fun q => ownR ob sl (i :: q)) v x := by
        intro i v x hv hx
        rcases hR.own i v x hv hx with hb | ⟨t, ht, ho⟩
        · exact .bare hb
        · have : (fun q => ownR ob sl (i :: q)) = fun q => ob (.env t q) := by
            funext q; simp only [ownR, ht]
          rw [this]; exact ho
      refine ⟨_, hres, packR vs, heap, U, bl, _, (fun p => if vs.length = 1 then ownR ob sl (0 :: p) else ownR ob sl p), h.forget, ?_, ?_, ?_, hk⟩
      · by_cases e1 : vs.length = 1
        · obtain ⟨v, rfl⟩ := List.length_eq_one_iff.1 e1
          obtain ⟨x, rfl⟩ := List.length_eq_one_iff.1 (hlen ▸ e1)
          simpa [packR] using hR.rep 0 v x rfl rfl
        · have : packR vs = .tup vs := by
            unfold packR; split
            · simp at e1
            · rfl
          rw [this, dif_neg (by omega)]
          exact .tup (by simpa using hlen) fun i x y hx hy => hR.rep i x y hx (by simpa using hy)
      · by_cases e1 : vs.length = 1
        · obtain ⟨v, rfl⟩ := List.length_eq_one_iff.1 e1
          obtain ⟨x, rfl⟩ := List.length_eq_one_iff.1 (hlen ▸ e1)
          simpa [packR] using hown 0 v x rfl rfl
        · have : packR vs = .tup vs := by
            unfold packR; split
            · simp at e1
            · rfl
          rw [this, dif_neg (by omega)]
          simp only [e1, if_false]
          intro p u hp hou
          cases p with
          | nil => simp [AV.at] at hp; subst hp; simp [AV.owned] at hou
          | cons i q =>
            simp only [AV.at] at hp
            split at hp
            · rename_i c hc
              have hi := (List.getElem?_eq_some_iff.1 hc).1
              have hx : xs[i]? = some (xs[i]'(by omega)) := by simp
              obtain ⟨y, hy, ho⟩ := hown i c _ hc hx q u hp hou
              exact ⟨y, by simp only [vat]; simp only [List.getElem?_toArray, hx]; exact hy, ho⟩
            · simp at hp
      · intro p b hb
        by_cases e1 : vs.length = 1
        · simp only [e1, if_true] at hb ⊢
          obtain ⟨i, q, t, _, _, ho⟩ := ownR_of hb
          refine ⟨(hnot q t b ho).1, fun q' hq' => ?_, (hnot q t b ho).2⟩
          have := ownR_inj h.obinj hR.inj hb hq'
          injection this
        · simp only [e1, if_false] at hb ⊢
          obtain ⟨i, q, t, _, _, ho⟩ := ownR_of hb
          exact ⟨(hnot q t b ho).1, fun q' hq' => ownR_inj h.obinj hR.inj hb hq', (hnot q t b ho).2⟩
    · exact absurd hk hX
theorem Rel.ds {pend} {env : Env} {heap : Heap} {bor} {tm : Array Value} {w : World} {U : Nat → Nat} {bl : Blocks} {ob : Loc → Option Nat} (h : Rel P A nt pend env heap bor tm w U bl ob) (l : List Deferred) : Rel P { A with ds := l } nt pend env heap bor tm w U bl ob :=
  { size := h.size, env := h.env, len := h.len, objs := h.objs, inj := h.inj, base := h.base, obinj := h.obinj, obok := h.obok, since := { below := h.since.below, g0 := h.since.g0, ble := h.since.ble, pnd := h.since.pnd, gown := h.since.gown, blen := h.since.blen, ub := h.since.ub }, f0 := h.f0, hB := h.hB, hG := h.hG, pend := h.pend, fro := h.fro }
def Ended (P : Program) (A : Amb) (k : AV → Heap → Prop) (e : Ending) (w' : World) : Prop := ∃ r x heap' U' bl' ob' own, e = .returned x ∧ Rel P A 0 [] [] heap' none #[] w' U' bl' ob' ∧ Rep w' (forb A bl' heap') U' bl' r x ∧ OwnAt w' (forb A bl' heap') U' A.B own r x ∧
    (∀ p b, own p = some b → (¬ A.G b ∧ b < w'.heap.size ∧ ∀ id : Nat, bl'[id]? ≠ some (some b)) ∧ (∀ q, own q = some b → p = q) ∧ ∀ l, ob' l ≠ some b) ∧ k r heap'
theorem start_rel {f : FuncId} {fn : Func} (hfn : P.funcs[f]? = some fn) {args : List AV} {heap : Heap} {env : Env} (henv : ∀ t, env.get t = if 0 ≤ t then ((args[t - 0]?).map AV.strip).getD .undef else .undef) {w : World} {U : Nat → Nat} {bl : Blocks} {ob : Loc → Option Nat} {vs : Array Value}
    (hrel : Rel P A 0 [] [] heap none #[] w U bl ob) (hargs : RepL w (forb A bl heap) U bl args vs.toList) : Rel P A fn.ntmps [] env heap none (vs ++ Array.replicate (fn.ntmps - vs.size) undef) w U bl ob := by
  refine { hrel with size := by simp; omega, env := fun t => ?_ }
  rw [henv t, if_pos (Nat.zero_le _), Nat.sub_zero]
  cases ht : args[t]? with
  | none => exact ⟨.undef, .bare (bare_of rfl)⟩
  | some v =>
    have hlt : t < vs.size := by have := (List.getElem?_eq_some_iff.1 ht).1; have := hargs.1; simp at this; omega
    have hx : (vs ++ Array.replicate (fn.ntmps - vs.size) undef).getD t undef = vs[t] := by
      rw [Array.getD_eq_getD_getElem?, Array.getElem?_append_left hlt]; simp [hlt]
    rw [hx]
    refine ⟨(hargs.2 t v _ ht (by simp [hlt])).strip, .bare (strip_bare _)⟩
theorem body_wp (hL : Leans P cx X I) (hX : Calm X) (hP : cx.P = P) {calm : List Oper → Bool} (hC : ProgOK P calm cx.srt) {d : Nat} (hl : ∀ fid n b st K, X.loop d fid n b st K → LoopOK P calm fid n b st K)
    {f : FuncId} {args : List AV} {heap : Heap} {k : AV → Heap → Prop} (h : runBody X cx I calm d f args heap k) : ∃ fn c, P.funcs[f]? = some fn ∧ fn.body = some c ∧ ∀ (A : Amb) (w : World) (U : Nat → Nat) (bl : Blocks) (ob : Loc → Option Nat) (vs : Array Value),
  Rel P A 0 [] [] heap none #[] w U bl ob → RepL w (forb A bl heap) U bl args vs.toList → c.wp P (bodyPost P fn (Ended P A k)) { tmps := vs ++ Array.replicate (fn.ntmps - vs.size) undef, defers := [] } w := by
  unfold runBody at h
  rw [hP] at h
  split at h
  · rename_i fn hfn
    split at h
    · rename_i c hc
      refine ⟨fn, c, hfn, hc, ?_⟩
      intro A0 w U bl ob vs hrel0 hargs0
      obtain ⟨env, he, henv⟩ := params_get args 0 (fun env => den X cx I calm fn.ntmps d f c ⟨env, heap, [], none⟩ (finish X cx f fn k))
      rw [he] at h
      have hnt : fn.ntmps = ntmpsOf P f := by simp only [ntmpsOf, hfn]
      have hrel := hrel0.ds []
      generalize hA : ({ A0 with ds := [] } : Amb) = A at hrel
      have hargs : RepL w (forb A bl heap) U bl args vs.toList := by subst hA; exact hargs0
      have hds : A.ds = [] := by subst hA; rfl
      have hstart := start_rel hfn henv hrel hargs
      refine wp_mono (den_sound hL hX hP hC.mixed hnt (hl f) c (hC.calm f fn c hfn hc) _ _ _ w ⟨hds.symm, rfl, U, bl, ob, hstart⟩ h) ?_
      intro e a w' hp
      have key : ∀ ex st', Good P A fn.ntmps [] st' a w' → finish X cx f fn k ex st' → a.defers = [] ∧ ∃ v, (results fn a.tmps).run P w' = .ok v w' ∧ Ended P A0 k (.returned v) w' := by
        intro ex st' hg' hk'
        obtain ⟨hd, v, hv, r, heap', U', bl', ob', own, h1, h2, h3, h4, h5⟩ := finish_sound hL.fail hP hg' hk'
        subst hA
        exact ⟨hd, v, hv, r, v, heap', U', bl', ob', own, rfl, h1.ds A0.ds, h2, h3, h4, h5⟩
      cases e with
      | normal => obtain ⟨st', hg', hk'⟩ := hp; exact key _ st' hg' hk'
      | ret => obtain ⟨st', hg', hk'⟩ := hp; exact key _ st' hg' hk'
      | exit id =>
        obtain ⟨st', hg', hk'⟩ := hp
        obtain ⟨env', heap', defers', bor'⟩ := st'
        exact absurd hk' hL.fail
      | goto l => exact hp
      | panic ch => exact hp.elim
      | outgrown => exact hp.elim
    · exact absurd h hL.fail
  · exact absurd h hL.fail
theorem runBody_sound (hL : Leans P cx X I) (hX : Calm X) (hP : cx.P = P) {calm : List Oper → Bool} (hC : ProgOK P calm cx.srt) {d : Nat} (hl : ∀ fid n b st K, X.loop d fid n b st K → LoopOK P calm fid n b st K)
    {f : FuncId} {args : List AV} {heap : Heap} {k : AV → Heap → Prop} (h : runBody X cx I calm d f args heap k) : InlOK P f args heap k := by
  obtain ⟨fn, c, hfn, hc, hw⟩ := body_wp hL hX hP hC hl h
  exact ⟨⟨fn, hfn, by simp [hc]⟩, fun A w U bl ob vs hrel hargs => calls_of_wp hfn hc (hw A w U bl ob vs hrel hargs)⟩
def semRec (P : Program) (calm : List Oper → Bool) : Rec Prop where
  fail := False
  all := fun n k => ∀ i, i < n → k i
  call := fun f a Q => CallOK P f a Q ∧ ∃ r, Q r
  loop := fun _ fid n b st K => LoopOK P calm fid n b st K ∧ ∃ e s, K e s
  sort := sortP
  br := BrP
theorem callOK_mono {f : FuncId} {a : List AV} {Q Q' : AV → Prop} (h : ∀ r, Q r → Q' r) (hc : CallOK P f a Q) : CallOK P f a Q' :=
  ⟨hc.1, fun w F U vs hF ha => (hc.2 w F U vs hF ha).mono fun e w' ⟨r, x, U', own, h1, h2, h3, h4, h5, h6⟩ => ⟨r, x, U', own, h1, h2, h3, h4, h5, h r h6⟩⟩
theorem post_mono {k k' : Ex → St → Prop} (h : ∀ e s, k e s → k' e s) {e : Exit} {a : Act} {w : World} (hp : Post P A nt k e a w) : Post P A nt k' e a w := by
  cases e with
  | normal => obtain ⟨s, h1, h2⟩ := hp; exact ⟨s, h1, h _ _ h2⟩
  | exit id => obtain ⟨s, h1, h2⟩ := hp; exact ⟨s, h1, h _ _ h2⟩
  | ret => obtain ⟨s, h1, h2⟩ := hp; exact ⟨s, h1, h _ _ h2⟩
  | goto l => exact hp
  | panic c => exact hp
  | outgrown => exact hp
theorem loopOK_mono {calm : List Oper → Bool} {fid : FuncId} {n : Nat} {b : Code} {st : St} {k k' : Ex → St → Prop} (h : ∀ e s, k e s → k' e s) (hl : LoopOK P calm fid n b st k) : LoopOK P calm fid n b st k' := by
  intro hc A a w hA hg fr kk cs
  obtain ⟨e, a', w', h1, h2⟩ := hl hc A a w hA hg fr kk cs
  exact ⟨e, a', w', post_mono h h1, h2⟩
theorem calm_sem {calm : List Oper → Bool} : Calm (semRec P calm) := ⟨id, fun _ _ _ h => h.2, fun f a Q Q' h hc => ⟨callOK_mono h hc.1, let ⟨r, hr⟩ := hc.2; ⟨r, h r hr⟩⟩, rfl, rfl⟩
theorem inlN_sound (hP : cx.P = P) {calm : List Oper → Bool} (hC : ProgOK P calm cx.srt) : ∀ d f args h k, inlN (semRec P calm) cx calm d f args h k → InlOK P f args h k
  | 0, f, args, h, k, hk => hk.elim
  | d + 1, f, args, h, k, hk =>
    runBody_sound (X := semRec P calm) ⟨id, fun _ _ _ h => h.1, inlN_sound hP hC d, hC.name, rfl, rfl, rfl, hC.prim⟩ calm_sem hP hC (fun _ _ _ _ _ h => h.1) hk
theorem leans_sem (hP : cx.P = P) {calm : List Oper → Bool} (hC : ProgOK P calm cx.srt) (d : Nat) : Leans P cx (semRec P calm) (inlN (semRec P calm) cx calm d) :=
  ⟨id, fun _ _ _ h => h.1, inlN_sound hP hC d, hC.name, rfl, rfl, rfl, hC.prim⟩
theorem giveOut_own {w : World} {F F' : Nat → Prop} {U : Nat → Nat} {B : Nat} {own : List Nat → Option Nat} {v : AV} {x : Value} (h : OwnAt w F U B own v x) (hF : ∀ b, F' b → F b) :
    OwnAt w F' U B (fun p => match own p with | some b => if B ≤ b then some b else none | none => none) v x := by
  intro p u hp hou
  obtain ⟨y, hy, ho⟩ := h p u hp hou
  refine ⟨y, hy, ?_⟩
  unfold OwnOK at ho ⊢
  split at ho
  · rcases ho with ho | ⟨a, hn, e1, e2, e3, e4, e5, rest⟩
    · exact .inl ho
    · exact .inr ⟨a, hn, e1, by simp [e2, e3], e3, e4, fun hf => e5 (hF _ hf), rest⟩
  · obtain ⟨ao, cap, hx, hc, ho⟩ := ho
    refine ⟨ao, cap, hx, hc, ?_⟩
    rcases ho with ho | ⟨b, e1, e2, e3, e4, e5, hsz, c, el, fr, e7, e8, e9, e10, e11⟩
    · exact .inl ho
    · exact .inr ⟨b, e1, by simp [e2, e3], e3, fun hf => e4 (hF _ hf), e5, hsz, c, el, fr, e7, e8, e9, e10, fun i j q hi hq => let ⟨y, h1, h2, h3⟩ := e11 i j q hi hq; ⟨y, h1, h2, h3.mono ⟨fun b _ hf => .inl (hF b hf), fun b _ _ => ⟨Nat.le_refl _, fun _ _ => rfl⟩, fun _ hb => ⟨hb, Nat.le_refl _⟩⟩ (BlLe.refl _)⟩⟩
  · obtain ⟨ao, cap, hx, hc, ho⟩ := ho
    refine ⟨ao, cap, hx, hc, ?_⟩
    rcases ho with ho | ⟨b, e1, e2, e3, e4, e5, hsz, c, el, fr, e7, e8, e9, e10, e11⟩
    · exact .inl ho
    · exact .inr ⟨b, e1, by simp [e2, e3], e3, fun hf => e4 (hF _ hf), e5, hsz, c, el, fr, e7, e8, e9, e10, fun i j q hi hq => let ⟨y, h1, h2, h3⟩ := e11 i j q hi hq; ⟨y, h1, h2, h3.mono ⟨fun b _ hf => .inl (hF b hf), fun b _ _ => ⟨Nat.le_refl _, fun _ _ => rfl⟩, fun _ hb => ⟨hb, Nat.le_refl _⟩⟩ (BlLe.refl _)⟩⟩
  · trivial
theorem own_keeps1 {w w' : World} {F F' : Nat → Prop} {U U' : Nat → Nat} {B : Nat} {own : Option Nat} {v : AV} {x : Value} (h : OwnOK w F U B own v x) (g : Grow1 w F U w' F' U')
    (hk : ∀ b, own = some b → b < w.heap.size → ¬ F b → w'.heap[b]? = w.heap[b]? ∧ U' b = U b ∧ ¬ F' b) : OwnOK w' F' U' B own v x := by
  unfold OwnOK at *
  split at h
  · rename_i sz n gg ao len cap
    rcases h with h | ⟨a, hn, e1, e2, e3, e4, e5, e6, hsz, c, el, fr, e7, e8, e9⟩
    · exact .inl h
    · obtain ⟨b1, b2, b3⟩ := hk _ e2 (lt_of_some e7) e5
      exact .inr ⟨a, hn, e1, e2, e3, e4, b3, b2.trans e6, hsz, c, el, fr, b1.trans e7, e8, fun o h1 => (frozen_block b1 o).trans (e9 o h1)⟩
  · obtain ⟨ao, cap, hx, hc, h⟩ := h
    refine ⟨ao, cap, hx, hc, ?_⟩
    rcases h with h | ⟨b, e1, e2, e3, e4, e5, hsz, c, el, fr, e7, e8, e9, e10, e11⟩
    · exact .inl h
    · obtain ⟨b1, b2, b3⟩ := hk _ e2 (lt_of_some e7) e4
      exact .inr ⟨b, e1, e2, e3, b3, b2.trans e5, hsz, c, el, fr, b1.trans e7, e8, fun o => (frozen_block b1 o).trans (e9 o), e10, fun i j q hi hq => let ⟨y, h1, h2, h3⟩ := e11 i j q hi hq; ⟨y, h1, h2, h3.mono1 g rfl⟩⟩
  · obtain ⟨ao, cap, hx, hc, h⟩ := h
    refine ⟨ao, cap, hx, hc, ?_⟩
    rcases h with h | ⟨b, e1, e2, e3, e4, e5, hsz, c, el, fr, e7, e8, e9, e10, e11⟩
    · exact .inl h
    · obtain ⟨b1, b2, b3⟩ := hk _ e2 (lt_of_some e7) e4
      exact .inr ⟨b, e1, e2, e3, b3, b2.trans e5, hsz, c, el, fr, b1.trans e7, e8, fun o h1 => (frozen_block b1 o).trans (e9 o h1), e10, fun i j q hi hq => let ⟨y, h1, h2, h3⟩ := e11 i j q hi hq; ⟨y, h1, h2, h3.mono1 g rfl⟩⟩
  · trivial
theorem release_ok {heap : Heap} {w : World} {U : Nat → Nat} {bl : Blocks} {ob : Loc → Option Nat} (h : Rel P A 0 [] [] heap none #[] w U bl ob) {id sz n n' : Nat} {g : Nat → AV} (hg : heap.get id = .arr sz n' g) (hle : n ≤ n') {x : Value} (hx : Rep w (forb A bl heap) U bl (.row id sz 0 n) x) :
    ∃ (U2 : Nat → Nat) (bo : Option Nat), (∀ b, b < A.B → U2 b = U b) ∧ Grow1 w (forb A bl heap) U w A.F0 U2 ∧ OwnOK w A.F0 U2 A.B bo (.uni (.wide sz n n g)) x ∧ Rep w A.F0 U2 [] (.uni (.wide sz n n g)) x ∧
      (∀ b, bo = some b → A.B ≤ b ∧ b < w.heap.size ∧ bl[id]? = some (some b)) ∧ ∀ c, ¬ forb A bl heap c → U2 c = U c := by
  let U2 : Nat → Nat := fun c => if bl[id]? = some (some c) then 0 else U c
  have hbF : ∀ c, bl[id]? = some (some c) → forb A bl heap c := fun c hc => .inr ⟨id, hc, by rw [hg]; simp⟩
  have hU : ∀ c, ¬ forb A bl heap c → U2 c = U c := fun c hc => by simp only [U2]; rw [if_neg (fun e => hc (hbF c e))]
  have g0 : Grow1 w (forb A bl heap) U w A.F0 U2 := ⟨fun c _ hf => .inl (.inl hf), fun c _ hc => ⟨by rw [hU c hc]; exact Nat.le_refl _, fun _ _ => rfl⟩⟩
  have hub : ∀ b, b < A.B → U2 b = U b := fun b hb => by
    simp only [U2]; rw [if_neg (fun e => by have := (h.base id b e).1; omega)]
  cases hx with
  | @row _ _ _ _ _ ao cap hcap hz =>
    rcases Nat.eq_zero_or_pos n with hn | hn
    · exact ⟨U2, none, hub, g0, ⟨ao, cap, rfl, hcap, .inl hn⟩, .uni, fun b hb => (by cases hb), hU⟩
    · obtain ⟨b, hb, rfl⟩ := hz hn
      obtain ⟨c, el, fr, k1, k2, k3, k4, k5, k6⟩ := arr_obj h hb hg
      obtain ⟨b1, b2, b3, b4⟩ := h.base id b hb
      have hmul : n * sz ≤ n' * sz := Nat.mul_le_mul_right _ hle
      refine ⟨U2, some b, hub, g0, ⟨_, cap, rfl, hcap, .inr ⟨b, by simp, rfl, b1, b3, by simp only [U2]; rw [if_pos hb], k2, c, el, fr, k1, by omega, k4, fun i hi => k5 i (by omega), fun i j q hi hq => ?_⟩⟩, .uni, fun c hc => ?_, hU⟩
      · obtain ⟨y, h1, h2, h3⟩ := k6 i j q (by omega) hq
        exact ⟨y, h1, h2, h3.mono1 g0 rfl⟩
      · simp only [Option.some.injEq] at hc; subst hc; exact ⟨b1, b2, hb⟩
theorem release1_cases (h : Heap) (v : AV) : release1 h v = v ∨ ∃ id sz n n' g, v = .row id sz 0 n ∧ h.get id = .arr sz n' g ∧ n ≤ n' ∧ release1 h v = .uni (.wide sz n n g) := by
  unfold release1
  split
  · rename_i id sz n
    split
    · rename_i sz' n' g hg
      cases hc : (Nat.beq sz sz' && Nat.ble n n') with
      | false => exact .inl rfl
      | true =>
        simp only [Bool.and_eq_true, beq_eq, ble_eq, decide_eq_true_eq] at hc
        obtain ⟨rfl, hle⟩ := hc
        exact .inr ⟨id, sz, n, n', g, rfl, hg, hle, rfl⟩
    · exact .inl rfl
  · exact .inl rfl
theorem release_cases (h : Heap) (r : AV) : release h r = r ∨ ∃ id sz n n' g, h.get id = .arr sz n' g ∧ n ≤ n' ∧ ((r = .row id sz 0 n ∧ release h r = .uni (.wide sz n n g)) ∨ ∃ vs, r = .tup (.row id sz 0 n :: vs) ∧ release h r = .tup (.uni (.wide sz n n g) :: vs)) := by
  unfold release
  split
  · rename_i v vs
    rcases release1_cases h v with e | ⟨id, sz, n, n', g, rfl, hg, hle, e⟩
    · rw [e]; exact .inl rfl
    · rw [e]; exact .inr ⟨id, sz, n, n', g, hg, hle, .inr ⟨vs, rfl, rfl⟩⟩
  · rcases release1_cases h r with e | ⟨id, sz, n, n', g, rfl, hg, hle, e⟩
    · exact .inl e
    · exact .inr ⟨id, sz, n, n', g, hg, hle, .inl ⟨rfl, e⟩⟩
def Out (w : World) (U : Nat → Nat) (F : Nat → Prop) (w' : World) (r : AV) (x : Value) : Prop := ∃ U' own, Ext w U w' U' ∧ Rep w' F U' [] r x ∧ OwnAt w' F U' w.heap.size own r x ∧ ∀ p b, own p = some b → w.heap.size ≤ b ∧ b < w'.heap.size ∧ ∀ q, own q = some b → p = q
theorem out_of {w w' : World} {U U' : Nat → Nat} {F : Nat → Prop} {A : Amb} (hB : A.B = w.heap.size) (hF0 : A.F0 = F) (hw0 : A.w0 = w) (hU0 : A.U0 = U) {heap' : Heap} {bl' : Blocks} {ob' : Loc → Option Nat} {own : List Nat → Option Nat} {r : AV} {x : Value} (h1 : Rel P A 0 [] [] heap' none #[] w' U' bl' ob') (h2 : Rep w' (forb A bl' heap') U' bl' r x)
    (h3 : OwnAt w' (forb A bl' heap') U' A.B own r x) (h4 : ∀ p b, own p = some b → (¬ A.G b ∧ b < w'.heap.size ∧ ∀ id : Nat, bl'[id]? ≠ some (some b)) ∧ (∀ q, own q = some b → p = q) ∧ ∀ l, ob' l ≠ some b) (ow : Bool) (hd : (bif ow then release heap' r else r).isData = true) :
    Out w U F w' (bif ow then release heap' r else r) x := by
  have ext : ∀ U2 : Nat → Nat, (∀ b, b < A.B → U2 b = U' b) → Ext w U w' U2 := fun U2 hU2 => by
    have hb := h1.since.below
    have hu := h1.since.ub
    rw [hw0] at hb
    rw [hU0] at hu
    exact ⟨hb.os, hb.tape, hb.output, hb.size, fun b hb2 => ⟨hb.block b (by omega), (hU2 b (by omega)).trans (hu b (by omega))⟩, hb.drawn⟩
  have hsp : ∀ q b, (match own q with | some b => if A.B ≤ b then some b else none | none => none) = some b → own q = some b ∧ A.B ≤ b := by
    intro q b hq
    split at hq
    · rename_i b' hb'
      split at hq
      · simp at hq; subst hq; exact ⟨hb', ‹_›⟩
      · simp at hq
    · simp at hq
  have plain : r.isData = true → Out w U F w' r x := fun hd => by
    have hrep : Rep w' F U' [] r x := (h2.data hd).mono ⟨fun b _ hf => .inl (.inl (hF0 ▸ hf)), fun b _ _ => ⟨Nat.le_refl _, fun _ _ => rfl⟩, fun _ hb => ⟨hb, Nat.le_refl _⟩⟩ (BlLe.refl _)
    have hown : OwnAt w' F U' A.B _ r x := giveOut_own h3 (fun b hf => .inl (hF0 ▸ hf))
    rw [hB] at hown
    refine ⟨U', _, ext U' (fun _ _ => rfl), hrep, hown, fun p b hb => ?_⟩
    rw [← hB] at hb ⊢
    obtain ⟨b1, b2⟩ := hsp p b hb
    exact ⟨b2, (h4 p b b1).1.2.1, fun q hq => (h4 p b b1).2.1 q (hsp q b hq).1⟩
  cases ow with
  | false => exact plain hd
  | true =>
    simp only [cond_true] at hd ⊢
    rcases release_cases heap' r with e | ⟨id, sz, n, n', g, hg, hle, ⟨rfl, e⟩ | ⟨vs, rfl, e⟩⟩
    · rw [e] at hd ⊢; exact plain hd
    · rw [e]
      obtain ⟨U2, bo, u1, u2, u3, u4, u5, u6⟩ := release_ok h1 hg hle h2
      rw [hF0] at u3 u4
      rw [hB] at u3
      refine ⟨U2, fun p => if p = [] then bo else none, ext U2 u1, u4, fun p u hp hou => ?_, fun p b hb => ?_⟩
      · cases p with
        | nil => simp only [AV.at, Option.some.injEq] at hp; subst hp; exact ⟨x, rfl, by simpa using u3⟩
        | cons i q => simp [AV.at] at hp
      · dsimp only at hb
        split at hb
        · rename_i hp
          obtain ⟨b1, b2, _⟩ := u5 b hb
          rw [hB] at b1
          refine ⟨b1, b2, fun q hq => ?_⟩
          dsimp only at hq
          split at hq
          · rename_i hq'; rw [hp, hq']
          · cases hq
        · cases hb
    · rw [e] at hd ⊢
      cases h2 with
      | @tup _ _ xs hn hr =>
        have hn0 : 0 < xs.size := by rw [← hn]; simp
        have hx0 : xs[0]? = some xs[0] := by simp [hn0]
        obtain ⟨U2, bo, u1, u2, u3, u4, u5, u6⟩ := release_ok h1 hg hle (hr 0 _ xs[0] rfl hx0)
        rw [hF0] at u2 u3 u4
        rw [hB] at u3
        simp only [AV.isData, AV.isDataL, Bool.and_eq_true] at hd
        have hov : ∀ (i : Nat) v y, vs[i]? = some v → xs[i + 1]? = some y → Rep w' F U2 [] v y := fun i v y hv hy =>
          ((hr (i + 1) v y (by simpa using hv) hy).data (isDataL_get hd.2 i v hv)).mono1 u2 rfl
        refine ⟨U2, fun p => if p = [0] then bo else (match own p with | some b => if A.B ≤ b then some b else none | none => none), ext U2 u1, .tup (by simpa using hn) fun i v y hv hy => ?_, fun p u hp hou => ?_, fun p b hb => ?_⟩
        · cases i with
          | zero =>
            simp only [List.getElem?_cons_zero, Option.some.injEq] at hv
            rw [hx0] at hy
            simp only [Option.some.injEq] at hy
            subst hv hy
            exact u4
          | succ i => exact hov i v y (by simpa using hv) hy
        · cases p with
          | nil => simp only [AV.at, Option.some.injEq] at hp; subst hp; simp [AV.owned] at hou
          | cons i q =>
            cases i with
            | zero =>
              simp only [AV.at, List.getElem?_cons_zero] at hp
              cases q with
              | nil =>
                simp only [AV.at, Option.some.injEq] at hp; subst hp
                exact ⟨xs[0], by simp [vat, hx0], by simpa using u3⟩
              | cons j q => simp [AV.at] at hp
            | succ i =>
              have hp2 : (AV.tup (.row id sz 0 n :: vs)).at ((i + 1) :: q) = some u := by simpa [AV.at] using hp
              obtain ⟨y, hy, ho⟩ := h3 _ u hp2 hou
              refine ⟨y, hy, ?_⟩
              have e0 : ((i + 1) :: q : List Nat) ≠ [0] := by simp
              simp only [if_neg e0]
              have hk := own_keeps1 (F' := F) (U' := U2) ho u2 (fun b hb _ hnf => ⟨rfl, u6 b hnf, fun hf => hnf (.inl (hF0 ▸ hf))⟩)
              have hA : OwnAt w' F U2 A.B (fun _ => own ((i + 1) :: q)) u y := fun p v hp hov => by
                cases p with
                | nil => simp only [AV.at, Option.some.injEq] at hp; subst hp; exact ⟨y, rfl, hk⟩
                | cons j p =>
                  exfalso
                  cases u <;> simp [AV.owned] at hou <;> simp [AV.at] at hp
              obtain ⟨y2, hy2, ho2⟩ := giveOut_own hA (fun b hf => hf) [] u rfl hou
              simp only [vat, Option.some.injEq] at hy2
              subst hy2
              rw [hB] at ho2 ⊢
              exact ho2
        · dsimp only at hb
          split at hb
          · rename_i hp
            obtain ⟨b1, b2, b3⟩ := u5 b hb
            rw [hB] at b1
            refine ⟨b1, b2, fun q hq => ?_⟩
            dsimp only at hq
            split at hq
            · rename_i hq'; rw [hp, hq']
            · obtain ⟨c1, _⟩ := hsp q b hq
              exact absurd b3 ((h4 q b c1).1.2.2 id)
          · obtain ⟨b1, b2⟩ := hsp p b hb
            refine ⟨by rw [← hB]; exact b2, (h4 p b b1).1.2.1, fun q hq => ?_⟩
            dsimp only at hq
            split at hq
            · obtain ⟨_, _, b3⟩ := u5 b hq
              exact absurd b3 ((h4 p b b1).1.2.2 id)
            · exact (h4 p b b1).2.1 q (hsp q b hq).1
theorem callOK_of_inl {calm : List Oper → Bool} {f : FuncId} {args : List AV} {Q : AV → Prop} (hi : InlOK P f args [] (giveOut (semRec P calm) cx f Q)) : CallOK P f args Q := by
  obtain ⟨hb, h⟩ := hi
  refine ⟨hb, fun w F U vs hF hargs => ?_⟩
  let A : Amb := { B := w.heap.size, F0 := F, G := fun _ => False, w0 := w, bl0 := [], U0 := U, h0 := [] }
  have hrel : Rel P A 0 [] [] [] none #[] w U [] (fun _ => none) :=
    { size := Nat.zero_le _, env := fun t => ⟨.undef, .bare (bare_of rfl)⟩, len := rfl, objs := fun id b hid => by simp at hid, inj := fun i j b hi => by simp at hi,
      base := fun id b hid => by simp at hid, obinj := fun l m b hl => by simp at hl, obok := fun l b hl => by simp at hl,
      since := { below := BelowD.refl _ _, g0 := Grow0.refl _ _ _, ble := BlLe.refl _, pnd := fun id hid => by simp [A] at hid, gown := fun b hb => hb.elim, blen := Nat.le_refl _, ub := fun b _ => rfl },
      f0 := hF, hB := Nat.le_refl _, hG := fun b hb => hb.elim, pend := fun p hp => by simp at hp, fro := fun id _ => Nat.zero_le _ }
  have hargs' : RepL w (forb A [] []) U [] args vs.toList := by
    refine ⟨hargs.1, fun i x y hx hy => (hargs.2 i x y hx hy).mono ⟨fun b _ hf => ?_, fun b _ _ => ⟨Nat.le_refl _, fun _ _ => rfl⟩, fun _ hb => ⟨hb, Nat.le_refl _⟩⟩ (BlLe.refl _)⟩
    rcases hf with hf | ⟨id, hid, _⟩
    · exact .inl hf
    · simp at hid
  refine (h A w U [] _ vs hrel hargs').mono ?_
  rintro e w' ⟨r, x, heap', U', bl', ob', own, rfl, h1, h2, h3, h4, h5⟩
  unfold giveOut giveOut2 at h5
  rcases cond_elim h5 with ⟨hd, h5⟩ | ⟨_, h5⟩
  · rw [AV.force_eq] at h5
    obtain ⟨U2, own2, o1, o2, o3, o4⟩ := out_of (w := w) (U := U) (F := F) rfl rfl rfl rfl h1 h2 h3 h4 (cx.ow f) hd
    cases how : cx.ow f with
    | false =>
      rw [how] at h5 o2
      exact ⟨_, x, U2, own2, rfl, o1, o2.strip, .bare (strip_bare _), o4, h5⟩
    | true =>
      rw [how] at h5 o2 o3
      exact ⟨_, x, U2, own2, rfl, o1, o2, o3, o4, h5⟩
  · exact h5.elim
theorem stepCall_sound (hP : cx.P = P) {calm : List Oper → Bool} (hC : ProgOK P calm cx.srt) {f : FuncId} {args : List AV} {Q : AV → Prop} (h : stepCall (semRec P calm) cx calm f args Q) : CallOK P f args Q :=
  callOK_of_inl (runBody_sound (X := semRec P calm) (leans_sem hP hC topDepth) calm_sem hP hC (fun _ _ _ _ _ h => h.1) h)
theorem sem_pre (hP : cx.P = P) {calm : List Oper → Bool} (hC : ProgOK P calm cx.srt) : PreFix cx calm (semRec P calm) where
  fail := rfl
  all := rfl
  sort := rfl
  br := rfl
  call f a Q h := ⟨stepCall_sound hP hC h, some_call (X := semRec P calm) rfl rfl rfl id (fun _ _ _ h => h.2) (fun _ _ _ _ _ _ h => h.2) h⟩
  loop d fid n b st K h := ⟨stepLoop_sound (leans_sem hP hC d) calm_sem hP hC.mixed (fun _ _ _ _ h => h.1) (by unfold stepLoop at h; rw [hP] at h; exact h), some_loop (X := semRec P calm) rfl rfl rfl id (fun _ _ _ h => h.2) (fun _ _ _ _ _ _ h => h.2) h⟩
  cmono f a Q Q' h hc := ⟨callOK_mono h hc.1, let ⟨r, hr⟩ := hc.2; ⟨r, h r hr⟩⟩
  lmono d fid n b st K K' h hl := ⟨loopOK_mono h hl.1, let ⟨e, s, hs⟩ := hl.2; ⟨e, s, h e s hs⟩⟩
theorem lfp_sound (hP : cx.P = P) {calm : List Oper → Bool} (hC : ProgOK P calm cx.srt) {f : FuncId} {args : List AV} {Q : AV → Prop} (h : (lfp cx calm).call f args Q) : CallOK P f args Q :=
  (h _ (sem_pre hP hC)).1
end
end Ax

namespace Ax
open Go Go.RowKit
theorem branch_true {b : Bool} {y n : Prop} (hb : b = true) (h1 : y) : BrP b y n := ⟨fun _ => h1, fun e => absurd (hb.symm.trans e) (by simp)⟩
theorem branch_false {b : Bool} {y n : Prop} (hb : b = false) (h1 : n) : BrP b y n := ⟨fun e => absurd (hb.symm.trans e) (by simp), fun _ => h1⟩
end Ax
