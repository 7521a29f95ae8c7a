import Derived.Test.YtiadhiggmjiibaaMG
/- Drawn regions beside the model. -/
set_option linter.unusedVariables false
set_option linter.unusedSimpArgs false
namespace Ax
open Go Go.RowKit

section
variable {P : Program} {A : Amb} {nt : Nat} {X : Rec Prop} {cx : Ctx} {fid rid : Nat}

theorem tags_at {P : Program} : ∀ (l : List Oper) (ix base : Nat) (i : Nat) t, (tags P ix base l)[i]? = some t → t.ix = ix + i ∧ l[i]? = some t.o ∧ base ≤ t.base
  | [], ix, base, i, t, h => by simp [tags] at h
  | o :: r, ix, base, i, t, h => by
    cases i with
    | zero => simp only [tags, List.getElem?_cons_zero, Option.some.injEq] at h; subst h; exact ⟨rfl, rfl, Nat.le_refl _⟩
    | succ i =>
      simp only [tags, List.getElem?_cons_succ] at h
      obtain ⟨h1, h2, h3⟩ := tags_at r _ _ i t h
      exact ⟨by omega, by simpa using h2, by omega⟩
theorem tags_get {P : Program} : ∀ (l : List Oper) (ix base : Nat) (i : Nat) o, l[i]? = some o → ∃ t, (tags P ix base l)[i]? = some t
  | [], ix, base, i, o, h => by simp at h
  | p :: r, ix, base, 0, o, h => ⟨_, rfl⟩
  | p :: r, ix, base, i + 1, o, h => tags_get r (ix + 1) _ i o (by simpa using h)
theorem tags_mem {P : Program} {l : List Oper} {ix base : Nat} {t : Tag} (h : t ∈ tags P ix base l) : ix ≤ t.ix ∧ l[t.ix - ix]? = some t.o ∧ base ≤ t.base := by
  obtain ⟨i, hi⟩ := List.getElem?_of_mem h
  obtain ⟨h1, h2, h3⟩ := tags_at _ _ _ _ _ hi
  exact ⟨by omega, by rw [show t.ix - ix = i by omega]; exact h2, h3⟩
theorem tags_base {P : Program} : ∀ (l l0 : List Oper) (ix base : Nat) (t : Tag), t ∈ tags P ix base l → BaseIn (l0 ++ l) t
  | [], l0, ix, base, t, h => by simp [tags] at h
  | o :: r, l0, ix, base, t, h => by
    simp only [tags, List.mem_cons] at h
    rcases h with rfl | h
    · intro hb
      have := isBase_sub (l0 ++ [o]) r hb
      simpa using this
    · have := tags_base r (l0 ++ [o]) _ _ t h
      simpa using this
def Ahead (P : Program) (t u : Tag) : Prop := t.ix < u.ix ∧ t.base + (hoisted P t.o).length ≤ u.base
theorem tags_pair {P : Program} : ∀ (l : List Oper) (ix base : Nat), (tags P ix base l).Pairwise (Ahead P)
  | [], ix, base => by simp [tags]
  | o :: r, ix, base => by
    simp only [tags, List.pairwise_cons]
    refine ⟨fun u hu => ?_, tags_pair r _ _⟩
    obtain ⟨h1, h2, h3⟩ := tags_mem hu
    exact ⟨by simp only; omega, h3⟩

def pendT (P : Program) : List Tag → List (Nat × AObj)
  | [] => []
  | t :: r => waits t.base (hoisted P t.o) ++ pendT P r
theorem pendT_mem {P : Program} : ∀ {l : List Tag} {p : Nat × AObj}, p ∈ pendT P l ↔ ∃ t ∈ l, p ∈ waits t.base (hoisted P t.o)
  | [], p => by simp [pendT]
  | t :: r, p => by simp [pendT, pendT_mem (l := r)]
theorem pendT_tags {P : Program} : ∀ (l : List Oper) (ix base : Nat), pendT P (tags P ix base l) = waits base (hoistAll P l)
  | [], ix, base => rfl
  | o :: r, ix, base => by simp only [tags, pendT, hoistAll, waits_append, pendT_tags r]

theorem step_sound {I : FuncId → List AV → Heap → (AV → Heap → Prop) → Prop} (hL : Leans P cx X I) (hX : Calm X) (hP : cx.P = P) {ops : Array Oper} {t : Tag} (ht : ops[t.ix]? = some t.o) {pend pend' : List (Nat × AObj)} {st : St} {a : Act} {w : World} {k : St → Prop} {Q : Exit → Act → World → Prop}
    (hc : Closed k) (hg : Good P A nt pend st a w) (hin : ∀ p, p ∈ waits t.base (hoisted P t.o) → p ∈ pend) (hsub : ∀ p, p ∈ pend' → p ∈ pend ∧ (0 < (hoisted P t.o).length → p.1 ≠ t.base))
    (hA : A.bl0.length ≤ t.base) (hd : ∀ s, t.o.dst = some s → s < nt) (hk : stepE X cx fid rid ops.toList t st k) : wpOp P ops Q t.ix (NextIs P A nt pend' k) a w := by
  obtain ⟨env, heap, defers, bor⟩ := st
  have hlen : A.bl0.length ≤ heap.length := good_len hg
  unfold wpOp
  simp only [ht]
  have go : effSem X (noIX X) (noJX X) t.o.dst (effOp cx true fid rid t.ix t.base t.o t.rest env heap) ⟨env, heap, defers, bor⟩ k → t.o.wp P a w (NextIs P A nt pend' k) Q := by
    intro h
    replace h := effSem_anyJ (J' := denDC X cx) (effOp_within (all := t.rest) (fun h => h)) h
    rw [← denOp_eff X cx (noIX X)] at h
    exact denOp_sound (I := noIX X) ⟨hL.fail, hL.call, fun _ _ _ _ h => absurd h hX.fail, hL.name, hL.sort, hL.br, hL.all, hL.prim⟩ hP hg hin hsub hA hlen hd h
  have pass : effSem X (noIX X) (noJX X) t.o.dst (.put none (optW t.o.dst (.tup [])) none) ⟨env, heap, defers, bor⟩ k → NextIs P A nt pend' k (a.put t.o.dst undef) w := by
    intro h
    simp only [effSem, setL_optW, bareO, Option.getD] at h
    obtain ⟨ha, rfl, U, bl, ob, hr⟩ := hg
    obtain ⟨ob', h'⟩ := undef_rep hr hd
    rw [put_eq]
    exact ⟨_, ⟨ha, rfl, U, bl, ob', h'.unpend (fun p hp => (hsub p hp).1)⟩, h⟩
  have hrel := hg
  obtain ⟨ha, hdf, U, bl, ob, hr⟩ := hrel
  unfold stepE stepEff at hk
  cases hgd : t.o.guard with
  | none =>
    rw [hgd] at hk
    rw [if_pos (by simp [Region.wanted, hgd])]
    exact .inl (go hk)
  | some jw =>
    obtain ⟨j, want⟩ := jw
    rw [hgd] at hk
    dsimp only at hk
    split at hk
    · rename_i b hb
      obtain ⟨hy, _⟩ := guard_bool hr hb
      split at hk
      · rename_i e
        subst e
        rw [if_pos (by simp [Region.wanted, hgd, hy])]
        exact .inl (go hk)
      · rename_i e
        rw [if_neg (by simp [Region.wanted, hgd, hy]; exact e)]
        exact pass hk
    · rename_i hb
      rw [if_neg (by simp [Region.wanted, hgd, guard_nought hr hb])]
      exact pass hk
    · exact absurd hk hL.fail

/-- What is not listed yet. -/
def left (T : List Tag) (listed : Array Bool) : List Tag := T.filter fun t => !listed.getD t.ix true

theorem any_sound {I : FuncId → List AV → Heap → (AV → Heap → Prop) → Prop} (hL : Leans P cx X I) (hX : Calm X) (hP : cx.P = P) {ops : Array Oper} {n : Nat} (hcalm : calmB ops.toList = true) (hA : A.bl0.length ≤ n) (hd : dstOk nt ops.toList = true) {k : St → Prop} (hc : Closed k) {Q : Exit → Act → World → Prop}
    (hQ : ∀ st a w, Good P A nt [] st a w → k st → Q .normal a w) : ∀ (fuel : Nat) (listed : Array Bool) (st : St) (a : Act) (w : World),
    listed.size = ops.size → DownL ops.toList (fun i => listed.getD i false = true) → (left (tags P 0 n ops.toList) listed).length ≤ fuel → Good P A nt (pendT P (left (tags P 0 n ops.toList) listed)) st a w →
    stepsE X cx fid rid ops.toList (left (tags P 0 n ops.toList) listed) st k → wpAny P .any ops Q fuel listed a w := by
  obtain ⟨hback, hpair⟩ := calm_spec hcalm
  have hdst : ∀ (i : Nat) o, ops.toList[i]? = some o → ∀ s, o.dst = some s → s < nt := by
    generalize ops.toList = l at hd
    induction l with
    | nil => intro i o h; simp at h
    | cons p r ih =>
      simp only [dstOk, Bool.and_eq_true] at hd
      intro i o h s hs
      cases i with
      | zero => simp at h; subst h; have := hd.1; rw [hs] at this; simpa [blt_eq] using this
      | succ i => exact ih hd.2 i o (by simpa using h) s hs
  have hready : ∀ (listed : Array Bool), listed.size = ops.size → ∀ i, i ∈ Region.ready .any ops listed ↔ ∃ o, ops.toList[i]? = some o ∧ listed.getD i true = false ∧ ∀ e ∈ o.after.toList, Region.binds .any e = true → listed.getD e.on false = true := by
    intro listed hs i
    unfold Region.ready
    simp only [List.mem_filter, List.mem_range, Bool.and_eq_true, Bool.not_eq_true']
    constructor
    · rintro ⟨h1, h2, h3⟩
      have : ops[i]? = some ops[i] := by simp [h1]
      rw [this] at h3
      simp only [Option.map_some, Option.getD_some, Array.all_eq_true'] at h3
      refine ⟨ops[i], by simp [h1], h2, fun e he hb => ?_⟩
      have := h3 e (by simpa using he)
      simpa [hb] using this
    · rintro ⟨o, h1, h2, h3⟩
      have hi : i < ops.size := by have := (List.getElem?_eq_some_iff.1 h1).1; simpa using this
      have ho : ops[i]? = some o := by simpa using h1
      refine ⟨hi, h2, ?_⟩
      rw [ho]
      simp only [Option.map_some, Option.getD_some, Array.all_eq_true']
      intro e he
      cases hb : Region.binds .any e
      · simp
      · simp [h3 e (by simpa using he) hb]
  have hleft : ∀ (listed : Array Bool) t, t ∈ left (tags P 0 n ops.toList) listed ↔ t ∈ tags P 0 n ops.toList ∧ listed.getD t.ix true = false := by
    intro listed t; simp [left]
  have getD_ft : ∀ (listed : Array Bool) (i : Nat), i < listed.size → listed.getD i false = listed.getD i true := by
    intro listed i hi; simp [Array.getD, hi]
  have hnone : ∀ (listed : Array Bool), listed.size = ops.size → Region.ready .any ops listed = [] → left (tags P 0 n ops.toList) listed = [] := by
    intro listed hs he
    cases hl : left (tags P 0 n ops.toList) listed with
    | nil => rfl
    | cons t r =>
      exfalso
      have ht : t ∈ left (tags P 0 n ops.toList) listed := by rw [hl]; simp
      obtain ⟨h1, h2⟩ := (hleft listed t).1 ht
      obtain ⟨_, h3, _⟩ := tags_mem h1
      rw [Nat.sub_zero] at h3
      have : t.ix ∈ Region.ready .any ops listed := by
        refine (hready listed hs t.ix).2 ⟨t.o, h3, h2, fun e he hb => ?_⟩
        have hlt := hback _ _ h3 e he hb
        have hix := (List.getElem?_eq_some_iff.1 h3).1
        obtain ⟨o', ho'⟩ : ∃ o', ops.toList[e.on]? = some o' := ⟨ops.toList[e.on]'(by omega), by simp⟩
        obtain ⟨u, hu⟩ := tags_get (P := P) ops.toList 0 n e.on o' ho'
        obtain ⟨u1, _, _⟩ := tags_at _ _ _ _ _ hu
        rw [Nat.zero_add] at u1
        cases hv : listed.getD e.on false
        · exfalso
          have hsz : e.on < listed.size := by rw [hs]; simp at hix; omega
          rw [getD_ft _ _ hsz] at hv
          have hul : u ∈ left (tags P 0 n ops.toList) listed := (hleft listed u).2 ⟨List.mem_of_getElem? hu, by rw [u1]; exact hv⟩
          have hp : (left (tags P 0 n ops.toList) listed).Pairwise (Ahead P) := (tags_pair _ _ _).filter _
          rw [hl] at hul hp
          rcases List.mem_cons.1 hul with rfl | hul
          · omega
          · have := (List.pairwise_cons.1 hp).1 u hul
            have := this.1
            omega
        · rfl
      rw [he] at this
      simp at this
  intro fuel
  induction fuel with
  | zero =>
    intro listed st a w hs hdown hf hg hk
    have hl : left (tags P 0 n ops.toList) listed = [] := List.length_eq_zero_iff.1 (by omega)
    rw [hl] at hg hk
    refine ⟨?_, hQ st a w hg hk⟩
    cases hr : Region.ready .any ops listed with
    | nil => rfl
    | cons i r =>
      exfalso
      obtain ⟨o, h1, h2, _⟩ := (hready listed hs i).1 (by rw [hr]; simp)
      obtain ⟨u, hu⟩ := tags_get (P := P) ops.toList 0 n i o h1
      obtain ⟨u1, _, _⟩ := tags_at _ _ _ _ _ hu
      rw [Nat.zero_add] at u1
      have : u ∈ left (tags P 0 n ops.toList) listed := (hleft listed u).2 ⟨List.mem_of_getElem? hu, by rw [u1]; exact h2⟩
      rw [hl] at this; simp at this
  | succ fuel ih =>
    intro listed st a w hs hdown hf hg hk
    refine ⟨fun he => ?_, fun i hi => ?_⟩
    · rw [hnone listed hs he] at hg hk
      exact hQ st a w hg hk
    · obtain ⟨o, h1, h2, h3⟩ := (hready listed hs i).1 hi
      obtain ⟨t, ht⟩ := tags_get (P := P) ops.toList 0 n i o h1
      obtain ⟨t1, t2, t3⟩ := tags_at _ _ _ _ _ ht
      rw [Nat.zero_add] at t1
      rw [h1] at t2
      simp only [Option.some.injEq] at t2
      subst t2
      have htl : t ∈ left (tags P 0 n ops.toList) listed := (hleft listed t).2 ⟨List.mem_of_getElem? ht, by rw [t1]; exact h2⟩
      obtain ⟨l1, l2, hl⟩ := List.append_of_mem htl
      have hp : (left (tags P 0 n ops.toList) listed).Pairwise (Ahead P) := (tags_pair _ _ _).filter _
      rw [hl] at hp
      obtain ⟨_, hp2, hp3⟩ := List.pairwise_append.1 hp
      have hp4 := (List.pairwise_cons.1 hp2).1
      have hi_lt : i < listed.size := by rw [hs]; have := (List.getElem?_eq_some_iff.1 h1).1; simpa using this
      have htb : BaseIn ops.toList t := by simpa using tags_base ops.toList [] 0 n t (List.mem_of_getElem? ht)
      have hindep : ∀ u ∈ l1, indep ops.toList u.o t.o = true ∧ BaseIn ops.toList u := by
        intro u hu
        have hul : u ∈ left (tags P 0 n ops.toList) listed := by rw [hl]; simp [hu]
        obtain ⟨v1, v2⟩ := (hleft listed u).1 hul
        obtain ⟨_, v3, _⟩ := tags_mem v1
        rw [Nat.sub_zero] at v3
        have hlt : u.ix < i := by have := (hp3 u hu t (by simp)).1; omega
        refine ⟨?_, by simpa using tags_base ops.toList [] 0 n u v1⟩
        rcases hpair i u.ix t.o u.o hlt h1 v3 with hb | hb
        · exfalso
          have := hb (fun i => listed.getD i false = true) hdown (fun o' ho' e he hbd => by rw [h1] at ho'; simp at ho'; subst ho'; exact h3 e he hbd)
          rw [getD_ft _ _ (by omega), v2] at this
          cases this
        · exact hb
      have hnew : left (tags P 0 n ops.toList) (listed.setIfInBounds i true) = l1 ++ l2 := by
        have e1 : left (tags P 0 n ops.toList) (listed.setIfInBounds i true) = (left (tags P 0 n ops.toList) listed).filter fun u => u.ix != i := by
          unfold left
          rw [List.filter_filter]
          refine List.filter_congr fun u _ => ?_
          by_cases e : u.ix = i
          · subst e; simp [Array.getD, hi_lt]
          · have : (listed.setIfInBounds i true).getD u.ix true = listed.getD u.ix true := by
              rw [Array.getD_eq_getD_getElem?, Array.getD_eq_getD_getElem?, Array.getElem?_setIfInBounds, if_neg (fun h => e h.symm)]
            rw [this]
            have : (u.ix != i) = true := by simp [e]
            rw [this]; simp
        rw [e1, hl, List.filter_append, List.filter_cons]
        have : (t.ix != i) = false := by simp [t1]
        rw [this]
        simp only [Bool.false_eq_true, if_false]
        congr 1
        · exact List.filter_eq_self.2 (fun u hu => by have := (hp3 u hu t (by simp)).1; simp; omega)
        · exact List.filter_eq_self.2 (fun u hu => by have := (hp4 u hu).1; simp; omega)
      have hk' := stepsE_front hX hc htb l1 l2 hindep st (by rw [hl] at hk; exact hk)
      have hstep := step_sound (Q := Q) (pend' := pendT P (l1 ++ l2)) hL hX hP (t := t) (by rw [t1]; simpa using h1) (stepsE_closed hX hc (l1 ++ l2)) hg
        (fun p hp => pendT_mem.2 ⟨t, htl, hp⟩) (fun p hp => ?_) (by omega) (hdst i t.o h1) hk'
      · rw [t1] at hstep
        refine wpOp_mono (fun a' w' => ?_) hstep
        rintro ⟨st', hg', hk''⟩
        refine ih (listed.setIfInBounds i true) st' a' w' (by simp [hs]) ?_ ?_ (by rw [hnew]; exact hg') (by rw [hnew]; exact hk'')
        · have get : ∀ j, (listed.setIfInBounds i true).getD j false = if i = j then true else listed.getD j false := by
            intro j
            rw [Array.getD_eq_getD_getElem?, Array.getElem?_setIfInBounds]
            split
            · rename_i e; subst e; simp [hi_lt]
            · rw [Array.getD_eq_getD_getElem?]
          intro j hj
          try dsimp only at hj
          rw [get] at hj
          intro o' ho' e he hb
          try dsimp only
          rw [get]
          split
          · rfl
          · by_cases e' : i = j
            · subst e'
              rw [h1] at ho'; simp at ho'; subst ho'
              exact h3 e he hb
            · rw [if_neg e'] at hj
              exact hdown j hj o' ho' e he hb
        · rw [hnew]; rw [hl] at hf; simp at hf ⊢; omega
      · obtain ⟨u, hu, hpu⟩ := pendT_mem.1 hp
        have hul : u ∈ left (tags P 0 n ops.toList) listed := by rw [hl]; rcases List.mem_append.1 hu with h | h <;> simp [h]
        refine ⟨pendT_mem.2 ⟨u, hul, hpu⟩, fun hpos => ?_⟩
        obtain ⟨w1, _, w3⟩ := waits_mem _ _ p hpu
        rcases List.mem_append.1 hu with h | h
        · have := (hp3 u h t (by simp)).2; omega
        · have := (hp4 u h).2; omega
end
end Ax

/- The machine is one for all answer types. -/
set_option linter.unusedVariables false
set_option linter.unusedSimpArgs false
namespace Ax
open Go Go.RowKit

structure RelRec {R S : Type} (Rl : R → S → Prop) (X : Rec R) (Y : Rec S) : Prop where
  fail : Rl X.fail Y.fail
  call : ∀ f a Q Q', (∀ r, Rl (Q r) (Q' r)) → Rl (X.call f a Q) (Y.call f a Q')
  loop : ∀ d fid n b st K K', (∀ e s, Rl (K e s) (K' e s)) → Rl (X.loop d fid n b st K) (Y.loop d fid n b st K')
  sort : ∀ l cmp cmp' K K', (∀ a b Q Q', (∀ r, Rl (Q r) (Q' r)) → Rl (cmp a b Q) (cmp' a b Q')) → (∀ l, Rl (K l) (K' l)) → Rl (X.sort l cmp K) (Y.sort l cmp' K')
  br : ∀ b y y' n n', Rl y y' → Rl n n' → Rl (X.br b y n) (Y.br b y' n')
  all : ∀ n k k', 0 < n → (∀ i, Rl (k i) (k' i)) → Rl (X.all n k) (Y.all n k')
def RelI {R S : Type} (Rl : R → S → Prop) (I : FuncId → List AV → Heap → (AV → Heap → R) → R) (J : FuncId → List AV → Heap → (AV → Heap → S) → S) : Prop :=
  ∀ f a h k k', (∀ r h, Rl (k r h) (k' r h)) → Rl (I f a h k) (J f a h k')

section
variable {R S : Type} {Rl : R → S → Prop} {X : Rec R} {Y : Rec S} {cx : Ctx} {I : FuncId → List AV → Heap → (AV → Heap → R) → R} {J : FuncId → List AV → Heap → (AV → Heap → S) → S}

theorem denDC_rel (hX : RelRec Rl X Y) {d : Option Nat} {g : FuncId} {args : List AV} {st : St} {k : St → R} {k' : St → S} (hk : ∀ s, Rl (k s) (k' s)) : Rl (denDC X cx d g args st k) (denDC Y cx d g args st k') := by
  obtain ⟨env, heap, defers, bor⟩ := st
  unfold denDC
  cases Nat.blt 0 (cx.srt g) with
  | true =>
    simp only [cond_true]
    split
    · rename_i id sz lo n h caps
      split
      · rename_i sz' n' e hg
        cases Nat.beq sz sz' && Nat.beq sz (cx.srt g) && Nat.beq lo 0 && Nat.beq n n' with
        | false => exact hX.fail
        | true =>
          simp only [cond_true, AV.forceL_eq]
          cases AV.isDataL (caps.map (lendAV (heap.set id .dead))) with
          | false => exact hX.fail
          | true =>
            simp only [cond_true]
            refine hX.sort _ _ _ _ _ (fun a b Q Q' hQ => hX.call _ _ _ _ hQ) (fun l => ?_)
            simp only [Heap.force_eq, putK_setO]
            exact hk _
      · exact hX.fail
    · exact hX.fail
  | false =>
    simp only [cond_false, AV.forceL_eq]
    cases AV.isDataL (lendL heap args) with
    | false => exact hX.fail
    | true =>
      simp only [cond_true]
      refine hX.call _ _ _ _ fun r => ?_
      cases r.scalR with
      | false => exact hX.fail
      | true => simp only [cond_true, putK_setO]; exact hk _

theorem denOp_rel (hX : RelRec Rl X Y) (hI : RelI Rl I J) {drawn : Bool} {fid rid ix base : Nat} {o : Oper} {rest : List Oper} {st : St} {k : St → R} {k' : St → S} (hk : ∀ s, Rl (k s) (k' s)) :
    Rl (denOp X cx I drawn fid rid ix base o rest st k) (denOp Y cx J drawn fid rid ix base o rest st k') := by
  obtain ⟨env, heap, defers, bor⟩ := st
  rw [denOp_eff, denOp_eff]
  cases effOp cx drawn fid rid ix base o rest env heap with
  | fail => exact hX.fail
  | put b ws h => exact hk _
  | call g args => exact hX.call _ _ _ _ fun r => hk _
  | inl g args =>
    simp only [effSem]
    split
    · exact hX.fail
    · exact hI _ _ _ _ _ fun r h => hk _
  | dc g args => simp only [effSem]; exact denDC_rel hX hk
  | nilT n b => simp only [effSem]; exact hX.br _ _ _ _ _ (hX.all _ _ _ (by omega) fun i => hk _) (hk _)

theorem ghostK_rel (hX : RelRec Rl X Y) {l : List Ghost} {st : St} {k : St → R} {k' : St → S} (hk : ∀ s, Rl (k s) (k' s)) : Rl (ghostK X l st k) (ghostK Y l st k') := by
  obtain ⟨env, heap, defers, bor⟩ := st
  unfold ghostK
  cases l with
  | nil => exact hk _
  | cons g r =>
    dsimp only
    cases ghosts (g :: r) env heap with
    | none => exact hX.fail
    | some p => obtain ⟨e, h⟩ := p; simp only [Env.forceV_eq, Heap.force_eq]; exact hk _

theorem denOps_rel (hX : RelRec Rl X Y) (hI : RelI Rl I J) {drawn : Bool} {fid rid : Nat} {all : List Oper} {k : St → R} {k' : St → S} (hk : ∀ s, Rl (k s) (k' s)) : ∀ (rest : List Oper) (ix base : Nat) (st : St),
    Rl (denOps X cx I drawn fid rid all ix base rest st k) (denOps Y cx J drawn fid rid all ix base rest st k')
  | [], ix, base, st => by simp only [denOps]; exact hk _
  | o :: rest, ix, base, ⟨env, heap, defers, bor⟩ => by
    have ih := fun st => denOps_rel (drawn := drawn) (fid := fid) (rid := rid) (all := all) hX hI hk rest (ix + 1) (base + (hoisted cx.P o).length) st
    unfold denOps
    cases o.guard with
    | none => exact denOp_rel hX hI ih
    | some jw =>
      obtain ⟨j, want⟩ := jw
      dsimp only
      split
      · cases want <;> dsimp only [branch] <;> refine hX.br _ _ _ _ _ ?_ ?_ <;> simp only [putK_setO] <;> first | exact denOp_rel hX hI ih | exact ih _
      · rw [putK_setO, putK_setO]; exact ih _
      · exact hX.fail

theorem cleanK_rel (hX : RelRec Rl X Y) {ks : Option (List Nat)} {n : Nat} {st : St} {k : St → R} {k' : St → S} (hk : ∀ s, Rl (k s) (k' s)) : Rl (cleanK X ks n st k) (cleanK Y ks n st k') := by
  obtain ⟨env, heap, defers, bor⟩ := st
  simp only [cleanK, Env.forceV_eq, Heap.force_eq]
  cases underH n n heap
  · exact hX.fail
  · exact hk _

theorem denAny_rel (hX : RelRec Rl X Y) (hI : RelI Rl I J) {fid rid base : Nat} {all : List Oper} {k : St → R} {k' : St → S} (hk : ∀ s, Rl (k s) (k' s)) : ∀ (n : Nat) (done : List Nat) (st : St),
    Rl (denAny X cx I fid rid base all n done st k) (denAny Y cx J fid rid base all n done st k')
  | 0, done, st => by
    simp only [denAny]
    split
    · exact hk _
    · exact hX.fail
  | n + 1, done, st => by
    have one : ∀ i, Rl (denOne X cx I fid rid base all i st fun st => denAny X cx I fid rid base all n (i :: done) st k) (denOne Y cx J fid rid base all i st fun st => denAny Y cx J fid rid base all n (i :: done) st k') := by
      intro i
      obtain ⟨env, heap, defers, bor⟩ := st
      unfold denOne
      cases all[i]? with
      | none => exact hX.fail
      | some o =>
        cases hg : o.guard with
        | none => dsimp only; rw [hg]; exact denOp_rel hX hI fun s => denAny_rel hX hI hk n (i :: done) s
        | some q => dsimp only; rw [hg]; exact hX.fail
    simp only [denAny]
    split
    · exact hk _
    · exact one _
    · rename_i l h1 h2
      refine hX.all _ _ _ ?_ fun j => one _
      rcases hl : readyN all done with _ | ⟨a, r⟩
      · exact absurd hl h1
      · simp
theorem den_rel (hX : RelRec Rl X Y) (hI : RelI Rl I J) {calm : List Oper → Bool} {nt d : Nat} {fid : FuncId} : ∀ (c : Code) (st : St) (k : Ex → St → R) (k' : Ex → St → S), (∀ e s, Rl (k e s) (k' e s)) →
    Rl (den X cx I calm nt d fid c st k) (den Y cx J calm nt d fid c st k') := by
  intro c
  induction c with
  | skip => intro st k k' hk; simp only [den]; exact hk _ _
  | label l => intro st k k' hk; simp only [den]; exact hk _ _
  | region id ops draw =>
    intro st k k' hk
    simp only [den]
    cases (!draw || calm ops.toList) && dstOk nt ops.toList
    · simp only [cond_false]
      cases draw && dstOk nt ops.toList && noHoist cx.P ops.toList
      · exact hX.fail
      · simp only [cond_true]
        refine ghostK_rel hX fun s => ?_
        obtain ⟨env, heap, defers, bor⟩ := s
        simp only [forceNat_eq]
        exact denAny_rel hX hI (fun s => hk _ s) _ _ _
    · simp only [cond_true]
      refine ghostK_rel hX fun s => ?_
      obtain ⟨env, heap, defers, bor⟩ := s
      simp only [forceNat_eq, Heap.force_eq]
      exact denOps_rel hX hI (fun s => hk _ s) _ _ _ _
  | seq a b iha ihb =>
    intro st k k' hk
    simp only [den]
    refine iha _ _ _ fun e s => ?_
    cases e with
    | normal => exact ihb _ _ _ hk
    | exit id => exact hk _ _
    | ret => exact hk _ _
  | cond c a b iha ihb =>
    rintro ⟨env, heap, defers, bor⟩ k k' hk
    simp only [den]
    split
    · simp only [branch]
      refine hX.br _ _ _ _ _ ?_ ?_ <;> simp only [putK_setO]
      · exact iha _ _ _ hk
      · exact ihb _ _ _ hk
    · exact hX.fail
  | block id b ih =>
    intro st k k' hk
    simp only [den]
    refine ih _ _ _ fun e s => ?_
    cases e with
    | normal => exact hk _ _
    | exit id' => dsimp only; cases Nat.beq id' id <;> exact hk _ _
    | ret => exact hk _ _
  | loop b ih =>
    intro st k k' hk
    simp only [den]
    refine ghostK_rel hX fun s => ?_
    obtain ⟨env, heap, defers, bor⟩ := s
    simp only [forceNat_eq]
    exact cleanK_rel hX fun s => hX.loop _ _ _ _ _ _ _ hk
  | exit id => intro st k k' hk; simp only [den]; exact hk _ _
  | ret => intro st k k' hk; simp only [den]; exact hk _ _
  | scope b ih => intro st k k' hk; simp only [den]; exact ih _ _ _ hk
  | rangeFunc f ps x y => intro st k k' hk; simp only [den]; exact hX.fail
  | goto l => intro st k k' hk; simp only [den]; exact hX.fail
  | refuse y => intro st k k' hk; simp only [den]; exact hX.fail

theorem finish_rel (hX : RelRec Rl X Y) {f : FuncId} {fn : Func} {k : AV → Heap → R} {k' : AV → Heap → S} (hk : ∀ r h, Rl (k r h) (k' r h)) (e : Ex) (st : St) : Rl (finish X cx f fn k e st) (finish Y cx f fn k' e st) := by
  have key : ∀ st : St, Rl (match st with
    | ⟨env, heap, defers, bor⟩ => match defers, bor with
      | [], none =>
        match resultsOf cx env heap fn.results.toList with
        | some (vs, heap) => (packR vs).force fun r => k r heap
        | none => X.fail
      | _, _ => X.fail) (match st with
    | ⟨env, heap, defers, bor⟩ => match defers, bor with
      | [], none =>
        match resultsOf cx env heap fn.results.toList with
        | some (vs, heap) => (packR vs).force fun r => k' r heap
        | none => Y.fail
      | _, _ => Y.fail) := by
    intro st
    obtain ⟨env, heap, dd, bb⟩ := st
    cases dd with
    | cons a l => exact hX.fail
    | nil =>
      cases bb with
      | some q => exact hX.fail
      | none =>
        dsimp only
        cases resultsOf cx env heap fn.results.toList with
        | none => exact hX.fail
        | some vs => obtain ⟨vs, h⟩ := vs; simp only [AV.force_eq]; exact hk _ _
  cases e with
  | exit id => exact hX.fail
  | normal => exact ghostK_rel hX key
  | ret => exact ghostK_rel hX key

theorem params_rel {k : Env → R} {k' : Env → S} : ∀ (l : List AV) (t : Nat) (k : Env → R) (k' : Env → S), (∀ e, Rl (k e) (k' e)) → Rl (params t l k) (params t l k')
  | [], t, k, k', h => h _
  | v :: r, t, k, k', h => by simp only [params, AV.force_eq]; exact params_rel (k := k) (k' := k') r _ _ _ fun e => h _

theorem runBody_rel (hX : RelRec Rl X Y) (hI : RelI Rl I J) {calm : List Oper → Bool} {d : Nat} : RelI Rl (runBody X cx I calm d) (runBody Y cx J calm d) := by
  intro f a h k k' hk
  unfold runBody
  split
  · split
    · exact params_rel (k := fun _ => X.fail) (k' := fun _ => Y.fail) _ _ _ _ fun e => den_rel hX hI _ _ _ _ (finish_rel hX hk)
    · exact hX.fail
  · exact hX.fail
theorem inlN_rel (hX : RelRec Rl X Y) {calm : List Oper → Bool} : ∀ d, RelI Rl (inlN X cx calm d) (inlN Y cx calm d)
  | 0 => fun _ _ _ _ _ _ => hX.fail
  | d + 1 => runBody_rel hX (inlN_rel hX d)
theorem stepCall_rel (hX : RelRec Rl X Y) {calm : List Oper → Bool} {f : FuncId} {a : List AV} {Q : AV → R} {Q' : AV → S} (hQ : ∀ r, Rl (Q r) (Q' r)) : Rl (stepCall X cx calm f a Q) (stepCall Y cx calm f a Q') := by
  refine runBody_rel hX (inlN_rel hX _) _ _ _ _ _ fun r h => ?_
  unfold giveOut giveOut2
  cases (bif cx.ow f then release h r else r).isData
  · exact hX.fail
  · simp only [cond_true, AV.force_eq]; exact hQ _
theorem stepLoop_rel (hX : RelRec Rl X Y) {calm : List Oper → Bool} {d : Nat} {fid : FuncId} {n : Nat} {b : Code} {st : St} {K : Ex → St → R} {K' : Ex → St → S} (hK : ∀ e s, Rl (K e s) (K' e s)) :
    Rl (stepLoop X cx calm d fid n b st K) (stepLoop Y cx calm d fid n b st K') := by
  refine den_rel hX (inlN_rel hX _) _ _ _ _ fun e s => ?_
  cases e with
  | normal => simp only [loopNext]; exact cleanK_rel hX fun s => hX.loop _ _ _ _ _ _ _ hK
  | exit id => simp only [loopNext]; exact cleanK_rel hX fun s => hK _ _
  | ret => simp only [loopNext]; exact cleanK_rel hX fun s => hK _ _
end

/-! ### the least reading is a reading -/
theorem rel_lfp {cx : Ctx} {calm : List Oper → Bool} {X : Rec Prop} (hX : PreFix cx calm X) : RelRec (fun p q : Prop => p → q) (lfp cx calm) X where
  fail h := h.elim
  call f a Q Q' h hc := hX.cmono f a Q Q' h (hc X hX)
  loop d fid n b st K K' h hc := hX.lmono d fid n b st K K' h (hc X hX)
  sort l cmp cmp' K K' h1 h2 hc := by
    rw [hX.sort]
    obtain ⟨c0, c, c1, c2, c3⟩ := hc
    exact ⟨c0, c, fun a ha b hb => h1 a b _ _ (fun r h => h) (c1 a ha b hb), c2, fun l' p1 p2 => h2 l' (c3 l' p1 p2)⟩
  br b y y' n n' h1 h2 hc := by
    rw [hX.br]
    exact ⟨fun e => h1 (hc.yes e), fun e => h2 (hc.no e)⟩
  all n k k' _ h hc := by
    rw [hX.all]
    exact fun i hi => h i (hc i hi)
theorem lfp_call {cx : Ctx} {calm : List Oper → Bool} {f : FuncId} {a : List AV} {Q : AV → Prop} (h : stepCall (lfp cx calm) cx calm f a Q) : (lfp cx calm).call f a Q :=
  fun X hX => hX.call f a Q (stepCall_rel (rel_lfp hX) (fun r h => h) h)
theorem lfp_loop {cx : Ctx} {calm : List Oper → Bool} {d : Nat} {fid : FuncId} {n : Nat} {b : Code} {st : St} {K : Ex → St → Prop} (h : stepLoop (lfp cx calm) cx calm d fid n b st K) : (lfp cx calm).loop d fid n b st K :=
  fun X hX => hX.loop d fid n b st K (stepLoop_rel (rel_lfp hX) (fun e s h => h) h)
theorem lfp_cmono {cx : Ctx} {calm : List Oper → Bool} {f : FuncId} {a : List AV} {Q Q' : AV → Prop} (h : ∀ r, Q r → Q' r) (hc : (lfp cx calm).call f a Q) : (lfp cx calm).call f a Q' :=
  fun X hX => hX.cmono f a Q Q' h (hc X hX)
theorem lfp_lmono {cx : Ctx} {calm : List Oper → Bool} {d : Nat} {fid : FuncId} {n : Nat} {b : Code} {st : St} {K K' : Ex → St → Prop} (h : ∀ e s, K e s → K' e s) (hc : (lfp cx calm).loop d fid n b st K) : (lfp cx calm).loop d fid n b st K' :=
  fun X hX => hX.lmono d fid n b st K K' h (hc X hX)

theorem sorted_some {c : AV → AV → Int} (hc : Swo c) (l : List AV) : ∃ l' : List AV, l'.Perm l ∧ l'.Pairwise (fun a b => ¬ c b a < 0) := by
  refine ⟨l.mergeSort (fun a b => decide (¬ c b a < 0)), List.mergeSort_perm _ _, ?_⟩
  have := List.pairwise_mergeSort (le := fun a b => decide (¬ c b a < 0)) (fun a b d h1 h2 => by
      simp only [decide_eq_true_eq] at *
      exact hc.ntrans d b a h2 h1) (fun a b => by
      simp only [Bool.or_eq_true, decide_eq_true_eq]
      by_cases h : c b a < 0
      · right; intro h2; exact hc.irrefl _ (hc.trans _ _ _ h h2)
      · exact .inl h) l
  exact this.imp fun h => by simpa using h

/-- Something comes out. -/
def someRec : Rec Prop where
  fail := False
  all := fun n k => ∀ i, i < n → k i
  call := fun _ _ Q => ∃ r, Q r
  loop := fun _ _ _ _ _ K => ∃ e s, K e s
  sort := sortP
  br := BrP
theorem rel_some {X : Rec Prop} (hs : X.sort = sortP) (hb : X.br = BrP) (ha : X.all = fun n k => ∀ i, i < n → k i) (hf : ¬ X.fail) (hc : ∀ f a Q, X.call f a Q → ∃ r, Q r) (hl : ∀ d fid n b st K, X.loop d fid n b st K → ∃ e s, K e s) (C : Prop) :
    RelRec (fun (p : Prop) (_ : Unit) => p → C) X ⟨(), fun _ _ => (), fun _ _ _ => (), fun _ _ _ _ _ _ => (), fun _ _ _ => (), fun _ _ _ => ()⟩ where
  fail h := absurd h hf
  call f a Q Q' h hq := let ⟨r, hr⟩ := hc f a Q hq; h r hr
  loop d fid n b st K K' h hq := let ⟨e, s, hs⟩ := hl d fid n b st K hq; h e s hs
  sort l cmp cmp' K K' h1 h2 hq := by
    rw [hs] at hq
    obtain ⟨_, c, c1, c2, c3⟩ := hq
    obtain ⟨l', p1, p2⟩ := sorted_some c2 l
    exact h2 l' (c3 l' p1 p2)
  br b y y' n n' h1 h2 hc := by
    rw [hb] at hc
    cases b
    · exact h2 (hc.no rfl)
    · exact h1 (hc.yes rfl)
  all n k k' h0 h hc := by
    rw [ha] at hc
    exact h 0 (hc 0 h0)
theorem some_call {cx : Ctx} {calm : List Oper → Bool} {X : Rec Prop} (hs : X.sort = sortP) (hb : X.br = BrP) (ha : X.all = fun n k => ∀ i, i < n → k i) (hf : ¬ X.fail) (hc : ∀ f a Q, X.call f a Q → ∃ r, Q r) (hl : ∀ d fid n b st K, X.loop d fid n b st K → ∃ e s, K e s) {f : FuncId} {a : List AV} {Q : AV → Prop}
    (h : stepCall X cx calm f a Q) : ∃ r, Q r :=
  stepCall_rel (Q' := fun _ => ()) (rel_some hs hb ha hf hc hl (∃ r, Q r)) (fun r hr => ⟨r, hr⟩) h
theorem some_loop {cx : Ctx} {calm : List Oper → Bool} {X : Rec Prop} (hs : X.sort = sortP) (hb : X.br = BrP) (ha : X.all = fun n k => ∀ i, i < n → k i) (hf : ¬ X.fail) (hc : ∀ f a Q, X.call f a Q → ∃ r, Q r) (hl : ∀ d fid n b st K, X.loop d fid n b st K → ∃ e s, K e s) {d : Nat} {fid : FuncId} {n : Nat} {b : Code} {st : St} {K : Ex → St → Prop}
    (h : stepLoop X cx calm d fid n b st K) : ∃ e s, K e s :=
  stepLoop_rel (K' := fun _ _ => ()) (rel_some hs hb ha hf hc hl (∃ e s, K e s)) (fun e s hr => ⟨e, s, hr⟩) h
end Ax

/- Code, loops, bodies; the machine is sound. -/
set_option linter.unusedVariables false
set_option linter.unusedSimpArgs false
namespace Ax
open Go Go.RowKit

def Post (P : Program) (A : Amb) (nt : Nat) (k : Ex → St → Prop) : Exit → Act → World → Prop
  | .normal, a, w => ∃ st, Good P A nt [] st a w ∧ k .normal st
  | .exit id, a, w => ∃ st, Good P A nt [] st a w ∧ k (.exit id) st
  | .ret, a, w => ∃ st, Good P A nt [] st a w ∧ k .ret st
  | _, _, _ => False

def ntmpsOf (P : Program) (fid : FuncId) : Nat := match P.funcs[fid]? with | some fn => fn.ntmps | none => 0

/-- Drawn regions are calm. -/
def codeCalm (calm : List Oper → Bool) : Code → Bool
  | .region _ ops draw => !draw || !calm ops.toList || calmB ops.toList
  | .seq a b => codeCalm calm a && codeCalm calm b
  | .cond _ a b => codeCalm calm a && codeCalm calm b
  | .block _ b => codeCalm calm b
  | .loop b => codeCalm calm b
  | .scope b => codeCalm calm b
  | _ => true
/-- A loop, from the head of its body. -/
def LoopOK (P : Program) (calm : List Oper → Bool) (fid : FuncId) (n : Nat) (b : Code) (st : St) (K : Ex → St → Prop) : Prop :=
  codeCalm calm b = true → ∀ (A : Amb) (a : Act) (w : World), A.bl0.length ≤ n → Good P A (ntmpsOf P fid) [] st a w → ∀ (fr : Frame) (k : List Item) (cs : List Frame),
    ∃ e a' w', Post P A (ntmpsOf P fid) K e a' w' ∧ Arrives P (lone (fr.at a (.code b :: .inLoop b :: k)) cs w) fr k cs e a' w'

/-- What is asked of the program. -/
structure ProgOK (P : Program) (calm : List Oper → Bool) (srt : FuncId → Nat) : Prop where
  name : NameOK P
  mixed : P.follows .mixedOrders = true
  prim : ∀ f, 0 < srt f → SortPrim P f (srt f)
  calm : ∀ (f : Nat) fn c, P.funcs[f]? = some fn → fn.body = some c → codeCalm calm c = true

section
variable {P : Program} {A : Amb} {nt : Nat} {X : Rec Prop} {cx : Ctx} {I : FuncId → List AV → Heap → (AV → Heap → Prop) → Prop}

theorem hoist_plain (P : Program) : ∀ (l : List Oper), ∀ o ∈ hoistAll P l, o.isArr = false
  | [], o, h => by simp [hoistAll] at h
  | x :: r, o, h => by
    simp only [hoistAll, List.mem_append] at h
    rcases h with h | h
    · unfold hoisted at h
      split at h
      · simp at h; subst h; rfl
      · split at h <;> (simp at h; subst h; rfl)
      · simp at h
    · exact hoist_plain P r o h
theorem ghostK_sound {l : List Ghost} {st : St} {k : St → Prop} {a : Act} {w : World} (hX : ¬ X.fail) (hg : Good P A nt [] st a w) (hk : ghostK X l st k) : ∃ st', Good P A nt [] st' a w ∧ k st' := by
  obtain ⟨env, heap, defers, bor⟩ := st
  unfold ghostK at hk
  cases l with
  | nil => exact ⟨_, hg, hk⟩
  | cons g r =>
    dsimp only at hk
    split at hk
    · rename_i env' heap' he
      rw [Env.forceV_eq, Heap.force_eq] at hk
      have hlen := good_len hg
      obtain ⟨ha, rfl, U, bl, ob, h⟩ := hg
      obtain ⟨⟨U', bl', ob', h'⟩, _⟩ := ghosts_sound _ h hlen he
      exact ⟨_, ⟨ha, rfl, U', bl', ob', h'⟩, hk⟩
    · exact absurd hk hX

theorem hoisted_none : ∀ {l : List Oper}, hoistAll P l = [] → ∀ (i : Nat) o, l[i]? = some o → hoisted P o = []
  | [], h, i, o, ho => by simp at ho
  | p :: r, h, i, o, ho => by
    simp only [hoistAll, List.append_eq_nil_iff] at h
    cases i with
    | zero => simp at ho; subst ho; exact h.1
    | succ i => exact hoisted_none h.2 i o (by simpa using ho)
theorem dst_of : ∀ {l : List Oper}, dstOk nt l = true → ∀ (i : Nat) o, l[i]? = some o → ∀ s, o.dst = some s → s < nt
  | [], hd, i, o, h => by simp at h
  | p :: r, hd, i, o, h => by
    simp only [dstOk, Bool.and_eq_true] at hd
    intro s hs
    cases i with
    | zero => simp at h; subst h; have := hd.1; rw [hs] at this; simpa [blt_eq] using this
    | succ i => exact dst_of hd.2 i o (by simpa using h) s hs
theorem ready_eq {ops : Array Oper} {listed : Array Bool} {done : List Nat} (hs : listed.size = ops.size) (hl : ∀ i, listed.getD i false = memN i done) : Region.ready .any ops listed = readyN ops.toList done := by
  unfold Region.ready readyN
  have e : ops.toList.length = ops.size := by simp
  rw [e]
  refine List.filter_congr fun i hi => ?_
  have hi : i < ops.size := List.mem_range.1 hi
  have h1 : listed.getD i true = memN i done := by
    rw [← hl i]; simp [Array.getD, hs, hi]
  rw [h1]
  congr 1
  have h2 : ops[i]? = some ops[i] := by simp [hi]
  have h3 : ops.toList[i]? = some ops[i] := by simp [hi]
  rw [h2, h3]
  simp only [Option.map_some, Option.getD_some]
  rw [← Array.all_toList]
  congr 1
  funext e
  rw [hl]
theorem anyAll_sound (hL : Leans P cx X I) (hP : cx.P = P) {fid rid : Nat} {ops : Array Oper} {n : Nat} (hA : A.bl0.length ≤ n) (hd : dstOk nt ops.toList = true) (hno : hoistAll P ops.toList = []) {k : St → Prop} {Q : Exit → Act → World → Prop}
    (hQ : ∀ st a w, Good P A nt [] st a w → k st → Q .normal a w) : ∀ (fuel : Nat) (done : List Nat) (listed : Array Bool) (st : St) (a : Act) (w : World),
    listed.size = ops.size → (∀ i, listed.getD i false = memN i done) → True → Good P A nt [] st a w → denAny X cx I fid rid n ops.toList fuel done st k → wpAny P .any ops Q fuel listed a w := by
  intro fuel
  induction fuel with
  | zero =>
    intro done listed st a w hs hl _ hg hk
    simp only [denAny] at hk
    unfold wpAny
    rw [ready_eq hs hl]
    split at hk
    · rename_i he; exact ⟨he, hQ _ _ _ hg hk⟩
    · exact absurd hk hL.fail
  | succ fuel ih =>
    intro done listed st a w hs hl _ hg hk
    have one : ∀ i, i ∈ readyN ops.toList done → denOne X cx I fid rid n ops.toList i st (fun st => denAny X cx I fid rid n ops.toList fuel (i :: done) st k) → wpOp P ops Q i (wpAny P .any ops Q fuel (listed.setIfInBounds i true)) a w := by
      intro i hi hk
      have hi : i < ops.size := by
        have := (List.mem_filter.1 hi).1
        simpa using this
      obtain ⟨env, heap, defers, bor⟩ := st
      unfold denOne at hk
      have h3 : ops.toList[i]? = some ops[i] := by simp [hi]
      rw [h3] at hk
      dsimp only at hk
      cases hgd : ops[i].guard with
      | some q => rw [hgd] at hk; exact absurd hk hL.fail
      | none =>
        rw [hgd] at hk
        dsimp only at hk
        have hho := hoisted_none hno i _ h3
        have hop := denOp_sound (Q := Q) hL hP (pend' := []) hg (by rw [hho]; intro p hp; simp [waits] at hp) (fun p hp => by simp at hp) hA (good_len hg) (dst_of hd i _ h3) hk
        refine wpOp_mono (K := NextIs P A nt [] fun st => denAny X cx I fid rid n ops.toList fuel (i :: done) st k) (fun a' w' => ?_) ?_
        · rintro ⟨st', hg', hk'⟩
          refine ih (i :: done) _ st' a' w' (by simp [hs]) (fun j => ?_) trivial hg' hk'
          rw [Array.getD_eq_getD_getElem?, Array.getElem?_setIfInBounds]
          simp only [memN, beq_eq]
          by_cases e : i = j
          · subst e; simp [hs, hi]
          · rw [if_neg e, ← Array.getD_eq_getD_getElem?, hl j]; simp [e]
        · unfold wpOp
          have h2 : ops[i]? = some ops[i] := by simp [hi]
          rw [h2]
          dsimp only
          rw [if_pos (by simp [Region.wanted, hgd])]
          exact .inl hop
    unfold wpAny
    rw [ready_eq hs hl]
    simp only [denAny] at hk
    split at hk
    · rename_i he
      rw [he]
      exact ⟨fun _ => hQ _ _ _ hg hk, fun i hi => by simp at hi⟩
    · rename_i i he
      refine ⟨fun h => (by rw [he] at h; cases h), fun j hj => ?_⟩
      have : j = i := by rw [he] at hj; simpa using hj
      subst this
      exact one _ hj hk
    · rename_i l h1 h2
      rw [hL.all] at hk
      refine ⟨fun h => absurd h h1, fun j hj => ?_⟩
      obtain ⟨q, hq⟩ := List.getElem?_of_mem hj
      have hlt := (List.getElem?_eq_some_iff.1 hq).1
      have := hk q hlt
      simp only [List.getD_eq_getElem?_getD, hq, Option.getD_some] at this
      exact one _ hj this
theorem den_sound (hL : Leans P cx X I) (hX : Calm X) (hP : cx.P = P) {calm : List Oper → Bool} (hM : P.follows .mixedOrders = true) {d : Nat} {fid : FuncId} (hnt : nt = ntmpsOf P fid)
    (hl : ∀ n b st K, X.loop d fid n b st K → LoopOK P calm fid n b st K) : ∀ (c : Code), codeCalm calm c = true → ∀ (st : St) (k : Ex → St → Prop) (a : Act) (w : World),
    Good P A nt [] st a w → den X cx I calm nt d fid c st k → c.wp P (Post P A nt k) a w := by
  intro c
  induction c with
  | skip => intro hcc st k a w hg hk; exact wp_skip ⟨st, hg, by simpa only [den] using hk⟩
  | label l => intro hcc st k a w hg hk; exact wp_label ⟨st, hg, by simpa only [den] using hk⟩
  | region id ops draw =>
    rintro hcc st0 k a w hg0 hk
    simp only [den] at hk
    rcases cond_elim hk with ⟨hc, hk⟩ | ⟨_, hk⟩
    · rw [Bool.and_eq_true] at hc
      obtain ⟨hdr, hd⟩ := hc
      obtain ⟨⟨env, heap, defers, bor⟩, hg, hk⟩ := ghostK_sound hL.fail hg0 hk
      dsimp only at hk
      rw [forceNat_eq, Heap.force_eq] at hk
      cases draw with
      | true =>
        have hcalm : calmB ops.toList = true := by
          have h1 : calm ops.toList = true := by simpa using hdr
          simpa [codeCalm, h1] using hcc
        have hlen := good_len hg
        obtain ⟨ha, rfl, U, bl, ob, h⟩ := hg
        have h' := (h.hoist (hoistAll P ops.toList) (hoist_plain P ops.toList)).ext (drew_ext w (w.drawn + 1) U (Nat.le_succ _))
        rw [List.nil_append, ← pendT_tags ops.toList 0] at h'
        rw [hP] at hk
        have hcl : Closed fun st => ∃ st0, EqSt st0 st ∧ k .normal st0 := fun a b hab ⟨s0, h1, h2⟩ => ⟨s0, h1.trans hab, h2⟩
        have hk' := denOps_steps hX (k := fun st => ∃ st0, EqSt st0 st ∧ k .normal st0) hcl (fun st h => ⟨st, EqSt.refl st, h⟩) _ _ _ _ ⟨[], rfl⟩ hk
        rw [hP] at hk'
        have hlt : left (tags P 0 heap.length ops.toList) (Array.replicate ops.size false) = tags P 0 heap.length ops.toList := by
          refine List.filter_eq_self.2 fun t ht => ?_
          obtain ⟨_, t2, _⟩ := tags_mem ht
          have := (List.getElem?_eq_some_iff.1 t2).1
          simp at this
          simp [Array.getD, this]
        refine wp_region_any hM (any_sound hL hX hP (n := heap.length) hcalm hlen hd hcl ?_ ops.size (Array.replicate ops.size false) ⟨env, heap ++ hoistAll P ops.toList, [], bor⟩ a _ (by simp) ?_ ?_ (by rw [hlt]; exact ⟨ha, rfl, U, _, ob, h'⟩) (by rw [hlt]; exact hk'))
        · rintro ⟨env1, heap1, defers1, bor1⟩ a w ⟨ha, hdf, U, bl, ob, hr⟩ ⟨⟨env0, heap0, defers0, bor0⟩, ⟨e1, e2, e3, e4⟩, hk0⟩
          dsimp only at e1 e2 e3 e4
          subst e2 e3 e4
          exact ⟨_, ⟨ha, hdf, U, bl, ob, hr.envEq e1⟩, hk0⟩
        · intro i hi
          simp [Array.getD] at hi
        · rw [hlt]
          have : ∀ (l : List Oper) ix base, (tags P ix base l).length = l.length := by
            intro l
            induction l with
            | nil => intro ix base; rfl
            | cons o r ih => intro ix base; simp [tags, ih]
          rw [this]; simp
      | false =>
      have hlen := good_len hg
      obtain ⟨ha, rfl, U, bl, ob, h⟩ := hg
      have h' := h.hoist (hoistAll P ops.toList) (hoist_plain P ops.toList)
      rw [List.nil_append] at h'
      rw [hP] at hk
      refine wp_region_list (denOps_sound hL hP (fun st a w hg hk => ⟨st, hg, hk⟩) _ 0 heap.length _ a w ⟨ha, rfl, U, _, ob, h'⟩ hlen hd hk)
    · rcases cond_elim hk with ⟨hc, hk2⟩ | ⟨_, hk2⟩
      · simp only [Bool.and_eq_true] at hc
        obtain ⟨⟨rfl, hd⟩, hno⟩ := hc
        obtain ⟨⟨env, heap, defers, bor⟩, hg, hk⟩ := ghostK_sound hL.fail hg0 hk2
        dsimp only at hk
        rw [forceNat_eq] at hk
        have hlen := good_len hg
        obtain ⟨ha, rfl, U, bl, ob, h⟩ := hg
        have hno : hoistAll P ops.toList = [] := by
          rw [hP] at hno
          unfold noHoist at hno
          split at hno
          · rename_i h; exact h
          · cases hno
        refine wp_region_any hM (anyAll_sound hL hP (n := heap.length) hlen hd hno (fun st a w hg hk => ⟨st, hg, hk⟩) ops.size [] (Array.replicate ops.size false) ⟨env, heap, [], bor⟩ a _ (by simp) (fun i => ?_) (by simp) ⟨ha, rfl, _, bl, ob, h.ext (drew_ext w (w.drawn + 1) U (Nat.le_succ _))⟩ (by simpa using hk))
        simp only [Array.getD_eq_getD_getElem?, Array.getElem?_replicate, memN]
        split <;> rfl
      · exact absurd hk2 hL.fail
  | seq x y ihx ihy =>
    intro hcc st k a w hg hk
    simp only [den] at hk
    refine wp_seq (wp_mono (ihx (by simp only [codeCalm, Bool.and_eq_true] at hcc; exact hcc.1) st _ a w hg hk) ?_)
    intro e a w hp
    cases e with
    | normal => obtain ⟨st', hg', hk'⟩ := hp; exact ihy (by simp only [codeCalm, Bool.and_eq_true] at hcc; exact hcc.2) st' k a w hg' hk'
    | exit id => exact hp
    | ret => exact hp
    | goto l => exact hp
    | panic ch => exact hp
    | outgrown => exact hp
  | cond c x y ihx ihy =>
    rintro hcc ⟨env, heap, defers, bor⟩ k a w hg hk
    simp only [den] at hk
    obtain ⟨ha, rfl, U, bl, ob, h⟩ := hg
    split at hk
    · rename_i b hb
      have hr := evo_at h 0 c
      rw [hP] at hb
      rw [hb] at hr
      rw [branch_eq hL.br] at hk
      have hs : ∀ s, condSlot c = some s → env.get s = .bool b := by
        intro s hs
        cases c <;> simp [condSlot] at hs
        subst hs; exact hb
      refine wp_cond (rep_bool' hr) ?_
      cases b
      · exact ihy (by simp only [codeCalm, Bool.and_eq_true] at hcc; exact hcc.2) _ k a w ⟨ha, rfl, U, bl, ob, h.settle hs⟩ hk
      · exact ihx (by simp only [codeCalm, Bool.and_eq_true] at hcc; exact hcc.1) _ k a w ⟨ha, rfl, U, bl, ob, h.settle hs⟩ hk
    · exact absurd hk hL.fail
  | block id b ih =>
    intro hcc st k a w hg hk
    simp only [den] at hk
    refine wp_block (wp_mono (ih hcc st _ a w hg hk) ?_)
    intro e a w hp
    cases e with
    | normal => exact hp
    | exit id' =>
      obtain ⟨st', hg', hk'⟩ := hp
      simp only [beq_eq] at hk'
      by_cases e : id' = id
      · simp only [Exit.inBlock, e, if_true]
        simp only [e, decide_true, cond_true] at hk'
        exact ⟨st', hg', hk'⟩
      · simp only [Exit.inBlock, if_neg e]
        simp only [e, decide_false, cond_false] at hk'
        exact ⟨st', hg', hk'⟩
    | ret => exact hp
    | goto l => exact hp
    | panic ch => exact hp
    | outgrown => exact hp
  | loop b ih =>
    intro hcc st0 k a w hg0 hk
    simp only [den, forceNat_eq] at hk
    obtain ⟨⟨env, heap, defers, bor⟩, hg, hk⟩ := ghostK_sound hL.fail hg0 hk
    obtain ⟨st', hg', hk'⟩ := cleanK_sound hL.fail hg (good_len hg) hk
    intro fr kk cs
    subst hnt
    obtain ⟨e, a', w', hp, harr⟩ := hl _ _ _ _ hk' hcc A a w (good_len hg) hg' fr kk cs
    exact ⟨e, a', w', hp, .of_steps (.one step_loop) harr⟩
  | rangeFunc f ps x y ihx ihy => intro hcc st k a w hg hk; exact absurd hk (by simp only [den]; exact hL.fail)
  | exit id => intro hcc st k a w hg hk; exact wp_exit ⟨st, hg, by simpa only [den] using hk⟩
  | scope b ih =>
    intro hcc st k a w hg hk
    simp only [den] at hk
    refine wp_scope_straight (wp_mono (ih hcc st _ a w hg hk) ?_)
    intro e a w hp
    cases e with
    | goto l => exact hp
    | _ => exact hp
  | goto l => intro hcc st k a w hg hk; exact absurd hk (by simp only [den]; exact hL.fail)
  | ret => intro hcc st k a w hg hk; exact wp_ret ⟨st, hg, by simpa only [den] using hk⟩
  | refuse y => intro hcc st k a w hg hk; exact absurd hk (by simp only [den]; exact hL.fail)

theorem stepLoop_sound (hL : Leans P cx X I) (hX : Calm X) (hP : cx.P = P) {calm : List Oper → Bool} (hM : P.follows .mixedOrders = true) {d : Nat} {fid : FuncId} (hl : ∀ n b st K, X.loop d fid n b st K → LoopOK P calm fid n b st K)
    {n : Nat} {b : Code} {st : St} {K : Ex → St → Prop} (h : den X cx I calm (ntmpsOf P fid) d fid b st (loopNext X cx d fid n b K)) : LoopOK P calm fid n b st K := by
  intro hcc A a w hA hg fr k cs
  obtain ⟨e, a₁, w₁, hq, harr⟩ := den_sound hL hX hP hM rfl hl b hcc st _ a w hg h fr (.inLoop b :: k) cs
  cases e with
  | normal =>
    obtain ⟨st', hg', hk'⟩ := hq
    obtain ⟨st'', hg'', hk''⟩ := cleanK_sound hL.fail hg' hA (by unfold loopNext at hk'; exact hk')
    obtain ⟨e₂, a₂, w₂, hq₂, harr₂⟩ := hl _ _ _ _ hk'' hcc A a₁ w₁ hA hg'' fr k cs
    exact ⟨e₂, a₂, w₂, hq₂, .of_steps (Steps.trans harr (.one step_inLoop)) harr₂⟩
  | exit id =>
    obtain ⟨st', hg', hk'⟩ := hq
    obtain ⟨st'', hg'', hk''⟩ := cleanK_sound hL.fail hg' hA (by unfold loopNext at hk'; exact hk')
    exact ⟨.exit id, a₁, w₁, ⟨st'', hg'', hk''⟩, .pass (x := .inLoop b) rfl (fun _ _ => .inl (by simp)) harr⟩
  | ret =>
    obtain ⟨st', hg', hk'⟩ := hq
    obtain ⟨st'', hg'', hk''⟩ := cleanK_sound hL.fail hg' hA (by unfold loopNext at hk'; exact hk')
    exact ⟨.ret, a₁, w₁, ⟨st'', hg'', hk''⟩, .pass (x := .inLoop b) rfl (fun _ _ => .inl (by simp)) harr⟩
  | goto l => exact hq.elim
  | panic ch => exact hq.elim
  | outgrown => exact hq.elim

/-! ### bodies -/
theorem params_get {R : Type} : ∀ (args : List AV) (t : Nat) (k : Env → R), ∃ env, params t args k = k env ∧ ∀ s, env.get s = if t ≤ s then ((args[s - t]?).map AV.strip).getD .undef else .undef
  | [], t, k => ⟨[], rfl, fun s => by simp [Env.get]⟩
  | v :: r, t, k => by
    obtain ⟨env, h1, h2⟩ := params_get r (t + 1) (fun r => k ((t, v.strip) :: r))
    refine ⟨(t, v.strip) :: env, by simp only [params, AV.force_eq]; exact h1, fun s => ?_⟩
    simp only [Env.get, beq_eq]
    by_cases e : t = s
    · subst e; simp
    · simp only [e, decide_false, cond_false, h2 s]
      by_cases hl : t ≤ s
      · have : s - t = (s - (t + 1)) + 1 := by omega
        rw [if_pos (by omega), if_pos hl, this]; simp
      · rw [if_neg (by omega), if_neg hl]

/-- Slots that the results are read from. -/
def topR : List ResultVar → Nat
  | [] => 0
  | .tmp t :: r => max (t + 1) (topR r)
  | .cell a _ :: r => max (a + 1) (topR r)
def runR (tm : Array Value) (rs : List ResultVar) : Sem (List Value) := rs.mapM (fun
      | .tmp t => pure (tm.getD t undef)
      | .cell b t => do loadVar t (← asAddr (tm.getD b undef)) : ResultVar → Sem Value)
theorem runR_eq {tm tm' : Array Value} : ∀ {rs : List ResultVar}, (∀ t, t < topR rs → tm.getD t undef = tm'.getD t undef) → runR tm rs = runR tm' rs
  | [], h => rfl
  | .tmp t :: r, h => by
    have ih := runR_eq (rs := r) fun s hs => h s (by simp only [topR]; omega)
    unfold runR at ih ⊢
    simp only [List.mapM_cons, h t (by simp only [topR]; omega), ih]
  | .cell a t :: r, h => by
    have ih := runR_eq (rs := r) fun s hs => h s (by simp only [topR]; omega)
    unfold runR at ih ⊢
    simp only [List.mapM_cons, h a (by simp only [topR]; omega), ih]
theorem resultsOf_eq {cx : Ctx} {env env' : Env} : ∀ {rs : List ResultVar} {heap : Heap}, (∀ t, t < topR rs → env.get t = env'.get t) → resultsOf cx env heap rs = resultsOf cx env' heap rs
  | [], heap, h => rfl
  | .tmp t :: r, heap, h => by
    have ih := resultsOf_eq (cx := cx) (rs := r) (heap := heap) fun s hs => h s (by simp only [topR]; omega)
    simp only [resultsOf, h t (by simp only [topR]; omega), ih]
  | .cell a t :: r, heap, h => by
    have ih := fun heap => resultsOf_eq (cx := cx) (rs := r) (heap := heap) fun s hs => h s (by simp only [topR]; omega)
    simp only [resultsOf, h a (by simp only [topR]; omega), ih]

theorem take_forb {cx : Ctx} {heap heap' : Heap} {bl : Blocks} {t : TypeId} {p v : AV} (h : takeAV cx heap t p = some (v, heap')) (b : Nat) (hf : forb A bl heap' b) : forb A bl heap b := by
  unfold takeAV at h
  split at h
  · rename_i id off
    split at h
    · rename_i cs hg
      split at h
      · rename_i v0 hpart
        cases hc : (!tyAgg cx.P t && v0.scal) with
        | false => rw [hc] at h; simp at h
        | true =>
          rw [hc] at h
          simp only [cond_true, Option.some.injEq, Prod.mk.injEq] at h
          obtain ⟨rfl, rfl⟩ := h
          rcases hf with hf | ⟨j, hj, hd⟩
          · exact .inl hf
          · refine .inr ⟨j, hj, ?_⟩
            rw [heap_get_set] at hd
            by_cases e : id = j ∧ j < heap.length
            · rw [← e.1, hg]; simp
            · rwa [if_neg e] at hd
      · simp at h
    · simp at h
  · simp at h

/-- What the results bring: 'sl' is the slot whose room goes with a result. -/
structure Results (P : Program) (A : Amb) (w : World) (U : Nat → Nat) (bl : Blocks) (ob : Loc → Option Nat) (heap : Heap) (rs : List ResultVar) (n : Nat) (sl : Nat → Option Nat) (vs : List AV) (xs : List Value) : Prop where
  len : vs.length = rs.length
  len' : xs.length = rs.length
  rep : ∀ (i : Nat) v x, vs[i]? = some v → xs[i]? = some x → Rep w (forb A bl heap) U bl v x
  own : ∀ (i : Nat) v x, vs[i]? = some v → xs[i]? = some x → Bare v ∨ ∃ t, sl i = some t ∧ OwnAt w (forb A bl heap) U A.B (fun p => ob (.env t p)) v x
  inj : ∀ (i j t : Nat), sl i = some t → sl j = some t → i = j
  from' : ∀ (i t : Nat), sl i = some t → (∃ j : Nat, rs[j]? = some (.tmp t) ∧ i = j) ∨ n ≤ t

theorem usedT_in {t : Nat} : ∀ {rs : List ResultVar} {j : Nat}, rs[j]? = some (.tmp t) → usedT t rs = true
  | [], j, h => by simp at h
  | .tmp s :: r, 0, h => by simp at h; subst h; simp [usedT, beq_eq]
  | .cell a u :: r, 0, h => by simp at h
  | .tmp s :: r, j + 1, h => by simp [usedT, usedT_in (rs := r) (j := j) (by simpa using h)]
  | .cell a u :: r, j + 1, h => by simpa [usedT] using usedT_in (rs := r) (j := j) (by simpa using h)
theorem topR_in {t : Nat} : ∀ {rs : List ResultVar} {j : Nat}, rs[j]? = some (.tmp t) → t < topR rs
  | [], j, h => by simp at h
  | .tmp s :: r, 0, h => by simp at h; subst h; simp only [topR]; omega
  | .cell a u :: r, 0, h => by simp at h
  | .tmp s :: r, j + 1, h => by have := topR_in (rs := r) (j := j) (by simpa using h); simp only [topR]; omega
  | .cell a u :: r, j + 1, h => by have := topR_in (rs := r) (j := j) (by simpa using h); simp only [topR]; omega

theorem Rel.push {heap : Heap} {bor} {env : Env} {tm : Array Value} {w : World} {U : Nat → Nat} {bl : Blocks} {ob : Loc → Option Nat} {pend} (h : Rel P A nt pend env heap bor tm w U bl ob) : Rel P A (tm.size + 1) pend env heap bor (tm.push undef) w U bl ob := by
  have hg : ∀ t, (tm.push undef).getD t undef = tm.getD t undef := by
    intro t
    simp only [Array.getD_eq_getD_getElem?, Array.getElem?_push]
    by_cases e : t = tm.size
    · subst e; simp
    · rw [if_neg e]
  exact { h with size := by simp, env := fun t => by rw [hg t]; exact h.env t }

theorem resultsOf_sound {cx : Ctx} (hP : cx.P = P) {bor} {w : World} {U : Nat → Nat} {bl : Blocks} {pend} :
    ∀ (rs : List ResultVar) (env : Env) (heap heap' : Heap) (tm : Array Value) (ob : Loc → Option Nat) (vs : List AV), Rel P A tm.size pend env heap bor tm w U bl ob → topR rs ≤ tm.size → resultsOf cx env heap rs = some (vs, heap') →
    ∃ xs env' tm' ob' sl, (runR tm rs).run P w = .ok xs w ∧ Rel P A tm'.size pend env' heap' bor tm' w U bl ob' ∧ (∀ t, t < tm.size → env'.get t = env.get t ∧ tm'.getD t undef = tm.getD t undef) ∧ (∀ b, forb A bl heap' b → forb A bl heap b) ∧ Results P A w U bl ob' heap' rs tm.size sl vs xs
  | [], env, heap, heap', tm, ob, vs, h, ht, hr => by
    simp only [resultsOf, Option.some.injEq, Prod.mk.injEq] at hr
    obtain ⟨rfl, rfl⟩ := hr
    exact ⟨[], env, tm, ob, fun _ => none, by simp [runR], h, fun t _ => ⟨rfl, rfl⟩, fun b hb => hb, ⟨rfl, rfl, fun i v x hv => by simp at hv, fun i v x hv => by simp at hv, fun i j t hi => by simp at hi, fun i t hi => by simp at hi⟩⟩
  | .tmp t :: r, env, heap, heap', tm, ob, vs, h, ht, hr => by
    simp only [topR] at ht
    simp only [resultsOf] at hr
    split at hr
    · rename_i vs' h1' hr'
      simp only [Option.some.injEq, Prod.mk.injEq] at hr
      obtain ⟨rfl, rfl⟩ := hr
      obtain ⟨xs, env', tm', ob', sl, h1, h2, h3, h4, h5⟩ := resultsOf_sound hP r env heap _ tm ob vs' h (by omega) hr'
      have hlt : t < tm.size := Nat.lt_of_lt_of_le (Nat.lt_of_lt_of_le (Nat.lt_succ_self t) (Nat.le_max_left _ _)) ht
      have he := h2.env t
      rw [(h3 t hlt).1, (h3 t hlt).2] at he
      refine ⟨tm.getD t undef :: xs, env', tm', ob', fun i => match i with | 0 => if usedT t r then none else some t | i + 1 => sl i, ?_, h2, h3, h4, ⟨by simp [h5.len], by simp [h5.len'], fun i v x hv hx => ?_, fun i v x hv hx => ?_, fun i j s hi hj => ?_, fun i s hi => ?_⟩⟩
      · unfold runR at h1 ⊢
        simp only [List.mapM_cons, Sem.run_bind, Sem.run_pure, Result.andThen_ok] at h1 ⊢
        rw [h1]; rfl
      · cases i with
        | zero =>
          simp only [List.getElem?_cons_zero, Option.some.injEq] at hv hx
          subst hv hx
          cases usedT t r
          · exact he.1
          · exact he.1.strip
        | succ i => exact h5.rep i v x (by simpa using hv) (by simpa using hx)
      · cases i with
        | zero =>
          simp only [List.getElem?_cons_zero, Option.some.injEq] at hv hx
          subst hv hx
          cases hu : usedT t r
          · exact .inr ⟨t, by simp, he.2⟩
          · exact .inl (strip_bare _)
        | succ i => exact h5.own i v x (by simpa using hv) (by simpa using hx)
      · have key : ∀ i, sl i = some t → usedT t r = true := by
          intro i hi
          rcases h5.from' i t hi with ⟨j, hj, _⟩ | hn
          · exact usedT_in hj
          · omega
        cases i with
        | zero =>
          cases j with
          | zero => rfl
          | succ j =>
            dsimp only at hi hj
            split at hi
            · cases hi
            · rename_i hu; cases hi; exact absurd (key j hj) hu
        | succ i =>
          cases j with
          | zero =>
            dsimp only at hi hj
            split at hj
            · cases hj
            · rename_i hu; cases hj; exact absurd (key i hi) hu
          | succ j => exact congrArg (· + 1) (h5.inj i j s hi hj)
      · cases i with
        | zero =>
          dsimp only at hi
          split at hi
          · cases hi
          · cases hi; exact .inl ⟨0, rfl, rfl⟩
        | succ i =>
          rcases h5.from' i s hi with ⟨j, hj, rfl⟩ | hn
          · exact .inl ⟨i + 1, by simpa using hj, rfl⟩
          · exact .inr hn
    · simp at hr
  | .cell b t :: r, env, heap, heap', tm, ob, vs, h, ht, hr => by
    simp only [topR] at ht
    simp only [resultsOf] at hr
    have toRun : ∀ {x0 : Value}, (Instr.loadAt t (tm.getD b undef)).run P w = .ok x0 w → (do loadVar t (← asAddr (tm.getD b undef)) : Sem Value).run P w = .ok x0 w := by
      intro x0 hx0
      generalize tm.getD b undef = y at hx0
      simp only [Instr.loadAt, Sem.run_bind] at hx0 ⊢
      cases y with
      | pointer p =>
        cases p with
        | none => simp [Instr.sureAddr, stuck] at hx0
        | some p => simpa [Instr.sureAddr, asAddr] using hx0
      | _ => simp [Instr.sureAddr, stuck] at hx0
    split at hr
    · rename_i v0 heap1 htk
      split at hr
      · rename_i vs' h1' hr'
        simp only [Option.some.injEq, Prod.mk.injEq] at hr
        obtain ⟨rfl, rfl⟩ := hr
        have hp := h.push
        obtain ⟨y, hy, ob1, h1⟩ := take_sound (d := some tm.size) hP hp htk (h.env b).1 (by rintro s ⟨⟩; exact Nat.lt_succ_self _)
        have htm1 : ∀ s, s < tm.size → (putO (tm.push undef) (some tm.size) y).getD s undef = tm.getD s undef := by
          intro s hs
          simp [putO, Array.getD_eq_getD_getElem?, Array.getElem?_setIfInBounds, Array.getElem?_push, show ¬ tm.size = s by omega, show ¬ s = tm.size by omega]
        have htmn : (putO (tm.push undef) (some tm.size) y).getD tm.size undef = y := by
          simp [putO, Array.getD_eq_getD_getElem?]
        have hsz : (putO (tm.push undef) (some tm.size) y).size = tm.size + 1 := by simp [putO]
        have henv1 : ∀ s, s < tm.size → (setO env (some tm.size) v0).get s = env.get s := by
          intro s hs
          simp only [setO]; rw [get_set, if_neg (by omega)]
        have henvn : (setO env (some tm.size) v0).get tm.size = v0 := by simp only [setO]; rw [get_set]; simp
        rw [resultsOf_eq (env' := setO env (some tm.size) v0) fun s hs => (henv1 s (by omega)).symm] at hr'
        obtain ⟨xs, env', tm', ob', sl, k1, k2, k3, k4, k5⟩ := resultsOf_sound hP r (setO env (some tm.size) v0) heap1 _ _ ob1 vs' (by rw [hsz]; exact h1) (by rw [hsz]; omega) hr'
        rw [runR_eq (tm' := tm) fun s hs => htm1 s (by omega)] at k1
        rw [hsz] at k3 k5
        have he := k2.env tm.size
        rw [(k3 _ (Nat.lt_succ_self _)).1, (k3 _ (Nat.lt_succ_self _)).2, henvn, htmn] at he
        refine ⟨y :: xs, env', tm', ob', fun i => match i with | 0 => some tm.size | i + 1 => sl i, ?_, k2, fun s hs => ⟨(k3 s (by omega)).1.trans (henv1 s hs), (k3 s (by omega)).2.trans (htm1 s hs)⟩, fun c hc => take_forb htk c (k4 c hc), ⟨by simp [k5.len], by simp [k5.len'], fun i v x hv hx => ?_, fun i v x hv hx => ?_, fun i j s hi hj => ?_, fun i s hi => ?_⟩⟩
        · have hx0' := toRun hy
          unfold runR at k1 ⊢
          simp only [List.mapM_cons, Sem.run_bind, Sem.run_pure, Result.andThen_ok] at k1 hx0' ⊢
          rw [hx0']; simp only [Result.andThen_ok]
          rw [k1]; rfl
        · cases i with
          | zero =>
            simp only [List.getElem?_cons_zero, Option.some.injEq] at hv hx
            subst hv hx
            exact he.1
          | succ i => exact k5.rep i v x (by simpa using hv) (by simpa using hx)
        · cases i with
          | zero =>
            simp only [List.getElem?_cons_zero, Option.some.injEq] at hv hx
            subst hv hx
            exact .inr ⟨_, rfl, he.2⟩
          | succ i => exact k5.own i v x (by simpa using hv) (by simpa using hx)
        · have key : ∀ i, sl i ≠ some tm.size := by
            intro i hi
            rcases k5.from' i _ hi with ⟨j, hj, _⟩ | hn
            · have := topR_in hj; omega
            · omega
          cases i with
          | zero =>
            cases j with
            | zero => rfl
            | succ j => cases hi; exact absurd hj (key j)
          | succ i =>
            cases j with
            | zero => cases hj; exact absurd hi (key i)
            | succ j => exact congrArg (· + 1) (k5.inj i j s hi hj)
        · cases i with
          | zero => cases hi; exact .inr (Nat.le_refl _)
          | succ i =>
            rcases k5.from' i s hi with ⟨j, hj, rfl⟩ | hn
            · exact .inl ⟨i + 1, by simpa using hj, rfl⟩
            · exact .inr (by omega)
      · simp at hr
    · split at hr
      · rename_i v0 vs' h1' hl hr'
        simp only [Option.some.injEq, Prod.mk.injEq] at hr
        obtain ⟨rfl, rfl⟩ := hr
        rw [hP] at hl
        obtain ⟨xs, env', tm', ob', sl, k1, k2, k3, k4, k5⟩ := resultsOf_sound hP r env heap _ tm ob vs' h (by omega) hr'
        obtain ⟨x0, hx0, hv0⟩ := loadAV_sound hl (h.env b).1 h.objsOK
        refine ⟨x0 :: xs, env', tm', ob', fun i => match i with | 0 => none | i + 1 => sl i, ?_, k2, k3, k4, ⟨by simp [k5.len], by simp [k5.len'], fun i v x hv hx => ?_, fun i v x hv hx => ?_, fun i j s hi hj => ?_, fun i s hi => ?_⟩⟩
        · have hx0' := toRun hx0
          unfold runR at k1 ⊢
          simp only [List.mapM_cons, Sem.run_bind, Sem.run_pure, Result.andThen_ok] at k1 hx0' ⊢
          rw [hx0']; simp only [Result.andThen_ok]
          rw [k1]; rfl
        · cases i with
          | zero =>
            simp only [List.getElem?_cons_zero, Option.some.injEq] at hv hx
            subst hv hx
            exact hv0.strip.mono ⟨fun c _ hf => .inl (k4 c hf), fun c _ _ => ⟨Nat.le_refl _, fun _ _ => rfl⟩⟩ (BlLe.refl _)
          | succ i => exact k5.rep i v x (by simpa using hv) (by simpa using hx)
        · cases i with
          | zero =>
            simp only [List.getElem?_cons_zero, Option.some.injEq] at hv hx
            subst hv hx
            exact .inl (strip_bare _)
          | succ i => exact k5.own i v x (by simpa using hv) (by simpa using hx)
        · cases i with
          | zero => cases hi
          | succ i =>
            cases j with
            | zero => cases hj
            | succ j => exact congrArg (· + 1) (k5.inj i j s hi hj)
        · cases i with
          | zero => cases hi
          | succ i =>
            rcases k5.from' i s hi with ⟨j, hj, rfl⟩ | hn
            · exact .inl ⟨i + 1, by simpa using hj, rfl⟩
            · exact .inr hn
      · simp at hr
end
end Ax
