import Derived.Test.YtemajhloddkifaaMH
/- Drawn regions: any order does what the text's order does. -/
set_option linter.unusedVariables false
set_option linter.unusedSimpArgs false
namespace Ax
open Go Go.RowKit

section
variable {X : Rec Prop} {cx : Ctx} {fid rid : Nat} {all : List Oper}

def stepsE (X : Rec Prop) (cx : Ctx) (fid rid : Nat) (all : List Oper) : List Tag → St → (St → Prop) → Prop
  | [], st, k => k st
  | t :: r, st, k => stepE X cx fid rid all t st fun st => stepsE X cx fid rid all r st k

theorem stepsE_closed (hX : Calm X) {k : St → Prop} (hc : Closed k) : ∀ (l : List Tag), Closed fun st => stepsE X cx fid rid all l st k
  | [] => hc
  | t :: r => stepE_closed hX (stepsE_closed hX hc r)

theorem stepsE_front (hX : Calm X) {k : St → Prop} (hc : Closed k) {t : Tag} (ht : BaseIn all t) : ∀ (l m : List Tag), (∀ u ∈ l, indep all u.o t.o = true ∧ BaseIn all u) → ∀ st, stepsE X cx fid rid all (l ++ t :: m) st k →
    stepE X cx fid rid all t st fun st => stepsE X cx fid rid all (l ++ m) st k
  | [], m, _, st, h => h
  | u :: l, m, hi, st, h => by
    simp only [List.cons_append, stepsE] at h ⊢
    refine stepE_swap hX (hi u (by simp)).2 ht (hi u (by simp)).1 (stepsE_closed hX hc (l ++ m)) (stepE_mono hX (fun s hs => ?_) h)
    exact stepsE_front hX hc ht l m (fun v hv => hi v (by simp [hv])) s hs

def tags (P : Program) : Nat → Nat → List Oper → List Tag
  | _, _, [] => []
  | ix, base, o :: rest => ⟨ix, base, o, rest⟩ :: tags P (ix + 1) (base + (hoisted P o).length) rest

theorem guard_get {env : Env} {j : Nat} {b : Bool} (hb : envGuard all env j = .bool b) : ∀ t, (setO env (guardSlot all j) (.bool b)).get t = env.get t := by
  intro t
  unfold envGuard at hb
  unfold guardSlot
  cases ho : all[j]? with
  | none => rfl
  | some o =>
    rw [ho] at hb
    simp only [Option.bind_some] at hb ⊢
    cases hd : o.dst with
    | none => rfl
    | some d =>
      rw [hd] at hb
      simp only [setO] at hb ⊢
      rw [get_set]
      split
      · rename_i e; subst e; exact hb.symm
      · rfl

theorem effSem_noIX {I : FuncId → List AV → Heap → (AV → Heap → Prop) → Prop} {d : Option Nat} {e : Eff} {st : St} {k : St → Prop} {l wh cv} {J} (hw : e.within l wh cv) (h : effSem X I J d e st k) : effSem X (noIX X) (noJX X) d e st k := by
  cases e with
  | inl g args => exact hw.elim
  | dc g args => exact hw.elim
  | _ => exact h

theorem effSem_anyJ {I : FuncId → List AV → Heap → (AV → Heap → Prop) → Prop} {d : Option Nat} {e : Eff} {st : St} {k : St → Prop} {l wh cv} {J J'} (hw : e.within l wh cv) (h : effSem X I J d e st k) : effSem X I J' d e st k := by
  cases e with
  | dc g args => exact hw.elim
  | _ => exact h

theorem isBase_sub {d : Option Nat} : ∀ (l m : List Oper), isBaseO d m = true → isBaseO d (l ++ m) = true
  | [], m, h => h
  | o :: l, m, h => by
    have ih := isBase_sub l m h
    cases d with
    | none => simp [isBaseO] at h
    | some d =>
      simp only [isBaseO, List.cons_append] at ih ⊢
      unfold isBase
      split
      · rename_i h1; cases h1
      · rename_i h1; simp only [List.cons.injEq] at h1; obtain ⟨_, rfl⟩ := h1; simp [ih]
      · rename_i h1; simp only [List.cons.injEq] at h1; obtain ⟨_, rfl⟩ := h1; exact ih

theorem denOps_steps (hX : Calm X) {I : FuncId → List AV → Heap → (AV → Heap → Prop) → Prop} {k0 k : St → Prop} (hc : Closed k) (hk0 : ∀ st, k0 st → k st) : ∀ (rest : List Oper) (ix base : Nat) (st : St), (∃ l, all = l ++ rest) →
    denOps X cx I true fid rid all ix base rest st k0 → stepsE X cx fid rid all (tags cx.P ix base rest) st k
  | [], ix, base, st, _, h => hk0 _ (by simpa only [denOps] using h)
  | o :: rest, ix, base, ⟨env, heap, defers, bor⟩, ⟨l0, hl0⟩, h => by
    have hsub : ∃ l, all = l ++ rest := ⟨l0 ++ [o], by simp [hl0]⟩
    have hbase : isBaseO o.dst rest = true → isBaseO o.dst all = true := fun hb' => by obtain ⟨l, hl⟩ := hsub; rw [hl]; exact isBase_sub l rest hb'
    have ih := fun st => denOps_steps hX (I := I) hc hk0 rest (ix + 1) (base + (hoisted cx.P o).length) st hsub
    have cl := stepsE_closed (cx := cx) (fid := fid) (rid := rid) (all := all) hX hc (tags cx.P (ix + 1) (base + (hoisted cx.P o).length) rest)
    unfold denOps at h
    simp only [tags, stepsE, stepE, stepEff]
    cases hg : o.guard with
    | none =>
      rw [hg] at h
      simp only [denOp_eff] at h
      exact effSem_mono hX ih (effSem_noIX (effOp_within hbase) h)
    | some jw =>
      obtain ⟨j, want⟩ := jw
      rw [hg] at h
      dsimp only at h ⊢
      have go : ∀ env', (∀ t, env'.get t = env.get t) → (denOp X cx I true fid rid ix base o rest ⟨env', heap, defers, bor⟩ fun st => denOps X cx I true fid rid all (ix + 1) (base + (hoisted cx.P o).length) rest st k0) →
          effSem X (noIX X) (noJX X) o.dst (effOp cx true fid rid ix base o rest env heap) ⟨env, heap, defers, bor⟩ fun st => stepsE X cx fid rid all (tags cx.P (ix + 1) (base + (hoisted cx.P o).length) rest) st k := by
        intro env' he hk
        rw [denOp_eff, effOp_same (env' := env) (heap' := heap) (fun s _ => he s) (fun _ => rfl)] at hk
        exact effSem_eq (st := ⟨env', heap, defers, bor⟩) hX cl ⟨he, rfl, rfl, rfl⟩ (effSem_mono hX ih (effSem_noIX (effOp_within hbase) hk))
      have pass : ∀ env', (∀ t, env'.get t = env.get t) → (putK env' o.dst (.tup []) fun env => denOps X cx I true fid rid all (ix + 1) (base + (hoisted cx.P o).length) rest ⟨env, heap, defers, bor⟩ k0) →
          effSem X (noIX X) (noJX X) o.dst (.put none (optW o.dst (.tup [])) none) ⟨env, heap, defers, bor⟩ fun st => stepsE X cx fid rid all (tags cx.P (ix + 1) (base + (hoisted cx.P o).length) rest) st k := by
        intro env' he hk
        rw [putK_setO] at hk
        simp only [effSem, setL_optW, bareO, Option.getD]
        refine cl _ _ ?_ (ih _ hk)
        exact ⟨fun t => setO_pt (he t), rfl, rfl, rfl⟩
      split at h
      · rename_i b hb
        have he := guard_get hb
        simp only [hb]
        cases want <;> cases b <;> simp only [branch_eq hX.br, cond_true, cond_false] at h
        · simp only [if_true]; exact go _ he h
        · simp only [Bool.true_eq_false, if_false]; exact pass _ he h
        · simp only [Bool.false_eq_true, if_false]; exact pass _ he h
        · simp only [if_true]; exact go _ he h
      · rename_i hb
        simp only [hb]
        exact pass env (fun _ => rfl) h
      · exact absurd h hX.fail

/-! ### what a calm region is -/
def maskOf (ms : List Nat) (o : Oper) : Nat := o.after.toList.foldr (fun e acc => if Region.binds .any e then 2 ^ e.on ||| ms.getD e.on 0 ||| acc else acc) 0
def masks : List Nat → List Oper → List Nat
  | ms, [] => ms
  | ms, o :: r => masks (ms ++ [maskOf ms o]) r
def backB (i : Nat) (o : Oper) : Bool := o.after.toList.all fun e => !Region.binds .any e || Nat.blt e.on i
def pairB (all : List Oper) (ms : List Nat) (i j : Nat) : Bool :=
  match all[i]?, all[j]? with
  | some x, some y => Nat.testBit (ms.getD i 0) j || indep all y x
  | _, _ => true
def calmB (all : List Oper) : Bool :=
  (List.range all.length).all fun i => (match all[i]? with | some o => backB i o | none => true) && (List.range i).all fun j => pairB all (masks [] all) i j

def PredsIn (all : List Oper) (L : Nat → Prop) (i : Nat) : Prop := ∀ o, all[i]? = some o → ∀ e ∈ o.after.toList, Region.binds .any e = true → L e.on
def DownL (all : List Oper) (L : Nat → Prop) : Prop := ∀ i, L i → PredsIn all L i

theorem maskOf_bit {ms : List Nat} {o : Oper} {j : Nat} (h : Nat.testBit (maskOf ms o) j = true) : ∃ e ∈ o.after.toList, Region.binds .any e = true ∧ (e.on = j ∨ Nat.testBit (ms.getD e.on 0) j = true) := by
  unfold maskOf at h
  generalize o.after.toList = l at h
  induction l with
  | nil => simp at h
  | cons e r ih =>
    simp only [List.foldr_cons] at h
    split at h
    · rename_i hb
      simp only [Nat.testBit_or, Bool.or_eq_true, Nat.testBit_two_pow, decide_eq_true_eq] at h
      rcases h with (h | h) | h
      · exact ⟨e, by simp, hb, .inl h⟩
      · exact ⟨e, by simp, hb, .inr h⟩
      · obtain ⟨e', h1, h2⟩ := ih h
        exact ⟨e', by simp [h1], h2⟩
    · obtain ⟨e', h1, h2⟩ := ih h
      exact ⟨e', by simp [h1], h2⟩

theorem masks_ok : ∀ (r : List Oper) (ms : List Nat), (∀ i, all[ms.length + i]? = r[i]?) →
    (∀ i j, Nat.testBit (ms.getD i 0) j = true → ∀ L, DownL all L → PredsIn all L i → L j) → ∀ i j, Nat.testBit ((masks ms r).getD i 0) j = true → ∀ L, DownL all L → PredsIn all L i → L j
  | [], ms, _, h => h
  | o :: r, ms, hall, h => by
    refine masks_ok r (ms ++ [maskOf ms o]) (fun i => ?_) (fun i j hb L hd hp => ?_)
    · have := hall (i + 1)
      rw [List.getElem?_cons_succ] at this
      rw [← this]; congr 1; simp; omega
    · by_cases hi : i < ms.length
      · rw [List.getD_eq_getElem?_getD, List.getElem?_append_left hi, ← List.getD_eq_getElem?_getD] at hb; exact h i j hb L hd hp
      · by_cases e : i = ms.length
        · subst e
          have : (ms ++ [maskOf ms o]).getD ms.length 0 = maskOf ms o := by simp [List.getD]
          rw [this] at hb
          obtain ⟨e, he, hbd, hj⟩ := maskOf_bit hb
          have ho : all[ms.length]? = some o := by have := hall 0; simpa using this
          have hl : L e.on := hp o ho e he hbd
          rcases hj with rfl | hj
          · exact hl
          · exact h e.on j hj L hd (hd _ hl)
        · have : (ms ++ [maskOf ms o]).getD i 0 = 0 := by
            rw [List.getD_eq_getElem?_getD, List.getElem?_eq_none (by simp; omega)]; rfl
          rw [this] at hb; simp at hb

theorem calm_spec (h : calmB all = true) : (∀ i o, all[i]? = some o → ∀ e ∈ o.after.toList, Region.binds .any e = true → e.on < i) ∧
    ∀ i j x y, j < i → all[i]? = some x → all[j]? = some y → (∀ L, DownL all L → PredsIn all L i → L j) ∨ indep all y x = true := by
  unfold calmB at h
  rw [List.all_eq_true] at h
  constructor
  · intro i o ho e he hb
    have := h i (List.mem_range.2 (List.getElem?_eq_some_iff.1 ho).1)
    rw [Bool.and_eq_true, ho] at this
    have h1 := this.1
    simp only [backB, List.all_eq_true] at h1
    have := h1 e he
    rw [hb] at this
    simpa [blt_eq] using this
  · intro i j x y hj hx hy
    have := h i (List.mem_range.2 (List.getElem?_eq_some_iff.1 hx).1)
    rw [Bool.and_eq_true] at this
    have h2 := (List.all_eq_true.1 this.2) j (List.mem_range.2 hj)
    simp only [pairB, hx, hy, Bool.or_eq_true] at h2
    rcases h2 with h2 | h2
    · exact .inl (masks_ok all [] (fun i => by simp) (fun i j hb => by simp at hb) i j h2)
    · exact .inr h2
end
end Ax

/- Drawn regions beside the model. -/
set_option linter.unusedVariables false
set_option linter.unusedSimpArgs false
namespace Ax
open Go Go.RowKit

section
variable {P : Program} {A : Amb} {nt : Nat} {X : Rec Prop} {cx : Ctx} {fid rid : Nat}

theorem tags_at {P : Program} : ∀ (l : List Oper) (ix base : Nat) (i : Nat) t, (tags P ix base l)[i]? = some t → t.ix = ix + i ∧ l[i]? = some t.o ∧ base ≤ t.base
  | [], ix, base, i, t, h => by simp [tags] at h
  | o :: r, ix, base, i, t, h => by
    cases i with
    | zero => simp only [tags, List.getElem?_cons_zero, Option.some.injEq] at h; subst h; exact ⟨rfl, rfl, Nat.le_refl _⟩
    | succ i =>
      simp only [tags, List.getElem?_cons_succ] at h
      obtain ⟨h1, h2, h3⟩ := tags_at r _ _ i t h
      exact ⟨by omega, by simpa using h2, by omega⟩
theorem tags_get {P : Program} : ∀ (l : List Oper) (ix base : Nat) (i : Nat) o, l[i]? = some o → ∃ t, (tags P ix base l)[i]? = some t
  | [], ix, base, i, o, h => by simp at h
  | p :: r, ix, base, 0, o, h => ⟨_, rfl⟩
  | p :: r, ix, base, i + 1, o, h => tags_get r (ix + 1) _ i o (by simpa using h)
theorem tags_mem {P : Program} {l : List Oper} {ix base : Nat} {t : Tag} (h : t ∈ tags P ix base l) : ix ≤ t.ix ∧ l[t.ix - ix]? = some t.o ∧ base ≤ t.base := by
  obtain ⟨i, hi⟩ := List.getElem?_of_mem h
  obtain ⟨h1, h2, h3⟩ := tags_at _ _ _ _ _ hi
  exact ⟨by omega, by rw [show t.ix - ix = i by omega]; exact h2, h3⟩
theorem tags_base {P : Program} : ∀ (l l0 : List Oper) (ix base : Nat) (t : Tag), t ∈ tags P ix base l → BaseIn (l0 ++ l) t
  | [], l0, ix, base, t, h => by simp [tags] at h
  | o :: r, l0, ix, base, t, h => by
    simp only [tags, List.mem_cons] at h
    rcases h with rfl | h
    · intro hb
      have := isBase_sub (l0 ++ [o]) r hb
      simpa using this
    · have := tags_base r (l0 ++ [o]) _ _ t h
      simpa using this
def Ahead (P : Program) (t u : Tag) : Prop := t.ix < u.ix ∧ t.base + (hoisted P t.o).length ≤ u.base
theorem tags_pair {P : Program} : ∀ (l : List Oper) (ix base : Nat), (tags P ix base l).Pairwise (Ahead P)
  | [], ix, base => by simp [tags]
  | o :: r, ix, base => by
    simp only [tags, List.pairwise_cons]
    refine ⟨fun u hu => ?_, tags_pair r _ _⟩
    obtain ⟨h1, h2, h3⟩ := tags_mem hu
    exact ⟨by simp only; omega, h3⟩

def pendT (P : Program) : List Tag → List (Nat × AObj)
  | [] => []
  | t :: r => waits t.base (hoisted P t.o) ++ pendT P r
theorem pendT_mem {P : Program} : ∀ {l : List Tag} {p : Nat × AObj}, p ∈ pendT P l ↔ ∃ t ∈ l, p ∈ waits t.base (hoisted P t.o)
  | [], p => by simp [pendT]
  | t :: r, p => by simp [pendT, pendT_mem (l := r)]
theorem pendT_tags {P : Program} : ∀ (l : List Oper) (ix base : Nat), pendT P (tags P ix base l) = waits base (hoistAll P l)
  | [], ix, base => rfl
  | o :: r, ix, base => by simp only [tags, pendT, hoistAll, waits_append, pendT_tags r]

theorem step_sound {I : FuncId → List AV → Heap → (AV → Heap → Prop) → Prop} (hL : Leans P cx X I) (hX : Calm X) (hP : cx.P = P) {ops : Array Oper} {t : Tag} (ht : ops[t.ix]? = some t.o) {pend pend' : List (Nat × AObj)} {st : St} {a : Act} {w : World} {k : St → Prop} {Q : Exit → Act → World → Prop}
    (hc : Closed k) (hg : Good P A nt pend st a w) (hin : ∀ p, p ∈ waits t.base (hoisted P t.o) → p ∈ pend) (hsub : ∀ p, p ∈ pend' → p ∈ pend ∧ (0 < (hoisted P t.o).length → p.1 ≠ t.base))
    (hA : A.bl0.length ≤ t.base) (hd : ∀ s, t.o.dst = some s → s < nt) (hk : stepE X cx fid rid ops.toList t st k) : wpOp P ops Q t.ix (NextIs P A nt pend' k) a w := by
  obtain ⟨env, heap, defers, bor⟩ := st
  have hlen : A.bl0.length ≤ heap.length := good_len hg
  unfold wpOp
  simp only [ht]
  have go : effSem X (noIX X) (noJX X) t.o.dst (effOp cx true fid rid t.ix t.base t.o t.rest env heap) ⟨env, heap, defers, bor⟩ k → t.o.wp P a w (NextIs P A nt pend' k) Q := by
    intro h
    replace h := effSem_anyJ (J' := denDC X cx) (effOp_within (all := t.rest) (fun h => h)) h
    rw [← denOp_eff X cx (noIX X)] at h
    exact denOp_sound (I := noIX X) ⟨hL.fail, hL.call, fun _ _ _ _ h => absurd h hX.fail, hL.name, hL.sort, hL.br, hL.prim⟩ hP hg hin hsub hA hlen hd h
  have pass : effSem X (noIX X) (noJX X) t.o.dst (.put none (optW t.o.dst (.tup [])) none) ⟨env, heap, defers, bor⟩ k → NextIs P A nt pend' k (a.put t.o.dst undef) w := by
    intro h
    simp only [effSem, setL_optW, bareO, Option.getD] at h
    obtain ⟨ha, rfl, U, bl, ob, hr⟩ := hg
    obtain ⟨ob', h'⟩ := undef_rep hr hd
    rw [put_eq]
    exact ⟨_, ⟨ha, rfl, U, bl, ob', h'.unpend (fun p hp => (hsub p hp).1)⟩, h⟩
  have hrel := hg
  obtain ⟨ha, hdf, U, bl, ob, hr⟩ := hrel
  unfold stepE stepEff at hk
  cases hgd : t.o.guard with
  | none =>
    rw [hgd] at hk
    rw [if_pos (by simp [Region.wanted, hgd])]
    exact .inl (go hk)
  | some jw =>
    obtain ⟨j, want⟩ := jw
    rw [hgd] at hk
    dsimp only at hk
    split at hk
    · rename_i b hb
      obtain ⟨hy, _⟩ := guard_bool hr hb
      split at hk
      · rename_i e
        subst e
        rw [if_pos (by simp [Region.wanted, hgd, hy])]
        exact .inl (go hk)
      · rename_i e
        rw [if_neg (by simp [Region.wanted, hgd, hy]; exact e)]
        exact pass hk
    · rename_i hb
      rw [if_neg (by simp [Region.wanted, hgd, guard_nought hr hb])]
      exact pass hk
    · exact absurd hk hL.fail

/-- What is not listed yet. -/
def left (T : List Tag) (listed : Array Bool) : List Tag := T.filter fun t => !listed.getD t.ix true

theorem any_sound {I : FuncId → List AV → Heap → (AV → Heap → Prop) → Prop} (hL : Leans P cx X I) (hX : Calm X) (hP : cx.P = P) {ops : Array Oper} {n : Nat} (hcalm : calmB ops.toList = true) (hA : A.bl0.length ≤ n) (hd : dstOk nt ops.toList = true) {k : St → Prop} (hc : Closed k) {Q : Exit → Act → World → Prop}
    (hQ : ∀ st a w, Good P A nt [] st a w → k st → Q .normal a w) : ∀ (fuel : Nat) (listed : Array Bool) (st : St) (a : Act) (w : World),
    listed.size = ops.size → DownL ops.toList (fun i => listed.getD i false = true) → (left (tags P 0 n ops.toList) listed).length ≤ fuel → Good P A nt (pendT P (left (tags P 0 n ops.toList) listed)) st a w →
    stepsE X cx fid rid ops.toList (left (tags P 0 n ops.toList) listed) st k → wpAny P .any ops Q fuel listed a w := by
  obtain ⟨hback, hpair⟩ := calm_spec hcalm
  have hdst : ∀ (i : Nat) o, ops.toList[i]? = some o → ∀ s, o.dst = some s → s < nt := by
    generalize ops.toList = l at hd
    induction l with
    | nil => intro i o h; simp at h
    | cons p r ih =>
      simp only [dstOk, Bool.and_eq_true] at hd
      intro i o h s hs
      cases i with
      | zero => simp at h; subst h; have := hd.1; rw [hs] at this; simpa [blt_eq] using this
      | succ i => exact ih hd.2 i o (by simpa using h) s hs
  have hready : ∀ (listed : Array Bool), listed.size = ops.size → ∀ i, i ∈ Region.ready .any ops listed ↔ ∃ o, ops.toList[i]? = some o ∧ listed.getD i true = false ∧ ∀ e ∈ o.after.toList, Region.binds .any e = true → listed.getD e.on false = true := by
    intro listed hs i
    unfold Region.ready
    simp only [List.mem_filter, List.mem_range, Bool.and_eq_true, Bool.not_eq_true']
    constructor
    · rintro ⟨h1, h2, h3⟩
      have : ops[i]? = some ops[i] := by simp [h1]
      rw [this] at h3
      simp only [Option.map_some, Option.getD_some, Array.all_eq_true'] at h3
      refine ⟨ops[i], by simp [h1], h2, fun e he hb => ?_⟩
      have := h3 e (by simpa using he)
      simpa [hb] using this
    · rintro ⟨o, h1, h2, h3⟩
      have hi : i < ops.size := by have := (List.getElem?_eq_some_iff.1 h1).1; simpa using this
      have ho : ops[i]? = some o := by simpa using h1
      refine ⟨hi, h2, ?_⟩
      rw [ho]
      simp only [Option.map_some, Option.getD_some, Array.all_eq_true']
      intro e he
      cases hb : Region.binds .any e
      · simp
      · simp [h3 e (by simpa using he) hb]
  have hleft : ∀ (listed : Array Bool) t, t ∈ left (tags P 0 n ops.toList) listed ↔ t ∈ tags P 0 n ops.toList ∧ listed.getD t.ix true = false := by
    intro listed t; simp [left]
  have getD_ft : ∀ (listed : Array Bool) (i : Nat), i < listed.size → listed.getD i false = listed.getD i true := by
    intro listed i hi; simp [Array.getD, hi]
  have hnone : ∀ (listed : Array Bool), listed.size = ops.size → Region.ready .any ops listed = [] → left (tags P 0 n ops.toList) listed = [] := by
    intro listed hs he
    cases hl : left (tags P 0 n ops.toList) listed with
    | nil => rfl
    | cons t r =>
      exfalso
      have ht : t ∈ left (tags P 0 n ops.toList) listed := by rw [hl]; simp
      obtain ⟨h1, h2⟩ := (hleft listed t).1 ht
      obtain ⟨_, h3, _⟩ := tags_mem h1
      rw [Nat.sub_zero] at h3
      have : t.ix ∈ Region.ready .any ops listed := by
        refine (hready listed hs t.ix).2 ⟨t.o, h3, h2, fun e he hb => ?_⟩
        have hlt := hback _ _ h3 e he hb
        have hix := (List.getElem?_eq_some_iff.1 h3).1
        obtain ⟨o', ho'⟩ : ∃ o', ops.toList[e.on]? = some o' := ⟨ops.toList[e.on]'(by omega), by simp⟩
        obtain ⟨u, hu⟩ := tags_get (P := P) ops.toList 0 n e.on o' ho'
        obtain ⟨u1, _, _⟩ := tags_at _ _ _ _ _ hu
        rw [Nat.zero_add] at u1
        cases hv : listed.getD e.on false
        · exfalso
          have hsz : e.on < listed.size := by rw [hs]; simp at hix; omega
          rw [getD_ft _ _ hsz] at hv
          have hul : u ∈ left (tags P 0 n ops.toList) listed := (hleft listed u).2 ⟨List.mem_of_getElem? hu, by rw [u1]; exact hv⟩
          have hp : (left (tags P 0 n ops.toList) listed).Pairwise (Ahead P) := (tags_pair _ _ _).filter _
          rw [hl] at hul hp
          rcases List.mem_cons.1 hul with rfl | hul
          · omega
          · have := (List.pairwise_cons.1 hp).1 u hul
            have := this.1
            omega
        · rfl
      rw [he] at this
      simp at this
  intro fuel
  induction fuel with
  | zero =>
    intro listed st a w hs hdown hf hg hk
    have hl : left (tags P 0 n ops.toList) listed = [] := List.length_eq_zero_iff.1 (by omega)
    rw [hl] at hg hk
    refine ⟨?_, hQ st a w hg hk⟩
    cases hr : Region.ready .any ops listed with
    | nil => rfl
    | cons i r =>
      exfalso
      obtain ⟨o, h1, h2, _⟩ := (hready listed hs i).1 (by rw [hr]; simp)
      obtain ⟨u, hu⟩ := tags_get (P := P) ops.toList 0 n i o h1
      obtain ⟨u1, _, _⟩ := tags_at _ _ _ _ _ hu
      rw [Nat.zero_add] at u1
      have : u ∈ left (tags P 0 n ops.toList) listed := (hleft listed u).2 ⟨List.mem_of_getElem? hu, by rw [u1]; exact h2⟩
      rw [hl] at this; simp at this
  | succ fuel ih =>
    intro listed st a w hs hdown hf hg hk
    refine ⟨fun he => ?_, fun i hi => ?_⟩
    · rw [hnone listed hs he] at hg hk
      exact hQ st a w hg hk
    · obtain ⟨o, h1, h2, h3⟩ := (hready listed hs i).1 hi
      obtain ⟨t, ht⟩ := tags_get (P := P) ops.toList 0 n i o h1
      obtain ⟨t1, t2, t3⟩ := tags_at _ _ _ _ _ ht
      rw [Nat.zero_add] at t1
      rw [h1] at t2
      simp only [Option.some.injEq] at t2
      subst t2
      have htl : t ∈ left (tags P 0 n ops.toList) listed := (hleft listed t).2 ⟨List.mem_of_getElem? ht, by rw [t1]; exact h2⟩
      obtain ⟨l1, l2, hl⟩ := List.append_of_mem htl
      have hp : (left (tags P 0 n ops.toList) listed).Pairwise (Ahead P) := (tags_pair _ _ _).filter _
      rw [hl] at hp
      obtain ⟨_, hp2, hp3⟩ := List.pairwise_append.1 hp
      have hp4 := (List.pairwise_cons.1 hp2).1
      have hi_lt : i < listed.size := by rw [hs]; have := (List.getElem?_eq_some_iff.1 h1).1; simpa using this
      have htb : BaseIn ops.toList t := by simpa using tags_base ops.toList [] 0 n t (List.mem_of_getElem? ht)
      have hindep : ∀ u ∈ l1, indep ops.toList u.o t.o = true ∧ BaseIn ops.toList u := by
        intro u hu
        have hul : u ∈ left (tags P 0 n ops.toList) listed := by rw [hl]; simp [hu]
        obtain ⟨v1, v2⟩ := (hleft listed u).1 hul
        obtain ⟨_, v3, _⟩ := tags_mem v1
        rw [Nat.sub_zero] at v3
        have hlt : u.ix < i := by have := (hp3 u hu t (by simp)).1; omega
        refine ⟨?_, by simpa using tags_base ops.toList [] 0 n u v1⟩
        rcases hpair i u.ix t.o u.o hlt h1 v3 with hb | hb
        · exfalso
          have := hb (fun i => listed.getD i false = true) hdown (fun o' ho' e he hbd => by rw [h1] at ho'; simp at ho'; subst ho'; exact h3 e he hbd)
          rw [getD_ft _ _ (by omega), v2] at this
          cases this
        · exact hb
      have hnew : left (tags P 0 n ops.toList) (listed.setIfInBounds i true) = l1 ++ l2 := by
        have e1 : left (tags P 0 n ops.toList) (listed.setIfInBounds i true) = (left (tags P 0 n ops.toList) listed).filter fun u => u.ix != i := by
          unfold left
          rw [List.filter_filter]
          refine List.filter_congr fun u _ => ?_
          by_cases e : u.ix = i
          · subst e; simp [Array.getD, hi_lt]
          · have : (listed.setIfInBounds i true).getD u.ix true = listed.getD u.ix true := by
              rw [Array.getD_eq_getD_getElem?, Array.getD_eq_getD_getElem?, Array.getElem?_setIfInBounds, if_neg (fun h => e h.symm)]
            rw [this]
            have : (u.ix != i) = true := by simp [e]
            rw [this]; simp
        rw [e1, hl, List.filter_append, List.filter_cons]
        have : (t.ix != i) = false := by simp [t1]
        rw [this]
        simp only [Bool.false_eq_true, if_false]
        congr 1
        · exact List.filter_eq_self.2 (fun u hu => by have := (hp3 u hu t (by simp)).1; simp; omega)
        · exact List.filter_eq_self.2 (fun u hu => by have := (hp4 u hu).1; simp; omega)
      have hk' := stepsE_front hX hc htb l1 l2 hindep st (by rw [hl] at hk; exact hk)
      have hstep := step_sound (Q := Q) (pend' := pendT P (l1 ++ l2)) hL hX hP (t := t) (by rw [t1]; simpa using h1) (stepsE_closed hX hc (l1 ++ l2)) hg
        (fun p hp => pendT_mem.2 ⟨t, htl, hp⟩) (fun p hp => ?_) (by omega) (hdst i t.o h1) hk'
      · rw [t1] at hstep
        refine wpOp_mono (fun a' w' => ?_) hstep
        rintro ⟨st', hg', hk''⟩
        refine ih (listed.setIfInBounds i true) st' a' w' (by simp [hs]) ?_ ?_ (by rw [hnew]; exact hg') (by rw [hnew]; exact hk'')
        · have get : ∀ j, (listed.setIfInBounds i true).getD j false = if i = j then true else listed.getD j false := by
            intro j
            rw [Array.getD_eq_getD_getElem?, Array.getElem?_setIfInBounds]
            split
            · rename_i e; subst e; simp [hi_lt]
            · rw [Array.getD_eq_getD_getElem?]
          intro j hj
          try dsimp only at hj
          rw [get] at hj
          intro o' ho' e he hb
          try dsimp only
          rw [get]
          split
          · rfl
          · by_cases e' : i = j
            · subst e'
              rw [h1] at ho'; simp at ho'; subst ho'
              exact h3 e he hb
            · rw [if_neg e'] at hj
              exact hdown j hj o' ho' e he hb
        · rw [hnew]; rw [hl] at hf; simp at hf ⊢; omega
      · obtain ⟨u, hu, hpu⟩ := pendT_mem.1 hp
        have hul : u ∈ left (tags P 0 n ops.toList) listed := by rw [hl]; rcases List.mem_append.1 hu with h | h <;> simp [h]
        refine ⟨pendT_mem.2 ⟨u, hul, hpu⟩, fun hpos => ?_⟩
        obtain ⟨w1, _, w3⟩ := waits_mem _ _ p hpu
        rcases List.mem_append.1 hu with h | h
        · have := (hp3 u h t (by simp)).2; omega
        · have := (hp4 u h).2; omega
end
end Ax

/- The machine is one for all answer types. -/
set_option linter.unusedVariables false
set_option linter.unusedSimpArgs false
namespace Ax
open Go Go.RowKit

structure RelRec {R S : Type} (Rl : R → S → Prop) (X : Rec R) (Y : Rec S) : Prop where
  fail : Rl X.fail Y.fail
  call : ∀ f a Q Q', (∀ r, Rl (Q r) (Q' r)) → Rl (X.call f a Q) (Y.call f a Q')
  loop : ∀ d fid n b st K K', (∀ e s, Rl (K e s) (K' e s)) → Rl (X.loop d fid n b st K) (Y.loop d fid n b st K')
  sort : ∀ l cmp cmp' K K', (∀ a b Q Q', (∀ r, Rl (Q r) (Q' r)) → Rl (cmp a b Q) (cmp' a b Q')) → (∀ l, Rl (K l) (K' l)) → Rl (X.sort l cmp K) (Y.sort l cmp' K')
  br : ∀ b y y' n n', Rl y y' → Rl n n' → Rl (X.br b y n) (Y.br b y' n')
def RelI {R S : Type} (Rl : R → S → Prop) (I : FuncId → List AV → Heap → (AV → Heap → R) → R) (J : FuncId → List AV → Heap → (AV → Heap → S) → S) : Prop :=
  ∀ f a h k k', (∀ r h, Rl (k r h) (k' r h)) → Rl (I f a h k) (J f a h k')

section
variable {R S : Type} {Rl : R → S → Prop} {X : Rec R} {Y : Rec S} {cx : Ctx} {I : FuncId → List AV → Heap → (AV → Heap → R) → R} {J : FuncId → List AV → Heap → (AV → Heap → S) → S}

theorem denDC_rel (hX : RelRec Rl X Y) {d : Option Nat} {g : FuncId} {args : List AV} {st : St} {k : St → R} {k' : St → S} (hk : ∀ s, Rl (k s) (k' s)) : Rl (denDC X cx d g args st k) (denDC Y cx d g args st k') := by
  obtain ⟨env, heap, defers, bor⟩ := st
  unfold denDC
  cases Nat.blt 0 (cx.srt g) with
  | true =>
    simp only [cond_true]
    split
    · rename_i id sz lo n h caps
      split
      · rename_i sz' n' e hg
        cases Nat.beq sz sz' && Nat.beq sz (cx.srt g) && Nat.beq lo 0 && Nat.beq n n' with
        | false => exact hX.fail
        | true =>
          simp only [cond_true, AV.forceL_eq]
          cases AV.isDataL (caps.map (lendAV (heap.set id .dead))) with
          | false => exact hX.fail
          | true =>
            simp only [cond_true]
            refine hX.sort _ _ _ _ _ (fun a b Q Q' hQ => hX.call _ _ _ _ hQ) (fun l => ?_)
            simp only [Heap.force_eq, putK_setO]
            exact hk _
      · exact hX.fail
    · exact hX.fail
  | false =>
    simp only [cond_false, AV.forceL_eq]
    cases AV.isDataL (lendL heap args) with
    | false => exact hX.fail
    | true =>
      simp only [cond_true]
      refine hX.call _ _ _ _ fun r => ?_
      cases r.scalR with
      | false => exact hX.fail
      | true => simp only [cond_true, putK_setO]; exact hk _

theorem denOp_rel (hX : RelRec Rl X Y) (hI : RelI Rl I J) {drawn : Bool} {fid rid ix base : Nat} {o : Oper} {rest : List Oper} {st : St} {k : St → R} {k' : St → S} (hk : ∀ s, Rl (k s) (k' s)) :
    Rl (denOp X cx I drawn fid rid ix base o rest st k) (denOp Y cx J drawn fid rid ix base o rest st k') := by
  obtain ⟨env, heap, defers, bor⟩ := st
  rw [denOp_eff, denOp_eff]
  cases effOp cx drawn fid rid ix base o rest env heap with
  | fail => exact hX.fail
  | put b ws h => exact hk _
  | call g args => exact hX.call _ _ _ _ fun r => hk _
  | inl g args =>
    simp only [effSem]
    split
    · exact hX.fail
    · exact hI _ _ _ _ _ fun r h => hk _
  | dc g args => simp only [effSem]; exact denDC_rel hX hk

theorem ghostK_rel (hX : RelRec Rl X Y) {l : List Ghost} {st : St} {k : St → R} {k' : St → S} (hk : ∀ s, Rl (k s) (k' s)) : Rl (ghostK X l st k) (ghostK Y l st k') := by
  obtain ⟨env, heap, defers, bor⟩ := st
  unfold ghostK
  cases l with
  | nil => exact hk _
  | cons g r =>
    dsimp only
    cases ghosts (g :: r) env heap with
    | none => exact hX.fail
    | some p => obtain ⟨e, h⟩ := p; simp only [Env.forceV_eq, Heap.force_eq]; exact hk _

theorem denOps_rel (hX : RelRec Rl X Y) (hI : RelI Rl I J) {drawn : Bool} {fid rid : Nat} {all : List Oper} {k : St → R} {k' : St → S} (hk : ∀ s, Rl (k s) (k' s)) : ∀ (rest : List Oper) (ix base : Nat) (st : St),
    Rl (denOps X cx I drawn fid rid all ix base rest st k) (denOps Y cx J drawn fid rid all ix base rest st k')
  | [], ix, base, st => by simp only [denOps]; exact hk _
  | o :: rest, ix, base, ⟨env, heap, defers, bor⟩ => by
    have ih := fun st => denOps_rel (drawn := drawn) (fid := fid) (rid := rid) (all := all) hX hI hk rest (ix + 1) (base + (hoisted cx.P o).length) st
    unfold denOps
    cases o.guard with
    | none => exact denOp_rel hX hI ih
    | some jw =>
      obtain ⟨j, want⟩ := jw
      dsimp only
      split
      · cases want <;> dsimp only [branch] <;> refine hX.br _ _ _ _ _ ?_ ?_ <;> simp only [putK_setO] <;> first | exact denOp_rel hX hI ih | exact ih _
      · rw [putK_setO, putK_setO]; exact ih _
      · exact hX.fail

theorem cleanK_rel (hX : RelRec Rl X Y) {ks : Option (List Nat)} {n : Nat} {st : St} {k : St → R} {k' : St → S} (hk : ∀ s, Rl (k s) (k' s)) : Rl (cleanK X ks n st k) (cleanK Y ks n st k') := by
  obtain ⟨env, heap, defers, bor⟩ := st
  simp only [cleanK, Env.forceV_eq, Heap.force_eq]
  cases underH n n heap
  · exact hX.fail
  · exact hk _

theorem den_rel (hX : RelRec Rl X Y) (hI : RelI Rl I J) {calm : List Oper → Bool} {nt d : Nat} {fid : FuncId} : ∀ (c : Code) (st : St) (k : Ex → St → R) (k' : Ex → St → S), (∀ e s, Rl (k e s) (k' e s)) →
    Rl (den X cx I calm nt d fid c st k) (den Y cx J calm nt d fid c st k') := by
  intro c
  induction c with
  | skip => intro st k k' hk; simp only [den]; exact hk _ _
  | label l => intro st k k' hk; simp only [den]; exact hk _ _
  | region id ops draw =>
    intro st k k' hk
    simp only [den]
    cases (!draw || calm ops.toList) && dstOk nt ops.toList
    · exact hX.fail
    · simp only [cond_true]
      refine ghostK_rel hX fun s => ?_
      obtain ⟨env, heap, defers, bor⟩ := s
      simp only [forceNat_eq, Heap.force_eq]
      exact denOps_rel hX hI (fun s => hk _ s) _ _ _ _
  | seq a b iha ihb =>
    intro st k k' hk
    simp only [den]
    refine iha _ _ _ fun e s => ?_
    cases e with
    | normal => exact ihb _ _ _ hk
    | exit id => exact hk _ _
    | ret => exact hk _ _
  | cond c a b iha ihb =>
    rintro ⟨env, heap, defers, bor⟩ k k' hk
    simp only [den]
    split
    · simp only [branch]
      refine hX.br _ _ _ _ _ ?_ ?_ <;> simp only [putK_setO]
      · exact iha _ _ _ hk
      · exact ihb _ _ _ hk
    · exact hX.fail
  | block id b ih =>
    intro st k k' hk
    simp only [den]
    refine ih _ _ _ fun e s => ?_
    cases e with
    | normal => exact hk _ _
    | exit id' => dsimp only; cases Nat.beq id' id <;> exact hk _ _
    | ret => exact hk _ _
  | loop b ih =>
    rintro ⟨env, heap, defers, bor⟩ k k' hk
    simp only [den, forceNat_eq]
    exact cleanK_rel hX fun s => hX.loop _ _ _ _ _ _ _ hk
  | exit id => intro st k k' hk; simp only [den]; exact hk _ _
  | ret => intro st k k' hk; simp only [den]; exact hk _ _
  | scope b ih => intro st k k' hk; simp only [den]; exact ih _ _ _ hk
  | rangeFunc f ps x y => intro st k k' hk; simp only [den]; exact hX.fail
  | goto l => intro st k k' hk; simp only [den]; exact hX.fail
  | refuse y => intro st k k' hk; simp only [den]; exact hX.fail

theorem finish_rel (hX : RelRec Rl X Y) {f : FuncId} {fn : Func} {k : AV → Heap → R} {k' : AV → Heap → S} (hk : ∀ r h, Rl (k r h) (k' r h)) (e : Ex) (st : St) : Rl (finish X cx f fn k e st) (finish Y cx f fn k' e st) := by
  have key : ∀ st : St, Rl (match st with
    | ⟨env, heap, defers, bor⟩ => match defers, bor with
      | [], none =>
        match resultsOf cx.P env heap fn.results.toList with
        | some vs => (packR vs).force fun r => k r heap
        | none => X.fail
      | _, _ => X.fail) (match st with
    | ⟨env, heap, defers, bor⟩ => match defers, bor with
      | [], none =>
        match resultsOf cx.P env heap fn.results.toList with
        | some vs => (packR vs).force fun r => k' r heap
        | none => Y.fail
      | _, _ => Y.fail) := by
    intro st
    obtain ⟨env, heap, dd, bb⟩ := st
    cases dd with
    | cons a l => exact hX.fail
    | nil =>
      cases bb with
      | some q => exact hX.fail
      | none =>
        dsimp only
        cases resultsOf cx.P env heap fn.results.toList with
        | none => exact hX.fail
        | some vs => simp only [AV.force_eq]; exact hk _ _
  cases e with
  | exit id => exact hX.fail
  | normal => exact ghostK_rel hX key
  | ret => exact ghostK_rel hX key

theorem params_rel {k : Env → R} {k' : Env → S} : ∀ (l : List AV) (t : Nat) (k : Env → R) (k' : Env → S), (∀ e, Rl (k e) (k' e)) → Rl (params t l k) (params t l k')
  | [], t, k, k', h => h _
  | v :: r, t, k, k', h => by simp only [params, AV.force_eq]; exact params_rel (k := k) (k' := k') r _ _ _ fun e => h _

theorem runBody_rel (hX : RelRec Rl X Y) (hI : RelI Rl I J) {calm : List Oper → Bool} {d : Nat} : RelI Rl (runBody X cx I calm d) (runBody Y cx J calm d) := by
  intro f a h k k' hk
  unfold runBody
  split
  · split
    · exact params_rel (k := fun _ => X.fail) (k' := fun _ => Y.fail) _ _ _ _ fun e => den_rel hX hI _ _ _ _ (finish_rel hX hk)
    · exact hX.fail
  · exact hX.fail
theorem inlN_rel (hX : RelRec Rl X Y) {calm : List Oper → Bool} : ∀ d, RelI Rl (inlN X cx calm d) (inlN Y cx calm d)
  | 0 => fun _ _ _ _ _ _ => hX.fail
  | d + 1 => runBody_rel hX (inlN_rel hX d)
theorem stepCall_rel (hX : RelRec Rl X Y) {calm : List Oper → Bool} {f : FuncId} {a : List AV} {Q : AV → R} {Q' : AV → S} (hQ : ∀ r, Rl (Q r) (Q' r)) : Rl (stepCall X cx calm f a Q) (stepCall Y cx calm f a Q') := by
  refine runBody_rel hX (inlN_rel hX _) _ _ _ _ _ fun r h => ?_
  unfold giveOut
  cases r.isData
  · exact hX.fail
  · simp only [cond_true, AV.force_eq]; exact hQ _
theorem stepLoop_rel (hX : RelRec Rl X Y) {calm : List Oper → Bool} {d : Nat} {fid : FuncId} {n : Nat} {b : Code} {st : St} {K : Ex → St → R} {K' : Ex → St → S} (hK : ∀ e s, Rl (K e s) (K' e s)) :
    Rl (stepLoop X cx calm d fid n b st K) (stepLoop Y cx calm d fid n b st K') := by
  refine den_rel hX (inlN_rel hX _) _ _ _ _ fun e s => ?_
  cases e with
  | normal => simp only [loopNext]; exact cleanK_rel hX fun s => hX.loop _ _ _ _ _ _ _ hK
  | exit id => simp only [loopNext]; exact cleanK_rel hX fun s => hK _ _
  | ret => simp only [loopNext]; exact cleanK_rel hX fun s => hK _ _
end

/-! ### the least reading is a reading -/
theorem rel_lfp {cx : Ctx} {calm : List Oper → Bool} {X : Rec Prop} (hX : PreFix cx calm X) : RelRec (fun p q : Prop => p → q) (lfp cx calm) X where
  fail h := h.elim
  call f a Q Q' h hc := hX.cmono f a Q Q' h (hc X hX)
  loop d fid n b st K K' h hc := hX.lmono d fid n b st K K' h (hc X hX)
  sort l cmp cmp' K K' h1 h2 hc := by
    rw [hX.sort]
    obtain ⟨c0, c, c1, c2, c3⟩ := hc
    exact ⟨c0, c, fun a ha b hb => h1 a b _ _ (fun r h => h) (c1 a ha b hb), c2, fun l' p1 p2 => h2 l' (c3 l' p1 p2)⟩
  br b y y' n n' h1 h2 hc := by
    rw [hX.br]
    exact ⟨fun e => h1 (hc.yes e), fun e => h2 (hc.no e)⟩
theorem lfp_call {cx : Ctx} {calm : List Oper → Bool} {f : FuncId} {a : List AV} {Q : AV → Prop} (h : stepCall (lfp cx calm) cx calm f a Q) : (lfp cx calm).call f a Q :=
  fun X hX => hX.call f a Q (stepCall_rel (rel_lfp hX) (fun r h => h) h)
theorem lfp_loop {cx : Ctx} {calm : List Oper → Bool} {d : Nat} {fid : FuncId} {n : Nat} {b : Code} {st : St} {K : Ex → St → Prop} (h : stepLoop (lfp cx calm) cx calm d fid n b st K) : (lfp cx calm).loop d fid n b st K :=
  fun X hX => hX.loop d fid n b st K (stepLoop_rel (rel_lfp hX) (fun e s h => h) h)
theorem lfp_cmono {cx : Ctx} {calm : List Oper → Bool} {f : FuncId} {a : List AV} {Q Q' : AV → Prop} (h : ∀ r, Q r → Q' r) (hc : (lfp cx calm).call f a Q) : (lfp cx calm).call f a Q' :=
  fun X hX => hX.cmono f a Q Q' h (hc X hX)
theorem lfp_lmono {cx : Ctx} {calm : List Oper → Bool} {d : Nat} {fid : FuncId} {n : Nat} {b : Code} {st : St} {K K' : Ex → St → Prop} (h : ∀ e s, K e s → K' e s) (hc : (lfp cx calm).loop d fid n b st K) : (lfp cx calm).loop d fid n b st K' :=
  fun X hX => hX.lmono d fid n b st K K' h (hc X hX)

theorem sorted_some {c : AV → AV → Int} (hc : Swo c) (l : List AV) : ∃ l' : List AV, l'.Perm l ∧ l'.Pairwise (fun a b => ¬ c b a < 0) := by
  refine ⟨l.mergeSort (fun a b => decide (¬ c b a < 0)), List.mergeSort_perm _ _, ?_⟩
  have := List.pairwise_mergeSort (le := fun a b => decide (¬ c b a < 0)) (fun a b d h1 h2 => by
      simp only [decide_eq_true_eq] at *
      exact hc.ntrans d b a h2 h1) (fun a b => by
      simp only [Bool.or_eq_true, decide_eq_true_eq]
      by_cases h : c b a < 0
      · right; intro h2; exact hc.irrefl _ (hc.trans _ _ _ h h2)
      · exact .inl h) l
  exact this.imp fun h => by simpa using h

/-- Something comes out. -/
def someRec : Rec Prop where
  fail := False
  all := fun n k => ∀ i, i < n → k i
  call := fun _ _ Q => ∃ r, Q r
  loop := fun _ _ _ _ _ K => ∃ e s, K e s
  sort := sortP
  br := BrP
theorem rel_some {X : Rec Prop} (hs : X.sort = sortP) (hb : X.br = BrP) (hf : ¬ X.fail) (hc : ∀ f a Q, X.call f a Q → ∃ r, Q r) (hl : ∀ d fid n b st K, X.loop d fid n b st K → ∃ e s, K e s) (C : Prop) :
    RelRec (fun (p : Prop) (_ : Unit) => p → C) X ⟨(), fun _ _ => (), fun _ _ _ => (), fun _ _ _ _ _ _ => (), fun _ _ _ => (), fun _ _ _ => ()⟩ where
  fail h := absurd h hf
  call f a Q Q' h hq := let ⟨r, hr⟩ := hc f a Q hq; h r hr
  loop d fid n b st K K' h hq := let ⟨e, s, hs⟩ := hl d fid n b st K hq; h e s hs
  sort l cmp cmp' K K' h1 h2 hq := by
    rw [hs] at hq
    obtain ⟨_, c, c1, c2, c3⟩ := hq
    obtain ⟨l', p1, p2⟩ := sorted_some c2 l
    exact h2 l' (c3 l' p1 p2)
  br b y y' n n' h1 h2 hc := by
    rw [hb] at hc
    cases b
    · exact h2 (hc.no rfl)
    · exact h1 (hc.yes rfl)
theorem some_call {cx : Ctx} {calm : List Oper → Bool} {X : Rec Prop} (hs : X.sort = sortP) (hb : X.br = BrP) (hf : ¬ X.fail) (hc : ∀ f a Q, X.call f a Q → ∃ r, Q r) (hl : ∀ d fid n b st K, X.loop d fid n b st K → ∃ e s, K e s) {f : FuncId} {a : List AV} {Q : AV → Prop}
    (h : stepCall X cx calm f a Q) : ∃ r, Q r :=
  stepCall_rel (Q' := fun _ => ()) (rel_some hs hb hf hc hl (∃ r, Q r)) (fun r hr => ⟨r, hr⟩) h
theorem some_loop {cx : Ctx} {calm : List Oper → Bool} {X : Rec Prop} (hs : X.sort = sortP) (hb : X.br = BrP) (hf : ¬ X.fail) (hc : ∀ f a Q, X.call f a Q → ∃ r, Q r) (hl : ∀ d fid n b st K, X.loop d fid n b st K → ∃ e s, K e s) {d : Nat} {fid : FuncId} {n : Nat} {b : Code} {st : St} {K : Ex → St → Prop}
    (h : stepLoop X cx calm d fid n b st K) : ∃ e s, K e s :=
  stepLoop_rel (K' := fun _ _ => ()) (rel_some hs hb hf hc hl (∃ e s, K e s)) (fun e s hr => ⟨e, s, hr⟩) h
end Ax

/- Code, loops, bodies; the machine is sound. -/
set_option linter.unusedVariables false
set_option linter.unusedSimpArgs false
namespace Ax
open Go Go.RowKit

def Post (P : Program) (A : Amb) (nt : Nat) (k : Ex → St → Prop) : Exit → Act → World → Prop
  | .normal, a, w => ∃ st, Good P A nt [] st a w ∧ k .normal st
  | .exit id, a, w => ∃ st, Good P A nt [] st a w ∧ k (.exit id) st
  | .ret, a, w => ∃ st, Good P A nt [] st a w ∧ k .ret st
  | _, _, _ => False

def ntmpsOf (P : Program) (fid : FuncId) : Nat := match P.funcs[fid]? with | some fn => fn.ntmps | none => 0

/-- Drawn regions are calm. -/
def codeCalm (calm : List Oper → Bool) : Code → Bool
  | .region _ ops draw => !draw || !calm ops.toList || calmB ops.toList
  | .seq a b => codeCalm calm a && codeCalm calm b
  | .cond _ a b => codeCalm calm a && codeCalm calm b
  | .block _ b => codeCalm calm b
  | .loop b => codeCalm calm b
  | .scope b => codeCalm calm b
  | _ => true
/-- A loop, from the head of its body. -/
def LoopOK (P : Program) (calm : List Oper → Bool) (fid : FuncId) (n : Nat) (b : Code) (st : St) (K : Ex → St → Prop) : Prop :=
  codeCalm calm b = true → ∀ (A : Amb) (a : Act) (w : World), A.bl0.length ≤ n → Good P A (ntmpsOf P fid) [] st a w → ∀ (fr : Frame) (k : List Item) (cs : List Frame),
    ∃ e a' w', Post P A (ntmpsOf P fid) K e a' w' ∧ Arrives P (lone (fr.at a (.code b :: .inLoop b :: k)) cs w) fr k cs e a' w'

/-- What is asked of the program. -/
structure ProgOK (P : Program) (calm : List Oper → Bool) (srt : FuncId → Nat) : Prop where
  name : NameOK P
  mixed : P.follows .mixedOrders = true
  prim : ∀ f, 0 < srt f → SortPrim P f (srt f)
  calm : ∀ (f : Nat) fn c, P.funcs[f]? = some fn → fn.body = some c → codeCalm calm c = true

section
variable {P : Program} {A : Amb} {nt : Nat} {X : Rec Prop} {cx : Ctx} {I : FuncId → List AV → Heap → (AV → Heap → Prop) → Prop}

theorem hoist_plain (P : Program) : ∀ (l : List Oper), ∀ o ∈ hoistAll P l, o.isArr = false
  | [], o, h => by simp [hoistAll] at h
  | x :: r, o, h => by
    simp only [hoistAll, List.mem_append] at h
    rcases h with h | h
    · unfold hoisted at h
      split at h
      · simp at h; subst h; rfl
      · split at h <;> (simp at h; subst h; rfl)
      · simp at h
    · exact hoist_plain P r o h
theorem ghostK_sound {l : List Ghost} {st : St} {k : St → Prop} {a : Act} {w : World} (hX : ¬ X.fail) (hg : Good P A nt [] st a w) (hk : ghostK X l st k) : ∃ st', Good P A nt [] st' a w ∧ k st' := by
  obtain ⟨env, heap, defers, bor⟩ := st
  unfold ghostK at hk
  cases l with
  | nil => exact ⟨_, hg, hk⟩
  | cons g r =>
    dsimp only at hk
    split at hk
    · rename_i env' heap' he
      rw [Env.forceV_eq, Heap.force_eq] at hk
      have hlen := good_len hg
      obtain ⟨ha, rfl, U, bl, ob, h⟩ := hg
      obtain ⟨⟨U', bl', ob', h'⟩, _⟩ := ghosts_sound _ h hlen he
      exact ⟨_, ⟨ha, rfl, U', bl', ob', h'⟩, hk⟩
    · exact absurd hk hX

theorem den_sound (hL : Leans P cx X I) (hX : Calm X) (hP : cx.P = P) {calm : List Oper → Bool} (hM : P.follows .mixedOrders = true) {d : Nat} {fid : FuncId} (hnt : nt = ntmpsOf P fid)
    (hl : ∀ n b st K, X.loop d fid n b st K → LoopOK P calm fid n b st K) : ∀ (c : Code), codeCalm calm c = true → ∀ (st : St) (k : Ex → St → Prop) (a : Act) (w : World),
    Good P A nt [] st a w → den X cx I calm nt d fid c st k → c.wp P (Post P A nt k) a w := by
  intro c
  induction c with
  | skip => intro hcc st k a w hg hk; exact wp_skip ⟨st, hg, by simpa only [den] using hk⟩
  | label l => intro hcc st k a w hg hk; exact wp_label ⟨st, hg, by simpa only [den] using hk⟩
  | region id ops draw =>
    rintro hcc st0 k a w hg0 hk
    simp only [den] at hk
    rcases cond_elim hk with ⟨hc, hk⟩ | ⟨_, hk⟩
    · rw [Bool.and_eq_true] at hc
      obtain ⟨hdr, hd⟩ := hc
      obtain ⟨⟨env, heap, defers, bor⟩, hg, hk⟩ := ghostK_sound hL.fail hg0 hk
      dsimp only at hk
      rw [forceNat_eq, Heap.force_eq] at hk
      cases draw with
      | true =>
        have hcalm : calmB ops.toList = true := by
          have h1 : calm ops.toList = true := by simpa using hdr
          simpa [codeCalm, h1] using hcc
        have hlen := good_len hg
        obtain ⟨ha, rfl, U, bl, ob, h⟩ := hg
        have h' := (h.hoist (hoistAll P ops.toList) (hoist_plain P ops.toList)).ext (drew_ext w (w.drawn + 1) U (Nat.le_succ _))
        rw [List.nil_append, ← pendT_tags ops.toList 0] at h'
        rw [hP] at hk
        have hcl : Closed fun st => ∃ st0, EqSt st0 st ∧ k .normal st0 := fun a b hab ⟨s0, h1, h2⟩ => ⟨s0, h1.trans hab, h2⟩
        have hk' := denOps_steps hX (k := fun st => ∃ st0, EqSt st0 st ∧ k .normal st0) hcl (fun st h => ⟨st, EqSt.refl st, h⟩) _ _ _ _ ⟨[], rfl⟩ hk
        rw [hP] at hk'
        have hlt : left (tags P 0 heap.length ops.toList) (Array.replicate ops.size false) = tags P 0 heap.length ops.toList := by
          refine List.filter_eq_self.2 fun t ht => ?_
          obtain ⟨_, t2, _⟩ := tags_mem ht
          have := (List.getElem?_eq_some_iff.1 t2).1
          simp at this
          simp [Array.getD, this]
        refine wp_region_any hM (any_sound hL hX hP (n := heap.length) hcalm hlen hd hcl ?_ ops.size (Array.replicate ops.size false) ⟨env, heap ++ hoistAll P ops.toList, [], bor⟩ a _ (by simp) ?_ ?_ (by rw [hlt]; exact ⟨ha, rfl, U, _, ob, h'⟩) (by rw [hlt]; exact hk'))
        · rintro ⟨env1, heap1, defers1, bor1⟩ a w ⟨ha, hdf, U, bl, ob, hr⟩ ⟨⟨env0, heap0, defers0, bor0⟩, ⟨e1, e2, e3, e4⟩, hk0⟩
          dsimp only at e1 e2 e3 e4
          subst e2 e3 e4
          exact ⟨_, ⟨ha, hdf, U, bl, ob, hr.envEq e1⟩, hk0⟩
        · intro i hi
          simp [Array.getD] at hi
        · rw [hlt]
          have : ∀ (l : List Oper) ix base, (tags P ix base l).length = l.length := by
            intro l
            induction l with
            | nil => intro ix base; rfl
            | cons o r ih => intro ix base; simp [tags, ih]
          rw [this]; simp
      | false =>
      have hlen := good_len hg
      obtain ⟨ha, rfl, U, bl, ob, h⟩ := hg
      have h' := h.hoist (hoistAll P ops.toList) (hoist_plain P ops.toList)
      rw [List.nil_append] at h'
      rw [hP] at hk
      refine wp_region_list (denOps_sound hL hP (fun st a w hg hk => ⟨st, hg, hk⟩) _ 0 heap.length _ a w ⟨ha, rfl, U, _, ob, h'⟩ hlen hd hk)
    · exact absurd hk hL.fail
  | seq x y ihx ihy =>
    intro hcc st k a w hg hk
    simp only [den] at hk
    refine wp_seq (wp_mono (ihx (by simp only [codeCalm, Bool.and_eq_true] at hcc; exact hcc.1) st _ a w hg hk) ?_)
    intro e a w hp
    cases e with
    | normal => obtain ⟨st', hg', hk'⟩ := hp; exact ihy (by simp only [codeCalm, Bool.and_eq_true] at hcc; exact hcc.2) st' k a w hg' hk'
    | exit id => exact hp
    | ret => exact hp
    | goto l => exact hp
    | panic ch => exact hp
    | outgrown => exact hp
  | cond c x y ihx ihy =>
    rintro hcc ⟨env, heap, defers, bor⟩ k a w hg hk
    simp only [den] at hk
    obtain ⟨ha, rfl, U, bl, ob, h⟩ := hg
    split at hk
    · rename_i b hb
      have hr := evo_at h 0 c
      rw [hP] at hb
      rw [hb] at hr
      rw [branch_eq hL.br] at hk
      have hs : ∀ s, condSlot c = some s → env.get s = .bool b := by
        intro s hs
        cases c <;> simp [condSlot] at hs
        subst hs; exact hb
      refine wp_cond (rep_bool' hr) ?_
      cases b
      · exact ihy (by simp only [codeCalm, Bool.and_eq_true] at hcc; exact hcc.2) _ k a w ⟨ha, rfl, U, bl, ob, h.settle hs⟩ hk
      · exact ihx (by simp only [codeCalm, Bool.and_eq_true] at hcc; exact hcc.1) _ k a w ⟨ha, rfl, U, bl, ob, h.settle hs⟩ hk
    · exact absurd hk hL.fail
  | block id b ih =>
    intro hcc st k a w hg hk
    simp only [den] at hk
    refine wp_block (wp_mono (ih hcc st _ a w hg hk) ?_)
    intro e a w hp
    cases e with
    | normal => exact hp
    | exit id' =>
      obtain ⟨st', hg', hk'⟩ := hp
      simp only [beq_eq] at hk'
      by_cases e : id' = id
      · simp only [Exit.inBlock, e, if_true]
        simp only [e, decide_true, cond_true] at hk'
        exact ⟨st', hg', hk'⟩
      · simp only [Exit.inBlock, if_neg e]
        simp only [e, decide_false, cond_false] at hk'
        exact ⟨st', hg', hk'⟩
    | ret => exact hp
    | goto l => exact hp
    | panic ch => exact hp
    | outgrown => exact hp
  | loop b ih =>
    rintro hcc ⟨env, heap, defers, bor⟩ k a w hg hk
    simp only [den, forceNat_eq] at hk
    obtain ⟨st', hg', hk'⟩ := cleanK_sound hL.fail hg (good_len hg) hk
    intro fr kk cs
    subst hnt
    obtain ⟨e, a', w', hp, harr⟩ := hl _ _ _ _ hk' hcc A a w (good_len hg) hg' fr kk cs
    exact ⟨e, a', w', hp, .of_steps (.one step_loop) harr⟩
  | rangeFunc f ps x y ihx ihy => intro hcc st k a w hg hk; exact absurd hk (by simp only [den]; exact hL.fail)
  | exit id => intro hcc st k a w hg hk; exact wp_exit ⟨st, hg, by simpa only [den] using hk⟩
  | scope b ih =>
    intro hcc st k a w hg hk
    simp only [den] at hk
    refine wp_scope_straight (wp_mono (ih hcc st _ a w hg hk) ?_)
    intro e a w hp
    cases e with
    | goto l => exact hp
    | _ => exact hp
  | goto l => intro hcc st k a w hg hk; exact absurd hk (by simp only [den]; exact hL.fail)
  | ret => intro hcc st k a w hg hk; exact wp_ret ⟨st, hg, by simpa only [den] using hk⟩
  | refuse y => intro hcc st k a w hg hk; exact absurd hk (by simp only [den]; exact hL.fail)

theorem stepLoop_sound (hL : Leans P cx X I) (hX : Calm X) (hP : cx.P = P) {calm : List Oper → Bool} (hM : P.follows .mixedOrders = true) {d : Nat} {fid : FuncId} (hl : ∀ n b st K, X.loop d fid n b st K → LoopOK P calm fid n b st K)
    {n : Nat} {b : Code} {st : St} {K : Ex → St → Prop} (h : den X cx I calm (ntmpsOf P fid) d fid b st (loopNext X cx d fid n b K)) : LoopOK P calm fid n b st K := by
  intro hcc A a w hA hg fr k cs
  obtain ⟨e, a₁, w₁, hq, harr⟩ := den_sound hL hX hP hM rfl hl b hcc st _ a w hg h fr (.inLoop b :: k) cs
  cases e with
  | normal =>
    obtain ⟨st', hg', hk'⟩ := hq
    obtain ⟨st'', hg'', hk''⟩ := cleanK_sound hL.fail hg' hA (by unfold loopNext at hk'; exact hk')
    obtain ⟨e₂, a₂, w₂, hq₂, harr₂⟩ := hl _ _ _ _ hk'' hcc A a₁ w₁ hA hg'' fr k cs
    exact ⟨e₂, a₂, w₂, hq₂, .of_steps (Steps.trans harr (.one step_inLoop)) harr₂⟩
  | exit id =>
    obtain ⟨st', hg', hk'⟩ := hq
    obtain ⟨st'', hg'', hk''⟩ := cleanK_sound hL.fail hg' hA (by unfold loopNext at hk'; exact hk')
    exact ⟨.exit id, a₁, w₁, ⟨st'', hg'', hk''⟩, .pass (x := .inLoop b) rfl (fun _ _ => .inl (by simp)) harr⟩
  | ret =>
    obtain ⟨st', hg', hk'⟩ := hq
    obtain ⟨st'', hg'', hk''⟩ := cleanK_sound hL.fail hg' hA (by unfold loopNext at hk'; exact hk')
    exact ⟨.ret, a₁, w₁, ⟨st'', hg'', hk''⟩, .pass (x := .inLoop b) rfl (fun _ _ => .inl (by simp)) harr⟩
  | goto l => exact hq.elim
  | panic ch => exact hq.elim
  | outgrown => exact hq.elim

/-! ### bodies -/
theorem params_get {R : Type} : ∀ (args : List AV) (t : Nat) (k : Env → R), ∃ env, params t args k = k env ∧ ∀ s, env.get s = if t ≤ s then ((args[s - t]?).map AV.strip).getD .undef else .undef
  | [], t, k => ⟨[], rfl, fun s => by simp [Env.get]⟩
  | v :: r, t, k => by
    obtain ⟨env, h1, h2⟩ := params_get r (t + 1) (fun r => k ((t, v.strip) :: r))
    refine ⟨(t, v.strip) :: env, by simp only [params, AV.force_eq]; exact h1, fun s => ?_⟩
    simp only [Env.get, beq_eq]
    by_cases e : t = s
    · subst e; simp
    · simp only [e, decide_false, cond_false, h2 s]
      by_cases hl : t ≤ s
      · have : s - t = (s - (t + 1)) + 1 := by omega
        rw [if_pos (by omega), if_pos hl, this]; simp
      · rw [if_neg (by omega), if_neg hl]

/-- Which result a slot's room goes with. -/
structure Results (P : Program) (A : Amb) (w : World) (U : Nat → Nat) (bl : Blocks) (ob : Loc → Option Nat) (heap : Heap) (rs : List ResultVar) (vs : List AV) (xs : List Value) : Prop where
  len : vs.length = rs.length
  len' : xs.length = rs.length
  rep : ∀ (i : Nat) v x, vs[i]? = some v → xs[i]? = some x → Rep w (forb A bl heap) U bl v x
  own : ∀ (i : Nat) v x, vs[i]? = some v → xs[i]? = some x → Bare v ∨ ∃ t, rs[i]? = some (.tmp t) ∧ usedT t (rs.drop (i + 1)) = false ∧ OwnAt w (forb A bl heap) U A.B (fun p => ob (.env t p)) v x

theorem resultsOf_sound {heap : Heap} {bor} {env : Env} {a : Act} {w : World} {U : Nat → Nat} {bl : Blocks} {ob : Loc → Option Nat} {pend} (h : Rel P A nt pend env heap bor a.tmps w U bl ob) :
    ∀ (rs : List ResultVar) (vs : List AV), resultsOf P env heap rs = some vs →
    ∃ xs, (rs.mapM (fun
      | .tmp t => pure (a.tmps.getD t undef)
      | .cell b t => do loadVar t (← asAddr (a.tmps.getD b undef)) : ResultVar → Sem Value)).run P w = .ok xs w ∧ Results P A w U bl ob heap rs vs xs
  | [], vs, hr => by
    simp only [resultsOf, Option.some.injEq] at hr
    subst hr
    exact ⟨[], by simp, ⟨rfl, rfl, fun i v x hv => by simp at hv, fun i v x hv => by simp at hv⟩⟩
  | .tmp t :: r, vs, hr => by
    simp only [resultsOf] at hr
    split at hr
    · rename_i vs' hr'
      simp only [Option.some.injEq] at hr
      subst hr
      obtain ⟨xs, h1, h2⟩ := resultsOf_sound h r vs' hr'
      refine ⟨a.tmps.getD t undef :: xs, ?_, ⟨by simp [h2.len], by simp [h2.len'], fun i v x hv hx => ?_, fun i v x hv hx => ?_⟩⟩
      · simp only [List.mapM_cons, Sem.run_bind, Sem.run_pure, Result.andThen_ok] at h1 ⊢
        rw [h1]; rfl
      · cases i with
        | zero =>
          simp only [List.getElem?_cons_zero, Option.some.injEq] at hv hx
          subst hv hx
          cases usedT t r
          · exact (h.env t).1
          · exact (h.env t).1.strip
        | succ i => exact h2.rep i v x (by simpa using hv) (by simpa using hx)
      · cases i with
        | zero =>
          simp only [List.getElem?_cons_zero, Option.some.injEq] at hv hx
          subst hv hx
          cases hu : usedT t r
          · exact .inr ⟨t, rfl, by simpa using hu, (h.env t).2⟩
          · exact .inl (strip_bare _)
        | succ i => exact h2.own i v x (by simpa using hv) (by simpa using hx)
    · simp at hr
  | .cell b t :: r, vs, hr => by
    simp only [resultsOf] at hr
    split at hr
    · rename_i v0 vs' hl hr'
      simp only [Option.some.injEq] at hr
      subst hr
      obtain ⟨xs, h1, h2⟩ := resultsOf_sound h r vs' hr'
      obtain ⟨x0, hx0, hv0⟩ := loadAV_sound hl (h.env b).1 h.objsOK
      refine ⟨x0 :: xs, ?_, ⟨by simp [h2.len], by simp [h2.len'], fun i v x hv hx => ?_, fun i v x hv hx => ?_⟩⟩
      · have hx0' : (do loadVar t (← asAddr (a.tmps.getD b undef)) : Sem Value).run P w = .ok x0 w := by
          generalize a.tmps.getD b undef = y at hx0
          simp only [Instr.loadAt, Sem.run_bind] at hx0 ⊢
          cases y with
          | pointer p =>
            cases p with
            | none => simp [Instr.sureAddr, stuck] at hx0
            | some p => simpa [Instr.sureAddr, asAddr] using hx0
          | _ => simp [Instr.sureAddr, stuck] at hx0
        simp only [List.mapM_cons, Sem.run_bind, Sem.run_pure, Result.andThen_ok] at h1 hx0' ⊢
        rw [hx0']; simp only [Result.andThen_ok]
        rw [h1]; rfl
      · cases i with
        | zero =>
          simp only [List.getElem?_cons_zero, Option.some.injEq] at hv hx
          subst hv hx
          exact hv0.strip
        | succ i => exact h2.rep i v x (by simpa using hv) (by simpa using hx)
      · cases i with
        | zero =>
          simp only [List.getElem?_cons_zero, Option.some.injEq] at hv hx
          subst hv hx
          exact .inl (strip_bare _)
        | succ i => exact h2.own i v x (by simpa using hv) (by simpa using hx)
    · simp at hr
end
end Ax

/- Bodies and calls; the machine is sound. -/
set_option linter.unusedVariables false
set_option linter.unusedSimpArgs false
namespace Ax
open Go Go.RowKit

theorem usedT_of {t : Nat} : ∀ {rs : List ResultVar} {m j : Nat}, rs[j]? = some (.tmp t) → m ≤ j → usedT t (rs.drop m) = true
  | [], m, j, h, _ => by simp at h
  | r :: rs, 0, 0, h, _ => by simp at h; subst h; simp [usedT, beq_eq]
  | r :: rs, 0, j + 1, h, _ => by
    have := usedT_of (rs := rs) (m := 0) (j := j) (by simpa using h) (Nat.zero_le _)
    simp only [List.drop_zero] at this ⊢
    cases r with
    | tmp s => simp [usedT, this]
    | cell a u => simpa [usedT] using this
  | r :: rs, m + 1, 0, h, hl => by omega
  | r :: rs, m + 1, j + 1, h, hl => by
    have := usedT_of (rs := rs) (m := m) (j := j) (by simpa using h) (by omega)
    simpa using this

/-- Whose rooms the results bring. -/
def ownR (ob : Loc → Option Nat) (rs : List ResultVar) : List Nat → Option Nat
  | i :: q => match rs[i]? with
    | some (.tmp t) => if usedT t (rs.drop (i + 1)) then none else ob (.env t q)
    | _ => none
  | [] => none
theorem ownR_of {ob : Loc → Option Nat} {rs : List ResultVar} {p : List Nat} {b : Nat} (h : ownR ob rs p = some b) : ∃ i q t, p = i :: q ∧ rs[i]? = some (.tmp t) ∧ usedT t (rs.drop (i + 1)) = false ∧ ob (.env t q) = some b := by
  cases p with
  | nil => simp [ownR] at h
  | cons i q =>
    simp only [ownR] at h
    split at h
    · rename_i t ht
      split at h
      · simp at h
      · rename_i hu; exact ⟨i, q, t, rfl, ht, by simpa using hu, h⟩
    · simp at h
theorem ownR_inj {ob : Loc → Option Nat} (hob : ∀ l m b, ob l = some b → ob m = some b → l = m) {rs : List ResultVar} {p q : List Nat} {b : Nat} (h : ownR ob rs p = some b) (k : ownR ob rs q = some b) : p = q := by
  obtain ⟨i, p', t, rfl, h1, h2, h3⟩ := ownR_of h
  obtain ⟨j, q', s, rfl, k1, k2, k3⟩ := ownR_of k
  have := hob _ _ _ h3 k3
  injection this with e1 e2
  subst e1 e2
  rcases Nat.lt_trichotomy i j with hij | rfl | hij
  · rw [usedT_of k1 hij] at h2; cases h2
  · rfl
  · rw [usedT_of h1 hij] at k2; cases k2

section
variable {P : Program} {A : Amb} {nt : Nat} {X : Rec Prop} {cx : Ctx} {I : FuncId → List AV → Heap → (AV → Heap → Prop) → Prop}

/-- The slots are done with. -/
theorem Rel.forget {env : Env} {heap : Heap} {bor} {tm : Array Value} {w : World} {U : Nat → Nat} {bl : Blocks} {ob : Loc → Option Nat} {pend} (h : Rel P A nt pend env heap bor tm w U bl ob) :
    Rel P A 0 [] [] heap bor #[] w U bl (fun l => match l with | .env _ _ => none | l => ob l) where
  size := Nat.zero_le _
  env t := ⟨.undef, .bare (bare_of rfl)⟩
  len := h.len
  objs id b hid := h.objs id b hid
  inj := h.inj
  base := h.base
  obinj l m b hl hm := h.obinj l m b (by cases l <;> first | exact hl | simp at hl) (by cases m <;> first | exact hm | simp at hm)
  obok l b hl := h.obok l b (by cases l <;> first | exact hl | simp at hl)
  since := h.since
  f0 := h.f0
  hB := h.hB
  hG := h.hG
  pend p hp := by simp at hp

theorem finish_sound (hX : ¬ X.fail) {f : FuncId} {fn : Func} {k : AV → Heap → Prop} {e : Ex} {st : St} {a : Act} {w : World} (hP : cx.P = P) (hg : Good P A nt [] st a w) (hk : finish X cx f fn k e st) :
    a.defers = [] ∧ ∃ v, (results fn a.tmps).run P w = .ok v w ∧ ∃ r heap' U' bl' ob' own, Rel P A 0 [] [] heap' none #[] w U' bl' ob' ∧ Rep w (forb A bl' heap') U' bl' r v ∧ OwnAt w (forb A bl' heap') U' A.B own r v ∧
    (∀ p b, own p = some b → (¬ A.G b ∧ b < w.heap.size ∧ ∀ id : Nat, bl'[id]? ≠ some (some b)) ∧ (∀ q, own q = some b → p = q) ∧ ∀ l, ob' l ≠ some b) ∧ k r heap' := by
  have hk' : ∃ st', Good P A nt [] st' a w ∧ (match st' with
    | ⟨env, heap, defers, bor⟩ => match defers, bor with
      | [], none =>
        match resultsOf cx.P env heap fn.results.toList with
        | some vs => (packR vs).force fun r => k r heap
        | none => X.fail
      | _, _ => X.fail) := by
    unfold finish at hk
    cases e with
    | exit id => exact absurd hk hX
    | normal => exact ghostK_sound hX hg hk
    | ret => exact ghostK_sound hX hg hk
  clear hk hg
  obtain ⟨⟨env, heap, defers, bor⟩, hg, hk⟩ := hk'
  obtain ⟨ha, rfl, U, bl, ob, h⟩ := hg
  refine ⟨ha, ?_⟩
  have hk : (match bor with | none => (match resultsOf cx.P env heap fn.results.toList with | some vs => k (packR vs) heap | none => X.fail) | some _ => X.fail) := by
    cases bor <;> simp only [AV.force_eq] at hk ⊢ <;> exact hk
  cases bor with
  | some q => exact absurd hk hX
  | none =>
    simp only at hk
    split at hk
    · rename_i vs hvs
      rw [hP] at hvs
      obtain ⟨xs, hrun, hR⟩ := resultsOf_sound h _ _ hvs
      have hlen : vs.length = xs.length := hR.len.trans hR.len'.symm
      have hres : (results fn a.tmps).run P w = .ok (if h : xs.length = 1 then xs[0] else .tuple xs.toArray) w := by
        have key : ∀ m : Sem (List Value), m.run P w = .ok xs w → ((List.toArray <$> m) >>= fun vs => pure (if h : vs.size = 1 then vs[0] else .tuple vs) : Sem Value).run P w = .ok (if h : xs.length = 1 then xs[0] else .tuple xs.toArray) w := by
          intro m hm
          simp only [Sem.run_bind, map_eq_pure_bind, hm, Result.andThen_ok, Sem.run_pure]
          by_cases e1 : xs.length = 1 <;> simp [e1]
        unfold results
        rw [Array.mapM_eq_mapM_toList]
        exact key _ hrun
      have hnot : ∀ q t b, ob (.env t q) = some b → ((¬ A.G b ∧ b < w.heap.size ∧ ∀ id : Nat, bl[id]? ≠ some (some b)) ∧ ∀ l, (match l with | Loc.env _ _ => none | l => ob l) ≠ some b) := by
        intro q t b hb
        refine ⟨h.obok _ b hb, fun l hl => ?_⟩
        cases l with
        | env s p => simp at hl
        | cell id i p => have := h.obinj _ _ b hb hl; simp at this
        | mapv id i p => have := h.obinj _ _ b hb hl; simp at this
      have hown : ∀ (i : Nat) v x, vs[i]? = some v → xs[i]? = some x → OwnAt w (forb A bl heap) U A.B (fun q => ownR ob fn.results.toList (i :: q)) v x := by
        intro i v x hv hx
        rcases hR.own i v x hv hx with hb | ⟨t, ht, hu, ho⟩
        · exact .bare hb
        · have : (fun q => ownR ob fn.results.toList (i :: q)) = fun q => ob (.env t q) := by
            funext q; simp only [ownR, ht, hu]; rfl
          rw [this]; exact ho
      refine ⟨_, hres, packR vs, heap, U, bl, _, (fun p => if vs.length = 1 then ownR ob fn.results.toList (0 :: p) else ownR ob fn.results.toList p), h.forget, ?_, ?_, ?_, hk⟩
      · by_cases e1 : vs.length = 1
        · obtain ⟨v, rfl⟩ := List.length_eq_one_iff.1 e1
          obtain ⟨x, rfl⟩ := List.length_eq_one_iff.1 (hlen ▸ e1)
          simpa [packR] using hR.rep 0 v x rfl rfl
        · have : packR vs = .tup vs := by
            unfold packR; split
            · simp at e1
            · rfl
          rw [this, dif_neg (by omega)]
          exact .tup (by simpa using hlen) fun i x y hx hy => hR.rep i x y hx (by simpa using hy)
      · by_cases e1 : vs.length = 1
        · obtain ⟨v, rfl⟩ := List.length_eq_one_iff.1 e1
          obtain ⟨x, rfl⟩ := List.length_eq_one_iff.1 (hlen ▸ e1)
          simpa [packR] using hown 0 v x rfl rfl
        · have : packR vs = .tup vs := by
            unfold packR; split
            · simp at e1
            · rfl
          rw [this, dif_neg (by omega)]
          simp only [e1, if_false]
          intro p u hp hou
          cases p with
          | nil => simp [AV.at] at hp; subst hp; simp [AV.owned] at hou
          | cons i q =>
            simp only [AV.at] at hp
            split at hp
            · rename_i c hc
              have hi := (List.getElem?_eq_some_iff.1 hc).1
              have hx : xs[i]? = some (xs[i]'(by omega)) := by simp
              obtain ⟨y, hy, ho⟩ := hown i c _ hc hx q u hp hou
              exact ⟨y, by simp only [vat]; simp only [List.getElem?_toArray, hx]; exact hy, ho⟩
            · simp at hp
      · intro p b hb
        by_cases e1 : vs.length = 1
        · simp only [e1, if_true] at hb ⊢
          obtain ⟨i, q, t, _, _, _, ho⟩ := ownR_of hb
          refine ⟨(hnot q t b ho).1, fun q' hq' => ?_, (hnot q t b ho).2⟩
          have := ownR_inj h.obinj hb hq'
          injection this
        · simp only [e1, if_false] at hb ⊢
          obtain ⟨i, q, t, _, _, _, ho⟩ := ownR_of hb
          exact ⟨(hnot q t b ho).1, fun q' hq' => ownR_inj h.obinj hb hq', (hnot q t b ho).2⟩
    · exact absurd hk hX

theorem runBody_sound (hL : Leans P cx X I) (hX : Calm X) (hP : cx.P = P) {calm : List Oper → Bool} (hC : ProgOK P calm cx.srt) {d : Nat} (hl : ∀ fid n b st K, X.loop d fid n b st K → LoopOK P calm fid n b st K)
    {f : FuncId} {args : List AV} {heap : Heap} {k : AV → Heap → Prop} (h : runBody X cx I calm d f args heap k) : InlOK P f args heap k := by
  unfold runBody at h
  rw [hP] at h
  split at h
  · rename_i fn hfn
    split at h
    · rename_i c hc
      refine ⟨⟨fn, hfn, by simp [hc]⟩, ?_⟩
      intro A w U bl ob vs hrel hargs
      obtain ⟨env, he, henv⟩ := params_get args 0 (fun env => den X cx I calm fn.ntmps d f c ⟨env, heap, [], none⟩ (finish X cx f fn k))
      rw [he] at h
      have hnt : fn.ntmps = ntmpsOf P f := by simp only [ntmpsOf, hfn]
      have hstart : Rel P A fn.ntmps [] env heap none (vs ++ Array.replicate (fn.ntmps - vs.size) undef) w U bl ob := by
        refine { hrel with size := by simp; omega, env := fun t => ?_ }
        rw [henv t, if_pos (Nat.zero_le _), Nat.sub_zero]
        cases ht : args[t]? with
        | none => exact ⟨.undef, .bare (bare_of rfl)⟩
        | some v =>
          have hlt : t < vs.size := by have := (List.getElem?_eq_some_iff.1 ht).1; have := hargs.1; simp at this; omega
          have hx : (vs ++ Array.replicate (fn.ntmps - vs.size) undef).getD t undef = vs[t] := by
            rw [Array.getD_eq_getD_getElem?, Array.getElem?_append_left hlt]; simp [hlt]
          rw [hx]
          refine ⟨(hargs.2 t v _ ht (by simp [hlt])).strip, .bare (strip_bare _)⟩
      refine calls_of_wp hfn hc (wp_mono (den_sound hL hX hP hC.mixed hnt (hl f) c (hC.calm f fn c hfn hc) _ _ _ w ⟨rfl, rfl, U, bl, ob, hstart⟩ h) ?_)
      intro e a w' hp
      have key : ∀ ex st', Good P A fn.ntmps [] st' a w' → finish X cx f fn k ex st' → a.defers = [] ∧ ∃ v, (results fn a.tmps).run P w' = .ok v w' ∧ ∃ r x heap' U' bl' ob' own, Ending.returned v = .returned x ∧ Rel P A 0 [] [] heap' none #[] w' U' bl' ob' ∧
          Rep w' (forb A bl' heap') U' bl' r x ∧ OwnAt w' (forb A bl' heap') U' A.B own r x ∧
          (∀ p b, own p = some b → (¬ A.G b ∧ b < w'.heap.size ∧ ∀ id : Nat, bl'[id]? ≠ some (some b)) ∧ (∀ q, own q = some b → p = q) ∧ ∀ l, ob' l ≠ some b) ∧ k r heap' := by
        intro ex st' hg' hk'
        obtain ⟨hd, v, hv, r, heap', U', bl', ob', own, h1, h2, h3, h4, h5⟩ := finish_sound hL.fail hP hg' hk'
        exact ⟨hd, v, hv, r, v, heap', U', bl', ob', own, rfl, h1, h2, h3, h4, h5⟩
      cases e with
      | normal => obtain ⟨st', hg', hk'⟩ := hp; exact key _ st' hg' hk'
      | ret => obtain ⟨st', hg', hk'⟩ := hp; exact key _ st' hg' hk'
      | exit id =>
        obtain ⟨st', hg', hk'⟩ := hp
        obtain ⟨env', heap', defers', bor'⟩ := st'
        exact absurd hk' hL.fail
      | goto l => exact hp
      | panic ch => exact hp.elim
      | outgrown => exact hp.elim
    · exact absurd h hL.fail
  · exact absurd h hL.fail

/-- The model's own reading. -/
def semRec (P : Program) (calm : List Oper → Bool) : Rec Prop where
  fail := False
  all := fun n k => ∀ i, i < n → k i
  call := fun f a Q => CallOK P f a Q ∧ ∃ r, Q r
  loop := fun _ fid n b st K => LoopOK P calm fid n b st K ∧ ∃ e s, K e s
  sort := sortP
  br := BrP

theorem callOK_mono {f : FuncId} {a : List AV} {Q Q' : AV → Prop} (h : ∀ r, Q r → Q' r) (hc : CallOK P f a Q) : CallOK P f a Q' :=
  ⟨hc.1, fun w F U vs hF ha => (hc.2 w F U vs hF ha).mono fun e w' ⟨r, x, U', own, h1, h2, h3, h4, h5, h6⟩ => ⟨r, x, U', own, h1, h2, h3, h4, h5, h r h6⟩⟩
theorem post_mono {k k' : Ex → St → Prop} (h : ∀ e s, k e s → k' e s) {e : Exit} {a : Act} {w : World} (hp : Post P A nt k e a w) : Post P A nt k' e a w := by
  cases e with
  | normal => obtain ⟨s, h1, h2⟩ := hp; exact ⟨s, h1, h _ _ h2⟩
  | exit id => obtain ⟨s, h1, h2⟩ := hp; exact ⟨s, h1, h _ _ h2⟩
  | ret => obtain ⟨s, h1, h2⟩ := hp; exact ⟨s, h1, h _ _ h2⟩
  | goto l => exact hp
  | panic c => exact hp
  | outgrown => exact hp
theorem loopOK_mono {calm : List Oper → Bool} {fid : FuncId} {n : Nat} {b : Code} {st : St} {k k' : Ex → St → Prop} (h : ∀ e s, k e s → k' e s) (hl : LoopOK P calm fid n b st k) : LoopOK P calm fid n b st k' := by
  intro hc A a w hA hg fr kk cs
  obtain ⟨e, a', w', h1, h2⟩ := hl hc A a w hA hg fr kk cs
  exact ⟨e, a', w', post_mono h h1, h2⟩

theorem calm_sem {calm : List Oper → Bool} : Calm (semRec P calm) := ⟨id, fun _ _ _ h => h.2, fun f a Q Q' h hc => ⟨callOK_mono h hc.1, let ⟨r, hr⟩ := hc.2; ⟨r, h r hr⟩⟩, rfl⟩

theorem inlN_sound (hP : cx.P = P) {calm : List Oper → Bool} (hC : ProgOK P calm cx.srt) : ∀ d f args h k, inlN (semRec P calm) cx calm d f args h k → InlOK P f args h k
  | 0, f, args, h, k, hk => hk.elim
  | d + 1, f, args, h, k, hk =>
    runBody_sound (X := semRec P calm) ⟨id, fun _ _ _ h => h.1, inlN_sound hP hC d, hC.name, rfl, rfl, hC.prim⟩ calm_sem hP hC (fun _ _ _ _ _ h => h.1) hk

theorem leans_sem (hP : cx.P = P) {calm : List Oper → Bool} (hC : ProgOK P calm cx.srt) (d : Nat) : Leans P cx (semRec P calm) (inlN (semRec P calm) cx calm d) :=
  ⟨id, fun _ _ _ h => h.1, inlN_sound hP hC d, hC.name, rfl, rfl, hC.prim⟩

theorem giveOut_own {w : World} {F F' : Nat → Prop} {U : Nat → Nat} {B : Nat} {own : List Nat → Option Nat} {v : AV} {x : Value} (h : OwnAt w F U B own v x) (hF : ∀ b, F' b → F b) :
    OwnAt w F' U B (fun p => match own p with | some b => if B ≤ b then some b else none | none => none) v x := by
  intro p u hp hou
  obtain ⟨y, hy, ho⟩ := h p u hp hou
  refine ⟨y, hy, ?_⟩
  unfold OwnOK at ho ⊢
  split at ho
  · rcases ho with ho | ⟨a, hn, e1, e2, e3, e4, e5, rest⟩
    · exact .inl ho
    · exact .inr ⟨a, hn, e1, by simp [e2, e3], e3, e4, fun hf => e5 (hF _ hf), rest⟩
  · obtain ⟨ao, cap, hx, hc, ho⟩ := ho
    refine ⟨ao, cap, hx, hc, ?_⟩
    rcases ho with ho | ⟨b, e1, e2, e3, e4, e5, hsz, c, el, fr, e7, e8, e9, e10, e11⟩
    · exact .inl ho
    · exact .inr ⟨b, e1, by simp [e2, e3], e3, fun hf => e4 (hF _ hf), e5, hsz, c, el, fr, e7, e8, e9, e10, fun i j q hi hq => let ⟨y, h1, h2, h3⟩ := e11 i j q hi hq; ⟨y, h1, h2, h3.mono ⟨fun b _ hf => .inl (hF b hf), fun b _ _ => ⟨Nat.le_refl _, fun _ _ => rfl⟩⟩ (BlLe.refl _)⟩⟩
  · trivial

theorem stepCall_sound (hP : cx.P = P) {calm : List Oper → Bool} (hC : ProgOK P calm cx.srt) {f : FuncId} {args : List AV} {Q : AV → Prop} (h : stepCall (semRec P calm) cx calm f args Q) : CallOK P f args Q := by
  obtain ⟨hb, h⟩ := runBody_sound (X := semRec P calm) (leans_sem hP hC topDepth) calm_sem hP hC (fun _ _ _ _ _ h => h.1) h
  refine ⟨hb, fun w F U vs hF hargs => ?_⟩
  let A : Amb := { B := w.heap.size, F0 := F, G := fun _ => False, w0 := w, bl0 := [], U0 := U, h0 := [] }
  have hrel : Rel P A 0 [] [] [] none #[] w U [] (fun _ => none) :=
    { size := Nat.zero_le _, env := fun t => ⟨.undef, .bare (bare_of rfl)⟩, len := rfl, objs := fun id b hid => by simp at hid, inj := fun i j b hi => by simp at hi,
      base := fun id b hid => by simp at hid, obinj := fun l m b hl => by simp at hl, obok := fun l b hl => by simp at hl,
      since := { below := BelowD.refl _ _, g0 := Grow0.refl _ _ _, ble := BlLe.refl _, pnd := fun id hid => by simp [A] at hid, gown := fun b hb => hb.elim, blen := Nat.le_refl _, ub := fun b _ => rfl },
      f0 := hF, hB := Nat.le_refl _, hG := fun b hb => hb.elim, pend := fun p hp => by simp at hp }
  have hargs' : RepL w (forb A [] []) U [] args vs.toList := by
    refine ⟨hargs.1, fun i x y hx hy => (hargs.2 i x y hx hy).mono ⟨fun b _ hf => ?_, fun b _ _ => ⟨Nat.le_refl _, fun _ _ => rfl⟩⟩ (BlLe.refl _)⟩
    rcases hf with hf | ⟨id, hid, _⟩
    · exact .inl hf
    · simp at hid
  refine (h A w U [] _ vs hrel hargs').mono ?_
  rintro e w' ⟨r, x, heap', U', bl', ob', own, rfl, h1, h2, h3, h4, h5⟩
  unfold giveOut at h5
  rcases cond_elim h5 with ⟨hd, h5⟩ | ⟨_, h5⟩
  · rw [AV.force_eq] at h5
    have hext : Ext w U w' U' := ⟨h1.since.below.os, h1.since.below.tape, h1.since.below.output, h1.since.below.size, fun b hb => ⟨h1.since.below.block b hb, h1.since.ub b hb⟩, h1.since.below.drawn⟩
    have hrep : Rep w' F U' [] r x := (h2.data hd).mono ⟨fun b _ hf => .inl (.inl hf), fun b _ _ => ⟨Nat.le_refl _, fun _ _ => rfl⟩⟩ (BlLe.refl _)
    have hown : OwnAt w' F U' w.heap.size _ r x := giveOut_own h3 (fun b hf => .inl hf)
    refine ⟨bif cx.ow f then r else r.strip, x, U', (fun p => match own p with | some b => if w.heap.size ≤ b then some b else none | none => none), rfl, hext, ?_, ?_, ?_, h5⟩
    · cases cx.ow f
      · exact hrep.strip
      · exact hrep
    · cases cx.ow f
      · exact .bare (strip_bare _)
      · exact hown
    · intro p b hb
      dsimp only at hb
      have hsp : ∀ q, (match own q with | some b => if w.heap.size ≤ b then some b else none | none => none) = some b → own q = some b ∧ w.heap.size ≤ b := by
        intro q hq
        split at hq
        · rename_i b' hb'
          split at hq
          · simp at hq; subst hq; exact ⟨hb', ‹_›⟩
          · simp at hq
        · simp at hq
      obtain ⟨b1, b2⟩ := hsp p hb
      exact ⟨b2, (h4 p b b1).1.2.1, fun q hq => (h4 p b b1).2.1 q (hsp q hq).1⟩
  · exact h5.elim

theorem sem_pre (hP : cx.P = P) {calm : List Oper → Bool} (hC : ProgOK P calm cx.srt) : PreFix cx calm (semRec P calm) where
  fail := rfl
  all := rfl
  sort := rfl
  br := rfl
  call f a Q h := ⟨stepCall_sound hP hC h, some_call (X := semRec P calm) rfl rfl id (fun _ _ _ h => h.2) (fun _ _ _ _ _ _ h => h.2) h⟩
  loop d fid n b st K h := ⟨stepLoop_sound (leans_sem hP hC d) calm_sem hP hC.mixed (fun _ _ _ _ h => h.1) (by unfold stepLoop at h; rw [hP] at h; exact h), some_loop (X := semRec P calm) rfl rfl id (fun _ _ _ h => h.2) (fun _ _ _ _ _ _ h => h.2) h⟩
  cmono f a Q Q' h hc := ⟨callOK_mono h hc.1, let ⟨r, hr⟩ := hc.2; ⟨r, h r hr⟩⟩
  lmono d fid n b st K K' h hl := ⟨loopOK_mono h hl.1, let ⟨e, s, hs⟩ := hl.2; ⟨e, s, h e s hs⟩⟩

/-- The least reading is sound. -/
theorem lfp_sound (hP : cx.P = P) {calm : List Oper → Bool} (hC : ProgOK P calm cx.srt) {f : FuncId} {args : List AV} {Q : AV → Prop} (h : (lfp cx calm).call f args Q) : CallOK P f args Q :=
  (h _ (sem_pre hP hC)).1
end
end Ax

/- Rules for running the machine by symbols. -/
set_option linter.unusedVariables false
namespace Ax
open Go Go.RowKit
def yesCalm : List Oper → Bool := fun _ => true
theorem branch_of {b : Bool} {y n : Prop} (h1 : b = true → y) (h2 : b = false → n) : BrP b y n := ⟨h1, h2⟩
theorem branch_true {b : Bool} {y n : Prop} (hb : b = true) (h1 : y) : BrP b y n := ⟨fun _ => h1, fun e => absurd (hb.symm.trans e) (by simp)⟩
theorem branch_false {b : Bool} {y n : Prop} (hb : b = false) (h1 : n) : BrP b y n := ⟨fun e => absurd (hb.symm.trans e) (by simp), fun _ => h1⟩

/-- A loop by a measure: J says which states stand at its head. -/
theorem loop_ind {cx : Ctx} {calm : List Oper → Bool} {d : Nat} {fid : FuncId} {n : Nat} {b : Code} {K : Ex → St → Prop} {ι : Type} (μ : ι → Nat) (S : ι → St)
    (round : ∀ i, (∀ j, μ j < μ i → (lfp cx calm).loop d fid n b (S j) K) → stepLoop (lfp cx calm) cx calm d fid n b (S i) K) : ∀ i, (lfp cx calm).loop d fid n b (S i) K := by
  intro i
  generalize hm : μ i = m
  induction m using Nat.strongRecOn generalizing i with
  | _ m ih => exact lfp_loop (round i fun j hj => ih (μ j) (hm ▸ hj) j rfl)
end Ax

/- Contracts by running the machine on the model's own reading. -/
set_option linter.unusedVariables false
namespace Ax
open Go Go.RowKit

structure SCall (P : Program) (calm : List Oper → Bool) (f : FuncId) (a : List AV) (Q : AV → Prop) : Prop where
  ok : CallOK P f a Q
  some : ∃ r, Q r
structure SLoop (P : Program) (calm : List Oper → Bool) (d : Nat) (fid : FuncId) (n : Nat) (b : Code) (st : St) (K : Ex → St → Prop) : Prop where
  ok : LoopOK P calm fid n b st K
  some : ∃ e s, K e s
def SX (P : Program) (calm : List Oper → Bool) : Rec Prop where
  fail := False
  all := fun n k => ∀ i, i < n → k i
  call := SCall P calm
  loop := SLoop P calm
  sort := sortP
  br := BrP
theorem SX_eq (P : Program) (calm : List Oper → Bool) : SX P calm = semRec P calm := by
  unfold SX semRec
  congr
  · funext f a Q; exact propext ⟨fun h => ⟨h.1, h.2⟩, fun h => ⟨h.1, h.2⟩⟩
  · funext d fid n b st K; exact propext ⟨fun h => ⟨h.1, h.2⟩, fun h => ⟨h.1, h.2⟩⟩

section
variable {P : Program} {cx : Ctx} {calm : List Oper → Bool}
/-- A contract, by running the body. -/
theorem okOf (hP : cx.P = P) (hC : ProgOK P calm cx.srt) {f : FuncId} {a : List AV} {Q : AV → Prop} (h : stepCall (SX P calm) cx calm f a Q) : CallOK P f a Q := by
  rw [SX_eq] at h
  exact stepCall_sound hP hC h
/-- A call, by its contract. -/
theorem call_by {f : FuncId} {a : List AV} {R Q : AV → Prop} (h : CallOK P f a R) (hs : ∃ r, R r) (hq : ∀ r, R r → Q r) : SCall P calm f a Q := by
  exact ⟨callOK_mono hq h, let ⟨r, hr⟩ := hs; ⟨r, hq r hr⟩⟩
theorem call_is {f : FuncId} {a : List AV} {v : AV} {Q : AV → Prop} (h : CallOK P f a (fun r => r = v)) (hq : Q v) : SCall P calm f a Q :=
  call_by h ⟨v, rfl⟩ (fun r hr => hr ▸ hq)
/-- A loop by a measure: S says which states stand at its head. -/
theorem loop_by (hP : cx.P = P) (hC : ProgOK P calm cx.srt) {d : Nat} {fid : FuncId} {n : Nat} {b : Code} {K : Ex → St → Prop} {ι : Type} (μ : ι → Nat) (S : ι → St)
    (round : ∀ i, (∀ j, μ j < μ i → SLoop P calm d fid n b (S j) K) → stepLoop (SX P calm) cx calm d fid n b (S i) K) : ∀ i, SLoop P calm d fid n b (S i) K := by
  intro i
  generalize hm : μ i = m
  induction m using Nat.strongRecOn generalizing i with
  | _ m ih =>
    have h := round i fun j hj => ih (μ j) (hm ▸ hj) j rfl
    rw [SX_eq] at h
    have := (sem_pre hP hC).loop d fid n b (S i) K h
    exact ⟨this.1, this.2⟩

/-! ### steps whose test is not plain -/
variable {o : Oper} {env : Env} {h : Heap} {k : AV → Prop} {e : Prop} {t u : TypeId} {x i : Operand} {n : Int} {len sz : Nat} {g : Nat → AV} {s : ByteArray}
theorem st_some {v : AV} (he : evalOp P o env h = some v) (hk : k v) : (match evalOp P o env h with | some v => k v | none => e) := by
  rw [he]; exact hk
theorem in_range {m : Nat} (h : m < len) : inRange (m : Int) len = true := by simp [inRange, h]
theorem st_index (ho : o.op = .index t x i) (hx : (evo P t env x).strip = .str s) (hi : intNat (evo P 0 env i) = some n) (ht : tyD P t = .string) (hr : inRange n s.size = true) (hk : k (wordB s n.toNat).strip) :
    (match evalOp P o env h with | some v => k v | none => e) := by
  refine st_some (v := (wordB s n.toNat).strip) ?_ hk
  unfold evalOp
  simp only [ho, hi, hx, indexAV, ht, hr, cond_true, Option.map_some]
theorem st_addr (ho : o.op = .indexAddr t x i) (hx : evo P t env x = .vec sz len g) (hi : intNat (evo P 0 env i) = some n) (ht : tyD P t = .slice u) (hs : Nat.beq sz (tySz P u) = true) (hr : inRange n len = true) (hk : k (.cptr (g n.toNat))) :
    (match evalOp P o env h with | some v => k v | none => e) := by
  refine st_some (v := .cptr (g n.toNat)) ?_ hk
  unfold evalOp
  simp only [ho, hi, hx, indexAddrAV, ht, hs, hr, cond_true]

theorem st_append {b y : AV} {gg : Nat → AV} {m : Nat} (hb : b = .own (.vec sz len g)) (ht : tyD P t = .slice u) {tt : TypeId} (hs : isSliceT P tt = true) (hy : srcOf P u h y = some (m, gg)) (hc : (Nat.beq sz (tySz P u) && Nat.blt 0 sz && zeroFits P u && Nat.blt 0 (tyBy P u)) = true)
    (hr : roomOK (len + m) (tyBy P u) = true) (hk : k (.own (.vec sz (len + m) (vapp (zeroElem P u) g len gg m)))) : (match appendAV P t tt h b y with | some v => k v | none => e) := by
  have : appendAV P t tt h b y = some (.own (.vec sz (len + m) (vapp (zeroElem P u) g len gg m))) := by
    unfold appendAV
    simp only [hs, ht, hb, hy, hc, hr, Bool.not_true, cond_false, cond_true]
  rw [this]; exact hk
theorem st_slice {lo hi : Option Operand} {l m : Nat} (ho : o.op = .slice t x lo hi none) (hx : (evo P t env x).strip = .vec sz len g) (ht : tyD P t = .slice u) (hl : boundOf 0 (lo.map (evo P 3 env)) = some l) (hm : boundOf len (hi.map (evo P 3 env)) = some m) (h1 : l ≤ m) (h2 : m ≤ len)
    (hs : (Nat.beq sz (tySz P u) && Nat.blt 0 sz) = true) (hk : k (.vec sz (m - l) (vsub (zeroElem P u) g l (m - l)))) : (match evalOp P o env h with | some v => k v | none => e) := by
  refine st_some (v := .vec sz (m - l) (vsub (zeroElem P u) g l (m - l))) ?_ hk
  have e1 : Nat.ble l m = true := Nat.ble_eq_true_of_le h1
  have e2 : Nat.ble m len = true := Nat.ble_eq_true_of_le h2
  unfold evalOp
  simp only [ho, sliceAV, hx, ht, hl, hm, hs, e1, e2, Bool.and_self, cond_true, Option.map_none]
theorem st_rem {y : Operand} {yt : TypeId} {kk : IntKind} {a b r : Int} (ho : o.op = .binOp .rem t x y yt) (hx : (evo P t env x).strip = .int kk a) (hy : (evo P yt env y).strip = .int kk b) (hb : b ≠ 0) (hr : a.tmod b = r) (hk : k (.int kk r)) :
    (match evalOp P o env h with | some v => k v | none => e) := by
  refine st_some (v := .int kk r) ?_ hk
  unfold evalOp
  simp only [ho, hx, hy, binAV, intOp, decide_true, cond_true, decide_eq_false hb, cond_false, hr]
theorem vsub_at {z : AV} {g : Nat → AV} {l n : Nat} : ∀ i, i < n → vsub z g l n i = g (l + i) := fun i hi => by
  have : Nat.blt i n = true := by rw [Nat.blt_eq]; exact hi
  simp only [vsub, this, cond_true]
theorem room8 {m : Nat} (h : m ≤ 1000000) : roomOK m 8 = true := by
  simp [roomOK]; omega
theorem vapp_at {z a : AV} {g : Nat → AV} {n : Nat} {L : List Int} {w : Int} {v : Nat → AV} (h : ∀ i, i < L.length → g i = .int .i64 (L.getD i 0)) (hn : n = L.length) (hv : v 0 = .int .i64 w) : ∀ i, i < (L ++ [w]).length → vapp z g n v 1 i = .int .i64 ((L ++ [w]).getD i 0) := by
  intro i hi
  simp only [List.length_append, List.length_cons, List.length_nil] at hi
  unfold vapp
  subst hn
  by_cases h1 : i < L.length
  · have e : Nat.blt i L.length = true := by simp [Nat.blt]; omega
    rw [e, cond_true, h i h1]
    simp [List.getD, List.getElem?_append_left h1]
  · have e : Nat.blt i L.length = false := by rw [Bool.eq_false_iff, ne_eq, Nat.blt_eq]; omega
    have e2 : Nat.blt i (L.length + 1) = true := by rw [Nat.blt_eq]; omega
    rw [e, cond_false, e2, cond_true, show i - L.length = 0 by omega, hv]
    have : i = L.length := by omega
    subst this
    simp [List.getD]
theorem loop_to {d : Nat} {fid : FuncId} {n : Nat} {b : Code} {st : St} {K : Ex → St → Prop} {ι : Type} {μ : ι → Nat} {S : ι → St} {m : Nat} (ih : ∀ j, μ j < m → SLoop P calm d fid n b (S j) K) (j : ι) (hm : μ j < m) (hs : st = S j) : SLoop P calm d fid n b st K :=
  hs ▸ ih j hm
theorem wrap64 {x : Int} (h : -9223372036854775808 ≤ x ∧ x ≤ 9223372036854775807) : IntKind.i64.wrap x = x := by
  have : (Lit.int .i64 x).wf = true := by simp [Lit.wf, IntKind.min, IntKind.max, IntKind.signed, IntKind.bits]; omega
  simp [IntKind.wrap, IntKind.signed, IntKind.bits]
  omega

/-- Values that stand for the same. -/
def Same (a a' : AV) : Prop := ∀ (w : World) (F : Nat → Prop) (U : Nat → Nat) (bl : Blocks) (v : Value), Rep w F U bl a v → Rep w F U bl a' v
theorem Same.refl (a : AV) : Same a a := fun _ _ _ _ _ h => h
theorem Same.vec {sz n : Nat} {g g' : Nat → AV} (h : ∀ i, i < n → g i = g' i) : Same (.vec sz n g) (.vec sz n g') := by
  intro w F U bl v hr
  cases hr with
  | vec hcap vals hz hs ho h1 =>
    exact .vec hcap vals hz (fun i hi => by rw [← h i hi]; exact hs i hi) ho (fun i j c hi hc => h1 i j c hi (by rw [h i hi]; exact hc))
inductive SameL : List AV → List AV → Prop
  | nil : SameL [] []
  | cons {a a' l l'} (h : Same a a') (hl : SameL l l') : SameL (a :: l) (a' :: l')
theorem SameL.rep {l l' : List AV} (h : SameL l l') {w : World} {F : Nat → Prop} {U : Nat → Nat} {bl : Blocks} : ∀ {vs : List Value}, RepL w F U bl l vs → RepL w F U bl l' vs := by
  induction h with
  | nil => exact fun h => h
  | @cons a a' l l' h hl ih =>
    intro vs hr
    cases vs with
    | nil => exact absurd hr.1 (by simp)
    | cons v vs =>
      have h1 := hr.2 0 a v rfl rfl
      have h2 : RepL w F U bl l vs := ⟨by have := hr.1; simpa using this, fun i x y hx hy => hr.2 (i + 1) x y (by simpa using hx) (by simpa using hy)⟩
      exact .cons (h _ _ _ _ _ h1) (ih h2)
theorem ok_same {f : FuncId} {a a' : List AV} {Q : AV → Prop} (hs : SameL a a') (h : CallOK P f a' Q) : CallOK P f a Q :=
  ⟨h.1, fun w F U vs hF ha => h.2 w F U vs hF (hs.rep ha)⟩
end
end Ax
