import Derived.Test.YtiadhiggmjiibaaMD
import Derived.Test.YtiadhiggmjiibaaME
/- Maps written beside the state. -/
set_option linter.unusedVariables false
set_option linter.unusedSimpArgs false
namespace Ax
open Go Go.RowKit

section
variable {P : Program} {A : Amb} {nt : Nat} {pend : List (Nat × AObj)} {env : Env} {heap : Heap} {bor : Option (Nat × AV)} {tm : Array Value} {w : World} {U : Nat → Nat} {bl : Blocks} {ob : Loc → Option Nat} {a : Act}

/-- An operand that gives what it owns. -/
theorem give_operand (h : Rel P A nt pend env heap bor a.tmps w U bl ob) (t : TypeId) (x : Operand) : ∃ (ob1 : Loc → Option Nat) (ov : List Nat → Option Nat), Rel P A nt pend (bareO (tmpOp x) env) heap bor a.tmps w U bl ob1 ∧ OwnAt w (forb A bl heap) U A.B ov (evo P t env x) (a.eval x) ∧
    (∀ p b, ov p = some b → ¬ A.G b ∧ b < w.heap.size ∧ ∀ id : Nat, bl[id]? ≠ some (some b)) ∧ (∀ p q b, ov p = some b → ov q = some b → p = q) ∧ (∀ p b l, ov p = some b → ob1 l ≠ some b) := by
  have none : (∀ own, OwnAt w (forb A bl heap) U A.B own (evo P t env x) (a.eval x)) → bareO (tmpOp x) env = env → ∃ (ob1 : Loc → Option Nat) (ov : List Nat → Option Nat), Rel P A nt pend (bareO (tmpOp x) env) heap bor a.tmps w U bl ob1 ∧ OwnAt w (forb A bl heap) U A.B ov (evo P t env x) (a.eval x) ∧
    (∀ p b, ov p = some b → ¬ A.G b ∧ b < w.heap.size ∧ ∀ id : Nat, bl[id]? ≠ some (some b)) ∧ (∀ p q b, ov p = some b → ov q = some b → p = q) ∧ (∀ p b l, ov p = some b → ob1 l ≠ some b) :=
    fun ho he => ⟨ob, fun _ => Option.none, he.symm ▸ h, ho _, fun p b hh => by simp at hh, fun p q b hh => by simp at hh, fun p b l hh => by simp at hh⟩
  cases x with
  | tmp s =>
    refine ⟨_, fun p => ob (.env s p), h.bareAt s, (h.env s).2, fun p b hh => h.obok _ b hh, fun p q b h1 h2 => by have := h.obinj _ _ b h1 h2; injection this, fun p b l h1 h2 => ?_⟩
    cases l with
    | env t q =>
      simp only at h2
      by_cases e : t = s
      · simp [e] at h2
      · simp only [e, if_false] at h2
        have := h.obinj _ _ b h1 h2
        injection this with e1; exact e e1.symm
    | cell j i q => exact absurd (h.obinj _ _ b h1 h2) (by simp)
    | mapv j i q => exact absurd (h.obinj _ _ b h1 h2) (by simp)
  | const v => exact none (fun own => evo_const_own t (by simp) own) rfl
  | func f => exact none (fun own => evo_const_own t (by simp) own) rfl
  | global g => exact none (fun own => evo_const_own t (by simp) own) rfl

def mapOb (ob : Loc → Option Nat) (id i0 : Nat) (σ : Nat → Nat) (ov : List Nat → Option Nat) : Loc → Option Nat
  | .mapv j i p => if j = id then (if i = i0 then ov p else ob (.mapv id (σ i) p)) else ob (.mapv j i p)
  | .env t p => ob (.env t p)
  | .cell j i p => ob (.cell j i p)
theorem mapOb_some {ob : Loc → Option Nat} {id i0 : Nat} {ov : List Nat → Option Nat} {l : Loc} {c : Nat} (h : mapOb ob id i0 (fun j => j) ov l = some c) : (∃ p, l = .mapv id i0 p ∧ ov p = some c) ∨ (ob l = some c ∧ ∀ p, l ≠ .mapv id i0 p) := by
  cases l with
  | env t p => exact .inr ⟨h, fun p h => by cases h⟩
  | cell j i p => exact .inr ⟨h, fun p h => by cases h⟩
  | mapv j i p =>
    simp only [mapOb] at h
    by_cases e : j = id
    · subst e
      rw [if_pos rfl] at h
      by_cases e2 : i = i0
      · subst e2; rw [if_pos rfl] at h; exact .inl ⟨p, rfl, h⟩
      · rw [if_neg e2] at h; exact .inr ⟨h, fun q hq => by injection hq with _ h2; exact e2 h2⟩
    · rw [if_neg e] at h; exact .inr ⟨h, fun q hq => by injection hq with h2; exact e h2⟩

/-- A map's object is written anew: entry i0 brings what 'ov' owns, the others what they had. -/
theorem map_gen (h : Rel P A nt pend env heap bor tm w U bl ob) {id b : Nat} (hid : bl[id]? = some (some b)) {kt : TypeId} {reg : Bool} {ents : List (AV × AV)} (hg : heap.get id = .map kt reg ents) {es : Array MapEntry} {clock : Nat} (hm : w.heap[b]? = some (.map es clock))
    {kt' : TypeId} {reg' : Bool} {ents' : List (AV × AV)} {es' : Array MapEntry} {clock' : Nat} {ov : List Nat → Option Nat} {i0 : Nat} {σ : Nat → Nat} (hσ : ∀ i j, i ≠ i0 → j ≠ i0 → σ i = σ j → i = j)
    (h1 : ∀ p b, ov p = some b → ¬ A.G b ∧ b < w.heap.size ∧ ∀ id : Nat, bl[id]? ≠ some (some b)) (h2 : ∀ p q b, ov p = some b → ov q = some b → p = q) (h3 : ∀ p b l, ov p = some b → ob l ≠ some b)
    (hobj : ∀ w' F, w'.heap[b]? = some (.map es' clock') → (∀ bl2 v x, Rep w (forb A bl heap) U bl2 v x → Rep w' F U bl2 v x) → (∀ own v x, (∀ p, own p ≠ some b) → OwnAt w (forb A bl heap) U A.B own v x → OwnAt w' F U A.B own v x) →
      ObjRep P w' F U bl A.B (fun i p => ob (.cell id i p)) (fun i p => if i = i0 then ov p else ob (.mapv id (σ i) p)) (borAt bor id) (.map kt' reg' ents') b) :
    Rel P A nt pend env (heap.set id (.map kt' reg' ents')) bor tm { w with heap := w.heap.setIfInBounds b (.map es' clock') } U bl (mapOb ob id i0 σ ov) := by
  have hlt := lt_of_some hm
  have hw : Wrote w b (.map es' clock') { w with heap := w.heap.setIfInBounds b (.map es' clock') } := by
    refine ⟨rfl, rfl, rfl, by simp, by simp [hlt], fun c hc => ?_, rfl⟩
    show (w.heap.setIfInBounds b _)[c]? = _
    rw [Array.getElem?_setIfInBounds, if_neg (fun e => hc e.symm)]
  have key : ∀ l c, mapOb ob id i0 σ ov l = some c →
      (∃ p, l = .mapv id i0 p ∧ ov p = some c) ∨ (∃ i p, l = .mapv id i p ∧ i ≠ i0 ∧ ob (.mapv id (σ i) p) = some c) ∨ ((∀ i p, l ≠ .mapv id i p) ∧ ob l = some c) := by
    intro l c hl
    cases l with
    | env t p => exact .inr (.inr ⟨fun i p h => (by cases h), hl⟩)
    | cell j i p => exact .inr (.inr ⟨fun i p h => (by cases h), hl⟩)
    | mapv j i p =>
      simp only [mapOb] at hl
      by_cases e : j = id
      · subst e
        rw [if_pos rfl] at hl
        by_cases e2 : i = i0
        · subst e2; rw [if_pos rfl] at hl; exact .inl ⟨p, rfl, hl⟩
        · rw [if_neg e2] at hl; exact .inr (.inl ⟨i, p, rfl, e2, hl⟩)
      · rw [if_neg e] at hl; exact .inr (.inr ⟨fun i p h => (by injection h with h1; exact e h1), hl⟩)
  refine h.write hid (by rw [hg]; simp) (by simp) hw (bor' := bor) (fun F hF hmono howns => ?_) (fun l hn1 hn2 => ?_) (fun l m c hl hm' => ?_) (fun l c hl => ?_) (fun j hj => rfl)
  · have hFr : ∀ bl2 v x, Rep w (forb A bl heap) U bl2 v x → Rep w F U bl2 v x := fun bl2 v x hr => hr.mono ⟨fun c _ hf => .inl ((hF c).1 hf), fun c _ hc => ⟨Nat.le_refl _, fun o _ => rfl⟩⟩ (BlLe.refl _)
    have hFo : ∀ own v x, OwnAt w (forb A bl heap) U A.B own v x → OwnAt w F U A.B own v x := fun own v x ho => ownAt_keeps ho ⟨fun c _ hf => .inl ((hF c).1 hf), fun c _ hc => ⟨Nat.le_refl _, fun o _ => rfl⟩⟩ (fun p c _ _ hn => ⟨rfl, rfl, fun hf => hn ((hF c).1 hf)⟩)
    have := hobj _ F hw.here (fun bl2 v x hr => hmono _ _ _ (hFr _ _ _ hr)) (fun own v x hn ho => howns _ _ _ hn (hFo _ _ _ ho))
    have e1 : (fun i p => if id = id then (if i = i0 then ov p else ob (.mapv id (σ i) p)) else ob (.mapv id i p)) = fun i p => if i = i0 then ov p else ob (.mapv id (σ i) p) := by funext i p; rw [if_pos rfl]
    show ObjRep P _ F U bl A.B (fun i p => ob (.cell id i p)) (fun i p => if id = id then (if i = i0 then ov p else ob (.mapv id (σ i) p)) else ob (.mapv id i p)) (borAt bor id) _ b
    rw [e1]; exact this
  · cases l with
    | env t p => rfl
    | cell j i p => rfl
    | mapv j i p =>
      simp only [mapOb]
      rw [if_neg]
      rintro rfl
      exact hn2 i p rfl
  · rcases key l c hl with ⟨p, rfl, e1⟩ | ⟨i, p, rfl, e0, e1⟩ | ⟨e0, e1⟩ <;> rcases key m c hm' with ⟨q, rfl, f1⟩ | ⟨j, q, rfl, f0, f1⟩ | ⟨f0, f1⟩
    · rw [h2 p q c e1 f1]
    · exact absurd f1 (h3 _ _ _ e1)
    · exact absurd f1 (h3 _ _ _ e1)
    · exact absurd e1 (h3 _ _ _ f1)
    · have := h.obinj _ _ c e1 f1
      injection this with _ e2 e3
      rw [hσ i j e0 f0 e2, e3]
    · have := h.obinj _ _ c e1 f1
      exact absurd this.symm (f0 _ _)
    · exact absurd e1 (h3 _ _ _ f1)
    · have := h.obinj _ _ c e1 f1
      exact absurd this (e0 _ _)
    · exact h.obinj _ _ c e1 f1
  · rcases key l c hl with ⟨p, rfl, e1⟩ | ⟨i, p, rfl, e0, e1⟩ | ⟨e0, e1⟩
    · exact h1 _ _ e1
    · exact h.obok _ _ e1
    · exact h.obok _ _ e1

theorem map_obj (h : Rel P A nt pend env heap bor tm w U bl ob) {id b : Nat} (hid : bl[id]? = some (some b)) {kt : TypeId} {reg : Bool} {ents : List (AV × AV)} (hg : heap.get id = .map kt reg ents) :
    ∃ es clock, w.heap[b]? = some (.map es clock) ∧ EntRep w (forb A bl heap) U ents es ∧ Fresh clock es ∧ (∀ p ∈ ents, keyOk P kt p.1 = true) ∧
      (∀ (i j : Nat) p q, ents[i]? = some p → ents[j]? = some q → eqKey P kt p.1 q.1 = true → i = j) ∧ (reg = true → RegMap clock es) ∧
      (∀ (i : Nat) p e, ents[i]? = some p → es[i]? = some e → OwnAt w (forb A bl heap) U A.B (fun p => ob (.mapv id i p)) p.2 e.val) := by
  have hobj := h.objs id b hid
  rw [hg] at hobj
  exact hobj

/-- An entry's value is put anew. -/
theorem map_put (h : Rel P A nt pend env heap bor tm w U bl ob) {id b : Nat} (hid : bl[id]? = some (some b)) {kt : TypeId} {reg : Bool} {ents : List (AV × AV)} (hg : heap.get id = .map kt reg ents) {es : Array MapEntry} {clock : Nat} (hm : w.heap[b]? = some (.map es clock))
    {i : Nat} (hi : i < es.size) {x : AV} {x' : Value} (hx : Rep w (forb A bl heap) U [] x x') {ov : List Nat → Option Nat} (ho : OwnAt w (forb A bl heap) U A.B ov x x')
    (h1 : ∀ p b, ov p = some b → ¬ A.G b ∧ b < w.heap.size ∧ ∀ id : Nat, bl[id]? ≠ some (some b)) (h2 : ∀ p q b, ov p = some b → ov q = some b → p = q) (h3 : ∀ p b l, ov p = some b → ob l ≠ some b) :
    Rel P A nt pend env (heap.set id (.map kt reg (msetAt ents i x))) bor tm { w with heap := w.heap.setIfInBounds b (.map (es.modify i fun e => { e with val := x' }) clock) } U bl (mapOb ob id i (fun j => j) ov) := by
  obtain ⟨es0, clock0, hm0, o1, o2, o3, o4, o5, o6⟩ := map_obj h hid hg
  rw [hm] at hm0; cases hm0
  have hes : ∀ j : Nat, (es.modify i fun e => { e with val := x' })[j]? = if i = j then (es[j]?).map fun e => { e with val := x' } else es[j]? := fun j => Array.getElem?_modify
  refine map_gen h hid hg hm (i0 := i) (σ := fun j => j) (fun _ _ _ _ e => e) h1 h2 h3 fun w' F hw' hr hov => ?_
  refine ⟨_, clock, hw', ⟨by rw [msetAt_length, o1.1]; simp, fun j p e hp he => ?_⟩, ⟨fun j e he => ?_, fun j k e f he hf hef => ?_⟩, fun p hp => ?_, fun j k p q hp hq hpq => ?_, fun hreg => ⟨by rw [(o5 hreg).1]; simp, fun j e he => ?_⟩, fun j p e hp he => ?_⟩
  · rw [msetAt_get] at hp
    rw [hes] at he
    by_cases e1 : i = j
    · subst e1
      rw [if_pos rfl] at hp he
      obtain ⟨p0, hp0, rfl⟩ := Option.map_eq_some_iff.1 hp
      obtain ⟨e0, he0, rfl⟩ := Option.map_eq_some_iff.1 he
      exact ⟨hr _ _ _ (o1.2 i p0 e0 hp0 he0).1, hr _ _ _ hx⟩
    · rw [if_neg e1] at hp he
      exact ⟨hr _ _ _ (o1.2 j p e hp he).1, hr _ _ _ (o1.2 j p e hp he).2⟩
  · rw [hes] at he
    split at he
    · obtain ⟨e0, he0, rfl⟩ := Option.map_eq_some_iff.1 he; exact o2.1 j e0 he0
    · exact o2.1 j e he
  · have born : ∀ (j : Nat) (e : MapEntry), (es.modify i fun e => { e with val := x' })[j]? = some e → ∃ e0, es[j]? = some e0 ∧ e0.born = e.born := by
      intro j e he
      rw [hes] at he
      split at he
      · obtain ⟨e0, he0, rfl⟩ := Option.map_eq_some_iff.1 he; exact ⟨e0, he0, rfl⟩
      · exact ⟨e, he, rfl⟩
    obtain ⟨e0, he0, hb0⟩ := born j e he
    obtain ⟨f0, hf0, hb1⟩ := born k f hf
    exact o2.2 j k e0 f0 he0 hf0 (by rw [hb0, hb1]; exact hef)
  · obtain ⟨j, hj⟩ := List.getElem?_of_mem hp
    rw [msetAt_get] at hj
    split at hj
    · obtain ⟨p0, hp0, rfl⟩ := Option.map_eq_some_iff.1 hj; exact o3 p0 (List.mem_of_getElem? hp0)
    · exact o3 p (List.mem_of_getElem? hj)
  · have keys : ∀ (j : Nat) p, (msetAt ents i x)[j]? = some p → ∃ p0, ents[j]? = some p0 ∧ p0.1 = p.1 := by
      intro j p hp
      rw [msetAt_get] at hp
      split at hp
      · obtain ⟨p0, hp0, rfl⟩ := Option.map_eq_some_iff.1 hp; exact ⟨p0, hp0, rfl⟩
      · exact ⟨p, hp, rfl⟩
    obtain ⟨p0, hp0, e1⟩ := keys j p hp
    obtain ⟨q0, hq0, e2⟩ := keys k q hq
    exact o4 j k p0 q0 hp0 hq0 (by rw [e1, e2]; exact hpq)
  · rw [hes] at he
    split at he
    · obtain ⟨e0, he0, rfl⟩ := Option.map_eq_some_iff.1 he; exact (o5 hreg).2 j e0 he0
    · exact (o5 hreg).2 j e he
  · rw [msetAt_get] at hp
    rw [hes] at he
    by_cases e1 : j = i
    · subst e1
      rw [if_pos rfl] at hp he
      obtain ⟨p0, hp0, rfl⟩ := Option.map_eq_some_iff.1 hp
      obtain ⟨e0, he0, rfl⟩ := Option.map_eq_some_iff.1 he
      simp only [if_true]
      exact hov _ _ _ (fun p hh => (h1 _ _ hh).2.2 id hid) ho
    · rw [if_neg (fun e => e1 e.symm)] at hp he
      simp only [if_neg e1]
      exact hov _ _ _ (fun p hh => (h.obok _ _ hh).2.2 id hid) (o6 j p e hp he)

/-- An entry is put behind. -/
theorem map_push (h : Rel P A nt pend env heap bor tm w U bl ob) {id b : Nat} (hid : bl[id]? = some (some b)) {kt : TypeId} {reg : Bool} {ents : List (AV × AV)} (hg : heap.get id = .map kt reg ents) {es : Array MapEntry} {clock : Nat} (hm : w.heap[b]? = some (.map es clock))
    {q : AV} {q' : Value} (hq : Rep w (forb A bl heap) U [] q q') (hqk : keyOk P kt q = true) (hnew : ∀ p ∈ ents, eqKey P kt q p.1 = false) {x : AV} {x' : Value} (hx : Rep w (forb A bl heap) U [] x x') {ov : List Nat → Option Nat} (ho : OwnAt w (forb A bl heap) U A.B ov x x')
    (h1 : ∀ p b, ov p = some b → ¬ A.G b ∧ b < w.heap.size ∧ ∀ id : Nat, bl[id]? ≠ some (some b)) (h2 : ∀ p q b, ov p = some b → ov q = some b → p = q) (h3 : ∀ p b l, ov p = some b → ob l ≠ some b) :
    Rel P A nt pend env (heap.set id (.map kt reg (ents ++ [(q, x)]))) bor tm { w with heap := w.heap.setIfInBounds b (.map (es.push { key := q', val := x', born := clock }) (clock + 1)) } U bl (mapOb ob id es.size (fun j => j) ov) := by
  obtain ⟨es0, clock0, hm0, o1, o2, o3, o4, o5, o6⟩ := map_obj h hid hg
  rw [hm] at hm0; cases hm0
  have hes : ∀ (j : Nat) e, (es.push { key := q', val := x', born := clock })[j]? = some e → (es[j]? = some e ∧ j < es.size) ∨ (j = es.size ∧ e = { key := q', val := x', born := clock }) := by
    intro j e he
    rw [Array.getElem?_push] at he
    split at he
    · exact .inr ⟨‹_›, (Option.some.inj he).symm⟩
    · exact .inl ⟨he, (Array.getElem?_eq_some_iff.1 he).1⟩
  have hen : ∀ (j : Nat) p, (ents ++ [(q, x)])[j]? = some p → (ents[j]? = some p ∧ j < es.size) ∨ (j = es.size ∧ p = (q, x)) := by
    intro j p hp
    rw [List.getElem?_append] at hp
    split at hp
    · exact .inl ⟨hp, by rw [← o1.1]; assumption⟩
    · rename_i hlt
      have := (List.getElem?_eq_some_iff.1 hp).1
      simp at this
      have e1 : j - ents.length = 0 := this
      rw [e1] at hp; simp at hp
      exact .inr ⟨by rw [← o1.1]; omega, hp.symm⟩
  refine map_gen h hid hg hm (i0 := es.size) (σ := fun j => j) (fun _ _ _ _ e => e) h1 h2 h3 fun w' F hw' hr hov => ?_
  have symm : ∀ p ∈ ents, eqKey P kt p.1 q = false := by
    intro p hp
    cases hc : eqKey P kt p.1 q with
    | false => rfl
    | true =>
      have := (eqKey_eq (w := w) (F := forb A bl heap) (U := U) (bl := []) (o3 p hp) hqk hc).1
      have h' := hnew p hp
      rw [this] at h' hc
      rw [h'] at hc; cases hc
  refine ⟨_, clock + 1, hw', ⟨by simp [o1.1], fun j p e hp he => ?_⟩, ⟨fun j e he => ?_, fun j k e f he hf hef => ?_⟩, fun p hp => ?_, fun j k p r hp hrr hpq => ?_, fun hreg => ⟨by rw [(o5 hreg).1]; simp, fun j e he => ?_⟩, fun j p e hp he => ?_⟩
  · rcases hen j p hp with ⟨e1, e2⟩ | ⟨e1, rfl⟩ <;> rcases hes j e he with ⟨f1, f2⟩ | ⟨f1, rfl⟩
    · exact ⟨hr _ _ _ (o1.2 j p e e1 f1).1, hr _ _ _ (o1.2 j p e e1 f1).2⟩
    · omega
    · omega
    · exact ⟨hr _ _ _ hq, hr _ _ _ hx⟩
  · rcases hes j e he with ⟨f1, f2⟩ | ⟨f1, rfl⟩
    · have := o2.1 j e f1; omega
    · exact Nat.lt_succ_self _
  · rcases hes j e he with ⟨f1, f2⟩ | ⟨f1, rfl⟩ <;> rcases hes k f hf with ⟨g1, g2⟩ | ⟨g1, rfl⟩
    · exact o2.2 j k e f f1 g1 hef
    · have := o2.1 j e f1; simp only at hef; omega
    · have := o2.1 k f g1; simp only at hef; omega
    · omega
  · rcases List.mem_append.1 hp with hp | hp
    · exact o3 p hp
    · simp at hp; subst hp; exact hqk
  · rcases hen j p hp with ⟨e1, e2⟩ | ⟨e1, rfl⟩ <;> rcases hen k r hrr with ⟨f1, f2⟩ | ⟨f1, rfl⟩
    · exact o4 j k p r e1 f1 hpq
    · rw [symm p (List.mem_of_getElem? e1)] at hpq; cases hpq
    · rw [hnew r (List.mem_of_getElem? f1)] at hpq; cases hpq
    · omega
  · rcases hes j e he with ⟨f1, f2⟩ | ⟨f1, rfl⟩
    · exact (o5 hreg).2 j e f1
    · simp only; rw [(o5 hreg).1]; exact f1.symm
  · rcases hen j p hp with ⟨e1, e2⟩ | ⟨e1, rfl⟩ <;> rcases hes j e he with ⟨f1, f2⟩ | ⟨f1, rfl⟩
    · simp only [if_neg (show ¬ j = es.size by omega)]
      exact hov _ _ _ (fun p hh => (h.obok _ _ hh).2.2 id hid) (o6 j p e e1 f1)
    · omega
    · omega
    · simp only [if_pos e1]
      exact hov _ _ _ (fun p hh => (h1 _ _ hh).2.2 id hid) ho

theorem setObj_map {b : Nat} {es : Array MapEntry} {clock : Nat} (o : Obj) (h : w.heap[b]? = some (.map es clock)) : (setObj b o).run P w = .ok () { w with heap := w.heap.setIfInBounds b o } := by
  simp only [setObj, Sem.run, h]

/-- A store into a map. -/
theorem mapSet_sound (h : Rel P A nt pend env heap bor tm w U bl ob) {t : TypeId} {m q x : AV} {m' q' x' : Value} {heap' : Heap} (hs : mapSetAV P t heap m q x = some heap') (hm : Rep w (forb A bl heap) U bl m m') (hq : Rep w (forb A bl heap) U bl q q')
    (hx : Rep w (forb A bl heap) U bl x x') {ov : List Nat → Option Nat} (ho : OwnAt w (forb A bl heap) U A.B ov x x')
    (h1 : ∀ p b, ov p = some b → ¬ A.G b ∧ b < w.heap.size ∧ ∀ id : Nat, bl[id]? ≠ some (some b)) (h2 : ∀ p q b, ov p = some b → ov q = some b → p = q) (h3 : ∀ p b l, ov p = some b → ob l ≠ some b) :
    ∃ w', (Instr.mapUpdate t m' q' x').run P w = .ok () w' ∧ ∃ ob', Rel P A nt pend env heap' bor tm w' U bl ob' := by
  unfold mapSetAV at hs
  split at hs
  · rename_i kt e id ht
    split at hs
    · rename_i kt2 reg ents hg
      cases hc : (Nat.beq kt kt2 && keyOk P kt q && x.isData && noIter id heap) with
      | false => rw [hc] at hs; simp at hs
      | true =>
        rw [hc] at hs
        simp only [cond_true] at hs
        simp only [Bool.and_eq_true, beq_eq, decide_eq_true_eq] at hc
        obtain ⟨⟨⟨rfl, hqk⟩, hxd⟩, _⟩ := hc
        obtain ⟨⟨b1, hb1⟩, hqd⟩ := keyOk_of hqk
        cases hm with
        | @mapr _ _ b hb =>
          obtain ⟨es, clock, hmb, o1, o2, o3, o4, o5, o6⟩ := map_obj h hb hg
          have hfk := findKey_run (w := w) (F := forb A bl heap) (U := U) (bl := []) (hq.data hqd) hqk (ents := ents) (es := es.toList) (by simpa using o1.1) o3 (fun j p e hp he => (o1.2 j p e hp (by simpa using he)).1)
          have hck := checkKey_run (em := false) depth0 10000 (by decide) kt q q' b1 hb1 hq
          have hxe := hx.data hxd
          cases hp : mpos P kt ents q with
          | none =>
            rw [hp] at hfk hs
            simp only [found] at hfk
            simp only [Option.some.injEq] at hs
            subst hs
            have hrel := map_push h hb hg hmb (hq.data hqd) hqk (mpos_none hp) hxe ho h1 h2 h3
            refine ⟨_, ?_, _, hrel⟩
            simp [Instr.mapUpdate, run_und ht (by simp), getObj_map hmb, hck, hfk, setObj_map _ hmb]
          | some i =>
            rw [hp] at hfk hs
            obtain ⟨hi, p, hpi, hpe⟩ := mpos_lt hp
            rw [found_get o1.1 hi] at hfk
            simp only [Option.some.injEq] at hs
            subst hs
            have hlt : i < es.size := by rw [← o1.1]; exact hi
            have hrel := map_put h hb hg hmb hlt hxe ho h1 h2 h3
            refine ⟨_, ?_, _, hrel⟩
            have hee : es[i]? = some es[i] := by simp [hlt]
            obtain ⟨hqp, huq⟩ := eqKey_eq (w := w) (F := forb A bl heap) (U := U) (bl := []) hqk (o3 p (List.mem_of_getElem? hpi)) hpe
            obtain ⟨hkeq, hsb⟩ := huq (es[i].key) q' (by rw [hqp]; exact (o1.2 i p es[i] hpi hee).1) (hq.data hqd)
            have hkt : (Instr.keyThatStays (((es[i]?).map (·.key)).getD q') q').run P w = .ok q' w := by
              rw [hee]; simp only [Option.map_some, Option.getD_some, Instr.keyThatStays, hsb, if_true, Sem.run_pure]
            have hmod : (es.modify i fun e => { e with key := q', val := x' }) = es.modify i fun e => { e with val := x' } := by
              apply Array.ext_getElem?
              intro j
              rw [Array.getElem?_modify, Array.getElem?_modify]
              by_cases e1 : i = j
              · subst e1; rw [if_pos rfl, if_pos rfl, hee]; simp only [Option.map_some]; rw [← hkeq]
              · rw [if_neg e1, if_neg e1]
            have hkt' : (Instr.keyThatStays (es[i].key) q').run P w = .ok q' w := by rw [hee] at hkt; exact hkt
            simp [Instr.mapUpdate, run_und ht (by simp), getObj_map hmb, hck, hfk, hlt, hkt', setObj_map _ hmb, hmod]
    · simp at hs
  · simp at hs

theorem own_pair {w : World} {F : Nat → Prop} {U : Nat → Nat} {B : Nat} {own : List Nat → Option Nat} {v : AV} {x : Value} {k : IntKind} {n : Int} (h : OwnAt w F U B (fun p => own (0 :: p)) v x) : OwnAt w F U B own (.tup [v, .int k n]) (.tuple #[x, .int k n]) := by
  intro p u hp hou
  cases p with
  | nil => simp [AV.at] at hp; subst hp; simp [AV.owned] at hou
  | cons i p =>
    simp only [AV.at] at hp
    match i with
    | 0 =>
      obtain ⟨y, hy, hok⟩ := h p u (by simpa using hp) hou
      exact ⟨y, by simpa [vat] using hy, hok⟩
    | 1 =>
      have : Bare (.int k n) := bare_of rfl
      rw [this p u (by simpa using hp)] at hou; cases hou
    | i + 2 => simp at hp
theorem rep_pair {w : World} {F : Nat → Prop} {U : Nat → Nat} {bl : Blocks} {v : AV} {x : Value} {k : IntKind} {n : Int} (h : Rep w F U bl v x) : Rep w F U bl (.tup [v, .int k n]) (.tuple #[x, .int k n]) := by
  refine .tup rfl fun i a c ha hc => ?_
  match i with
  | 0 => simp at ha hc; subst ha hc; exact h
  | 1 => simp at ha hc; subst ha hc; exact .int
  | i + 2 => simp at ha

theorem heap_same {w : World} {b : Nat} {o : Obj} (h : w.heap[b]? = some o) : { w with heap := w.heap.setIfInBounds b o } = w := by
  have : w.heap.setIfInBounds b o = w.heap := by
    apply Array.ext_getElem?
    intro j
    rw [Array.getElem?_setIfInBounds]
    by_cases e : b = j
    · subst e; simp [h, lt_of_some h]
      have hl := lt_of_some h
      have := (Array.getElem?_eq_some_iff.1 h).2
      exact this.symm
    · rw [if_neg e]
  rw [this]

/-- An entry's value lent out. -/
theorem mapEntry_sound (h : Rel P A nt pend env heap bor tm w U bl ob) {t : TypeId} {m q v : AV} {m' q' : Value} {heap' : Heap} {d : Option Nat} (hd : ∀ t, d = some t → t < nt) (hs : mapEntryAV P t heap m q = some (v, heap'))
    (hm : Rep w (forb A bl heap) U bl m m') (hq : Rep w (forb A bl heap) U bl q q') :
    ∃ x w', (Instr.mapEntry t m' q').run P w = .ok x w' ∧ ∃ ob', Rel P A nt pend (setO env d v) heap' bor (putO tm d x) w' U bl ob' := by
  unfold mapEntryAV at hs
  split at hs
  · rename_i kt e id ht
    split at hs
    · rename_i kt2 reg ents hg
      cases hc : (Nat.beq kt kt2 && reg && keyOk P kt q && noIter id heap && hasZero P e && (zeroAV P e).isData) with
      | false => rw [hc] at hs; simp at hs
      | true =>
        rw [hc] at hs
        simp only [cond_true] at hs
        simp only [Bool.and_eq_true, beq_eq, decide_eq_true_eq] at hc
        obtain ⟨⟨⟨⟨⟨rfl, rfl⟩, hqk⟩, _⟩, hz⟩, hzd⟩ := hc
        obtain ⟨⟨b1, hb1⟩, hqd⟩ := keyOk_of hqk
        cases hm with
        | @mapr _ _ b hb =>
          obtain ⟨es, clock, hmb, o1, o2, o3, o4, o5, o6⟩ := map_obj h hb hg
          have hfk := findKey_run (w := w) (F := forb A bl heap) (U := U) (bl := []) (hq.data hqd) hqk (ents := ents) (es := es.toList) (by simpa using o1.1) o3 (fun j p e hp he => (o1.2 j p e hp (by simpa using he)).1)
          have hck := checkKey_run (em := false) depth0 10000 (by decide) kt q q' b1 hb1 hq
          cases hp : mpos P kt ents q with
          | none =>
            rw [hp] at hfk hs
            simp only [found] at hfk
            simp only [Option.some.injEq, Prod.mk.injEq] at hs
            obtain ⟨rfl, rfl⟩ := hs
            obtain ⟨z, hzz⟩ := zero_all hz
            obtain ⟨hz1, hz2, hz3⟩ := hzz w (forb A bl heap) U bl A.B
            have hrel := map_push h hb hg hmb (hq.data hqd) hqk (mpos_none hp) (hz2.strip.data (strip_data _ hzd)) (ov := fun _ => none) (.bare (strip_bare _)) (fun p b hh => by simp at hh) (fun p q b hh => by simp at hh) (fun p b l hh => by simp at hh)
            have hcl : (clock : Int) = (ents.length : Int) := by rw [(o5 rfl).1, o1.1]
            refine ⟨.tuple #[z, goInt clock], _, ?_, hrel.put0 hd (v := .tup [zeroAV P e, .int .i64 (ents.length : Int)]) (x := .tuple #[z, goInt clock]) ?_ fun own => ?_⟩
            · simp [Instr.mapEntry, run_und ht (by simp), getObj_map hmb, hck, hfk, hz1, setObj_map _ hmb]
            · rw [goInt, hcl]
              exact rep_pair (hzz _ _ _ _ A.B).2.1
            · rw [goInt, hcl]
              exact own_pair ((hzz _ _ _ [] _).2.2 _)
          | some i =>
            rw [hp] at hfk hs
            obtain ⟨hi, p, hpi, hpe⟩ := mpos_lt hp
            rw [found_get o1.1 hi] at hfk
            simp only [Option.some.injEq, Prod.mk.injEq] at hs
            obtain ⟨rfl, rfl⟩ := hs
            rw [mval_get _ _ _ _ hpi]
            have hlt : i < es.size := by rw [← o1.1]; exact hi
            have hee : es[i]? = some es[i] := by simp [hlt]
            obtain ⟨hr1, hr2⟩ := o1.2 i p es[i] hpi hee
            obtain ⟨hqp, huq⟩ := eqKey_eq (w := w) (F := forb A bl heap) (U := U) (bl := []) hqk (o3 p (List.mem_of_getElem? hpi)) hpe
            obtain ⟨hkeq, hsb⟩ := huq (es[i].key) q' (by rw [hqp]; exact hr1) (hq.data hqd)
            have hkt : (Instr.keyThatStays (es[i].key) q').run P w = .ok q' w := by simp only [Instr.keyThatStays, hsb, if_true, Sem.run_pure]
            have hmod : (es.modify i fun e => { e with key := q' }) = es := by
              apply Array.ext_getElem?
              intro j
              rw [Array.getElem?_modify]
              by_cases e1 : i = j
              · subst e1; rw [if_pos rfl, hee]; simp only [Option.map_some]; rw [← hkeq]
              · rw [if_neg e1]
            have hmod2 : (es.modify i fun e => { e with val := es[i].val }) = es := by
              apply Array.ext_getElem?
              intro j
              rw [Array.getElem?_modify]
              by_cases e1 : i = j
              · subst e1; rw [if_pos rfl, hee]; simp only [Option.map_some]
              · rw [if_neg e1]
            have hborn : (es[i].born : Int) = (i : Int) := by rw [(o5 rfl).2 i es[i] hee]
            have hsame : ∀ w2, w2 = w → (setObj b (.map (es.modify i fun e => { e with key := q' }) clock)).run P w2 = .ok () w := by
              rintro w2 rfl
              rw [setObj_map _ hmb, hmod, heap_same hmb]
            refine ⟨.tuple #[es[i].val, goInt es[i].born], w, ?_, ?_⟩
            · simp only [Instr.mapEntry, Sem.run_bind, run_und ht (by simp), Result.andThen_ok, getObj_map hmb, hck, hfk, hee, Option.map_some, Option.getD_some, hkt, hsame _ rfl, Sem.run_pure]
            · have hrel := map_put h hb hg hmb hlt (x := p.2.strip) (x' := es[i].val) hr2.strip (ov := fun _ => none) (.bare (strip_bare _)) (fun p b hh => by simp at hh) (fun p q b hh => by simp at hh) (fun p b l hh => by simp at hh)
              rw [hmod2, heap_same hmb] at hrel
              rw [goInt, hborn]
              cases d with
              | none => exact ⟨_, hrel⟩
              | some d =>
                have hfb : ∀ c, forb A bl (heap.set id (.map kt true (msetAt ents i p.2.strip))) c → forb A bl heap c := by
                  rintro c (hf | ⟨j, hj, hdd⟩)
                  · exact .inl hf
                  · refine .inr ⟨j, hj, ?_⟩
                    rw [heap_get_set] at hdd
                    by_cases e1 : id = j ∧ j < heap.length
                    · rw [← e1.1, hg]; simp
                    · rw [if_neg e1] at hdd; exact hdd
                have gr : Grow0 w (forb A bl heap) U w (forb A bl (heap.set id (.map kt true (msetAt ents i p.2.strip)))) U := ⟨fun c _ hf => .inl (hfb c hf), fun c _ _ => ⟨Nat.le_refl _, fun _ _ => rfl⟩⟩
                refine ⟨_, hrel.putG (hd d rfl) (fun r => match r with | 0 :: r => ob (.mapv id i r) | _ => none) (rep_pair ((hr2.mono gr (BlLe.refl _)).ofNil)) (own_pair (ownAt_keeps (o6 i p es[i] hpi hee) gr (fun r c _ _ hn => ⟨rfl, rfl, fun hf => hn (hfb c hf)⟩))) (fun r c hr => ?_)⟩
                have hr' : ∃ r', r = 0 :: r' ∧ ob (.mapv id i r') = some c := by
                  match r with
                  | [] => simp at hr
                  | 0 :: r' => exact ⟨r', rfl, hr⟩
                  | (n + 1) :: r' => simp at hr
                obtain ⟨r', rfl, hr'⟩ := hr'
                refine ⟨h.obok _ _ hr', fun r2 hr2 => ?_, fun l hl => ?_⟩
                · match r2 with
                  | [] => simp at hr2
                  | 0 :: r2' =>
                    have := h.obinj _ _ c hr' hr2
                    injection this with _ _ e3
                    rw [e3]
                  | (n + 1) :: r2' => simp at hr2
                · rcases mapOb_some hl with ⟨_, _, hh⟩ | ⟨hh, hne⟩
                  · simp at hh
                  · exact absurd (h.obinj _ _ c hh hr') (hne r')
    · simp at hs
  · simp at hs

/-- A value put where a lent one was. -/
theorem entryStore_sound (h : Rel P A nt pend env heap bor tm w U bl ob) {t : TypeId} {m s x : AV} {m' s' x' : Value} {heap' : Heap} (hs : entryStoreAV heap m s x = some heap') (hm : Rep w (forb A bl heap) U bl m m') (hsr : Rep w (forb A bl heap) U bl s s')
    (hx : Rep w (forb A bl heap) U bl x x') {ov : List Nat → Option Nat} (ho : OwnAt w (forb A bl heap) U A.B ov x x')
    (h1 : ∀ p b, ov p = some b → ¬ A.G b ∧ b < w.heap.size ∧ ∀ id : Nat, bl[id]? ≠ some (some b)) (h2 : ∀ p q b, ov p = some b → ov q = some b → p = q) (h3 : ∀ p b l, ov p = some b → ob l ≠ some b) :
    ∃ w', (Instr.entryStore t m' s' x').run P w = .ok () w' ∧ ∃ ob', Rel P A nt pend env heap' bor tm w' U bl ob' := by
  unfold entryStoreAV at hs
  split at hs
  · rename_i id k n
    obtain rfl := rep_int hsr
    split at hs
    · rename_i kt reg ents hg
      cases hc : (reg && inRange n ents.length && x.isData) with
      | false => rw [hc] at hs; simp at hs
      | true =>
        rw [hc] at hs
        simp only [cond_true, Option.some.injEq] at hs
        subst hs
        simp only [Bool.and_eq_true] at hc
        obtain ⟨⟨rfl, hin⟩, hxd⟩ := hc
        rw [inRange_iff] at hin
        cases hm with
        | @mapr _ _ b hb =>
          obtain ⟨es, clock, hmb, o1, o2, o3, o4, o5, o6⟩ := map_obj h hb hg
          have hlt : n.toNat < es.size := by rw [← o1.1]; omega
          have hfind : es.findIdx? (fun e => (e.born : Int) == n) = some n.toNat := by
            rw [Array.findIdx?_eq_some_iff_getElem]
            refine ⟨hlt, ?_, fun j hj => ?_⟩
            · have := (o5 rfl).2 n.toNat es[n.toNat] (by simp [hlt])
              rw [this]; simp; omega
            · have := (o5 rfl).2 j (es[j]'(by omega)) (by simp)
              rw [this]; simp; omega
          exact ⟨_, by simp [Instr.entryStore, getObj_map hmb, asInt, asIntOf, hfind, setObj_map _ hmb], _, map_put h hb hg hmb hlt (hx.data hxd) ho h1 h2 h3⟩
    · simp at hs
  · simp at hs

/-- A key struck out. -/
theorem mapDel_sound (h : Rel P A nt pend env heap bor tm w U bl ob) {t ty : TypeId} {tys : Array TypeId} (hty : tys[0]? = some t) {m q : AV} {m' q' : Value} {heap' : Heap} (hs : mapDelAV P t heap m q = some heap') (hm : Rep w (forb A bl heap) U bl m m') (hq : Rep w (forb A bl heap) U bl q q') :
    ∃ w', (Builtin.delete_ tys ty #[m', q']).run P w = .ok (.tuple #[]) w' ∧ ∃ ob', Rel P A nt pend env heap' bor tm w' U bl ob' := by
  unfold mapDelAV at hs
  split at hs
  · rename_i kt e ht
    cases hqk : keyOk P kt q with
    | false => rw [hqk] at hs; simp at hs
    | true =>
      rw [hqk] at hs
      simp only [cond_true, Option.some.injEq] at hs
      subst hs
      obtain ⟨⟨b1, hb1⟩, hqd⟩ := keyOk_of hqk
      cases hm
      have hck := checkKey_run (em := true) depth0 10000 (by decide) kt q q' b1 hb1 hq
      exact ⟨w, by simp [Builtin.delete_, hty, run_und ht (by simp), hck], ob, h⟩
  · rename_i kt e id ht
    split at hs
    · rename_i kt2 reg ents hg
      cases hc : (Nat.beq kt kt2 && keyOk P kt q && noIter id heap) with
      | false => rw [hc] at hs; simp at hs
      | true =>
        rw [hc] at hs
        simp only [cond_true] at hs
        simp only [Bool.and_eq_true, beq_eq, decide_eq_true_eq] at hc
        obtain ⟨⟨rfl, hqk⟩, _⟩ := hc
        obtain ⟨⟨b1, hb1⟩, hqd⟩ := keyOk_of hqk
        cases hm with
        | @mapr _ _ b hb =>
          obtain ⟨es, clock, hmb, o1, o2, o3, o4, o5, o6⟩ := map_obj h hb hg
          have hfk := findKey_run (w := w) (F := forb A bl heap) (U := U) (bl := []) (hq.data hqd) hqk (ents := ents) (es := es.toList) (by simpa using o1.1) o3 (fun j p e hp he => (o1.2 j p e hp (by simpa using he)).1)
          have hck := checkKey_run (em := es.isEmpty) depth0 10000 (by decide) kt q q' b1 hb1 hq
          cases hp : mpos P kt ents q with
          | none =>
            rw [hp] at hfk hs
            simp only [found] at hfk
            simp only [Option.some.injEq] at hs
            subst hs
            refine ⟨w, ?_, ob, h⟩
            simp [Builtin.delete_, hty, run_und ht (by simp), getObj_map hmb, hck, hfk, setObj_map _ hmb, heap_same hmb]
          | some i =>
            rw [hp] at hfk hs
            obtain ⟨hi, p, hpi, hpe⟩ := mpos_lt hp
            rw [found_get o1.1 hi] at hfk
            simp only [Option.some.injEq] at hs
            subst hs
            have hlt : i < es.size := by rw [← o1.1]; exact hi
            refine ⟨{ w with heap := w.heap.setIfInBounds b (.map (es.eraseIdxIfInBounds i) clock) }, by simp [Builtin.delete_, hty, run_und ht (by simp), getObj_map hmb, hck, hfk, setObj_map _ hmb], mapOb ob id es.size (fun j => if j < i then j else j + 1) (fun _ => none), ?_⟩
            have he : es.eraseIdxIfInBounds i = es.eraseIdx i hlt := by simp [Array.eraseIdxIfInBounds, hlt]
            have hes : ∀ j : Nat, (es.eraseIdxIfInBounds i)[j]? = if j < i then es[j]? else es[j + 1]? := by
              intro j; rw [he, Array.getElem?_eraseIdx]
            have hen : ∀ j : Nat, (ents.eraseIdx i)[j]? = if j < i then ents[j]? else ents[j + 1]? := by
              intro j; rw [List.getElem?_eraseIdx]
            have hσ : ∀ j, ∃ k, k = (if j < i then j else j + 1) ∧ (es.eraseIdxIfInBounds i)[j]? = es[k]? ∧ (ents.eraseIdx i)[j]? = ents[k]? := by
              intro j
              refine ⟨_, rfl, ?_, ?_⟩
              · rw [hes]; split <;> rfl
              · rw [hen]; split <;> rfl
            have hinj : ∀ j k : Nat, (if j < i then j else j + 1) = (if k < i then k else k + 1) → j = k := by
              intro j k hjk
              split at hjk <;> split at hjk <;> omega
            refine map_gen h hb hg hmb (i0 := es.size) (σ := fun j => if j < i then j else j + 1) (ov := fun _ => none) (fun j k _ _ hjk => hinj j k hjk) (fun p b hh => by simp at hh) (fun p q b hh => by simp at hh) (fun p b l hh => by simp at hh) fun w' F hw' hr hov => ?_
            refine ⟨_, clock, hw', ⟨by rw [he, List.length_eraseIdx_of_lt hi]; simp [o1.1], fun j p e hp he => ?_⟩, ⟨fun j e he => ?_, fun j k e f he hf hef => ?_⟩, fun p hp => ?_, fun j k p r hp hrr hpq => ?_, fun hf => (by cases hf), fun j p e hp he => ?_⟩
            · obtain ⟨k, _, k1, k2⟩ := hσ j
              rw [k1] at he; rw [k2] at hp
              exact ⟨hr _ _ _ (o1.2 k p e hp he).1, hr _ _ _ (o1.2 k p e hp he).2⟩
            · obtain ⟨k, _, k1, k2⟩ := hσ j
              rw [k1] at he; exact o2.1 k e he
            · obtain ⟨j', hj', k1, _⟩ := hσ j
              obtain ⟨k', hk', k2, _⟩ := hσ k
              rw [k1] at he; rw [k2] at hf
              have := o2.2 j' k' e f he hf hef
              rw [hj', hk'] at this
              exact hinj j k this
            · exact o3 p (List.mem_of_mem_eraseIdx hp)
            · obtain ⟨j', hj', _, k1⟩ := hσ j
              obtain ⟨k', hk', _, k2⟩ := hσ k
              rw [k1] at hp; rw [k2] at hrr
              have := o4 j' k' p r hp hrr hpq
              rw [hj', hk'] at this
              exact hinj j k this
            · have hjl : j ≠ es.size := by
                intro e1
                have := (Array.getElem?_eq_some_iff.1 he).1
                rw [‹es.eraseIdxIfInBounds i = _›] at this
                simp at this; omega
              simp only [if_neg hjl]
              obtain ⟨k, hk, k1, k2⟩ := hσ j
              rw [k1] at he; rw [k2] at hp
              rw [← hk]
              exact hov _ _ _ (fun p hh => (h.obok _ _ hh).2.2 id hb) (o6 k p e hp he)
    · simp at hs
  · simp at hs
end
end Ax

/- A value taken out of a variable; operations that turn the heap. -/
set_option linter.unusedVariables false
set_option linter.unusedSimpArgs false
namespace Ax
open Go Go.RowKit

section
variable {P : Program} {A : Amb} {nt : Nat} {pend : List (Nat × AObj)} {env : Env} {heap : Heap} {bor : Option (Nat × AV)} {tm : Array Value} {w : World} {U : Nat → Nat} {bl : Blocks} {ob : Loc → Option Nat} {a : Act}

theorem take_sound {cx : Ctx} (hP : cx.P = P) (h : Rel P A nt pend env heap bor tm w U bl ob) {t : TypeId} {p v : AV} {x : Value} {heap' : Heap} (ht : takeAV cx heap t p = some (v, heap')) (hp : Rep w (forb A bl heap) U bl p x) {d : Option Nat} (hd : ∀ t, d = some t → t < nt) :
    ∃ y, (Instr.loadAt t x).run P w = .ok y w ∧ ∃ ob', Rel P A nt pend (setO env d v) heap' bor (putO tm d y) w U bl ob' := by
  subst hP
  unfold takeAV at ht
  split at ht
  · rename_i id off
    split at ht
    · rename_i cs hg
      split at ht
      · rename_i v0 hpart
        cases hc : (!tyAgg cx.P t && v0.scal) with
        | false => rw [hc] at ht; simp at ht
        | true =>
          rw [hc] at ht
          simp only [cond_true, Option.some.injEq, Prod.mk.injEq] at ht
          obtain ⟨rfl, rfl⟩ := ht
          simp only [Bool.and_eq_true, Bool.not_eq_true'] at hc
          obtain ⟨hna, hsc⟩ := hc
          cases hp with
          | @ptr _ _ _ b hb =>
            have hobj := h.objs id b hb
            rw [hg] at hobj
            obtain ⟨c, e, fr, o1, o2, o3, o4⟩ := hobj
            unfold partAV at hpart
            rw [hna] at hpart
            simp only [cond_false] at hpart
            cases hk : ((cx.P.underlying t).isSome && Nat.beq (tySz cx.P t) 1) with
            | false => simp [hk] at hpart
            | true =>
              simp only [hk, cond_true] at hpart
              simp only [Bool.and_eq_true] at hk
              have hcs := (oneAV_some hpart).1
              have hol := (List.getElem?_eq_some_iff.1 hcs).1
              have holc : off < c.size := by omega
              have hy : c[off]? = some c[off] := by simp [holc]
              obtain ⟨r1, r2⟩ := o4 off v0 c[off] hcs hy
              have hrun : (Instr.loadAt t (.pointer (some ⟨b, off, none⟩))).run cx.P w = .ok c[off] w := by
                have hcell : w.cell? ⟨b, off, none⟩ = some c[off] := by rw [cell_row o1]; exact hy
                simp [Instr.loadAt, Instr.sureAddr, loadVar, run_agg hk.1, hna, hcell]
              refine ⟨c[off], hrun, ?_⟩
              have hw : Wrote w b (.cells c e fr) w := ⟨rfl, rfl, rfl, rfl, o1, fun _ _ => rfl, rfl⟩
              let ob1 : Loc → Option Nat := fun l => match l with | .cell j i p => if j = id ∧ i = off then none else ob (.cell j i p) | l => ob l
              have hob1 : ∀ l c, ob1 l = some c → ob l = some c ∧ ∀ p, l ≠ .cell id off p := by
                intro l c hl
                cases l with
                | env t p => exact ⟨hl, fun p h => by cases h⟩
                | mapv j i p => exact ⟨hl, fun p h => by cases h⟩
                | cell j i p =>
                  simp only [ob1] at hl
                  by_cases e : j = id ∧ i = off
                  · rw [if_pos e] at hl; cases hl
                  · rw [if_neg e] at hl; exact ⟨hl, fun q hq => by injection hq with h1 h2; exact e ⟨h1, h2⟩⟩
              have hrel : Rel cx.P A nt pend env (heap.set id (.cells (setRange cs off [v0.strip]))) bor tm w U bl ob1 := by
                refine h.write hb (by rw [hg]; simp) (by simp) hw (bor' := bor) (fun F hF hmono howns => ?_) (fun l hn1 hn2 => ?_) (fun l m c hl hm => h.obinj l m c (hob1 l c hl).1 (hob1 m c hm).1) (fun l c hl => h.obok l c (hob1 l c hl).1) (fun j hj => rfl)
                · have hFr : ∀ bl2 v x, Rep w (forb A bl heap) U bl2 v x → Rep w F U bl2 v x := fun bl2 v x hr => hr.mono ⟨fun c _ hf => .inl ((hF c).1 hf), fun c _ hc => ⟨Nat.le_refl _, fun o _ => rfl⟩⟩ (BlLe.refl _)
                  have hFo : ∀ own v x, OwnAt w (forb A bl heap) U A.B own v x → OwnAt w F U A.B own v x := fun own v x ho => ownAt_keeps ho ⟨fun c _ hf => .inl ((hF c).1 hf), fun c _ hc => ⟨Nat.le_refl _, fun o _ => rfl⟩⟩ (fun p c _ _ hn => ⟨rfl, rfl, fun hf => hn ((hF c).1 hf)⟩)
                  refine ⟨c, e, fr, o1, by rw [setRange_length]; exact o2, o3, fun i y z hy' hz => ?_⟩
                  rw [setRange_get] at hy'
                  by_cases e1 : i = off
                  · subst e1
                    rw [if_pos ⟨Nat.le_refl _, by simp, hol⟩] at hy'
                    simp at hy'
                    subst hy'
                    have : z = c[i] := by rw [hy] at hz; exact (Option.some.inj hz).symm
                    subst this
                    exact ⟨hFr _ _ _ r1.strip, .bare (strip_bare _)⟩
                  · rw [if_neg (by simp; omega)] at hy'
                    obtain ⟨q1, q2⟩ := o4 i y z hy' hz
                    refine ⟨hFr _ _ _ q1, ?_⟩
                    have e2 : (fun p => ob1 (.cell id i p)) = fun p => ob (.cell id i p) := by
                      funext p; simp only [ob1]; rw [if_neg (fun q => e1 q.2)]
                    show OwnAt w F U A.B (fun p => ob1 (.cell id i p)) y z
                    rw [e2]; exact hFo _ _ _ q2
                · cases l with
                  | env t p => rfl
                  | mapv j i p => rfl
                  | cell j i p =>
                    simp only [ob1]
                    rw [if_neg]
                    rintro ⟨rfl, _⟩
                    exact hn1 i p rfl
              cases d with
              | none => exact ⟨_, hrel⟩
              | some d =>
                have hfb : ∀ c, forb A bl (heap.set id (.cells (setRange cs off [v0.strip]))) c → forb A bl heap c := by
                  rintro c (hf | ⟨j, hj, hdd⟩)
                  · exact .inl hf
                  · refine .inr ⟨j, hj, ?_⟩
                    rw [heap_get_set] at hdd
                    by_cases e1 : id = j ∧ j < heap.length
                    · rw [← e1.1, hg]; simp
                    · rw [if_neg e1] at hdd; exact hdd
                have gr : Grow0 w (forb A bl heap) U w (forb A bl (heap.set id (.cells (setRange cs off [v0.strip])))) U := ⟨fun c _ hf => .inl (hfb c hf), fun c _ _ => ⟨Nat.le_refl _, fun _ _ => rfl⟩⟩
                refine ⟨_, hrel.putG (hd d rfl) (fun r => ob (.cell id off r)) (r1.mono gr (BlLe.refl _)) (ownAt_keeps r2 gr (fun r c _ _ hn => ⟨rfl, rfl, fun hf => hn (hfb c hf)⟩)) (fun r c hr => ⟨h.obok _ _ hr, fun r2 hr2 => ?_, fun l hl => ?_⟩)⟩
                · have := h.obinj _ _ c hr hr2
                  injection this
                · obtain ⟨l1, l2⟩ := hob1 l c hl
                  exact absurd (h.obinj _ _ c l1 hr) (l2 r)
      · simp at ht
    · simp at ht
  · simp at ht

/-- Ghost steps. -/
theorem ghost1_sound (h : Rel P A nt [] env heap bor tm w U bl ob) (hA : A.bl0.length ≤ heap.length) {g : Ghost} {env' : Env} {heap' : Heap} (hg : ghost1 env heap g = some (env', heap')) : (∃ U' bl' ob', Rel P A nt [] env' heap' bor tm w U' bl' ob') ∧ A.bl0.length ≤ heap'.length := by
  cases g with
  | fresh s =>
    unfold ghost1 at hg
    dsimp only at hg
    split at hg
    · rename_i sz g hs
      simp only [Option.some.injEq, Prod.mk.injEq] at hg
      obtain ⟨rfl, rfl⟩ := hg
      exact ⟨⟨_, _, _, fresh_sound h hs⟩, hA⟩
    · simp only [Option.some.injEq, Prod.mk.injEq] at hg
      obtain ⟨rfl, rfl⟩ := hg
      exact ⟨⟨_, _, _, h⟩, hA⟩
    · simp at hg
  | share s =>
    unfold ghost1 at hg
    dsimp only at hg
    split at hg
    · rename_i sz n g hs
      simp only [Option.some.injEq, Prod.mk.injEq] at hg
      obtain ⟨rfl, rfl⟩ := hg
      obtain ⟨U', h'⟩ := share_sound h hs
      exact ⟨⟨_, _, _, h'⟩, hA⟩
    · simp only [Option.some.injEq, Prod.mk.injEq] at hg
      obtain ⟨rfl, rfl⟩ := hg
      exact ⟨⟨_, _, _, h⟩, hA⟩
    · simp at hg
  | adopt s =>
    unfold ghost1 at hg
    dsimp only at hg
    split at hg
    · rename_i sz n g hs
      simp only [Option.some.injEq, Prod.mk.injEq] at hg
      obtain ⟨rfl, rfl⟩ := hg
      obtain ⟨bl', ob', h'⟩ := adopt_sound h hA (.inl hs)
      exact ⟨⟨_, _, _, h'⟩, by simp; omega⟩
    · rename_i sz n m g hs
      simp only [Option.some.injEq, Prod.mk.injEq] at hg
      obtain ⟨rfl, rfl⟩ := hg
      obtain ⟨bl', ob', h'⟩ := adopt_sound h hA (.inr ⟨m, hs⟩)
      exact ⟨⟨_, _, _, h'⟩, by simp; omega⟩
    · simp at hg
  | freeze s =>
    unfold ghost1 at hg
    dsimp only at hg
    split at hg
    · rename_i id sz lo n hs
      split at hg
      · rename_i sz' n' g hgt
        cases hc : (Nat.beq sz sz' && Nat.ble (lo + n) n') with
        | false => rw [hc] at hg; simp at hg
        | true =>
          rw [hc] at hg
          simp only [cond_true, Option.some.injEq, Prod.mk.injEq] at hg
          obtain ⟨rfl, rfl⟩ := hg
          simp only [Bool.and_eq_true, beq_eq, ble_eq, decide_eq_true_eq] at hc
          obtain ⟨rfl, hle⟩ := hc
          obtain ⟨U', h'⟩ := freeze_sound h hs hgt hle
          exact ⟨⟨_, _, _, h'⟩, by rw [heap_set_length]; exact hA⟩
      · simp at hg
    · simp at hg
theorem ghosts_sound : ∀ (l : List Ghost) {env env' : Env} {heap heap' : Heap} {U : Nat → Nat} {bl : Blocks} {ob : Loc → Option Nat}, Rel P A nt [] env heap bor tm w U bl ob → A.bl0.length ≤ heap.length → ghosts l env heap = some (env', heap') →
    (∃ U' bl' ob', Rel P A nt [] env' heap' bor tm w U' bl' ob') ∧ A.bl0.length ≤ heap'.length
  | [], env, env', heap, heap', U, bl, ob, h, hA, hg => by
    simp only [ghosts, Option.some.injEq, Prod.mk.injEq] at hg
    obtain ⟨rfl, rfl⟩ := hg
    exact ⟨⟨_, _, _, h⟩, hA⟩
  | g :: r, env, env', heap, heap', U, bl, ob, h, hA, hg => by
    simp only [ghosts] at hg
    split at hg
    · rename_i e1 h1 hh
      obtain ⟨⟨U', bl', ob', h'⟩, hA'⟩ := ghost1_sound h hA hh
      exact ghosts_sound r h' hA' hg
    · simp at hg
end

/-- What is known of the calls that an operation may make. -/
structure Leans (P : Program) (cx : Ctx) (X : Rec Prop) (I : FuncId → List AV → Heap → (AV → Heap → Prop) → Prop) : Prop where
  fail : ¬ X.fail
  call : ∀ f args Q, X.call f args Q → CallOK P f args Q
  inl : ∀ f args h k, I f args h k → InlOK P f args h k
  name : NameOK P
  sort : X.sort = sortP
  br : X.br = BrP
  all : X.all = fun n k => ∀ i, i < n → k i
  prim : ∀ f, 0 < cx.srt f → SortPrim P f (cx.srt f)

end Ax

/- Operations that turn the heap, beside the state. -/
set_option linter.unusedVariables false
set_option linter.unusedSimpArgs false
namespace Ax
open Go Go.RowKit

section
variable {P : Program} {A : Amb} {nt : Nat} {pend : List (Nat × AObj)} {env : Env} {heap : Heap} {bor : Option (Nat × AV)} {w : World} {U : Nat → Nat} {bl : Blocks} {ob : Loc → Option Nat} {a : Act}
variable {X : Rec Prop} {cx : Ctx}

theorem ext_wp (hX : ¬ X.fail) (hP : cx.P = P) (ha : a.defers = A.ds) (h : Rel P A nt pend env heap bor a.tmps w U bl ob) {o : Oper} (hd : ∀ t, o.dst = some t → t < nt) {k : St → Prop} {Q : Exit → Act → World → Prop} (hk : extK X cx o k env heap [] bor) :
    o.wp P a w (NextIs P A nt pend k) Q := by
  subst hP
  unfold extK at hk
  have skipK : ∀ {env1 : Env} {heap1 : Heap} {w' : World} {ob1 : Loc → Option Nat}, (execOp a.eval o).run cx.P w = .ok .skip w' → Rel cx.P A nt pend env1 heap1 bor a.tmps w' U bl ob1 → (putK env1 o.dst (.tup []) fun e2 => k ⟨e2, heap1, [], bor⟩) → o.wp cx.P a w (NextIs cx.P A nt pend k) Q := by
    intro env1 heap1 w' ob1 hrun hrel hk'
    obtain ⟨ob2, h2⟩ := undef_rep hrel hd
    exact skip_wp (w' := w') hrun (next_put ha ⟨_, _, ob2, h2⟩ hk')
  have setM : ∀ (t : TypeId) (m q x : Operand) (heap' : Heap), (execOp a.eval o = do Instr.mapUpdate t (a.eval m) (a.eval q) (a.eval x); pure .skip) → mapSetAV cx.P t heap (evo cx.P t env m).strip (evo cx.P (keyType cx.P t) env q).strip (evo cx.P (elemTypeM cx.P t) env x) = some heap' →
      (putK (bareO (tmpOp x) env) o.dst (.tup []) fun e2 => k ⟨e2, heap', [], bor⟩) → o.wp cx.P a w (NextIs cx.P A nt pend k) Q := by
    intro t m q x heap' hexec hs hk'
    obtain ⟨ob1, ov, g1, g2, g3, g4, g5⟩ := give_operand h (elemTypeM cx.P t) x
    obtain ⟨w', r1, ob2, r2⟩ := mapSet_sound g1 hs (evo_at (a := a) h t m).strip (evo_at (a := a) h _ q).strip (evo_at (a := a) h _ x) g2 g3 g4 g5
    exact skipK (by rw [hexec]; simp [r1]) r2 hk'
  split at hk
  · -- a heap comes out
    rename_i s v heap' he
    rw [Heap.force_eq] at hk
    unfold extOp at he
    split at he
    · rename_i t m q x hop
      split at he
      · rename_i h1 hs
        simp only [Option.some.injEq, Prod.mk.injEq] at he
        obtain ⟨rfl, rfl, rfl⟩ := he
        exact setM t m q x _ (by unfold execOp; rw [hop]) hs hk
      · simp at he
    · rename_i t m q x hop
      split at he
      · rename_i h1 hs
        simp only [Option.some.injEq, Prod.mk.injEq] at he
        obtain ⟨rfl, rfl, rfl⟩ := he
        exact setM t m q x _ (by unfold execOp; rw [hop]) hs hk
      · simp at he
    · rename_i t m q hop
      split at he
      · rename_i v1 h1 hs
        simp only [Option.some.injEq, Prod.mk.injEq] at he
        obtain ⟨rfl, rfl, rfl⟩ := he
        obtain ⟨x, w', r1, ob', r2⟩ := mapEntry_sound h hd hs (evo_at (a := a) h t m).strip (evo_at (a := a) h _ q).strip
        refine value_wp (x := x) (w' := w') ?_ (next_put ha ⟨_, _, ob', r2⟩ hk)
        unfold execOp; rw [hop]; simp [r1]
      · simp at he
    · rename_i t m s1 x hop
      split at he
      · rename_i h1 hs
        simp only [Option.some.injEq, Prod.mk.injEq] at he
        obtain ⟨rfl, rfl, rfl⟩ := he
        obtain ⟨ob1, ov, g1, g2, g3, g4, g5⟩ := give_operand h (elemTypeM cx.P t) x
        obtain ⟨w', r1, ob2, r2⟩ := entryStore_sound (t := t) g1 hs (evo_at (a := a) h t m).strip (evo_at (a := a) h _ s1) (evo_at (a := a) h _ x) g2 g3 g4 g5
        exact skipK (by unfold execOp; rw [hop]; simp [r1]) r2 hk
      · simp at he
    · rename_i t l c hop
      obtain ⟨v1, hv1, he1⟩ := Option.map_eq_some_iff.1 he
      simp at he1
    · rename_i args argTypes hop
      split at he
      · rename_i m q t r hx ht
        obtain ⟨h1, hs, he1⟩ := Option.map_eq_some_iff.1 he
        simp only [Prod.mk.injEq, Option.some.injEq] at he1
        obtain ⟨rfl, rfl, rfl⟩ := he1
        have hargs : args = #[m, q] := by apply Array.ext'; simpa using hx
        have hty : argTypes[0]? = some t := by rw [← Array.getElem?_toList, ht]; rfl
        subst hargs
        obtain ⟨w', r1, ob', r2⟩ := mapDel_sound (ty := o.type) h hty hs (evo_at (a := a) h t m).strip (evo_at (a := a) h _ q).strip
        obtain ⟨ob2, h2⟩ := r2.put0 hd (v := .tup []) (x := .tuple #[]) (.tup rfl (fun i x y hx => by simp at hx)) (fun own => .bare (bare_of rfl))
        refine value_wp (x := .tuple #[]) (w' := w') ?_ (next_put ha ⟨_, _, ob2, h2⟩ hk)
        unfold execOp; rw [hop]
        simp only [resolve, Sem.run_bind, Sem.run_pure, Result.andThen_ok, invoke, builtin]
        simp [r1]
      · simp at he
    · rename_i args argTypes hop
      split at he
      · rename_i d x t u hx ht
        obtain ⟨p1, hs, he1⟩ := Option.map_eq_some_iff.1 he
        obtain ⟨v1, h1⟩ := p1
        simp only [Prod.mk.injEq, Option.some.injEq] at he1
        obtain ⟨rfl, rfl, rfl⟩ := he1
        have hargs : args = #[d, x] := by apply Array.ext'; simpa using hx
        have hty : argTypes[0]? = some t := by rw [← Array.getElem?_toList, ht]; rfl
        subst hargs
        obtain ⟨r, w', r1, r2, n, rfl, rfl⟩ := copy_sound (ty := o.type) h hs (evo_at (a := a) h t d) (evo_at (a := a) h u x) hty
        obtain ⟨ob2, h2⟩ := r2.put0 hd (v := .int .i64 n) (x := .int .i64 n) .int (fun own => .bare (bare_of rfl))
        refine value_wp (x := .int .i64 n) (w' := w') ?_ (next_put ha ⟨_, _, ob2, h2⟩ hk)
        unfold execOp; rw [hop]
        simp only [resolve, Sem.run_bind, Sem.run_pure, Result.andThen_ok, invoke, builtin]
        simp [r1]
      · simp at he
    · rename_i args argTypes hop
      split at he
      · rename_i d t hx ht
        obtain ⟨h1, hs, he1⟩ := Option.map_eq_some_iff.1 he
        simp only [Prod.mk.injEq, Option.some.injEq] at he1
        obtain ⟨rfl, rfl, rfl⟩ := he1
        have hargs : args = #[d] := by apply Array.ext'; simpa using hx
        have hty : argTypes[0]? = some t := by rw [← Array.getElem?_toList, ht]; rfl
        subst hargs
        obtain ⟨w', r1, r2⟩ := clear_sound (ty := o.type) h hs (evo_at (a := a) h t d) hty
        obtain ⟨ob2, h2⟩ := r2.put0 hd (v := .tup []) (x := .tuple #[]) (.tup rfl (fun i x y hx => by simp at hx)) (fun own => .bare (bare_of rfl))
        refine value_wp (x := .tuple #[]) (w' := w') ?_ (next_put ha ⟨_, _, ob2, h2⟩ hk)
        unfold execOp; rw [hop]
        simp only [resolve, Sem.run_bind, Sem.run_pure, Result.andThen_ok, invoke, builtin]
        simp [r1]
      · simp at he
    · simp at he
  · -- a slice that is made
    rename_i s v he
    unfold extOp at he
    split at he
    · split at he <;> simp at he
    · split at he <;> simp at he
    · split at he <;> simp at he
    · split at he <;> simp at he
    · rename_i t l c hop
      obtain ⟨v1, hv1, he1⟩ := Option.map_eq_some_iff.1 he
      simp only [Prod.mk.injEq] at he1
      obtain ⟨rfl, rfl, _⟩ := he1
      obtain ⟨r, w', U', ob', r1, r2⟩ := makeSlice_sound h hd hv1 (evo_at (a := a) h 3 l) (evo_at (a := a) h 3 c)
      refine value_wp (x := r) (w' := w') ?_ (next_put ha ⟨U', _, ob', r2⟩ hk)
      unfold execOp; rw [hop]; simp [r1]
    · split at he
      · obtain ⟨_, _, he1⟩ := Option.map_eq_some_iff.1 he; simp at he1
      · simp at he
    · split at he
      · obtain ⟨_, _, he1⟩ := Option.map_eq_some_iff.1 he; simp at he1
      · simp at he
    · split at he
      · obtain ⟨_, _, he1⟩ := Option.map_eq_some_iff.1 he; simp at he1
      · simp at he
    · simp at he
  · exact absurd hk hX
end
end Ax

/- One operation: the whole. -/
set_option linter.unusedVariables false
set_option linter.unusedSimpArgs false
namespace Ax
open Go Go.RowKit

theorem cond_elim {b : Bool} {p q : Prop} (h : bif b then p else q) : (b = true ∧ p) ∨ (b = false ∧ q) := by cases b; exact .inr ⟨rfl, h⟩; exact .inl ⟨rfl, h⟩

section
variable {P : Program} {A : Amb} {nt : Nat} {pend : List (Nat × AObj)} {env : Env} {heap : Heap} {bor : Option (Nat × AV)} {w : World} {U : Nat → Nat} {bl : Blocks} {ob : Loc → Option Nat} {a : Act}
variable {X : Rec Prop} {cx : Ctx} {I : FuncId → List AV → Heap → (AV → Heap → Prop) → Prop}

theorem denCall_sound (hL : Leans P cx X I) (ha : a.defers = A.ds) (h : Rel P A nt pend env heap bor a.tmps w U bl ob) {o : Oper} {c : Call} {f : Operand} {g : FuncId} {first caps : List AV} (ho : o.op = .call c) (hc : c.callee = .value f)
    (hf : evo P 0 env f = .fn g first caps) (hd : ∀ t, o.dst = some t → t < nt) {drawn : Bool} {k : St → Prop} {Q : Exit → Act → World → Prop}
    (hk : denCall X cx I drawn o.dst g (first ++ evoL P env c.argTypes.toList c.args.toList ++ caps) ⟨env, heap, [], bor⟩ k) : o.wp P a w (NextIs P A nt pend k) Q := by
  have hfr := evo_at (a := a) h 0 f
  rw [hf] at hfr
  obtain ⟨fs, cs, hfe, n1, n2, r1, r2⟩ : ∃ fs cs : Array Value, a.eval f = .func (.func g) fs cs ∧ first.length = fs.size ∧ caps.length = cs.size ∧ (∀ (i : Nat) x y, first[i]? = some x → fs[i]? = some y → Rep w (forb A bl heap) U bl x y) ∧
      ∀ (i : Nat) x y, caps[i]? = some x → cs[i]? = some y → Rep w (forb A bl heap) U bl x y := by
    generalize a.eval f = q at hfr
    cases hfr with | fn h1 h2 h3 h4 => exact ⟨_, _, rfl, h1, h2, h3, h4⟩
  have hargs : RepL w (forb A bl heap) U bl (first ++ evoL P env c.argTypes.toList c.args.toList ++ caps) (fs ++ c.args.map a.eval ++ cs).toList := by
    have e1 : RepL w (forb A bl heap) U bl first fs.toList := ⟨by simpa using n1, fun i x y hx hy => r1 i x y hx (by simpa using hy)⟩
    have e2 : RepL w (forb A bl heap) U bl caps cs.toList := ⟨by simpa using n2, fun i x y hx hy => r2 i x y hx (by simpa using hy)⟩
    have e3 := evoL_rep (P := P) (fun t => (h.env t).1) c.argTypes.toList c.args.toList
    have := (e1.append e3).append e2
    simpa using this
  have fin : Bodied P g → Calls P g (fs ++ c.args.map a.eval ++ cs) w (fun e w' => ∃ x, e = .returned x ∧ NextIs P A nt pend k ⟨putO a.tmps o.dst x, a.defers⟩ w') → o.wp P a w (NextIs P A nt pend k) Q := by
    intro hb hcalls
    have hrun : (execOp a.eval o).run P w = .ok (.enter g (fs ++ c.args.map a.eval ++ cs)) w := by
      unfold execOp
      rw [ho]
      exact run_call_value hc hfe hb hL.name
    unfold Oper.wp
    rw [hrun, Oper.upon_enter]
    refine hcalls.mono ?_
    rintro e w' ⟨x, rfl, hn⟩
    simp only
    rw [put_eq]; exact hn
  simp only [denCall, AV.forceL_eq] at hk
  rcases cond_elim hk with ⟨hb, hk⟩ | ⟨hb, hk⟩
  · simp only [Bool.and_eq_true] at hb
    have hco := hL.call _ _ _ hk
    refine fin hco.1 ((call_pure h hd hco hargs hb.1).mono ?_)
    rintro e w' ⟨r, x, rfl, hrel, hq⟩
    exact ⟨x, rfl, next_put ha (by obtain ⟨U', ob', hr⟩ := hrel; exact ⟨U', bl, ob', hr⟩) hq⟩
  · rcases cond_elim hk with ⟨_, hk⟩ | ⟨_, hk⟩
    · exact absurd hk hL.fail
    rcases cond_elim hk with ⟨_, hk⟩ | ⟨_, hk⟩
    · unfold denDC at hk
      rcases cond_elim hk with ⟨hs0, hk⟩ | ⟨_, hk⟩
      · rw [blt_eq, decide_eq_true_eq] at hs0
        revert hk hargs
        generalize (first ++ evoL P env c.argTypes.toList c.args.toList ++ caps) = AS
        generalize hvs : (fs ++ c.args.map a.eval ++ cs) = VS at fin ⊢
        intro hargs hk
        split at hk
        · rename_i id sz lo n h1 caps1
          split at hk
          · rename_i sz' n' e hg
            rcases cond_elim hk with ⟨hc, hk2⟩ | ⟨_, hk2⟩
            · clear hk
              simp only [Bool.and_eq_true, beq_eq, decide_eq_true_eq] at hc
              obtain ⟨⟨⟨rfl, c2⟩, rfl⟩, rfl⟩ := hc
              rw [AV.forceL_eq] at hk2
              rcases cond_elim hk2 with ⟨hcd, hk3⟩ | ⟨_, hk3⟩
              · clear hk2
                rw [hL.sort] at hk3
                obtain ⟨x, m1, hm1, hx, hr1⟩ := hargs.head
                obtain ⟨y, m2, hm2, hy, hr2⟩ := hr1.head
                obtain rfl : m2 = [] := List.length_eq_zero_iff.1 hr2.1.symm
                subst hm2
                have hVS : VS = #[x, y] := by apply Array.ext'; simpa using hm1
                rw [hVS] at fin
                have hprim := hL.prim g hs0
                rw [← c2] at hprim
                refine fin hprim.bodied ((sort_calls hL.call h hprim hg hx hy hcd hk3).mono ?_)
                rintro e' w' ⟨rfl, l, hkl, U', ob', hrel⟩
                rw [Heap.force_eq] at hkl
                obtain ⟨ob2, h2⟩ := hrel.put0 hd (v := .tup []) (x := .tuple #[]) (.tup rfl (fun i x y hx => by simp at hx)) (fun own => .bare (bare_of rfl))
                exact ⟨_, rfl, next_put ha ⟨_, _, ob2, h2⟩ hkl⟩
              · exact absurd hk3 hL.fail
            · exact absurd hk2 hL.fail
          · exact absurd hk hL.fail
        · exact absurd hk hL.fail
      · rw [AV.forceL_eq] at hk
        rcases cond_elim hk with ⟨hdl, hk⟩ | ⟨_, hk⟩
        · have hco := hL.call _ _ _ hk
          refine fin hco.1 ((call_lend h hd hco hargs hdl).mono ?_)
          rintro e w' ⟨r, x, rfl, hq, hrel⟩
          rcases cond_elim hq with ⟨hsc, hq⟩ | ⟨_, hq⟩
          · exact ⟨x, rfl, next_put ha (by obtain ⟨U', ob', hr⟩ := hrel hsc; exact ⟨U', bl, ob', hr⟩) hq⟩
          · exact absurd hq hL.fail
        · exact absurd hk hL.fail
    · split at hk
      · exact absurd hk hL.fail
      · rename_i hbor
        simp only [Heap.force_eq] at hk
        have hco := hL.inl _ _ _ _ hk
        refine fin hco.1 ((call_inl h hd hco hargs).mono ?_)
        rintro e w' ⟨r, x, heap', rfl, hrel, hq⟩
        exact ⟨x, rfl, next_put ha hrel hq⟩

theorem fresh_rel (h : Rel P A nt pend env heap bor a.tmps w U bl ob) (s : Nat) : Rel P A nt pend (env.set s (freshen (env.get s))) heap bor a.tmps w U bl ob := by
  unfold freshen
  split
  · rename_i sz g hs; exact fresh_sound h hs
  · exact h.reread (h.env s).1 (h.env s).2

theorem waits_append : ∀ (x y : Heap) (n : Nat), waits n (x ++ y) = waits n x ++ waits (n + x.length) y
  | [], y, n => by simp [waits]
  | a :: x, y, n => by
    have e : n + 1 + x.length = n + (x.length + 1) := by omega
    simp only [List.cons_append, waits, waits_append x y (n + 1), List.length_cons, e]

theorem nilTest_of {op : BinOp} {t : TypeId} {x : AV} {y : Operand} {n : Nat} {b : Bool} (h : nilTest P op t x y = some (n, b)) :
    y = .const (.slice none 0 0) ∧ (∃ e, tyD P t = .slice e) ∧ ∃ sz g, x = .vec sz n g ∧ (op = .eql ∧ b = false ∨ op = .neq ∧ b = true) := by
  unfold nilTest at h
  split at h
  · split at h
    · rename_i e he
      split at h
      · simp at h; obtain ⟨rfl, rfl⟩ := h; exact ⟨rfl, ⟨e, he⟩, _, _, rfl, .inl ⟨rfl, rfl⟩⟩
      · simp at h; obtain ⟨rfl, rfl⟩ := h; exact ⟨rfl, ⟨e, he⟩, _, _, rfl, .inr ⟨rfl, rfl⟩⟩
      · simp at h
    · simp at h
  · simp at h
theorem nil_wp {pend' : List (Nat × AObj)} (ha : a.defers = A.ds) (h : Rel P A nt pend' env heap bor a.tmps w U bl ob) {o : Oper} (hd : ∀ t, o.dst = some t → t < nt) {op : BinOp} {t : TypeId} {x y : Operand} {yt : TypeId} (ho : o.op = .binOp op t x y yt) {n : Nat} {b : Bool}
    (hn : nilTest P op t (evo P t env x).strip y = some (n, b)) {k : St → Prop} {Q : Exit → Act → World → Prop}
    (hk : BrP (Nat.beq n 0) (∀ i, i < 2 → putK env o.dst (.bool (Nat.beq i 0)) fun env => k ⟨env, heap, [], bor⟩) (putK env o.dst (.bool b) fun env => k ⟨env, heap, [], bor⟩)) : o.wp P a w (NextIs P A nt pend' k) Q := by
  obtain ⟨rfl, ⟨e, ht⟩, sz, g, hx, hop⟩ := nilTest_of hn
  have hr := (evo_at h t x).strip
  rw [hx] at hr
  generalize hxv : a.eval x = xv at hr
  cases hr with
  | @vec _ _ _ _ ao cap hcap vals hz hs hone hh =>
    have hu : (Go.underlying t).run P w = .ok (.slice e) w := run_underlying (und_of ht (by simp)) w
    have heq : (Op.equal t (.slice ao n cap) (.slice none 0 0)).run P w = .ok ao.isNone w := eq_of fun d => by
      cases ao <;> simp [Op.equalIn, hu]
    have run : (execOp a.eval o).run P w = .ok (.value (.bool (bif b then !ao.isNone else ao.isNone))) w := by
      have e1 : a.eval (.const (.slice none 0 0)) = .slice none 0 0 := rfl
      have hg := guard_int (P := P) (w := w) op t x (.const (.slice none 0 0)) (.slice ao n cap) (.slice none 0 0) rfl
      have hb : (binOp op t (.slice ao n cap) (.slice none 0 0)).run P w = .ok (.bool (bif b then !ao.isNone else ao.isNone)) w := by
        rcases hop with ⟨rfl, rfl⟩ | ⟨rfl, rfl⟩
        · show ((do pure (.bool (← Op.equal t (.slice ao n cap) (.slice none 0 0)))) : Sem Value).run P w = _
          simp only [Sem.run_bind, heq, Result.andThen_ok, Sem.run_pure]; rfl
        · show ((do pure (.bool (!(← Op.equal t (.slice ao n cap) (.slice none 0 0))))) : Sem Value).run P w = _
          simp only [Sem.run_bind, heq, Result.andThen_ok, Sem.run_pure]; rfl
      unfold execOp
      rw [ho]
      simp only [hxv, e1, Sem.run_bind, hg, hb, Result.andThen_ok, Sem.run_pure]
    have out : ∀ c : Bool, (putK env o.dst (.bool c) fun env => k ⟨env, heap, [], bor⟩) → (bif b then !ao.isNone else ao.isNone) = c → o.wp P a w (NextIs P A nt pend' k) Q := by
      intro c hc e
      rw [e] at run
      obtain ⟨ob', h'⟩ := h.put0 hd (v := .bool c) (x := .bool c) .bool (fun own => .bare (bare_of rfl))
      exact value_wp run (next_put ha ⟨U, bl, ob', h'⟩ hc)
    cases hnz : Nat.beq n 0 with
    | true =>
      have h0 := hk.yes hnz
      cases hb : (bif b then !ao.isNone else ao.isNone) with
      | true => exact out true (h0 0 (by omega)) hb
      | false => exact out false (h0 1 (by omega)) hb
    | false =>
      have h1 := hk.no hnz
      have hpos : 0 < n := by
        rcases Nat.eq_zero_or_pos n with e | e
        · subst e; simp at hnz
        · exact e
      obtain ⟨_, a', rfl, _⟩ := hz hpos
      refine out b h1 ?_
      cases b <;> rfl
theorem denOp_sound {pend pend' : List (Nat × AObj)} {defers : List (AV × List AV)} (hL : Leans P cx X I) (hP : cx.P = P) {drawn : Bool} {fid rid ix base : Nat} {o : Oper} {rest : List Oper} {k : St → Prop} {Q : Exit → Act → World → Prop}
    (hg : Good P A nt pend ⟨env, heap, defers, bor⟩ a w) (hin : ∀ p, p ∈ waits base (hoisted P o) → p ∈ pend) (hsub : ∀ p, p ∈ pend' → p ∈ pend ∧ (0 < (hoisted P o).length → p.1 ≠ base))
    (hA : A.bl0.length ≤ base) (hAh : A.bl0.length ≤ heap.length) (hd : ∀ t, o.dst = some t → t < nt)
    (hk : denOp X cx I drawn fid rid ix base o rest ⟨env, heap, defers, bor⟩ k) : o.wp P a w (NextIs P A nt pend' k) Q := by
  subst hP
  obtain ⟨ha, rfl, U, bl, ob, h0⟩ := hg
  have hbase : A.bl0[base]? ≠ some none := by rw [List.getElem?_eq_none hA]; simp
  have h : Rel cx.P A nt pend' env heap bor a.tmps w U bl ob := h0.unpend (fun p hp => (hsub p hp).1)
  have hfil : ∀ p, p ∈ pend' → 0 < (hoisted cx.P o).length → p ∈ pend.filter fun p => p.1 != base :=
    fun p hp hl => List.mem_filter.2 ⟨(hsub p hp).1, by simpa using (hsub p hp).2 hl⟩
  have plain : ∀ v, evalOp cx.P o env heap = some v → (putK env o.dst v fun env => k ⟨env, heap, [], bor⟩) → o.wp cx.P a w (NextIs cx.P A nt pend' k) Q :=
    fun v he hk' => plain_wp rfl h ha hd he hk'
  unfold denOp at hk
  dsimp only at hk
  split at hk
  · -- move
    rename_i x hop
    split at hk
    · rename_i s
      rcases cond_elim hk with ⟨_, hk⟩ | ⟨_, hk⟩
      · exact move_wp ha h (.inl hop) hd hk
      · exact copy_wp ha h (.inl hop) hd (h.env s).1.strip (fun own => .bare (strip_bare _)) hk
    · rename_i hx
      exact copy_wp ha h (.inl hop) hd (evo_at h o.type x) (fun own => evo_const_own o.type (fun s e => hx s e) own) hk
  · -- assign
    rename_i x hop
    split at hk
    · rename_i s
      exact move_wp ha h (.inr hop) hd hk
    · rename_i hx
      exact copy_wp ha h (.inr hop) hd (evo_at h o.type x) (fun own => evo_const_own o.type (fun s e => hx s e) own) hk
  · -- alloc
    rename_i t hop
    have hho : hoisted cx.P o = [.cells (zeroAV cx.P t).cells] := by unfold hoisted; rw [hop]
    rcases cond_elim hk with ⟨_, hk⟩ | ⟨hz, hk⟩
    · exact absurd hk hL.fail
    · simp only [Bool.not_eq_false', Bool.and_eq_true] at hz
      rw [forceNat_eq] at hk
      have := alloc_wp (Q := Q) ha h0 hop hd (hin _ (by rw [hho]; simp [waits])) hz.1 hz.2 hbase hk
      refine Oper.wp_mono (fun a' w' => ?_) this
      rintro ⟨st', hgood, hkk⟩
      obtain ⟨env', heap', defers', bor'⟩ := st'
      obtain ⟨g1, g2, U', bl', ob', g3⟩ := hgood
      exact ⟨_, ⟨g1, g2, U', bl', ob', g3.unpend (fun p hp => hfil p hp (by rw [hho]; simp))⟩, hkk⟩
  · -- makeMap
    rename_i t hop
    obtain ⟨kt, ow, hho⟩ : ∃ kt ow, hoisted cx.P o = [.map kt ow []] := by
      unfold hoisted; rw [hop]; simp only; split <;> exact ⟨_, _, rfl⟩
    rw [forceNat_eq] at hk
    have := makeMap_wp (Q := Q) ha h0 hop hd (base := base) (kt := kt) (ow := ow) (hin _ (by rw [hho]; simp [waits])) hbase hk
    refine Oper.wp_mono (fun a' w' => ?_) this
    rintro ⟨st', hgood, hkk⟩
    obtain ⟨env', heap', defers', bor'⟩ := st'
    obtain ⟨g1, g2, U', bl', ob', g3⟩ := hgood
    exact ⟨_, ⟨g1, g2, U', bl', ob', g3.unpend (fun p hp => hfil p hp (by rw [hho]; simp))⟩, hkk⟩
  · -- box
    rename_i t x hop
    rcases cond_elim hk with ⟨hs, hk⟩ | ⟨_, hk⟩
    · rw [forceNat_eq, Heap.force_eq] at hk
      exact box_wp ha h hop hd (evo_at h t x).strip (strip_bare _) (sameShape_of hs).2 hAh hk
    · exact absurd hk hL.fail
  · -- store
    rename_i t p v hop
    split at hk
    · rename_i heap' hs
      rcases cond_elim hk with ⟨_, hk⟩ | ⟨hpos, hk⟩
      · exact absurd hk hL.fail
      · rw [Heap.force_eq] at hk
        simp only [Bool.not_eq_false', blt_eq, decide_eq_true_eq] at hpos
        refine store_wp ha h hop hd hpos hs ?_
        cases v <;> exact hk
    · exact absurd hk hL.fail
  · -- call
    rename_i c hop
    split at hk
    · -- append
      rename_i hcb
      have runA : ∀ (x y : Operand) (t u : TypeId), c.args.toList = [x, y] → c.argTypes.toList = [t, u] → ∀ v, (∀ ty, (Builtin.append_ #[t, u] ty #[a.eval x, a.eval y]).run cx.P w = v) →
          (execOp a.eval o).run cx.P w = v.andThen fun y w' => .ok (.value y) w' := by
        intro x y t u h1 h2 v hv
        have e1 : c.args = #[x, y] := by apply Array.ext'; simpa using h1
        have e2 : c.argTypes = #[t, u] := by apply Array.ext'; simpa using h2
        obtain ⟨csz, hb⟩ := run_call_builtin (P := cx.P) (w := w) (ρ := a.eval) (ty := o.type) hcb
        unfold execOp
        rw [hop]
        simp only
        rw [hb, e1, e2]
        have := hv o.type
        simp only [builtin, Sem.run_bind]
        rw [show (Array.map a.eval #[x, y]) = #[a.eval x, a.eval y] by simp, this]
        cases v <;> rfl
      split at hk
      · rename_i s x t u h1 h2
        rcases cond_elim hk with ⟨_, hk⟩ | ⟨_, hk⟩
        · split at hk
          · rename_i v hv
            have h1' := fresh_rel h s
            have hv' : appendAV cx.P t u heap ((env.set s (freshen (env.get s))).get s) (evo cx.P u env x) = some v := by rw [get_set, if_pos rfl]; exact hv
            have key : ∀ ty, ∃ y w' U' ob', (Builtin.append_ #[t, u] ty #[a.tmps.getD s undef, a.eval x]).run cx.P w = .ok y w' ∧ Rel cx.P A nt _ (setO ((env.set s (freshen (env.get s))).bare s) o.dst v) heap bor (putO a.tmps o.dst y) w' U' bl ob' :=
              fun ty => append_sound (ty := ty) h1' hd hv' (evo_at h u x)
            obtain ⟨y, w', U', ob', r1, r2⟩ := key o.type
            have hrun : (execOp a.eval o).run cx.P w = .ok (.value y) w' := by
              rw [runA (.tmp s) x t u h1 h2 (.ok y w') (fun ty => r1)]; rfl
            have r3 : Rel cx.P A nt pend' (setO (env.set s .undef) o.dst v) heap bor (putO a.tmps o.dst y) w' U' bl ob' := by
              refine { r2 with env := fun t' => ?_ }
              have hr := r2.env t'
              have e1 : ∀ E : Env, (setO E o.dst v).get t' = if o.dst = some t' then v else E.get t' := by
                intro E
                cases o.dst with
                | none => simp [setO]
                | some d => simp only [setO, get_set, Option.some.injEq]
              rw [e1] at hr ⊢
              by_cases hdt : o.dst = some t'
              · rw [if_pos hdt] at hr ⊢; exact hr
              · rw [if_neg hdt] at hr ⊢
                rw [get_bare, get_set] at hr
                rw [get_set]
                by_cases hst : s = t'
                · rw [if_pos hst]; exact ⟨.undef, .bare (bare_of rfl)⟩
                · rw [if_neg hst, if_neg hst] at hr; rw [if_neg hst]; exact hr
            exact value_wp hrun (next_put ha ⟨U', bl, ob', r3⟩ hk)
          · exact absurd hk hL.fail
        split at hk
        · rename_i v hv
          have key : ∀ ty, ∃ y w' U' ob', (Builtin.append_ #[t, u] ty #[a.tmps.getD s undef, a.eval x]).run cx.P w = .ok y w' ∧ Rel cx.P A nt _ (setO (env.bare s) o.dst v) heap bor (putO a.tmps o.dst y) w' U' bl ob' :=
            fun ty => append_sound (ty := ty) h hd hv (evo_at h u x)
          obtain ⟨y, w', U', ob', r1, r2⟩ := key o.type
          have hrun : (execOp a.eval o).run cx.P w = .ok (.value y) w' := by
            rw [runA (.tmp s) x t u h1 h2 (.ok y w') (fun ty => r1)]; rfl
          exact value_wp hrun (next_put ha ⟨U', bl, ob', r2⟩ hk)
        · exact absurd hk hL.fail
      · rename_i cv x t u h1 h2
        split at hk
        · rename_i v hv
          obtain ⟨e, n, g, m, g', c', hu, ht, hcc, hbv, hs, z0, hz, hb, hr, rfl⟩ := appendAV_of hv
          rcases hcc with rfl | rfl
          case inr => exact absurd hbv (ofConst_nouni t cv)
          have hsrc := srcOf_sound hs (evo_at h u x) h.objsOK z0
          have hcr := (ofConst_rep (w := w) (F := forb A bl heap) (U := U) (bl := bl) (B := A.B) (P := cx.P) t cv)
          rw [hbv] at hcr
          obtain ⟨cr, co⟩ := hcr
          obtain ⟨y0, hy0, hok⟩ := co (fun _ => none) [] _ rfl rfl
          simp only [vat, Option.some.injEq] at hy0
          subst hy0
          cases cr with
          | own hvec =>
            obtain ⟨ao, cap, hncap, hval⟩ : ∃ ao cap, n ≤ cap ∧ cv = .slice ao n cap := by cases hvec with | vec hcap => exact ⟨_, _, hcap, rfl⟩
            subst hval
            have hcap : cap = n := by
              rcases hok with hh | ⟨a', _, _, hh, _⟩
              · exact hh
              · simp at hh
            by_cases hmv : n + m ≤ cap
            · have hm : m = 0 := by omega
              subst hm
              obtain ⟨cs, k1, k2, k3, ko, k4, k5⟩ := hsrc
              have hcs : cs = [] := List.length_eq_zero_iff.1 (by rw [k3]; simp)
              subst hcs
              have hrun' : ∀ ty, (Builtin.append_ #[t, u] ty #[.slice ao n cap, a.eval x]).run cx.P w = .ok (.slice ao (n + 0) cap) w := by
                intro ty; rw [append_stay (ty := ty) ht hu z0 k1 (k2 w rfl) hmv]; cases ao <;> simp [storeCells]
              have hrep : Rep w (forb A bl heap) U bl (.vec (tySz cx.P e) (n + 0) (vapp (zeroElem cx.P e) g n g' 0)) (.slice ao (n + 0) cap) := by
                cases hvec with
                | vec hc vals z1 z2 zo z3 =>
                  refine .vec hc vals z1 (fun i hi => ?_) (fun i j hi hj => zo i j (by omega) hj) (fun i j c hi hc => ?_)
                  · rw [vapp_get, if_pos (by omega)]; exact z2 i (by omega)
                  · rw [vapp_get, if_pos (by omega)] at hc; exact z3 i j c (by omega) hc
              obtain ⟨ob', h2'⟩ := h.put0 hd (.own hrep) (fun own => own_nil (.inl hcap))
              have hrun : (execOp a.eval o).run cx.P w = .ok (.value (.slice ao (n + 0) cap)) w := by
                rw [runA (.const (.slice ao n cap)) x t u h1 h2 (.ok (.slice ao (n + 0) cap) w) hrun']; rfl
              exact value_wp hrun (next_put ha ⟨U, bl, ob', h2'⟩ hk)
            · have key : ∀ ty, _ := fun ty => append_gen (ty := ty) h hd hu ht z0 hz hb hr hvec hsrc hmv
              obtain ⟨y, w', U', ob', r1, r2⟩ := key o.type
              have hrun : (execOp a.eval o).run cx.P w = .ok (.value y) w' := by
                rw [runA (.const (.slice ao n cap)) x t u h1 h2 (.ok y w') (fun ty => r1)]; rfl
              exact value_wp hrun (next_put ha ⟨U', bl, ob', r2⟩ hk)
        · exact absurd hk hL.fail
      · exact absurd hk hL.fail
    · split at hk
      · rename_i v he; exact plain v he hk
      · exact ext_wp hL.fail rfl ha h hd hk
    · rename_i f hcv
      split at hk
      · rename_i g first caps hf
        exact denCall_sound hL ha h hop hcv hf hd hk
      · exact absurd hk hL.fail
    · exact absurd hk hL.fail
  · -- load
    rename_i t p hop
    rcases cond_elim hk with ⟨_, hk⟩ | ⟨_, hk⟩
    · split at hk
      · rename_i v heap' hv
        rw [Heap.force_eq] at hk
        obtain ⟨y, r1, ob', r2⟩ := take_sound rfl h hv (evo_at (a := a) h 0 p) hd
        refine value_wp (x := y) (w' := w) ?_ (next_put ha ⟨_, _, ob', r2⟩ hk)
        unfold execOp; rw [hop]; simp [r1]
      · exact absurd hk hL.fail
    · split at hk
      · rename_i v he; exact plain v he hk
      · exact absurd hk hL.fail
  · -- is it nil?
    rename_i op t x y yt hop
    split at hk
    · rename_i n b hn
      rcases cond_elim hk with ⟨_, hk⟩ | ⟨_, hk⟩
      · exact absurd hk hL.fail
      · rw [hL.br, hL.all] at hk
        exact nil_wp ha h hd hop hn hk
    · split at hk
      · rename_i v he; exact plain v he hk
      · exact ext_wp hL.fail rfl ha h hd hk
  · -- extract
    rename_i x i hop
    split at hk
    · rename_i s
      split at hk
      · rename_i vs hv
        split at hk
        · rename_i v hi; exact extract_wp ha h hop hd hv hi hk
        · exact absurd hk hL.fail
      · exact absurd hk hL.fail
    · exact absurd hk hL.fail
  · split at hk
    · rename_i v he; exact plain v he hk
    · exact ext_wp hL.fail rfl ha h hd hk
end
end Ax
