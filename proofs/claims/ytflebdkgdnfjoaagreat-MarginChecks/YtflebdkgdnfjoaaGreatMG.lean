import Derived.Test.YtflebdkgdnfjoaaGreatME
import Derived.Test.YtflebdkgdnfjoaaGreatMF
set_option linter.unusedVariables false
set_option linter.unusedSimpArgs false
namespace Ax
open Go Go.RowKit
section
variable {P : Program} {A : Amb} {nt : Nat} {pend : List (Nat × AObj)} {env : Env} {heap : Heap} {bor : Option (Nat × AV)} {tm : Array Value} {w : World} {U : Nat → Nat} {bl : Blocks} {ob : Loc → Option Nat} {a : Act}
theorem give_operand (h : Rel P A nt pend env heap bor a.tmps w U bl ob) (t : TypeId) (x : Operand) : ∃ (ob1 : Loc → Option Nat) (ov : List Nat → Option Nat), Rel P A nt pend (bareO (tmpOp x) env) heap bor a.tmps w U bl ob1 ∧ OwnAt w (forb A bl heap) U A.B ov (evo P t env x) (a.eval x) ∧
    (∀ p b, ov p = some b → ¬ A.G b ∧ b < w.heap.size ∧ ∀ id : Nat, bl[id]? ≠ some (some b)) ∧ (∀ p q b, ov p = some b → ov q = some b → p = q) ∧ (∀ p b l, ov p = some b → ob1 l ≠ some b) := by
  have none : (∀ own, OwnAt w (forb A bl heap) U A.B own (evo P t env x) (a.eval x)) → bareO (tmpOp x) env = env → ∃ (ob1 : Loc → Option Nat) (ov : List Nat → Option Nat), Rel P A nt pend (bareO (tmpOp x) env) heap bor a.tmps w U bl ob1 ∧ OwnAt w (forb A bl heap) U A.B ov (evo P t env x) (a.eval x) ∧
    (∀ p b, ov p = some b → ¬ A.G b ∧ b < w.heap.size ∧ ∀ id : Nat, bl[id]? ≠ some (some b)) ∧ (∀ p q b, ov p = some b → ov q = some b → p = q) ∧ (∀ p b l, ov p = some b → ob1 l ≠ some b) :=
    fun ho he => ⟨ob, fun _ => Option.none, he.symm ▸ h, ho _, fun p b hh => by simp at hh, fun p q b hh => by simp at hh, fun p b l hh => by simp at hh⟩
  cases x with
  | tmp s =>
    refine ⟨_, fun p => ob (.env s p), h.bareAt s, (h.env s).2, fun p b hh => h.obok _ b hh, fun p q b h1 h2 => by have := h.obinj _ _ b h1 h2; injection this, fun p b l h1 h2 => ?_⟩
    cases l with
    | env t q =>
      simp only at h2
      by_cases e : t = s
      · simp [e] at h2
      · simp only [e, if_false] at h2
        have := h.obinj _ _ b h1 h2
        injection this with e1; exact e e1.symm
    | cell j i q => exact absurd (h.obinj _ _ b h1 h2) (by simp)
    | mapv j i q => exact absurd (h.obinj _ _ b h1 h2) (by simp)
  | const v => exact none (fun own => evo_const_own t (by simp) own) rfl
  | func f => exact none (fun own => evo_const_own t (by simp) own) rfl
  | global g => exact none (fun own => evo_const_own t (by simp) own) rfl
def mapOb (ob : Loc → Option Nat) (id i0 : Nat) (σ : Nat → Nat) (ov : List Nat → Option Nat) : Loc → Option Nat
  | .mapv j i p => if j = id then (if i = i0 then ov p else ob (.mapv id (σ i) p)) else ob (.mapv j i p)
  | .env t p => ob (.env t p)
  | .cell j i p => ob (.cell j i p)
theorem mapOb_some {ob : Loc → Option Nat} {id i0 : Nat} {ov : List Nat → Option Nat} {l : Loc} {c : Nat} (h : mapOb ob id i0 (fun j => j) ov l = some c) : (∃ p, l = .mapv id i0 p ∧ ov p = some c) ∨ (ob l = some c ∧ ∀ p, l ≠ .mapv id i0 p) := by
  cases l with
  | env t p => exact .inr ⟨h, fun p h => by cases h⟩
  | cell j i p => exact .inr ⟨h, fun p h => by cases h⟩
  | mapv j i p =>
    simp only [mapOb] at h
    by_cases e : j = id
    · subst e
      rw [if_pos rfl] at h
      by_cases e2 : i = i0
      · subst e2; rw [if_pos rfl] at h; exact .inl ⟨p, rfl, h⟩
      · rw [if_neg e2] at h; exact .inr ⟨h, fun q hq => by injection hq with _ h2; exact e2 h2⟩
    · rw [if_neg e] at h; exact .inr ⟨h, fun q hq => by injection hq with h2; exact e h2⟩
theorem map_gen (h : Rel P A nt pend env heap bor tm w U bl ob) {id b : Nat} (hid : bl[id]? = some (some b)) {kt : TypeId} {reg : Bool} {ents : List (AV × AV)} (hg : heap.get id = .map kt reg ents) (hni : noIter id heap = true) {es : Array MapEntry} {clock : Nat} (hm : w.heap[b]? = some (.map es clock))
    {kt' : TypeId} {reg' : Bool} {ents' : List (AV × AV)} {es' : Array MapEntry} {clock' : Nat} {ov : List Nat → Option Nat} {i0 : Nat} {σ : Nat → Nat} (hσ : ∀ i j, i ≠ i0 → j ≠ i0 → σ i = σ j → i = j)
    (h1 : ∀ p b, ov p = some b → ¬ A.G b ∧ b < w.heap.size ∧ ∀ id : Nat, bl[id]? ≠ some (some b)) (h2 : ∀ p q b, ov p = some b → ov q = some b → p = q) (h3 : ∀ p b l, ov p = some b → ob l ≠ some b)
    (hobj : ∀ w' F, w'.heap[b]? = some (.map es' clock') → (∀ bl2 v x, Rep w (forb A bl heap) U bl2 v x → Rep w' F U bl2 v x) → (∀ own v x, (∀ p, own p ≠ some b) → OwnAt w (forb A bl heap) U A.B own v x → OwnAt w' F U A.B own v x) →
      ObjRep P w' F U bl A.B (fun i p => ob (.cell id i p)) (fun i p => if i = i0 then ov p else ob (.mapv id (σ i) p)) (borAt bor id) (.map kt' reg' ents') b) :
    Rel P A nt pend env (heap.set id (.map kt' reg' ents')) bor tm { w with heap := w.heap.setIfInBounds b (.map es' clock') } U bl (mapOb ob id i0 σ ov) := by
  have hlt := lt_of_some hm
  have hw : Wrote w b (.map es' clock') { w with heap := w.heap.setIfInBounds b (.map es' clock') } := by
    refine ⟨rfl, rfl, rfl, by simp, by simp [hlt], fun c hc => ?_, rfl⟩
    show (w.heap.setIfInBounds b _)[c]? = _
    rw [Array.getElem?_setIfInBounds, if_neg (fun e => hc e.symm)]
  have key : ∀ l c, mapOb ob id i0 σ ov l = some c →
      (∃ p, l = .mapv id i0 p ∧ ov p = some c) ∨ (∃ i p, l = .mapv id i p ∧ i ≠ i0 ∧ ob (.mapv id (σ i) p) = some c) ∨ ((∀ i p, l ≠ .mapv id i p) ∧ ob l = some c) := by
    intro l c hl
    cases l with
    | env t p => exact .inr (.inr ⟨fun i p h => (by cases h), hl⟩)
    | cell j i p => exact .inr (.inr ⟨fun i p h => (by cases h), hl⟩)
    | mapv j i p =>
      simp only [mapOb] at hl
      by_cases e : j = id
      · subst e
        rw [if_pos rfl] at hl
        by_cases e2 : i = i0
        · subst e2; rw [if_pos rfl] at hl; exact .inl ⟨p, rfl, hl⟩
        · rw [if_neg e2] at hl; exact .inr (.inl ⟨i, p, rfl, e2, hl⟩)
      · rw [if_neg e] at hl; exact .inr (.inr ⟨fun i p h => (by injection h with h1; exact e h1), hl⟩)
  refine h.write hid (by rw [hg]; simp) (.inl hni) (by simp) (by simp [AObj.isO]) hw (bor' := bor) (fun F hF hmono howns => ?_) (fun l hn1 hn2 => ?_) (fun l m c hl hm' => ?_) (fun l c hl => ?_) (fun j hj => rfl)
  · have hFr : ∀ bl2 v x, Rep w (forb A bl heap) U bl2 v x → Rep w F U bl2 v x := fun bl2 v x hr => hr.mono ⟨fun c _ hf => .inl ((hF c).1 hf), fun c _ hc => ⟨Nat.le_refl _, fun o _ => rfl⟩, fun _ hb => ⟨hb, Nat.le_refl _⟩⟩ (BlLe.refl _)
    have hFo : ∀ own v x, OwnAt w (forb A bl heap) U A.B own v x → OwnAt w F U A.B own v x := fun own v x ho => ownAt_keeps ho ⟨fun c _ hf => .inl ((hF c).1 hf), fun c _ hc => ⟨Nat.le_refl _, fun o _ => rfl⟩, fun _ hb => ⟨hb, Nat.le_refl _⟩⟩ (fun p c _ _ hn => ⟨rfl, rfl, fun hf => hn ((hF c).1 hf)⟩)
    have := hobj _ F hw.here (fun bl2 v x hr => hmono _ _ _ (hFr _ _ _ hr)) (fun own v x hn ho => howns _ _ _ hn (hFo _ _ _ ho))
    have e1 : (fun i p => if id = id then (if i = i0 then ov p else ob (.mapv id (σ i) p)) else ob (.mapv id i p)) = fun i p => if i = i0 then ov p else ob (.mapv id (σ i) p) := by funext i p; rw [if_pos rfl]
    show ObjRep P _ F U bl A.B (fun i p => ob (.cell id i p)) (fun i p => if id = id then (if i = i0 then ov p else ob (.mapv id (σ i) p)) else ob (.mapv id i p)) (borAt bor id) _ b
    rw [e1]; exact this
  · cases l with
    | env t p => rfl
    | cell j i p => rfl
    | mapv j i p =>
      simp only [mapOb]
      rw [if_neg]
      rintro rfl
      exact hn2 i p rfl
  · rcases key l c hl with ⟨p, rfl, e1⟩ | ⟨i, p, rfl, e0, e1⟩ | ⟨e0, e1⟩ <;> rcases key m c hm' with ⟨q, rfl, f1⟩ | ⟨j, q, rfl, f0, f1⟩ | ⟨f0, f1⟩
    · rw [h2 p q c e1 f1]
    · exact absurd f1 (h3 _ _ _ e1)
    · exact absurd f1 (h3 _ _ _ e1)
    · exact absurd e1 (h3 _ _ _ f1)
    · have := h.obinj _ _ c e1 f1
      injection this with _ e2 e3
      rw [hσ i j e0 f0 e2, e3]
    · have := h.obinj _ _ c e1 f1
      exact absurd this.symm (f0 _ _)
    · exact absurd e1 (h3 _ _ _ f1)
    · have := h.obinj _ _ c e1 f1
      exact absurd this (e0 _ _)
    · exact h.obinj _ _ c e1 f1
  · rcases key l c hl with ⟨p, rfl, e1⟩ | ⟨i, p, rfl, e0, e1⟩ | ⟨e0, e1⟩
    · exact h1 _ _ e1
    · exact h.obok _ _ e1
    · exact h.obok _ _ e1
theorem map_obj (h : Rel P A nt pend env heap bor tm w U bl ob) {id b : Nat} (hid : bl[id]? = some (some b)) {kt : TypeId} {reg : Bool} {ents : List (AV × AV)} (hg : heap.get id = .map kt reg ents) :
    ∃ es clock, w.heap[b]? = some (.map es clock) ∧ EntRep w (forb A bl heap) U ents es ∧ Fresh clock es ∧ (∀ p ∈ ents, keyOk P kt p.1 = true) ∧
      (∀ (i j : Nat) p q, ents[i]? = some p → ents[j]? = some q → eqKey P kt p.1 q.1 = true → i = j) ∧ (reg = true → RegMap clock es) ∧
      (∀ (i : Nat) p e, ents[i]? = some p → es[i]? = some e → OwnAt w (forb A bl heap) U A.B (fun p => ob (.mapv id i p)) p.2 e.val) := by
  have hobj := h.objs id b hid
  rw [hg] at hobj
  exact hobj
theorem map_put (h : Rel P A nt pend env heap bor tm w U bl ob) {id b : Nat} (hid : bl[id]? = some (some b)) {kt : TypeId} {reg : Bool} {ents : List (AV × AV)} (hg : heap.get id = .map kt reg ents) (hni : noIter id heap = true) {es : Array MapEntry} {clock : Nat} (hm : w.heap[b]? = some (.map es clock))
    {i : Nat} (hi : i < es.size) {x : AV} {x' : Value} (hx : Rep w (forb A bl heap) U [] x x') {ov : List Nat → Option Nat} (ho : OwnAt w (forb A bl heap) U A.B ov x x')
    (h1 : ∀ p b, ov p = some b → ¬ A.G b ∧ b < w.heap.size ∧ ∀ id : Nat, bl[id]? ≠ some (some b)) (h2 : ∀ p q b, ov p = some b → ov q = some b → p = q) (h3 : ∀ p b l, ov p = some b → ob l ≠ some b) :
    Rel P A nt pend env (heap.set id (.map kt reg (msetAt ents i x))) bor tm { w with heap := w.heap.setIfInBounds b (.map (es.modify i fun e => { e with val := x' }) clock) } U bl (mapOb ob id i (fun j => j) ov) := by
  obtain ⟨es0, clock0, hm0, o1, o2, o3, o4, o5, o6⟩ := map_obj h hid hg
  rw [hm] at hm0; cases hm0
  have hes : ∀ j : Nat, (es.modify i fun e => { e with val := x' })[j]? = if i = j then (es[j]?).map fun e => { e with val := x' } else es[j]? := fun j => Array.getElem?_modify
  refine map_gen h hid hg hni hm (i0 := i) (σ := fun j => j) (fun _ _ _ _ e => e) h1 h2 h3 fun w' F hw' hr hov => ?_
  refine ⟨_, clock, hw', ⟨by rw [msetAt_length, o1.1]; simp, fun j p e hp he => ?_⟩, ⟨fun j e he => ?_, fun j k e f he hf hef => ?_⟩, fun p hp => ?_, fun j k p q hp hq hpq => ?_, fun hreg => ⟨by rw [(o5 hreg).1]; simp, fun j e he => ?_⟩, fun j p e hp he => ?_⟩
  · rw [msetAt_get] at hp
    rw [hes] at he
    by_cases e1 : i = j
    · subst e1
      rw [if_pos rfl] at hp he
      obtain ⟨p0, hp0, rfl⟩ := Option.map_eq_some_iff.1 hp
      obtain ⟨e0, he0, rfl⟩ := Option.map_eq_some_iff.1 he
      exact ⟨hr _ _ _ (o1.2 i p0 e0 hp0 he0).1, hr _ _ _ hx⟩
    · rw [if_neg e1] at hp he
      exact ⟨hr _ _ _ (o1.2 j p e hp he).1, hr _ _ _ (o1.2 j p e hp he).2⟩
  · rw [hes] at he
    split at he
    · obtain ⟨e0, he0, rfl⟩ := Option.map_eq_some_iff.1 he; exact o2.1 j e0 he0
    · exact o2.1 j e he
  · have born : ∀ (j : Nat) (e : MapEntry), (es.modify i fun e => { e with val := x' })[j]? = some e → ∃ e0, es[j]? = some e0 ∧ e0.born = e.born := by
      intro j e he
      rw [hes] at he
      split at he
      · obtain ⟨e0, he0, rfl⟩ := Option.map_eq_some_iff.1 he; exact ⟨e0, he0, rfl⟩
      · exact ⟨e, he, rfl⟩
    obtain ⟨e0, he0, hb0⟩ := born j e he
    obtain ⟨f0, hf0, hb1⟩ := born k f hf
    exact o2.2 j k e0 f0 he0 hf0 (by rw [hb0, hb1]; exact hef)
  · obtain ⟨j, hj⟩ := List.getElem?_of_mem hp
    rw [msetAt_get] at hj
    split at hj
    · obtain ⟨p0, hp0, rfl⟩ := Option.map_eq_some_iff.1 hj; exact o3 p0 (List.mem_of_getElem? hp0)
    · exact o3 p (List.mem_of_getElem? hj)
  · have keys : ∀ (j : Nat) p, (msetAt ents i x)[j]? = some p → ∃ p0, ents[j]? = some p0 ∧ p0.1 = p.1 := by
      intro j p hp
      rw [msetAt_get] at hp
      split at hp
      · obtain ⟨p0, hp0, rfl⟩ := Option.map_eq_some_iff.1 hp; exact ⟨p0, hp0, rfl⟩
      · exact ⟨p, hp, rfl⟩
    obtain ⟨p0, hp0, e1⟩ := keys j p hp
    obtain ⟨q0, hq0, e2⟩ := keys k q hq
    exact o4 j k p0 q0 hp0 hq0 (by rw [e1, e2]; exact hpq)
  · rw [hes] at he
    split at he
    · obtain ⟨e0, he0, rfl⟩ := Option.map_eq_some_iff.1 he; exact (o5 hreg).2 j e0 he0
    · exact (o5 hreg).2 j e he
  · rw [msetAt_get] at hp
    rw [hes] at he
    by_cases e1 : j = i
    · subst e1
      rw [if_pos rfl] at hp he
      obtain ⟨p0, hp0, rfl⟩ := Option.map_eq_some_iff.1 hp
      obtain ⟨e0, he0, rfl⟩ := Option.map_eq_some_iff.1 he
      simp only [if_true]
      exact hov _ _ _ (fun p hh => (h1 _ _ hh).2.2 id hid) ho
    · rw [if_neg (fun e => e1 e.symm)] at hp he
      simp only [if_neg e1]
      exact hov _ _ _ (fun p hh => (h.obok _ _ hh).2.2 id hid) (o6 j p e hp he)
theorem map_push (h : Rel P A nt pend env heap bor tm w U bl ob) {id b : Nat} (hid : bl[id]? = some (some b)) {kt : TypeId} {reg : Bool} {ents : List (AV × AV)} (hg : heap.get id = .map kt reg ents) (hni : noIter id heap = true) {es : Array MapEntry} {clock : Nat} (hm : w.heap[b]? = some (.map es clock))
    {q : AV} {q' : Value} (hq : Rep w (forb A bl heap) U [] q q') (hqk : keyOk P kt q = true) (hnew : ∀ p ∈ ents, eqKey P kt q p.1 = false) {x : AV} {x' : Value} (hx : Rep w (forb A bl heap) U [] x x') {ov : List Nat → Option Nat} (ho : OwnAt w (forb A bl heap) U A.B ov x x')
    (h1 : ∀ p b, ov p = some b → ¬ A.G b ∧ b < w.heap.size ∧ ∀ id : Nat, bl[id]? ≠ some (some b)) (h2 : ∀ p q b, ov p = some b → ov q = some b → p = q) (h3 : ∀ p b l, ov p = some b → ob l ≠ some b) :
    Rel P A nt pend env (heap.set id (.map kt reg (ents ++ [(q, x)]))) bor tm { w with heap := w.heap.setIfInBounds b (.map (es.push { key := q', val := x', born := clock }) (clock + 1)) } U bl (mapOb ob id es.size (fun j => j) ov) := by
  obtain ⟨es0, clock0, hm0, o1, o2, o3, o4, o5, o6⟩ := map_obj h hid hg
  rw [hm] at hm0; cases hm0
  have hes : ∀ (j : Nat) e, (es.push { key := q', val := x', born := clock })[j]? = some e → (es[j]? = some e ∧ j < es.size) ∨ (j = es.size ∧ e = { key := q', val := x', born := clock }) := by
    intro j e he
    rw [Array.getElem?_push] at he
    split at he
    · exact .inr ⟨‹_›, (Option.some.inj he).symm⟩
    · exact .inl ⟨he, (Array.getElem?_eq_some_iff.1 he).1⟩
  have hen : ∀ (j : Nat) p, (ents ++ [(q, x)])[j]? = some p → (ents[j]? = some p ∧ j < es.size) ∨ (j = es.size ∧ p = (q, x)) := by
    intro j p hp
    rw [List.getElem?_append] at hp
    split at hp
    · exact .inl ⟨hp, by rw [← o1.1]; assumption⟩
    · rename_i hlt
      have := (List.getElem?_eq_some_iff.1 hp).1
      simp at this
      have e1 : j - ents.length = 0 := this
      rw [e1] at hp; simp at hp
      exact .inr ⟨by rw [← o1.1]; omega, hp.symm⟩
  refine map_gen h hid hg hni hm (i0 := es.size) (σ := fun j => j) (fun _ _ _ _ e => e) h1 h2 h3 fun w' F hw' hr hov => ?_
  have symm : ∀ p ∈ ents, eqKey P kt p.1 q = false := by
    intro p hp
    cases hc : eqKey P kt p.1 q with
    | false => rfl
    | true =>
      have := (eqKey_eq (w := w) (F := forb A bl heap) (U := U) (bl := []) (o3 p hp) hqk hc).1
      have h' := hnew p hp
      rw [this] at h' hc
      rw [h'] at hc; cases hc
  refine ⟨_, clock + 1, hw', ⟨by simp [o1.1], fun j p e hp he => ?_⟩, ⟨fun j e he => ?_, fun j k e f he hf hef => ?_⟩, fun p hp => ?_, fun j k p r hp hrr hpq => ?_, fun hreg => ⟨by rw [(o5 hreg).1]; simp, fun j e he => ?_⟩, fun j p e hp he => ?_⟩
  · rcases hen j p hp with ⟨e1, e2⟩ | ⟨e1, rfl⟩ <;> rcases hes j e he with ⟨f1, f2⟩ | ⟨f1, rfl⟩
    · exact ⟨hr _ _ _ (o1.2 j p e e1 f1).1, hr _ _ _ (o1.2 j p e e1 f1).2⟩
    · omega
    · omega
    · exact ⟨hr _ _ _ hq, hr _ _ _ hx⟩
  · rcases hes j e he with ⟨f1, f2⟩ | ⟨f1, rfl⟩
    · have := o2.1 j e f1; omega
    · exact Nat.lt_succ_self _
  · rcases hes j e he with ⟨f1, f2⟩ | ⟨f1, rfl⟩ <;> rcases hes k f hf with ⟨g1, g2⟩ | ⟨g1, rfl⟩
    · exact o2.2 j k e f f1 g1 hef
    · have := o2.1 j e f1; simp only at hef; omega
    · have := o2.1 k f g1; simp only at hef; omega
    · omega
  · rcases List.mem_append.1 hp with hp | hp
    · exact o3 p hp
    · simp at hp; subst hp; exact hqk
  · rcases hen j p hp with ⟨e1, e2⟩ | ⟨e1, rfl⟩ <;> rcases hen k r hrr with ⟨f1, f2⟩ | ⟨f1, rfl⟩
    · exact o4 j k p r e1 f1 hpq
    · rw [symm p (List.mem_of_getElem? e1)] at hpq; cases hpq
    · rw [hnew r (List.mem_of_getElem? f1)] at hpq; cases hpq
    · omega
  · rcases hes j e he with ⟨f1, f2⟩ | ⟨f1, rfl⟩
    · exact (o5 hreg).2 j e f1
    · simp only; rw [(o5 hreg).1]; exact f1.symm
  · rcases hen j p hp with ⟨e1, e2⟩ | ⟨e1, rfl⟩ <;> rcases hes j e he with ⟨f1, f2⟩ | ⟨f1, rfl⟩
    · simp only [if_neg (show ¬ j = es.size by omega)]
      exact hov _ _ _ (fun p hh => (h.obok _ _ hh).2.2 id hid) (o6 j p e e1 f1)
    · omega
    · omega
    · simp only [if_pos e1]
      exact hov _ _ _ (fun p hh => (h1 _ _ hh).2.2 id hid) ho
theorem setObj_map {b : Nat} {es : Array MapEntry} {clock : Nat} (o : Obj) (h : w.heap[b]? = some (.map es clock)) : (setObj b o).run P w = .ok () { w with heap := w.heap.setIfInBounds b o } := by
  simp only [setObj, Sem.run, h]
theorem mapSet_sound (h : Rel P A nt pend env heap bor tm w U bl ob) {t : TypeId} {m q x : AV} {m' q' x' : Value} {heap' : Heap} (hs : mapSetAV P t heap m q x = some heap') (hm : Rep w (forb A bl heap) U bl m m') (hq : Rep w (forb A bl heap) U bl q q')
    (hx : Rep w (forb A bl heap) U bl x x') {ov : List Nat → Option Nat} (ho : OwnAt w (forb A bl heap) U A.B ov x x')
    (h1 : ∀ p b, ov p = some b → ¬ A.G b ∧ b < w.heap.size ∧ ∀ id : Nat, bl[id]? ≠ some (some b)) (h2 : ∀ p q b, ov p = some b → ov q = some b → p = q) (h3 : ∀ p b l, ov p = some b → ob l ≠ some b) :
    ∃ w', (Instr.mapUpdate t m' q' x').run P w = .ok () w' ∧ ∃ ob', Rel P A nt pend env heap' bor tm w' U bl ob' := by
  unfold mapSetAV at hs
  split at hs
  · rename_i kt e id ht
    split at hs
    · rename_i kt2 reg ents hg
      cases hc : (Nat.beq kt kt2 && keyOk P kt q && x.isData && noIter id heap) with
      | false => rw [hc] at hs; simp at hs
      | true =>
        rw [hc] at hs
        simp only [cond_true] at hs
        simp only [Bool.and_eq_true, beq_eq, decide_eq_true_eq] at hc
        obtain ⟨⟨⟨rfl, hqk⟩, hxd⟩, hni⟩ := hc
        obtain ⟨⟨b1, hb1⟩, hqd⟩ := keyOk_of hqk
        cases hm with
        | @mapr _ _ b hb =>
          obtain ⟨es, clock, hmb, o1, o2, o3, o4, o5, o6⟩ := map_obj h hb hg
          have hfk := findKey_run (w := w) (F := forb A bl heap) (U := U) (bl := []) (hq.data hqd) hqk (ents := ents) (es := es.toList) (by simpa using o1.1) o3 (fun j p e hp he => (o1.2 j p e hp (by simpa using he)).1)
          have hck := checkKey_run (em := false) depth0 10000 (by decide) kt q q' b1 hb1 hq
          have hxe := hx.data hxd
          cases hp : mpos P kt ents q with
          | none =>
            rw [hp] at hfk hs
            simp only [found] at hfk
            simp only [Option.some.injEq] at hs
            subst hs
            have hrel := map_push h hb hg hni hmb (hq.data hqd) hqk (mpos_none hp) hxe ho h1 h2 h3
            refine ⟨_, ?_, _, hrel⟩
            simp [Instr.mapUpdate, run_und ht (by simp), getObj_map hmb, hck, hfk, setObj_map _ hmb]
          | some i =>
            rw [hp] at hfk hs
            obtain ⟨hi, p, hpi, hpe⟩ := mpos_lt hp
            rw [found_get o1.1 hi] at hfk
            simp only [Option.some.injEq] at hs
            subst hs
            have hlt : i < es.size := by rw [← o1.1]; exact hi
            have hrel := map_put h hb hg hni hmb hlt hxe ho h1 h2 h3
            refine ⟨_, ?_, _, hrel⟩
            have hee : es[i]? = some es[i] := by simp [hlt]
            obtain ⟨hqp, huq⟩ := eqKey_eq (w := w) (F := forb A bl heap) (U := U) (bl := []) hqk (o3 p (List.mem_of_getElem? hpi)) hpe
            obtain ⟨hkeq, hsb⟩ := huq (es[i].key) q' (by rw [hqp]; exact (o1.2 i p es[i] hpi hee).1) (hq.data hqd)
            have hkt : (Instr.keyThatStays (((es[i]?).map (·.key)).getD q') q').run P w = .ok q' w := by
              rw [hee]; simp only [Option.map_some, Option.getD_some, Instr.keyThatStays, hsb, if_true, Sem.run_pure]
            have hmod : (es.modify i fun e => { e with key := q', val := x' }) = es.modify i fun e => { e with val := x' } := by
              apply Array.ext_getElem?
              intro j
              rw [Array.getElem?_modify, Array.getElem?_modify]
              by_cases e1 : i = j
              · subst e1; rw [if_pos rfl, if_pos rfl, hee]; simp only [Option.map_some]; rw [← hkeq]
              · rw [if_neg e1, if_neg e1]
            have hkt' : (Instr.keyThatStays (es[i].key) q').run P w = .ok q' w := by rw [hee] at hkt; exact hkt
            simp [Instr.mapUpdate, run_und ht (by simp), getObj_map hmb, hck, hfk, hlt, hkt', setObj_map _ hmb, hmod]
    · simp at hs
  · simp at hs
theorem own_pair {w : World} {F : Nat → Prop} {U : Nat → Nat} {B : Nat} {own : List Nat → Option Nat} {v : AV} {x : Value} {k : IntKind} {n : Int} (h : OwnAt w F U B (fun p => own (0 :: p)) v x) : OwnAt w F U B own (.tup [v, .int k n]) (.tuple #[x, .int k n]) := by
  intro p u hp hou
  cases p with
  | nil => simp [AV.at] at hp; subst hp; simp [AV.owned] at hou
  | cons i p =>
    simp only [AV.at] at hp
    match i with
    | 0 =>
      obtain ⟨y, hy, hok⟩ := h p u (by simpa using hp) hou
      exact ⟨y, by simpa [vat] using hy, hok⟩
    | 1 =>
      have : Bare (.int k n) := bare_of rfl
      rw [this p u (by simpa using hp)] at hou; cases hou
    | i + 2 => simp at hp
theorem rep_pair {w : World} {F : Nat → Prop} {U : Nat → Nat} {bl : Blocks} {v : AV} {x : Value} {k : IntKind} {n : Int} (h : Rep w F U bl v x) : Rep w F U bl (.tup [v, .int k n]) (.tuple #[x, .int k n]) := by
  refine .tup rfl fun i a c ha hc => ?_
  match i with
  | 0 => simp at ha hc; subst ha hc; exact h
  | 1 => simp at ha hc; subst ha hc; exact .int
  | i + 2 => simp at ha
theorem heap_same {w : World} {b : Nat} {o : Obj} (h : w.heap[b]? = some o) : { w with heap := w.heap.setIfInBounds b o } = w := by
  have : w.heap.setIfInBounds b o = w.heap := by
    apply Array.ext_getElem?
    intro j
    rw [Array.getElem?_setIfInBounds]
    by_cases e : b = j
    · subst e; simp [h, lt_of_some h]
      have hl := lt_of_some h
      have := (Array.getElem?_eq_some_iff.1 h).2
      exact this.symm
    · rw [if_neg e]
  rw [this]
theorem mapEntry_sound (h : Rel P A nt pend env heap bor tm w U bl ob) {t : TypeId} {m q v : AV} {m' q' : Value} {heap' : Heap} {d : Option Nat} (hd : ∀ t, d = some t → t < nt) (hs : mapEntryAV P t heap m q = some (v, heap'))
    (hm : Rep w (forb A bl heap) U bl m m') (hq : Rep w (forb A bl heap) U bl q q') :
    ∃ x w', (Instr.mapEntry t m' q').run P w = .ok x w' ∧ ∃ ob', Rel P A nt pend (setO env d v) heap' bor (putO tm d x) w' U bl ob' := by
  unfold mapEntryAV at hs
  split at hs
  · rename_i kt e id ht
    split at hs
    · rename_i kt2 reg ents hg
      cases hc : (Nat.beq kt kt2 && reg && keyOk P kt q && noIter id heap && hasZero P e && (zeroAV P e).isData) with
      | false => rw [hc] at hs; simp at hs
      | true =>
        rw [hc] at hs
        simp only [cond_true] at hs
        simp only [Bool.and_eq_true, beq_eq, decide_eq_true_eq] at hc
        obtain ⟨⟨⟨⟨⟨rfl, rfl⟩, hqk⟩, hni⟩, hz⟩, hzd⟩ := hc
        obtain ⟨⟨b1, hb1⟩, hqd⟩ := keyOk_of hqk
        cases hm with
        | @mapr _ _ b hb =>
          obtain ⟨es, clock, hmb, o1, o2, o3, o4, o5, o6⟩ := map_obj h hb hg
          have hfk := findKey_run (w := w) (F := forb A bl heap) (U := U) (bl := []) (hq.data hqd) hqk (ents := ents) (es := es.toList) (by simpa using o1.1) o3 (fun j p e hp he => (o1.2 j p e hp (by simpa using he)).1)
          have hck := checkKey_run (em := false) depth0 10000 (by decide) kt q q' b1 hb1 hq
          cases hp : mpos P kt ents q with
          | none =>
            rw [hp] at hfk hs
            simp only [found] at hfk
            simp only [Option.some.injEq, Prod.mk.injEq] at hs
            obtain ⟨rfl, rfl⟩ := hs
            obtain ⟨z, hzz⟩ := zero_all hz
            obtain ⟨hz1, hz2, hz3⟩ := hzz w (forb A bl heap) U bl A.B
            have hrel := map_push h hb hg hni hmb (hq.data hqd) hqk (mpos_none hp) (hz2.strip.data (strip_data _ hzd)) (ov := fun _ => none) (.bare (strip_bare _)) (fun p b hh => by simp at hh) (fun p q b hh => by simp at hh) (fun p b l hh => by simp at hh)
            have hcl : (clock : Int) = (ents.length : Int) := by rw [(o5 rfl).1, o1.1]
            refine ⟨.tuple #[z, goInt clock], _, ?_, hrel.put0 hd (v := .tup [zeroAV P e, .int .i64 (ents.length : Int)]) (x := .tuple #[z, goInt clock]) ?_ fun own => ?_⟩
            · simp [Instr.mapEntry, run_und ht (by simp), getObj_map hmb, hck, hfk, hz1, setObj_map _ hmb]
            · rw [goInt, hcl]
              exact rep_pair (hzz _ _ _ _ A.B).2.1
            · rw [goInt, hcl]
              exact own_pair ((hzz _ _ _ [] _).2.2 _)
          | some i =>
            rw [hp] at hfk hs
            obtain ⟨hi, p, hpi, hpe⟩ := mpos_lt hp
            rw [found_get o1.1 hi] at hfk
            simp only [Option.some.injEq, Prod.mk.injEq] at hs
            obtain ⟨rfl, rfl⟩ := hs
            rw [mval_get _ _ _ _ hpi]
            have hlt : i < es.size := by rw [← o1.1]; exact hi
            have hee : es[i]? = some es[i] := by simp [hlt]
            obtain ⟨hr1, hr2⟩ := o1.2 i p es[i] hpi hee
            obtain ⟨hqp, huq⟩ := eqKey_eq (w := w) (F := forb A bl heap) (U := U) (bl := []) hqk (o3 p (List.mem_of_getElem? hpi)) hpe
            obtain ⟨hkeq, hsb⟩ := huq (es[i].key) q' (by rw [hqp]; exact hr1) (hq.data hqd)
            have hkt : (Instr.keyThatStays (es[i].key) q').run P w = .ok q' w := by simp only [Instr.keyThatStays, hsb, if_true, Sem.run_pure]
            have hmod : (es.modify i fun e => { e with key := q' }) = es := by
              apply Array.ext_getElem?
              intro j
              rw [Array.getElem?_modify]
              by_cases e1 : i = j
              · subst e1; rw [if_pos rfl, hee]; simp only [Option.map_some]; rw [← hkeq]
              · rw [if_neg e1]
            have hmod2 : (es.modify i fun e => { e with val := es[i].val }) = es := by
              apply Array.ext_getElem?
              intro j
              rw [Array.getElem?_modify]
              by_cases e1 : i = j
              · subst e1; rw [if_pos rfl, hee]; simp only [Option.map_some]
              · rw [if_neg e1]
            have hborn : (es[i].born : Int) = (i : Int) := by rw [(o5 rfl).2 i es[i] hee]
            have hsame : ∀ w2, w2 = w → (setObj b (.map (es.modify i fun e => { e with key := q' }) clock)).run P w2 = .ok () w := by
              rintro w2 rfl
              rw [setObj_map _ hmb, hmod, heap_same hmb]
            refine ⟨.tuple #[es[i].val, goInt es[i].born], w, ?_, ?_⟩
            · simp only [Instr.mapEntry, Sem.run_bind, run_und ht (by simp), Result.andThen_ok, getObj_map hmb, hck, hfk, hee, Option.map_some, Option.getD_some, hkt, hsame _ rfl, Sem.run_pure]
            · have hrel := map_put h hb hg hni hmb hlt (x := p.2.strip) (x' := es[i].val) hr2.strip (ov := fun _ => none) (.bare (strip_bare _)) (fun p b hh => by simp at hh) (fun p q b hh => by simp at hh) (fun p b l hh => by simp at hh)
              rw [hmod2, heap_same hmb] at hrel
              rw [goInt, hborn]
              cases d with
              | none => exact ⟨_, hrel⟩
              | some d =>
                have hfb : ∀ c, forb A bl (heap.set id (.map kt true (msetAt ents i p.2.strip))) c → forb A bl heap c := by
                  rintro c (hf | ⟨j, hj, hdd⟩)
                  · exact .inl hf
                  · refine .inr ⟨j, hj, ?_⟩
                    rw [heap_get_set] at hdd
                    by_cases e1 : id = j ∧ j < heap.length
                    · rw [← e1.1, hg]; simp
                    · rw [if_neg e1] at hdd; exact hdd
                have gr : Grow0 w (forb A bl heap) U w (forb A bl (heap.set id (.map kt true (msetAt ents i p.2.strip)))) U := ⟨fun c _ hf => .inl (hfb c hf), fun c _ _ => ⟨Nat.le_refl _, fun _ _ => rfl⟩, fun _ hb => ⟨hb, Nat.le_refl _⟩⟩
                refine ⟨_, hrel.putG (hd d rfl) (fun r => match r with | 0 :: r => ob (.mapv id i r) | _ => none) (rep_pair ((hr2.mono gr (BlLe.refl _)).ofNil)) (own_pair (ownAt_keeps (o6 i p es[i] hpi hee) gr (fun r c _ _ hn => ⟨rfl, rfl, fun hf => hn (hfb c hf)⟩))) (fun r c hr => ?_)⟩
                have hr' : ∃ r', r = 0 :: r' ∧ ob (.mapv id i r') = some c := by
                  match r with
                  | [] => simp at hr
                  | 0 :: r' => exact ⟨r', rfl, hr⟩
                  | (n + 1) :: r' => simp at hr
                obtain ⟨r', rfl, hr'⟩ := hr'
                refine ⟨h.obok _ _ hr', fun r2 hr2 => ?_, fun l hl => ?_⟩
                · match r2 with
                  | [] => simp at hr2
                  | 0 :: r2' =>
                    have := h.obinj _ _ c hr' hr2
                    injection this with _ _ e3
                    rw [e3]
                  | (n + 1) :: r2' => simp at hr2
                · rcases mapOb_some hl with ⟨_, _, hh⟩ | ⟨hh, hne⟩
                  · simp at hh
                  · exact absurd (h.obinj _ _ c hh hr') (hne r')
    · simp at hs
  · simp at hs
theorem entryStore_sound (h : Rel P A nt pend env heap bor tm w U bl ob) {t : TypeId} {m s x : AV} {m' s' x' : Value} {heap' : Heap} (hs : entryStoreAV heap m s x = some heap') (hm : Rep w (forb A bl heap) U bl m m') (hsr : Rep w (forb A bl heap) U bl s s')
    (hx : Rep w (forb A bl heap) U bl x x') {ov : List Nat → Option Nat} (ho : OwnAt w (forb A bl heap) U A.B ov x x')
    (h1 : ∀ p b, ov p = some b → ¬ A.G b ∧ b < w.heap.size ∧ ∀ id : Nat, bl[id]? ≠ some (some b)) (h2 : ∀ p q b, ov p = some b → ov q = some b → p = q) (h3 : ∀ p b l, ov p = some b → ob l ≠ some b) :
    ∃ w', (Instr.entryStore t m' s' x').run P w = .ok () w' ∧ ∃ ob', Rel P A nt pend env heap' bor tm w' U bl ob' := by
  unfold entryStoreAV at hs
  split at hs
  · rename_i id k n
    obtain rfl := rep_int hsr
    split at hs
    · rename_i kt reg ents hg
      cases hc : (reg && inRange n ents.length && x.isData && noIter id heap) with
      | false => rw [hc] at hs; simp at hs
      | true =>
        rw [hc] at hs
        simp only [cond_true, Option.some.injEq] at hs
        subst hs
        simp only [Bool.and_eq_true] at hc
        obtain ⟨⟨⟨rfl, hin⟩, hxd⟩, hni⟩ := hc
        rw [inRange_iff] at hin
        cases hm with
        | @mapr _ _ b hb =>
          obtain ⟨es, clock, hmb, o1, o2, o3, o4, o5, o6⟩ := map_obj h hb hg
          have hlt : n.toNat < es.size := by rw [← o1.1]; omega
          have hfind : es.findIdx? (fun e => (e.born : Int) == n) = some n.toNat := by
            rw [Array.findIdx?_eq_some_iff_getElem]
            refine ⟨hlt, ?_, fun j hj => ?_⟩
            · have := (o5 rfl).2 n.toNat es[n.toNat] (by simp [hlt])
              rw [this]; simp; omega
            · have := (o5 rfl).2 j (es[j]'(by omega)) (by simp)
              rw [this]; simp; omega
          exact ⟨_, by simp [Instr.entryStore, getObj_map hmb, asInt, asIntOf, hfind, setObj_map _ hmb], _, map_put h hb hg hni hmb hlt (hx.data hxd) ho h1 h2 h3⟩
    · simp at hs
  · simp at hs
theorem mapDel_sound (h : Rel P A nt pend env heap bor tm w U bl ob) {t ty : TypeId} {tys : Array TypeId} (hty : tys[0]? = some t) {m q : AV} {m' q' : Value} {heap' : Heap} (hs : mapDelAV P t heap m q = some heap') (hm : Rep w (forb A bl heap) U bl m m') (hq : Rep w (forb A bl heap) U bl q q') :
    ∃ w', (Builtin.delete_ tys ty #[m', q']).run P w = .ok (.tuple #[]) w' ∧ ∃ ob', Rel P A nt pend env heap' bor tm w' U bl ob' := by
  unfold mapDelAV at hs
  split at hs
  · rename_i kt e ht
    cases hqk : keyOk P kt q with
    | false => rw [hqk] at hs; simp at hs
    | true =>
      rw [hqk] at hs
      simp only [cond_true, Option.some.injEq] at hs
      subst hs
      obtain ⟨⟨b1, hb1⟩, hqd⟩ := keyOk_of hqk
      cases hm
      have hck := checkKey_run (em := true) depth0 10000 (by decide) kt q q' b1 hb1 hq
      exact ⟨w, by simp [Builtin.delete_, hty, run_und ht (by simp), hck], ob, h⟩
  · rename_i kt e id ht
    split at hs
    · rename_i kt2 reg ents hg
      cases hc : (Nat.beq kt kt2 && keyOk P kt q && noIter id heap) with
      | false => rw [hc] at hs; simp at hs
      | true =>
        rw [hc] at hs
        simp only [cond_true] at hs
        simp only [Bool.and_eq_true, beq_eq, decide_eq_true_eq] at hc
        obtain ⟨⟨rfl, hqk⟩, hni⟩ := hc
        obtain ⟨⟨b1, hb1⟩, hqd⟩ := keyOk_of hqk
        cases hm with
        | @mapr _ _ b hb =>
          obtain ⟨es, clock, hmb, o1, o2, o3, o4, o5, o6⟩ := map_obj h hb hg
          have hfk := findKey_run (w := w) (F := forb A bl heap) (U := U) (bl := []) (hq.data hqd) hqk (ents := ents) (es := es.toList) (by simpa using o1.1) o3 (fun j p e hp he => (o1.2 j p e hp (by simpa using he)).1)
          have hck := checkKey_run (em := es.isEmpty) depth0 10000 (by decide) kt q q' b1 hb1 hq
          cases hp : mpos P kt ents q with
          | none =>
            rw [hp] at hfk hs
            simp only [found] at hfk
            simp only [Option.some.injEq] at hs
            subst hs
            refine ⟨w, ?_, ob, h⟩
            simp [Builtin.delete_, hty, run_und ht (by simp), getObj_map hmb, hck, hfk, setObj_map _ hmb, heap_same hmb]
          | some i =>
            rw [hp] at hfk hs
            obtain ⟨hi, p, hpi, hpe⟩ := mpos_lt hp
            rw [found_get o1.1 hi] at hfk
            simp only [Option.some.injEq] at hs
            subst hs
            have hlt : i < es.size := by rw [← o1.1]; exact hi
            refine ⟨{ w with heap := w.heap.setIfInBounds b (.map (es.eraseIdxIfInBounds i) clock) }, by simp [Builtin.delete_, hty, run_und ht (by simp), getObj_map hmb, hck, hfk, setObj_map _ hmb], mapOb ob id es.size (fun j => if j < i then j else j + 1) (fun _ => none), ?_⟩
            have he : es.eraseIdxIfInBounds i = es.eraseIdx i hlt := by simp [Array.eraseIdxIfInBounds, hlt]
            have hes : ∀ j : Nat, (es.eraseIdxIfInBounds i)[j]? = if j < i then es[j]? else es[j + 1]? := by
              intro j; rw [he, Array.getElem?_eraseIdx]
            have hen : ∀ j : Nat, (ents.eraseIdx i)[j]? = if j < i then ents[j]? else ents[j + 1]? := by
              intro j; rw [List.getElem?_eraseIdx]
            have hσ : ∀ j, ∃ k, k = (if j < i then j else j + 1) ∧ (es.eraseIdxIfInBounds i)[j]? = es[k]? ∧ (ents.eraseIdx i)[j]? = ents[k]? := by
              intro j
              refine ⟨_, rfl, ?_, ?_⟩
              · rw [hes]; split <;> rfl
              · rw [hen]; split <;> rfl
            have hinj : ∀ j k : Nat, (if j < i then j else j + 1) = (if k < i then k else k + 1) → j = k := by
              intro j k hjk
              split at hjk <;> split at hjk <;> omega
            refine map_gen h hb hg hni hmb (i0 := es.size) (σ := fun j => if j < i then j else j + 1) (ov := fun _ => none) (fun j k _ _ hjk => hinj j k hjk) (fun p b hh => by simp at hh) (fun p q b hh => by simp at hh) (fun p b l hh => by simp at hh) fun w' F hw' hr hov => ?_
            refine ⟨_, clock, hw', ⟨by rw [he, List.length_eraseIdx_of_lt hi]; simp [o1.1], fun j p e hp he => ?_⟩, ⟨fun j e he => ?_, fun j k e f he hf hef => ?_⟩, fun p hp => ?_, fun j k p r hp hrr hpq => ?_, fun hf => (by cases hf), fun j p e hp he => ?_⟩
            · obtain ⟨k, _, k1, k2⟩ := hσ j
              rw [k1] at he; rw [k2] at hp
              exact ⟨hr _ _ _ (o1.2 k p e hp he).1, hr _ _ _ (o1.2 k p e hp he).2⟩
            · obtain ⟨k, _, k1, k2⟩ := hσ j
              rw [k1] at he; exact o2.1 k e he
            · obtain ⟨j', hj', k1, _⟩ := hσ j
              obtain ⟨k', hk', k2, _⟩ := hσ k
              rw [k1] at he; rw [k2] at hf
              have := o2.2 j' k' e f he hf hef
              rw [hj', hk'] at this
              exact hinj j k this
            · exact o3 p (List.mem_of_mem_eraseIdx hp)
            · obtain ⟨j', hj', _, k1⟩ := hσ j
              obtain ⟨k', hk', _, k2⟩ := hσ k
              rw [k1] at hp; rw [k2] at hrr
              have := o4 j' k' p r hp hrr hpq
              rw [hj', hk'] at this
              exact hinj j k this
            · have hjl : j ≠ es.size := by
                intro e1
                have := (Array.getElem?_eq_some_iff.1 he).1
                rw [‹es.eraseIdxIfInBounds i = _›] at this
                simp at this; omega
              simp only [if_neg hjl]
              obtain ⟨k, hk, k1, k2⟩ := hσ j
              rw [k1] at he; rw [k2] at hp
              rw [← hk]
              exact hov _ _ _ (fun p hh => (h.obok _ _ hh).2.2 id hb) (o6 k p e hp he)
    · simp at hs
  · simp at hs
end
end Ax

namespace Ax
open Go Go.RowKit
section
variable {P : Program} {A : Amb} {nt : Nat} {pend : List (Nat × AObj)} {env : Env} {heap : Heap} {bor : Option (Nat × AV)} {tm : Array Value} {w : World} {U : Nat → Nat} {bl : Blocks} {ob : Loc → Option Nat}
theorem Rel.kill (h : Rel P A nt pend env heap bor tm w U bl ob) {id b : Nat} (hid : bl[id]? = some (some b)) : Rel P A nt pend env (heap.set id .dead) bor tm w U bl ob := by
  have hidl : id < heap.length := by rw [← h.len]; exact (List.getElem?_eq_some_iff.1 hid).1
  have hget : ∀ j, (heap.set id .dead).get j = if id = j then .dead else heap.get j := by
    intro j; rw [heap_get_set]
    by_cases e : id = j
    · subst e; simp [hidl]
    · simp [e]
  have hforb : ∀ c, forb A bl (heap.set id .dead) c → forb A bl heap c := by
    rintro c (hf | ⟨j, hj, hd⟩)
    · exact .inl hf
    · rw [hget] at hd
      split at hd
      · exact absurd rfl hd
      · exact .inr ⟨j, hj, hd⟩
  have g0 : Grow0 w (forb A bl heap) U w (forb A bl (heap.set id .dead)) U := ⟨fun c _ hf => .inl (hforb c hf), fun c _ _ => ⟨Nat.le_refl _, fun _ _ => rfl⟩, fun _ hb => ⟨hb, Nat.le_refl _⟩⟩
  have kp : ∀ c, c < w.heap.size → ¬ forb A bl heap c → w.heap[c]? = w.heap[c]? ∧ U c = U c ∧ ¬ forb A bl (heap.set id .dead) c := fun c _ hn => ⟨rfl, rfl, fun hf => hn (hforb c hf)⟩
  refine { size := h.size, env := fun t => ⟨(h.env t).1.mono g0 (BlLe.refl _), ownAt_keeps (h.env t).2 g0 (fun p c _ => kp c)⟩, len := by rw [heap_set_length]; exact h.len, objs := ?_, inj := h.inj, base := h.base, obinj := h.obinj, obok := h.obok, since := ?_, f0 := h.f0, hB := h.hB, hG := h.hG, pend := fun p hp => ?_, fro := fun j hj => (by
    rw [hget] at hj
    by_cases e : id = j
    · rw [if_pos e] at hj; cases hj
    · rw [if_neg e] at hj; exact h.fro j hj) }
  · intro j c hj
    rw [hget]
    by_cases e : id = j
    · rw [if_pos e]; trivial
    · rw [if_neg e]
      exact obj_keeps (h.objs j c hj) g0 (BlLe.refl _) rfl (fun _ => rfl) (fun _ _ _ _ _ _ => rfl) (fun d _ => kp d)
  · refine { below := h.since.below, g0 := h.since.g0.trans g0 h.since.below.size, ble := h.since.ble, pnd := fun j hj => ?_, gown := h.since.gown, blen := h.since.blen, ub := h.since.ub }
    obtain ⟨p1, p2⟩ := h.since.pnd j hj
    refine ⟨p1, ?_⟩
    rw [hget, if_neg (fun e => by subst e; rw [hid] at p1; simp at p1)]
    exact p2
  · obtain ⟨q1, q2⟩ := h.pend p hp
    refine ⟨q1, ?_⟩
    rw [hget, if_neg (fun e => by subst e; rw [hid] at q1; simp at q1)]
    exact q2
theorem Rel.newObj (h : Rel P A nt pend env heap bor tm w U bl ob) (hA : A.bl0.length ≤ heap.length) {q : AObj} (hq : q.isArr = false) {O : Obj}
    (hobj : ∀ F bl2, Grow0 w (forb A bl heap) U { w with heap := w.heap.push O } F U → BlLe bl bl2 → ObjRep P { w with heap := w.heap.push O } F U bl2 A.B (fun i p => ob (.cell heap.length i p)) (fun i p => ob (.mapv heap.length i p)) (borAt bor heap.length) q w.heap.size) :
    ∃ bl2, bl2[heap.length]? = some (some w.heap.size) ∧ Rel P A nt pend env (heap ++ [q]) bor tm { w with heap := w.heap.push O } U bl2 ob := by
  have h0 := h.hoist [q] (fun o ho => by simp at ho; subst ho; exact hq)
  have hid : (bl ++ List.replicate 1 none)[heap.length]? = some none := by rw [← h.len, List.getElem?_append_right (Nat.le_refl _)]; simp
  have hlt := (List.getElem?_eq_some_iff.1 hid).1
  have hle : BlLe bl ((bl ++ List.replicate 1 none).set heap.length (some w.heap.size)) := fun j b hj => by
    have hl := (List.getElem?_eq_some_iff.1 hj).1
    rw [List.getElem?_set, if_neg (by rw [h.len] at hl; omega), List.getElem?_append_left hl]; exact hj
  have hforb : ∀ b, b < w.heap.size → forb A ((bl ++ List.replicate 1 none).set heap.length (some w.heap.size)) (heap ++ [q]) b → forb A bl heap b := by
    rintro b hb (hf | ⟨j, hj, hdd⟩)
    · exact .inl hf
    · rw [List.getElem?_set] at hj
      by_cases e : heap.length = j
      · rw [if_pos e] at hj
        rw [if_pos hlt] at hj
        simp at hj; omega
      · rw [if_neg e] at hj
        by_cases hjl : j < bl.length
        · rw [List.getElem?_append_left hjl] at hj
          rw [heap_get_append, if_pos (by rw [← h.len]; exact hjl)] at hdd
          exact .inr ⟨j, hj, hdd⟩
        · rw [List.getElem?_append_right (by omega), List.getElem?_replicate] at hj
          split at hj <;> simp at hj
  have hblk : ∀ b, b < w.heap.size → ({ w with heap := w.heap.push O } : World).heap[b]? = w.heap[b]? := fun b hb => by show (w.heap.push _)[b]? = _; rw [Array.getElem?_push, if_neg (by omega)]
  have h' := h0.adopt hid (o := O) rfl (by
    rw [show Heap.get (heap ++ [q]) heap.length = q by rw [heap_get_append, if_neg (by omega)]; simp [Heap.get]]
    exact hobj _ _ ⟨fun b hb hf => .inl (hforb b hb hf), fun b hb _ => ⟨Nat.le_refl _, fun o _ => cell_block (hblk b hb) o⟩, fun b hb => ⟨by simp; omega, Nat.le_refl _⟩⟩ hle) (by rw [List.getElem?_eq_none hA]; simp)
  refine ⟨_, by rw [List.getElem?_set, if_pos rfl, if_pos (by simpa using hlt)], h'.unpend (fun p hp => List.mem_filter.2 ⟨List.mem_append_left _ hp, ?_⟩)⟩
  have := (List.getElem?_eq_some_iff.1 (h.pend p hp).1).1
  rw [h.len] at this
  simp; omega
theorem filter_born : ∀ {l : List MapEntry} {j : Nat} {e : MapEntry}, (l.map (·.born)).Nodup → l[j]? = some e → l.filter (fun x => x.born != e.born) = l.eraseIdx j
  | [], j, e, _, hj => by simp at hj
  | x :: r, 0, e, hn, hj => by
    simp only [List.getElem?_cons_zero, Option.some.injEq] at hj
    subst hj
    simp only [List.map_cons, List.nodup_cons, List.mem_map, not_exists, not_and] at hn
    rw [List.filter_cons_of_neg (by simp), List.eraseIdx_zero, List.tail_cons, List.filter_eq_self]
    intro y hy
    simpa using hn.1 y hy
  | x :: r, j + 1, e, hn, hj => by
    have hj : r[j]? = some e := by simpa using hj
    simp only [List.map_cons, List.nodup_cons, List.mem_map, not_exists, not_and] at hn
    rw [List.filter_cons_of_pos (by simpa using fun h => hn.1 e (List.mem_of_getElem? hj) h.symm), List.eraseIdx_cons_succ, filter_born hn.2 hj]
theorem fresh_nodup {clock : Nat} {es : Array MapEntry} (h : Fresh clock es) : (es.toList.map (·.born)).Nodup := by
  rw [List.nodup_iff_pairwise_ne, List.pairwise_iff_getElem]
  intro i j hi hj hij e
  simp at hi hj
  have := h.2 i j es[i] es[j] (by simp) (by simp) (by simpa using e)
  omega
theorem left_push {clock : Nat} {es : Array MapEntry} {seen : Array Nat} {j : Nat} {e : MapEntry} (h : Fresh clock es) (hj : (leftOf es seen).toList[j]? = some e) : (leftOf es (seen.push e.born)).toList = (leftOf es seen).toList.eraseIdx j := by
  have hn : ((leftOf es seen).toList.map (·.born)).Nodup := by
    unfold leftOf
    rw [Array.toList_filter]
    exact List.Sublist.nodup (List.Sublist.map _ List.filter_sublist) (fresh_nodup h)
  rw [← filter_born hn hj]
  unfold leftOf
  rw [Array.toList_filter, Array.toList_filter, List.filter_filter]
  refine List.filter_congr fun x _ => ?_
  by_cases e1 : x.born = e.born
  · simp [e1]
  · simp [Array.contains_push, e1]
theorem left_mem {es : Array MapEntry} {seen : Array Nat} {e : MapEntry} (h : e ∈ (leftOf es seen).toList) : e ∈ es := by
  unfold leftOf at h
  simp at h
  exact h.1
theorem find_born {clock : Nat} {es : Array MapEntry} (h : Fresh clock es) {e : MapEntry} (he : e ∈ es) : es.find? (fun x => x.born == e.born) = some e := by
  obtain ⟨i, hi, rfl⟩ := Array.getElem_of_mem he
  rw [Array.find?_eq_some_iff_getElem]
  refine ⟨by simp, i, hi, rfl, fun j hj => ?_⟩
  simp only [Bool.not_eq_true', beq_eq_false_iff_ne, ne_eq]
  intro e2
  have := h.2 j i es[j] es[i] (by simp) (by simp [hi]) e2
  omega
theorem left_nil (es : Array MapEntry) : leftOf es #[] = es := by unfold leftOf; simp
variable {a : Act}
theorem range_wp (ha : a.defers = A.ds) (h : Rel P A nt pend env heap bor a.tmps w U bl ob) {o : Oper} {t : TypeId} {x : Operand} {q : AObj} (ho : o.op = .range t x) (hd : ∀ t, o.dst = some t → t < nt) (hq : rangeAV P t heap (evo P t env x).strip = some q)
    (hA : A.bl0.length ≤ heap.length) {k : St → Prop} {Q : Exit → Act → World → Prop} (hk : putK env o.dst (.iter heap.length) fun env => k ⟨env, heap ++ [q], [], bor⟩) : o.wp P a w (NextIs P A nt pend k) Q := by
  have hx := (evo_at (a := a) h t x).strip
  have fin : ∀ {O : Obj}, q.isArr = false → (Instr.range t (a.eval x)).run P w = .ok (.pointer (some ⟨w.heap.size, 0, none⟩)) { w with heap := w.heap.push O } →
      (∀ F bl2, Grow0 w (forb A bl heap) U { w with heap := w.heap.push O } F U → BlLe bl bl2 → ObjRep P { w with heap := w.heap.push O } F U bl2 A.B (fun i p => ob (.cell heap.length i p)) (fun i p => ob (.mapv heap.length i p)) (borAt bor heap.length) q w.heap.size) → o.wp P a w (NextIs P A nt pend k) Q := by
    intro O hqa hrun hobj
    obtain ⟨bl2, hb2, h1⟩ := h.newObj hA hqa hobj
    obtain ⟨ob', h2⟩ := h1.put0 hd (v := .iter heap.length) (x := .pointer (some ⟨w.heap.size, 0, none⟩)) (.iter hb2) (fun own => .bare (bare_of rfl))
    refine value_wp (x := .pointer (some ⟨w.heap.size, 0, none⟩)) (w' := { w with heap := w.heap.push O }) ?_ (next_put ha ⟨_, _, ob', h2⟩ hk)
    unfold execOp
    rw [ho]
    simp only [Sem.run_bind, hrun, Result.andThen_ok, Sem.run_pure]
  unfold rangeAV at hq
  split at hq
  · rename_i k0 e0 ht hxe
    rw [hxe] at hx
    simp only [Option.some.injEq] at hq
    subst hq
    generalize hxv : a.eval x = xv at hx fin
    cases hx
    refine fin (O := .mapIter none 0 #[] 0) rfl ?_ (fun F bl2 g hle => ⟨rfl, 0, #[], 0, by show (w.heap.push _)[w.heap.size]? = _; rw [Array.getElem?_push, if_pos rfl]⟩)
    simp [Instr.range, run_und ht (by simp), newObj]
    rfl
  · rename_i k0 e0 id ht hxe
    rw [hxe] at hx
    split at hq
    · rename_i kt reg ents hg
      simp only [Option.some.injEq] at hq
      subst hq
      generalize hxv : a.eval x = xv at hx fin
      cases hx with
      | @mapr _ _ b hb =>
        obtain ⟨es, clock, hmb, o1, o2, o3, o4, o5, o6⟩ := map_obj h hb hg
        have hlt := lt_of_some hmb
        refine fin (O := .mapIter (some b) clock #[] clock) rfl ?_ (fun F bl2 g hle => ⟨b, es, clock, #[], clock, hle _ _ hb, by show (w.heap.push _)[b]? = _; rw [Array.getElem?_push, if_neg (by omega)]; exact hmb, by show (w.heap.push _)[w.heap.size]? = _; rw [Array.getElem?_push, if_pos rfl], Nat.le_refl _, o2, ?_⟩)
        · simp [Instr.range, run_und ht (by simp), getObj_map hmb, newObj]
          rfl
        · rw [left_nil]
          exact ⟨⟨o1.1, fun i p e hp he => ⟨((o1.2 i p e hp he).1).mono g (BlLe.refl _), ((o1.2 i p e hp he).2).mono g (BlLe.refl _)⟩⟩, fun p hp => by cases hp⟩
    · simp at hq
  · simp at hq
theorem next_wp (ha : a.defers = A.ds) (h : Rel P A nt pend env heap bor a.tmps w U bl ob) {o : Oper} {it : Operand} {id : Nat} {q : Option Nat} {left cu : List (AV × AV)} (ho : o.op = .next it false) (hd : ∀ t, o.dst = some t → t < nt) (hit : evo P 0 env it = .iter id) (hg : heap.get id = .iter q left cu)
    {k : St → Prop} {Q : Exit → Act → World → Prop} (h0 : Nat.beq left.length 0 = true → putK env o.dst (.tup [.bool false]) fun env => k ⟨env, heap.set id .dead, [], bor⟩)
    (h1 : Nat.beq left.length 0 = false → ∀ j, j < left.length → putK env o.dst (leftAt left j) fun env => k ⟨env, heap.set id (.iter q (left.eraseIdx j) (curAt left j)), [], bor⟩) : o.wp P a w (NextIs P A nt pend k) Q := by
  have hx := evo_at (a := a) h 0 it
  rw [hit] at hx
  generalize hxv : a.eval it = xv at hx
  cases hx with
  | @iter _ _ b hb =>
    have hobj := h.objs id b hb
    rw [hg] at hobj
    have over : left.length = 0 → (Instr.next (.pointer (some ⟨b, 0, none⟩)) false o.type).run P w = .ok (.tuple #[.bool false]) w → o.wp P a w (NextIs P A nt pend k) Q := by
      intro hl hrun
      obtain ⟨ob', h2⟩ := (h.kill hb).put0 hd (v := .tup [.bool false]) (x := .tuple #[.bool false]) (.tup rfl fun i x y hx hy => by
        cases i with
        | zero => simp at hx hy; subst hx hy; exact .bool
        | succ i => simp at hx) (fun own => .bare (by
          have := strip_bare (.tup [.bool false])
          simpa only [AV.strip, AV.stripL] using this))
      refine value_wp (x := .tuple #[.bool false]) (w' := w) ?_ (next_put ha ⟨_, _, ob', h2⟩ (h0 (by rw [hl]; rfl)))
      unfold execOp
      rw [ho]
      simp only [hxv, Sem.run_bind, hrun, Result.andThen_ok, Sem.run_pure]
    cases q with
    | none =>
      obtain ⟨rfl, s, l, r, hbo⟩ := hobj
      refine over rfl ?_
      simp [Instr.next, getObj, Sem.run, hbo]
    | some qid =>
      obtain ⟨bm, es, clock, seen, last, k1, k2, k3, k4, k5, k6, _⟩ := hobj
      rcases run_next_at (P := P) w o.type b bm clock last seen es clock k3 k2 (fun x hx => by
          obtain ⟨i, hi⟩ := List.getElem?_of_mem hx
          exact k5.1 i x (by simpa using hi)) k4 with ⟨hz, hrun⟩ | ⟨e, he, w1, hw1, hrun⟩
      · exact over (by rw [k6.1]; exact hz) hrun
      · obtain ⟨j, hj⟩ := List.getElem?_of_mem he
        have hjs := (List.getElem?_eq_some_iff.1 hj).1
        have hjl : j < left.length := by rw [k6.1]; simpa using hjs
        obtain ⟨p, hp⟩ : ∃ p, left[j]? = some p := ⟨left[j], List.getElem?_eq_getElem hjl⟩
        obtain ⟨r1, r2⟩ := k6.2 j p e hp (by simpa using hj)
        have hh1 : w1.heap = w.heap := by rcases hw1 with rfl | rfl <;> rfl
        have hext : Ext w U w1 U := by
          rcases hw1 with rfl | rfl
          · exact Ext.refl _ _
          · exact drew_ext w (w.drawn + 1) U (Nat.le_succ _)
        have hr1 := h.ext hext
        have hlt := lt_of_some k3
        have hne : bm ≠ b := fun e => by subst e; rw [k2] at k3; cases k3
        have hw : Wrote w1 b (.mapIter (some bm) clock (seen.push e.born) clock) (Go.ChangeMaps.setBlock w1 b (.mapIter (some bm) clock (seen.push e.born) clock)) := by
          refine ⟨rfl, rfl, rfl, by simp [Go.ChangeMaps.setBlock], by simp [Go.ChangeMaps.setBlock, hh1, hlt], fun c hc => ?_, rfl⟩
          show (w1.heap.setIfInBounds b _)[c]? = _
          rw [Array.getElem?_setIfInBounds, if_neg (fun e => hc e.symm)]
        have hrel : Rel P A nt pend env (heap.set id (.iter (some qid) (left.eraseIdx j) (curAt left j))) bor a.tmps (Go.ChangeMaps.setBlock w1 b (.mapIter (some bm) clock (seen.push e.born) clock)) U bl ob := by
          refine hr1.write hb (by rw [hg]; simp) (.inr (by intro kt reg ents e; rw [hg] at e; cases e)) (by simp) (by simp [AObj.isO]) hw (bor' := bor) (fun F hF hmono howns => ?_) (fun l _ _ => rfl) h.obinj (fun l c hl => hr1.obok l c hl) (fun j hj => rfl)
          have hFr : ∀ bl2 v x, Rep w (forb A bl heap) U bl2 v x → Rep w1 F U bl2 v x := fun bl2 v x hr => hr.mono ⟨fun c _ hf => .inl ((hF c).1 hf), fun c hc _ => ⟨Nat.le_refl _, fun o _ => cell_block (by rw [hh1]) o⟩, fun c hc => ⟨by rw [hh1]; exact hc, Nat.le_refl _⟩⟩ (BlLe.refl _)
          have hleft := left_push k5 hj
          refine ⟨bm, es, clock, seen.push e.born, clock, k1, by rw [hw.other bm hne, hh1]; exact k2, hw.here, Nat.le_refl _, k5, ⟨?_, fun i p' e' hp' he' => ?_⟩, fun p' hp' => ⟨rfl, e, by simp, find_born k5 (left_mem (List.mem_of_getElem? hj)), ?_⟩⟩
          · rw [← Array.length_toList, hleft, List.length_eraseIdx_of_lt hjl, List.length_eraseIdx_of_lt hjs, k6.1]
            simp
          · rw [← Array.getElem?_toList, hleft, List.getElem?_eraseIdx] at he'
            rw [List.getElem?_eraseIdx] at hp'
            have : ∃ i' : Nat, left[i']? = some p' ∧ (leftOf es seen)[i']? = some e' := by
              by_cases e1 : i < j
              · rw [if_pos e1] at hp' he'; exact ⟨i, hp', by simpa using he'⟩
              · rw [if_neg e1] at hp' he'; exact ⟨i + 1, hp', by simpa using he'⟩
            obtain ⟨i', q1, q2⟩ := this
            obtain ⟨s1, s2⟩ := k6.2 i' p' e' q1 q2
            exact ⟨hmono _ _ _ (hFr _ _ _ s1), hmono _ _ _ (hFr _ _ _ s2)⟩
          · have hpe : p' = p := by
              simp only [curAt, List.getD, hp, Option.getD_some, List.cons.injEq, and_true] at hp'
              exact hp'.symm
            subst hpe
            exact ⟨hmono _ _ _ (hFr _ _ _ r1), hmono _ _ _ (hFr _ _ _ r2)⟩
        have hforb : ∀ c, forb A bl (heap.set id (.iter (some qid) (left.eraseIdx j) (curAt left j))) c → forb A bl heap c := by
          rintro c (hf | ⟨i, hi, hdd⟩)
          · exact .inl hf
          · refine .inr ⟨i, hi, ?_⟩
            rw [heap_get_set] at hdd
            by_cases e1 : id = i ∧ i < heap.length
            · rw [← e1.1, hg]; simp
            · rw [if_neg e1] at hdd; exact hdd
        have g : Grow0 w (forb A bl heap) U (Go.ChangeMaps.setBlock w1 b (.mapIter (some bm) clock (seen.push e.born) clock)) (forb A bl (heap.set id (.iter (some qid) (left.eraseIdx j) (curAt left j)))) U := by
          refine ⟨fun c _ hf => .inl (hforb c hf), fun c _ hc => ⟨Nat.le_refl _, fun o _ => cell_block ?_ o⟩, fun c hc => ⟨by rw [hw.size, hh1]; exact hc, Nat.le_refl _⟩⟩
          rw [hw.other c (fun e => by subst e; exact hc (.inr ⟨id, hb, by rw [hg]; simp⟩)), hh1]
        have hval : leftAt left j = (AV.tup [.bool true, p.1, p.2]).strip := by
          simp [leftAt, List.getD, hp, AV.strip, AV.stripL]
        obtain ⟨ob', h2⟩ := hrel.put0 hd (v := leftAt left j) (x := .tuple #[.bool true, e.key, e.val]) (by
          rw [hval]
          refine Rep.strip (.tup rfl fun i x y hx hy => ?_)
          match i with
          | 0 => simp at hx hy; subst hx hy; exact .bool
          | 1 => simp at hx hy; subst hx hy; exact (r1.mono g (BlLe.refl _)).ofNil
          | 2 => simp at hx hy; subst hx hy; exact (r2.mono g (BlLe.refl _)).ofNil
          | i + 3 => simp at hx) (fun own => by rw [hval]; exact .bare (strip_bare _))
        have hnz : Nat.beq left.length 0 = false := by rw [beq_eq, decide_eq_false_iff_not]; omega
        refine value_wp (x := .tuple #[.bool true, e.key, e.val]) (w' := Go.ChangeMaps.setBlock w1 b (.mapIter (some bm) clock (seen.push e.born) clock)) ?_ (next_put ha ⟨_, _, ob', h2⟩ (h1 hnz j hjl))
        unfold execOp
        rw [ho]
        simp only [hxv, Sem.run_bind, hrun, Result.andThen_ok, Sem.run_pure]
end
end Ax
