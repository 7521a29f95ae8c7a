import Derived.Test.YtflebdkgdnfjoaaMD
import Derived.IntWalk
/- One operation of the model beside one of the abstract machine. -/
set_option linter.unusedVariables false
set_option linter.unusedSimpArgs false
namespace Ax
open Go Go.RowKit

def Good (P : Program) (A : Amb) (nt : Nat) (pend : List (Nat × AObj)) : St → Act → World → Prop
  | ⟨env, heap, defers, bor⟩, a, w => a.defers = A.ds ∧ defers = [] ∧ ∃ U bl ob, Rel P A nt pend env heap bor a.tmps w U bl ob

def NameOK (P : Program) : Prop := ∀ (f : Nat) fn, P.funcs[f]? = some fn → fn.body.isSome = true → (fn.name == "runtime.NumGoroutine") = false
/-- A function with a body of its own. -/
def Bodied (P : Program) (f : FuncId) : Prop := ∃ fn : Func, P.funcs[f]? = some fn ∧ fn.body.isSome = true

def CallOK (P : Program) (f : FuncId) (args : List AV) (Q : AV → Prop) : Prop := Bodied P f ∧ ∀ (w : World) (F : Nat → Prop) (U : Nat → Nat) (vs : Array Value), (∀ b, F b → b < w.heap.size) → RepL w F U [] args vs.toList →
  Calls P f vs w fun e w' => ∃ r x U' own, e = .returned x ∧ Ext w U w' U' ∧ Rep w' F U' [] r x ∧ OwnAt w' F U' w.heap.size own r x ∧ (∀ p b, own p = some b → w.heap.size ≤ b ∧ b < w'.heap.size ∧ ∀ q, own q = some b → p = q) ∧ Q r
def InlOK (P : Program) (f : FuncId) (args : List AV) (heap : Heap) (k : AV → Heap → Prop) : Prop := Bodied P f ∧ ∀ (A : Amb) (w : World) (U : Nat → Nat) (bl : Blocks) (ob : Loc → Option Nat) (vs : Array Value),
  Rel P A 0 [] [] heap none #[] w U bl ob → RepL w (forb A bl heap) U bl args vs.toList →
  Calls P f vs w fun e w' => ∃ r x heap' U' bl' ob' own, e = .returned x ∧ Rel P A 0 [] [] heap' none #[] w' U' bl' ob' ∧ Rep w' (forb A bl' heap') U' bl' r x ∧ OwnAt w' (forb A bl' heap') U' A.B own r x ∧
    (∀ p b, own p = some b → (¬ A.G b ∧ b < w'.heap.size ∧ ∀ id : Nat, bl'[id]? ≠ some (some b)) ∧ (∀ q, own q = some b → p = q) ∧ ∀ l, ob' l ≠ some b) ∧ k r heap'

section
variable {P : Program} {A : Amb} {nt : Nat} {pend : List (Nat × AObj)} {env : Env} {heap : Heap} {bor : Option (Nat × AV)} {tm : Array Value} {w : World} {U : Nat → Nat} {bl : Blocks} {ob : Loc → Option Nat}

theorem setO_eq (env : Env) (d : Option Nat) (v : AV) : (match d with | some d => env.set d v | none => env) = setO env d v := rfl
theorem put_eq (a : Act) (d : Option Nat) (x : Value) : a.put d x = ⟨putO a.tmps d x, a.defers⟩ := by cases d <;> rfl

theorem value_wp {o : Oper} {a : Act} {w w' : World} {x : Value} {next : Act → World → Prop} {Q : Exit → Act → World → Prop} (hr : (execOp a.eval o).run P w = .ok (.value x) w') (hn : next ⟨putO a.tmps o.dst x, a.defers⟩ w') :
    o.wp P a w next Q := by
  unfold Oper.wp; rw [hr, Oper.upon_value, put_eq]; exact hn
theorem skip_wp {o : Oper} {a : Act} {w w' : World} {next : Act → World → Prop} {Q : Exit → Act → World → Prop} (hr : (execOp a.eval o).run P w = .ok .skip w') (hn : next ⟨putO a.tmps o.dst undef, a.defers⟩ w') :
    o.wp P a w next Q := by
  unfold Oper.wp; rw [hr, Oper.upon_skip, put_eq]; exact hn

/-- The state beside a world that only grew, with a value put. -/
theorem Rel.give (h : Rel P A nt pend env heap bor tm w U bl ob) {d : Option Nat} (hd : ∀ t, d = some t → t < nt) {v : AV} {x : Value} {w' : World} {U' : Nat → Nat} (e : Ext w U w' U')
    (hv : Rep w' (forb A bl heap) U' bl v x) (ho : ∀ own, OwnAt w' (forb A bl heap) U' A.B own v x) : ∃ U2 ob', Rel P A nt pend (setO env d v) heap bor (putO tm d x) w' U2 bl ob' := by
  obtain ⟨ob', h'⟩ := (h.ext e).put0 hd hv ho
  exact ⟨_, ob', h'⟩

theorem undef_rep (h : Rel P A nt pend env heap bor tm w U bl ob) {d : Option Nat} (hd : ∀ t, d = some t → t < nt) : ∃ ob', Rel P A nt pend (setO env d (.tup [])) heap bor (putO tm d undef) w U bl ob' :=
  h.put0 hd (.tup rfl (fun i x y hx => by simp at hx)) (fun own => .bare (bare_of rfl))

/-- A call without a way into the heap. -/
theorem call_pure (h : Rel P A nt pend env heap bor tm w U bl ob) {d : Option Nat} (hd : ∀ t, d = some t → t < nt) {f : FuncId} {args : List AV} {vs : Array Value} {Q : AV → Prop} (hc : CallOK P f args Q)
    (ha : RepL w (forb A bl heap) U bl args vs.toList) (hdata : AV.isDataL args = true) :
    Calls P f vs w fun e w' => ∃ r x, e = .returned x ∧ (∃ U' ob', Rel P A nt pend (setO env d r) heap bor (putO tm d x) w' U' bl ob') ∧ Q r := by
  have hF : ∀ b, forb A bl heap b → b < w.heap.size := by
    rintro b (hf | ⟨id, hi, _⟩)
    · have := h.f0 b hf; have := h.hB; omega
    · exact (h.base id b hi).2.1
  refine (hc.2 w (forb A bl heap) U vs hF ⟨ha.1, fun i x y hx hy => (ha.2 i x y hx hy).data (isDataL_get hdata i x hx)⟩).mono ?_
  rintro e w' ⟨r, x, U', own, rfl, hext, hrep, hown, hob, hq⟩
  refine ⟨r, x, rfl, ?_, hq⟩
  have h' := h.ext hext
  cases d with
  | none => exact ⟨_, _, h'⟩
  | some d =>
    refine ⟨_, _, h'.putG (hd d rfl) own hrep.ofNil (fun p u hp hou => ?_) (fun p b hb => ?_)⟩
    · obtain ⟨y, hy, ho⟩ := hown p u hp hou
      refine ⟨y, hy, ?_⟩
      unfold OwnOK at ho ⊢
      split at ho
      · rcases ho with ho | ⟨a, hn, e1, e2, e3, rest⟩
        · exact .inl ho
        · exact .inr ⟨a, hn, e1, e2, Nat.le_trans h.hB e3, rest⟩
      · obtain ⟨ao, cap, hx, hc, ho⟩ := ho
        refine ⟨ao, cap, hx, hc, ?_⟩
        rcases ho with ho | ⟨b, e1, e2, e3, rest⟩
        · exact .inl ho
        · exact .inr ⟨b, e1, e2, Nat.le_trans h.hB e3, rest⟩
      · obtain ⟨ao, cap, hx, hc, ho⟩ := ho
        refine ⟨ao, cap, hx, hc, ?_⟩
        rcases ho with ho | ⟨b, e1, e2, e3, rest⟩
        · exact .inl ho
        · exact .inr ⟨b, e1, e2, Nat.le_trans h.hB e3, rest⟩
      · trivial
    · obtain ⟨b1, b2, b3⟩ := hob p b hb
      exact ⟨⟨fun hg => by have := h.hG b hg; omega, b2, fun id hid => by have := (h.base id b hid).2.1; omega⟩, b3, fun l hl => absurd (h.obok l b hl).2.1 (by omega)⟩

theorem get_nil (t : Nat) : Env.get [] t = .undef := rfl

/-- The heap alone, for a call that shares it: what the caller's slots own is kept aside. -/
def Amb.inner (A : Amb) (ob : Loc → Option Nat) (w : World) (U : Nat → Nat) (bl : Blocks) (heap : Heap) : Amb :=
  { B := A.B, F0 := A.F0, G := fun b => A.G b ∨ ∃ t p, ob (.env t p) = some b, w0 := w, bl0 := bl, U0 := U, h0 := heap }

theorem Rel.inner (h : Rel P A nt pend env heap bor tm w U bl ob) (hb : bor = none) :
    Rel P (A.inner ob w U bl heap) 0 [] [] heap none #[] w U bl (fun l => match l with | .env _ _ => none | l => ob l) where
  size := Nat.zero_le _
  env t := ⟨.undef, .bare (bare_of rfl)⟩
  len := h.len
  objs id b hid := by subst hb; exact h.objs id b hid
  inj := h.inj
  base id b hid := by
    obtain ⟨b1, b2, b3, b4⟩ := h.base id b hid
    refine ⟨b1, b2, b3, ?_⟩
    rintro (hg | ⟨t, p, hp⟩)
    · exact b4 hg
    · exact (h.obok _ b hp).2.2 id hid
  obinj l m b hl hm := h.obinj l m b (by cases l <;> first | exact hl | simp at hl) (by cases m <;> first | exact hm | simp at hm)
  obok l b hl := by
    have hl' : ob l = some b := by cases l <;> first | exact hl | simp at hl
    refine ⟨?_, (h.obok l b hl').2.1, (h.obok l b hl').2.2⟩
    rintro (hg | ⟨t, p, hp⟩)
    · exact (h.obok l b hl').1 hg
    · have := h.obinj _ _ _ hl' hp
      subst this
      simp at hl
  since := { below := BelowD.refl _ _, g0 := Grow0.refl _ _ _, ble := BlLe.refl _, pnd := fun id hid => ⟨hid, .inl rfl⟩, gown := fun b _ => ⟨rfl, rfl⟩, blen := Nat.le_refl _, ub := fun b _ => rfl }
  f0 := h.f0
  hB := h.hB
  hG b hg := by
    rcases hg with hg | ⟨t, p, hp⟩
    · exact h.hG b hg
    · exact (h.obok _ b hp).2.1
  pend p hp := by simp at hp

theorem Rel.outer (h : Rel P A nt pend env heap none tm w U bl ob) {heap' : Heap} {w' : World} {U' : Nat → Nat} {bl' : Blocks} {ob' : Loc → Option Nat}
    (h' : Rel P (A.inner ob w U bl heap) 0 [] [] heap' none #[] w' U' bl' ob') : Rel P A nt pend env heap' none tm w' U' bl' (fun l => match l with | .env _ _ => ob l | l => ob' l) where
  size := h.size
  env t := by
    refine ⟨(h.env t).1.mono h'.since.g0 h'.since.ble, ownAt_keeps (h.env t).2 h'.since.g0 (fun p b hp hlt hF => ?_)⟩
    obtain ⟨g1, g2⟩ := h'.since.gown b (.inr ⟨t, p, hp⟩)
    refine ⟨g1, g2, ?_⟩
    rintro (hf | ⟨id, hid, _⟩)
    · exact hF (.inl hf)
    · exact (h'.base id b hid).2.2.2 (.inr ⟨t, p, hp⟩)
  len := h'.len
  objs id b hid := h'.objs id b hid
  inj := h'.inj
  base id b hid := by
    obtain ⟨b1, b2, b3, b4⟩ := h'.base id b hid
    exact ⟨b1, b2, b3, fun hg => b4 (.inl hg)⟩
  obinj l m b hl hm := by
    have kk : ∀ l, (match l with | Loc.env _ _ => ob l | l => ob' l) = some b → (∃ t p, l = .env t p ∧ ob l = some b) ∨ ((∀ t p, l ≠ .env t p) ∧ ob' l = some b) := by
      intro l hl
      cases l with
      | env t p => exact .inl ⟨t, p, rfl, hl⟩
      | cell id i p => exact .inr ⟨fun t p h => (by cases h), hl⟩
      | mapv id i p => exact .inr ⟨fun t p h => (by cases h), hl⟩
    rcases kk l hl with ⟨t, p, rfl, hl'⟩ | ⟨hn, hl'⟩ <;> rcases kk m hm with ⟨t', p', rfl, hm'⟩ | ⟨hn', hm'⟩
    · exact h.obinj _ _ b hl' hm'
    · exact absurd (.inr ⟨t, p, hl'⟩) (h'.obok m b hm').1
    · exact absurd (.inr ⟨t', p', hm'⟩) (h'.obok l b hl').1
    · exact h'.obinj _ _ b hl' hm'
  obok l b hl := by
    cases l with
    | env t p =>
      obtain ⟨o1, o2, o3⟩ := h.obok _ b hl
      exact ⟨o1, Nat.lt_of_lt_of_le o2 h'.since.below.size, fun id hid => (h'.base id b hid).2.2.2 (.inr ⟨t, p, hl⟩)⟩
    | cell id i p =>
      obtain ⟨o1, o2, o3⟩ := h'.obok _ b hl
      exact ⟨fun hg => o1 (.inl hg), o2, o3⟩
    | mapv id i p =>
      obtain ⟨o1, o2, o3⟩ := h'.obok _ b hl
      exact ⟨fun hg => o1 (.inl hg), o2, o3⟩
  since := by
    refine { below := h.since.below.trans h'.since.below, g0 := h.since.g0.trans h'.since.g0 h.since.below.size, ble := h.since.ble.trans h'.since.ble, pnd := fun id hid => ?_, gown := fun b hb => ?_, blen := Nat.le_trans h.since.blen h'.since.blen, ub := fun b hb => ?_ }
    · obtain ⟨p1, p2⟩ := h.since.pnd id hid
      obtain ⟨q1, q2⟩ := h'.since.pnd id p1
      refine ⟨q1, ?_⟩
      rcases p2 with p2 | p2
      · rcases q2 with q2 | q2
        · exact .inl (q2.trans p2)
        · right; rw [← p2]; exact q2
      · exact .inr p2
    · obtain ⟨g1, g2⟩ := h.since.gown b hb
      obtain ⟨k1, k2⟩ := h'.since.gown b (.inl hb)
      exact ⟨k1.trans g1, k2.trans g2⟩
    · exact (h'.since.ub b hb).trans (h.since.ub b hb)
  f0 := h.f0
  hB := Nat.le_trans h.hB h'.since.below.size
  hG b hb := Nat.lt_of_lt_of_le (h.hG b hb) h'.since.below.size
  pend p hp := by
    obtain ⟨p1, p2, p3⟩ := h.pend p hp
    obtain ⟨q1, q2⟩ := h'.since.pnd p.1 p1
    refine ⟨q1, ?_, p3⟩
    rcases q2 with q2 | q2
    · exact q2.trans p2
    · have q2 : (heap.get p.1).isArr = true := q2
      rw [p2, p3] at q2; cases q2

theorem call_inl (h : Rel P A nt pend env heap none tm w U bl ob) {d : Option Nat} (hd : ∀ t, d = some t → t < nt) {f : FuncId} {args : List AV} {vs : Array Value} {k : AV → Heap → Prop} (hc : InlOK P f args heap k)
    (ha : RepL w (forb A bl heap) U bl args vs.toList) :
    Calls P f vs w fun e w' => ∃ r x heap', e = .returned x ∧ (∃ U' bl' ob', Rel P A nt pend (setO env d r) heap' none (putO tm d x) w' U' bl' ob') ∧ k r heap' := by
  refine (hc.2 (A.inner ob w U bl heap) w U bl _ vs (h.inner rfl) ha).mono ?_
  rintro e w' ⟨r, x, heap', U', bl', ob', own, rfl, hrel, hrep, hown, hob, hk⟩
  refine ⟨r, x, heap', rfl, ?_, hk⟩
  have h' := h.outer hrel
  cases d with
  | none => exact ⟨_, _, _, h'⟩
  | some d =>
    refine ⟨_, _, _, h'.putG (hd d rfl) own hrep hown (fun p b hb => ?_)⟩
    obtain ⟨⟨o1, o2, o3⟩, o4, o5⟩ := hob p b hb
    refine ⟨⟨fun hg => o1 (.inl hg), o2, o3⟩, o4, fun l hl => ?_⟩
    exfalso
    cases l with
    | env t q => exact o1 (.inr ⟨t, q, hl⟩)
    | cell id i q => exact o5 _ hl
    | mapv id i p => exact o5 _ hl

theorem run_call_value {c : Call} {f : Operand} {ρ : Operand → Value} {ty : TypeId} {g : FuncId} {first caps : Array Value} (hc : c.callee = .value f) (hf : ρ f = .func (.func g) first caps) (hb : Bodied P g) (hN : NameOK P) :
    (do let d ← resolve ρ c ty; invoke d.target d.args : Sem Next).run P w = .ok (.enter g (first ++ c.args.map ρ ++ caps)) w := by
  obtain ⟨fn, h1, h2⟩ := hb
  have h3 := hN g fn h1 h2
  have h4 : fn.body.isNone = false := by cases hbd : fn.body <;> simp_all
  simp only [Sem.run_bind, resolve, hc, hf, Deferred.ofValue, Sem.run_pure, Result.andThen_ok, invoke, callFunc, run_program, h1]
  simp [h3, h4]

theorem run_call_builtin {c : Call} {b : Builtin} {ρ : Operand → Value} {ty : TypeId} (hc : c.callee = .builtin b) :
    ∃ cs, (do let d ← resolve ρ c ty; invoke d.target d.args : Sem Next).run P w = (builtin b c.argTypes ty cs (c.args.map ρ)).run P w := by
  simp only [Sem.run_bind, resolve, hc, Sem.run_pure, Result.andThen_ok, invoke]
  exact ⟨_, rfl⟩
end
end Ax

/- One operation. -/
set_option linter.unusedVariables false
set_option linter.unusedSimpArgs false
namespace Ax
open Go Go.RowKit

section
variable {P : Program} {A : Amb} {nt : Nat} {pend : List (Nat × AObj)} {a : Act} {w : World}

theorem good_mk {env : Env} {heap : Heap} {bor : Option (Nat × AV)} {tm : Array Value} {U : Nat → Nat} {bl : Blocks} {ob : Loc → Option Nat} (h : Rel P A nt pend env heap bor tm w U bl ob) : Good P A nt pend ⟨env, heap, [], bor⟩ ⟨tm, A.ds⟩ w :=
  ⟨rfl, rfl, U, bl, ob, h⟩

/-- The pending objects of a region from an operation on. -/
def pendFrom (P : Program) (base : Nat) (l : List Oper) : List (Nat × AObj) := waits base (hoistAll P l)

theorem evo_at {env : Env} {heap : Heap} {bor : Option (Nat × AV)} {U : Nat → Nat} {bl : Blocks} {ob : Loc → Option Nat} (h : Rel P A nt pend env heap bor a.tmps w U bl ob) (t : TypeId) (x : Operand) :
    Rep w (forb A bl heap) U bl (evo P t env x) (a.eval x) := evo_rep (fun t => (h.env t).1) t x

theorem const_own (t : TypeId) (v : Value) {F : Nat → Prop} {U : Nat → Nat} {B : Nat} (own : List Nat → Option Nat) : OwnAt w F U B own (ofConst P t v) v := (ofConst_rep (w := w) (F := F) (U := U) (bl := []) (B := B) (P := P) t v).2 own

theorem evo_const_own (t : TypeId) {x : Operand} (hx : ∀ s, x ≠ .tmp s) {env : Env} {F : Nat → Prop} {U : Nat → Nat} {B : Nat} (own : List Nat → Option Nat) : OwnAt w F U B own (evo P t env x) (a.eval x) := by
  cases x with
  | tmp s => exact absurd rfl (hx s)
  | const v => exact const_own t v own
  | func f => exact .bare (bare_of rfl)
  | global g => exact .bare (bare_of rfl)

/-- An operation's next slot. -/
abbrev NextIs (P : Program) (A : Amb) (nt : Nat) (pend : List (Nat × AObj)) (k : St → Prop) : Act → World → Prop := fun a' w' => ∃ st', Good P A nt pend st' a' w' ∧ k st'

theorem next_put {env : Env} {heap : Heap} {bor : Option (Nat × AV)} {a : Act} (ha : a.defers = A.ds) {d : Option Nat} {v : AV} {x : Value} {w' : World} {k : St → Prop} (h : ∃ U bl ob, Rel P A nt pend (setO env d v) heap bor (putO a.tmps d x) w' U bl ob)
    (hk : putK env d v fun env => k ⟨env, heap, [], bor⟩) : NextIs P A nt pend k ⟨putO a.tmps d x, a.defers⟩ w' := by
  obtain ⟨U, bl, ob, h⟩ := h
  rw [putK_eq] at hk
  refine ⟨_, ⟨ha, rfl, U, bl, ob, h⟩, hk⟩

/-- All operations that give a value and turn nothing. -/
theorem plain_wp {cx : Ctx} (hP : cx.P = P) {o : Oper} {env : Env} {heap : Heap} {bor : Option (Nat × AV)} {U : Nat → Nat} {bl : Blocks} {ob : Loc → Option Nat} (h : Rel P A nt pend env heap bor a.tmps w U bl ob) (ha : a.defers = A.ds)
    (hd : ∀ t, o.dst = some t → t < nt) {k : St → Prop} {Q : Exit → Act → World → Prop} {v : AV} (he : evalOp cx.P o env heap = some v) (hk : putK env o.dst v fun env => k ⟨env, heap, [], bor⟩) :
    o.wp P a w (NextIs P A nt pend k) Q := by
  subst hP
  obtain ⟨x, w', U', hr, hext, hrep, hown⟩ := evalOp_sound (B := A.B) he (fun t => (h.env t).1) h.objsOK (h.notF (Nat.le_refl _))
  obtain ⟨U2, ob', h'⟩ := h.give hd hext hrep hown
  exact value_wp hr (next_put ha ⟨U2, bl, ob', h'⟩ hk)
end
end Ax

/- A store; new objects. -/
set_option linter.unusedVariables false
set_option linter.unusedSimpArgs false
namespace Ax
open Go Go.RowKit

def pth (v : AV) (j : Nat) (p : List Nat) : List Nat := match v with | .agg _ => j :: p | _ => p

theorem cells_at {v c : AV} {j : Nat} (h : v.cells[j]? = some c) (hn : ∀ l, v ≠ .tup l) (p : List Nat) (u : AV) (hc : c.at p = some u) : v.at (pth v j p) = some u := by
  unfold AV.cells at h
  split at h
  · simp only [pth, AV.at, h]; exact hc
  · rename_i hna
    cases j with
    | zero =>
      simp at h; subst h
      have : pth v 0 p = p := by
        unfold pth
        split
        · exact absurd rfl (hna _)
        · rfl
      rw [this]; exact hc
    | succ j => simp at h

section
variable {P : Program} {A : Amb} {nt : Nat} {pend : List (Nat × AObj)} {env : Env} {heap : Heap} {bor : Option (Nat × AV)} {tm : Array Value} {w : World} {U : Nat → Nat} {bl : Blocks} {ob : Loc → Option Nat}

theorem storeAV_of {t : TypeId} {p v : AV} {h' : Heap} (h : storeAV P heap t p v = some h') : v.cells.length = tySz P t ∧ v.cells.all AV.scal = true ∧ ((∃ id off cs, p = .ptr id off ∧ heap.get id = .cells cs ∧ off + tySz P t ≤ cs.length ∧ h' = heap.set id (.cells (setRange cs off v.cells))) ∨
    ∃ id sz i off, p = .eptr id sz i off ∧ storeArr heap id sz i off v = some h') := by
  unfold storeAV at h
  cases hc : (!(Nat.beq v.cells.length (tySz P t)) || !(v.cells.all AV.scal)) with
  | true => rw [hc] at h; simp at h
  | false =>
    rw [hc] at h
    simp only [cond_false] at h
    simp only [Bool.or_eq_false_iff, Bool.not_eq_false', beq_eq, decide_eq_true_eq] at hc
    refine ⟨hc.1, hc.2, ?_⟩
    split at h
    · rename_i id off
      split at h
      · rename_i cs hg
        rw [ble_eq] at h
        by_cases hl : off + tySz P t ≤ cs.length
        · simp [hl] at h; exact .inl ⟨id, off, cs, rfl, hg, hl, h.symm⟩
        · simp [hl] at h
      · simp at h
    · exact .inr ⟨_, _, _, _, rfl, h⟩
    · simp at h

/-- A value with its ownership is stored into an object's cells. 'ov' says where the ownership of the value stood. -/
theorem store_gen (h : Rel P A nt pend env heap bor tm w U bl ob) {id off b : Nat} {cs : List AV} {t : TypeId} {v : AV} {x : Value} (hid : bl[id]? = some (some b)) (hg : heap.get id = .cells cs) (hl : off + tySz P t ≤ cs.length)
    (hv : Rep w (forb A bl heap) U bl v x) (hvl : v.cells.length = tySz P t) (hvs : v.cells.all AV.scal = true) (hpos : 0 < tySz P t) {ov : List Nat → Option Nat} (hov : OwnAt w (forb A bl heap) U A.B ov v x)
    (h1 : ∀ p b, ov p = some b → ¬ A.G b ∧ b < w.heap.size ∧ ∀ id : Nat, bl[id]? ≠ some (some b)) (h2 : ∀ p q b, ov p = some b → ov q = some b → p = q) (h3 : ∀ p b l, ov p = some b → ob l ≠ some b) :
    ∃ w', (Instr.storeAt t (.pointer (some ⟨b, off, none⟩)) x).run P w = .ok () w' ∧ ∃ ob', Rel P A nt pend env (heap.set id (.cells (setRange cs off v.cells))) bor tm w' U bl ob' := by
  obtain ⟨k1, k2, _⟩ := rep_cells hv hvs
  have hobj := h.objs id b hid
  rw [hg] at hobj
  obtain ⟨c, e, fr, o1, o2, o3, o4⟩ := hobj
  have hxl : x.cells.toList.length = tySz P t := by rw [← k1.1]; exact hvl
  obtain ⟨w', c', r1, r2, r3, r4⟩ := storeCells_run (P := P) b off x.cells.toList 0 w c e fr o1 (by omega) k2 (fun o h1 h2 => o3 o (by omega))
  have hnt : ∀ l, v ≠ .tup l := by intro l e; subst e; simp [AV.cells, AV.scal] at hvs
  refine ⟨w', ?_, fun l => match l with | .cell id' i p => if id' = id ∧ off ≤ i ∧ i < off + tySz P t then ov (pth v (i - off) p) else ob (.cell id' i p) | l => ob l, ?_⟩
  · unfold Instr.storeAt Instr.sureAddr storeVar
    simp only [Sem.run_bind, Sem.run_pure, Result.andThen_ok, run_size' hpos]
    rw [if_neg (by rw [← hxl]; simp)]
    exact r1
  · have hcl : ∀ i p b', (if True ∧ off ≤ i ∧ i < off + tySz P t then ov (pth v (i - off) p) else ob (.cell id i p)) = some b' → (off ≤ i ∧ i < off + tySz P t ∧ ov (pth v (i - off) p) = some b') ∨ ob (.cell id i p) = some b' := by
      intro i p b' hh
      by_cases hc : off ≤ i ∧ i < off + tySz P t
      · rw [if_pos ⟨trivial, hc⟩] at hh; exact .inl ⟨hc.1, hc.2, hh⟩
      · rw [if_neg (fun q => hc q.2)] at hh; exact .inr hh
    have key : ∀ l b', (match l with | Loc.cell id' i p => if id' = id ∧ off ≤ i ∧ i < off + tySz P t then ov (pth v (i - off) p) else ob (.cell id' i p) | l => ob l) = some b' →
        (∃ i p, l = .cell id i p ∧ off ≤ i ∧ i < off + tySz P t ∧ ov (pth v (i - off) p) = some b') ∨ ob l = some b' := by
      intro l b' hh
      cases l with
      | env t p => exact .inr hh
      | mapv j i q => exact .inr hh
      | cell j i p =>
        simp only at hh
        by_cases hc : j = id ∧ off ≤ i ∧ i < off + tySz P t
        · rw [if_pos hc] at hh; obtain ⟨rfl, c1, c2⟩ := hc; exact .inl ⟨i, p, rfl, c1, c2, hh⟩
        · rw [if_neg hc] at hh; exact .inr hh
    refine h.write hid (by rw [hg]; simp) (.inr (by intro kt reg ents e; rw [hg] at e; cases e)) (by simp) r2 (bor' := bor) (fun F hF hmono howns => ?_) (fun l hn1 hn2 => ?_) (fun l m b' hl' hm' => ?_) (fun l b' hl' => ?_) (fun j hj => rfl)
    · refine ⟨c', e, fr, r2.here, by rw [r3, setRange_length, o2], fun o ho => ?_, fun i y z hy hz => ?_⟩
      · have := o3 o (by rw [← r3]; exact ho)
        simp only [World.frozen?, r2.here]
        simp only [World.frozen?, o1] at this
        exact this
      · rw [setRange_get, hvl] at hy
        rw [r4, hxl] at hz
        simp only [Nat.add_zero] at hz
        have hFr : ∀ bl2 v x, Rep w (forb A bl heap) U bl2 v x → Rep w F U bl2 v x := fun bl2 v x hr => hr.mono ⟨fun c _ hf => .inl ((hF c).1 hf), fun c _ hc => ⟨Nat.le_refl _, fun o _ => rfl⟩⟩ (BlLe.refl _)
        have hFo : ∀ own v x, OwnAt w (forb A bl heap) U A.B own v x → OwnAt w F U A.B own v x := fun own v x ho => ownAt_keeps ho ⟨fun c _ hf => .inl ((hF c).1 hf), fun c _ hc => ⟨Nat.le_refl _, fun o _ => rfl⟩⟩ (fun p c _ _ hn => ⟨rfl, rfl, fun hf => hn ((hF c).1 hf)⟩)
        by_cases hc : off ≤ i ∧ i < off + tySz P t
        · rw [if_pos ⟨hc.1, hc.2, by omega⟩] at hy
          rw [if_pos (by omega)] at hz
          refine ⟨hmono _ _ _ (hFr _ _ _ (k1.2 _ y z hy (by simpa using hz))), ?_⟩
          have e1 : (fun p => if id = id ∧ off ≤ i ∧ i < off + tySz P t then ov (pth v (i - off) p) else ob (.cell id i p)) = fun p => ov (pth v (i - off) p) := funext fun p => if_pos ⟨rfl, hc.1, hc.2⟩
          show OwnAt w' F U A.B (fun p => if id = id ∧ off ≤ i ∧ i < off + tySz P t then ov (pth v (i - off) p) else ob (.cell id i p)) y z
          rw [e1]
          refine howns _ _ _ (fun p => ?_) (hFo _ _ _ ?_)
          · intro hh; exact (h1 _ _ hh).2.2 id hid
          · intro p u hp hou
            obtain ⟨q, hq, hok⟩ := hov _ u (cells_at hy hnt p u hp) hou
            refine ⟨q, ?_, hok⟩
            -- the model's value at that path
            unfold AV.cells at hy
            unfold pth at hq
            split at hy
            · rename_i l
              simp only at hq
              cases hv with
              | @agg _ _ vs hn hh =>
                simp only [vat] at hq
                have hz' : vs[i - off]? = some z := by simpa [Value.cells] using hz
                rw [hz'] at hq; exact hq
            · rename_i hna
              have hio : i - off = 0 := by
                have := (List.getElem?_eq_some_iff.1 hy).1; simp at this; omega
              rw [hio] at hy hz
              simp at hy; subst hy
              have hxc := (scal_rep hv (by
                have hh := hvs
                unfold AV.cells at hh
                split at hh
                · exact absurd rfl (hna _)
                · simpa using hh)).1
              rw [hxc] at hz
              simp at hz; subst hz
              split at hq
              · exact absurd rfl (hna _)
              · exact hq
        · rw [if_neg (fun q => hc ⟨q.1, q.2.1⟩)] at hy
          rw [if_neg (by omega)] at hz
          obtain ⟨q1, q2⟩ := o4 i y z hy hz
          refine ⟨hmono _ _ _ (hFr _ _ _ q1), ?_⟩
          have e1 : (fun p => if id = id ∧ off ≤ i ∧ i < off + tySz P t then ov (pth v (i - off) p) else ob (.cell id i p)) = fun p => ob (.cell id i p) := funext fun p => if_neg (fun q => hc q.2)
          show OwnAt w' F U A.B (fun p => if id = id ∧ off ≤ i ∧ i < off + tySz P t then ov (pth v (i - off) p) else ob (.cell id i p)) y z
          rw [e1]
          exact howns _ _ _ (fun p hh => (h.obok _ _ hh).2.2 id hid) (hFo _ _ _ q2)
    · cases l with
      | env t p => rfl
      | mapv j i q => rfl
      | cell j i p =>
        simp only
        rw [if_neg]
        rintro ⟨rfl, _⟩
        exact hn1 i p rfl
    · rcases key l b' hl' with ⟨i, p, rfl, c1, c2, c3⟩ | hl2 <;> rcases key m b' hm' with ⟨i', p', rfl, d1, d2, d3⟩ | hm2
      · have := h2 _ _ _ c3 d3
        unfold pth at this
        split at this
        · injection this with e1 e2
          subst e2
          have : i = i' := by omega
          subst this; rfl
        · rename_i hna
          have : tySz P t = 1 := by
            rw [← hvl]
            unfold AV.cells
            split
            · exact absurd rfl (hna _)
            · rfl
          have : i = i' := by omega
          subst this; subst p; rfl
      · exact absurd hm2 (h3 _ _ _ c3)
      · exact absurd hl2 (h3 _ _ _ d3)
      · exact h.obinj _ _ b' hl2 hm2
    · rcases key l b' hl' with ⟨i, p, rfl, c1, c2, c3⟩ | hl2
      · exact h1 _ _ c3
      · exact h.obok _ _ hl2
end
end Ax

/- Rows that are written; ghost steps; new slices. -/
set_option linter.unusedVariables false
set_option linter.unusedSimpArgs false
namespace Ax
open Go Go.RowKit

theorem strip_cells {v : AV} (h : v.cells.all AV.scal = true) : v.strip.cells = AV.stripL v.cells := by
  cases v with
  | agg cs => simp [AV.strip, AV.cells]
  | own v =>
    cases v <;> simp [AV.cells, AV.scal] at h
    simp [AV.cells, AV.strip, AV.stripL]
  | tup vs => simp [AV.cells, AV.scal] at h
  | uni v => simp [AV.cells, AV.strip, AV.stripL]
  | _ => simp [AV.cells, AV.strip, AV.stripL]

theorem setRange_all (old l : List AV) (h : old.length = l.length) : setRange old 0 l = l := by
  apply List.ext_getElem?
  intro i
  rw [setRange_get]
  by_cases hi : i < l.length
  · rw [if_pos (by omega)]; simp
  · rw [if_neg (by omega), List.getElem?_eq_none (by omega), List.getElem?_eq_none (by omega)]
theorem setElem_cells {old v : AV} {off sz : Nat} (ho : old.cells.length = sz) (hv : off + v.cells.length ≤ sz) (h0 : 0 < v.cells.length) : (setElem old off sz v).cells = setRange old.cells off v.cells := by
  unfold setElem
  split
  · rename_i cs
    simp only [AV.cells] at ho
    cases hc : (Nat.beq off 0 && Nat.beq v.cells.length sz) with
    | false => simp [AV.cells]
    | true =>
      simp only [cond_true]
      simp only [Bool.and_eq_true, beq_eq, decide_eq_true_eq] at hc
      obtain ⟨rfl, h2⟩ := hc
      split
      · rename_i l; simp only [AV.cells] at h2 ⊢; exact (setRange_all _ _ (by omega)).symm
      · rfl
  · rename_i hna
    have hc : old.cells = [old] := by
      unfold AV.cells
      split
      · exact absurd rfl (hna _)
      · rfl
    rw [hc] at ho ⊢
    simp at ho
    obtain rfl : off = 0 := by omega
    exact (setRange_all _ _ (by simp; omega)).symm

theorem upd_get (g : Nat → AV) (i : Nat) (v : AV) (j : Nat) : upd g i v j = if j = i then v else g j := by
  unfold upd; rw [beq_eq]; by_cases h : j = i <;> simp [h]
theorem splice_get (g : Nat → AV) (lo k : Nat) (g' : Nat → AV) (j : Nat) : splice g lo k g' j = if lo ≤ j ∧ j < lo + k then g' (j - lo) else g j := by
  unfold splice; rw [ble_eq, blt_eq]
  by_cases h : lo ≤ j ∧ j < lo + k
  · simp [h]
  · rw [if_neg h]
    have : (decide (lo ≤ j) && decide (j < lo + k)) = false := by
      simp only [Bool.and_eq_false_iff, decide_eq_false_iff_not]; exact Decidable.not_and_iff_not_or_not.1 h
    simp [this]

section
variable {P : Program} {A : Amb} {nt : Nat} {pend : List (Nat × AObj)} {env : Env} {heap : Heap} {bor : Option (Nat × AV)} {tm : Array Value} {w : World} {U : Nat → Nat} {bl : Blocks} {ob : Loc → Option Nat}

theorem arr_obj (h : Rel P A nt pend env heap bor tm w U bl ob) {id b : Nat} (hid : bl[id]? = some (some b)) {sz n : Nat} {g : Nat → AV} (hg : heap.get id = .arr sz n g) :
    ∃ c e fr, w.heap[b]? = some (.cells c e fr) ∧ 0 < sz ∧ n * sz ≤ c.size ∧ (∀ o, o < c.size → w.frozen? ⟨b, o, none⟩ = false) ∧
      (∀ i, i < n → (g i).cells.length = sz) ∧ ∀ (i j : Nat) x, i < n → (g i).cells[j]? = some x → ∃ y, c[i * sz + j]? = some y ∧ y.oneCell' = true ∧ Rep w (forb A bl heap) U [] x y := by
  have hobj := h.objs id b hid
  rw [hg] at hobj
  exact hobj

/-- A row is written. -/
theorem arr_write (h : Rel P A nt pend env heap bor tm w U bl ob) {id b : Nat} (hid : bl[id]? = some (some b)) {sz n : Nat} {g g' : Nat → AV} (hg : heap.get id = .arr sz n g) {c c' : Array Value} {e : TypeId} {fr : Nat × Nat} (hb : w.heap[b]? = some (.cells c e fr))
    {w' : World} (hw : Wrote w b (.cells c' e fr) w') (hs : c'.size = c.size) (hsh : ∀ i, i < n → (g' i).cells.length = sz)
    (hc : ∀ (i j : Nat) x, i < n → (g' i).cells[j]? = some x → ∃ y, c'[i * sz + j]? = some y ∧ y.oneCell' = true ∧ Rep w (forb A bl heap) U [] x y) :
    Rel P A nt pend env (heap.set id (.arr sz n g')) bor tm w' U bl ob := by
  obtain ⟨c0, e0, fr0, k1, k2, k3, k4, k5, k6⟩ := arr_obj h hid hg
  rw [hb] at k1; cases k1
  refine h.write hid (by rw [hg]; simp) (.inr (by intro kt reg ents e; rw [hg] at e; cases e)) (by simp) hw (bor' := bor) (fun F hF hmono howns => ?_) (fun l _ _ => rfl) h.obinj (fun l c hl => h.obok l c hl) (fun j hj => rfl)
  have hFr : ∀ bl2 v x, Rep w (forb A bl heap) U bl2 v x → Rep w F U bl2 v x := fun bl2 v x hr => hr.mono ⟨fun c _ hf => .inl ((hF c).1 hf), fun c _ hc => ⟨Nat.le_refl _, fun o _ => rfl⟩⟩ (BlLe.refl _)
  refine ⟨c', e, fr, hw.here, k2, by rw [hs]; exact k3, fun o ho => ?_, hsh, fun i j x hi hx => ?_⟩
  · have := k4 o (by rw [← hs]; exact ho)
    simp only [World.frozen?, hw.here]
    simp only [World.frozen?, hb] at this
    exact this
  · obtain ⟨y, h1, h2, h3⟩ := hc i j x hi hx
    exact ⟨y, h1, h2, hmono _ _ _ (hFr _ _ _ h3)⟩

theorem storeArr_sound (h : Rel P A nt pend env heap bor tm w U bl ob) {id sz i off b : Nat} {t : TypeId} {v : AV} {x : Value} {heap' : Heap} (hs : storeArr heap id sz i off v = some heap') (hid : bl[id]? = some (some b))
    (hv : Rep w (forb A bl heap) U bl v x) (hvl : v.cells.length = tySz P t) (hvs : v.cells.all AV.scal = true) (hpos : 0 < tySz P t) :
    ∃ w', (Instr.storeAt t (.pointer (some ⟨b, i * sz + off, none⟩)) x).run P w = .ok () w' ∧ Rel P A nt pend env heap' bor tm w' U bl ob := by
  unfold storeArr at hs
  split at hs
  · rename_i sz' n g hg
    cases hc : (Nat.beq sz sz' && Nat.blt i n && Nat.ble (off + v.cells.length) sz && v.isData) with
    | false => rw [hc] at hs; simp at hs
    | true =>
      rw [hc] at hs
      simp only [cond_true, Option.some.injEq] at hs
      subst hs
      simp only [Bool.and_eq_true, beq_eq, blt_eq, ble_eq, decide_eq_true_eq] at hc
      obtain ⟨⟨⟨rfl, hi⟩, hle⟩, hd⟩ := hc
      obtain ⟨c, e, fr, k1, k2, k3, k4, k5, k6⟩ := arr_obj h hid hg
      obtain ⟨r1, r2, _⟩ := rep_cells hv hvs
      have hxl : x.cells.toList.length = tySz P t := by rw [← r1.1]; exact hvl
      have hmul := index_mul (sz := sz) hi
      obtain ⟨w', c', s1, s2, s3, s4⟩ := storeCells_run (P := P) b (i * sz + off) x.cells.toList 0 w c e fr k1 (by omega) r2 (fun o h1 h2 => k4 o (by omega))
      refine ⟨w', ?_, arr_write h hid hg k1 s2 s3 (fun j hj => ?_) (fun j k y hj hy => ?_)⟩
      · unfold Instr.storeAt Instr.sureAddr storeVar
        simp only [Sem.run_bind, Sem.run_pure, Result.andThen_ok, run_size' hpos]
        rw [if_neg (by rw [← hxl]; simp)]
        exact s1
      · rw [upd_get]
        split
        · rename_i e1; subst e1
          rw [setElem_cells (k5 _ hi) (by rw [strip_cells hvs, stripL_length]; exact hle) (by rw [strip_cells hvs, stripL_length]; omega), setRange_length]; exact k5 _ hi
        · exact k5 j hj
      · rw [upd_get] at hy
        split at hy
        · rename_i e1; subst e1
          rw [setElem_cells (k5 _ hi) (by rw [strip_cells hvs, stripL_length]; exact hle) (by rw [strip_cells hvs, stripL_length]; omega), setRange_get, strip_cells hvs, stripL_length] at hy
          split at hy
          · rename_i hin
            rw [stripL_get] at hy
            obtain ⟨q, hq, rfl⟩ := Option.map_eq_some_iff.1 hy
            have hql := (List.getElem?_eq_some_iff.1 hq).1
            have hxv : x.cells.toList[k - off]? = some (x.cells.toList[k - off]'(by rw [hxl, ← hvl]; exact hql)) := by simp
            refine ⟨_, ?_, r2 _ (List.mem_of_getElem? hxv), ((r1.2 _ _ _ hq hxv).data (cells_data hd _ _ hq)).strip⟩
            rw [s4, if_pos (by omega), ← hxv]; congr 1; omega
          · rename_i hout
            obtain ⟨y', h1, h2, h3⟩ := k6 j k y hi hy
            have hk : k < sz := by rw [← k5 j hi]; exact (List.getElem?_eq_some_iff.1 hy).1
            refine ⟨y', ?_, h2, h3⟩
            rw [s4, if_neg (by rw [k5 j hi] at hout; omega)]; exact h1
        · rename_i e1
          obtain ⟨y', h1, h2, h3⟩ := k6 j k y hj hy
          have hk : k < sz := by rw [← k5 j hj]; exact (List.getElem?_eq_some_iff.1 hy).1
          refine ⟨y', ?_, h2, h3⟩
          rw [s4, if_neg ?_]; exact h1
          rcases Nat.lt_trichotomy j i with hlt | rfl | hgt
          · have := index_mul (sz := sz) hlt; omega
          · exact absurd rfl e1
          · have := index_mul (sz := sz) hgt; omega
  · simp at hs

/-- A part of a row is written anew. -/
theorem splice_sound (h : Rel P A nt pend env heap bor tm w U bl ob) {id b sz n lo k : Nat} {g g' : Nat → AV} {cs : List Value} (hid : bl[id]? = some (some b)) (hg : heap.get id = .arr sz n g) (hle : lo + k ≤ n) (hl : cs.length = k * sz) (h1 : ∀ y ∈ cs, y.oneCell' = true)
    (hs : ∀ i, i < k → (g' i).cells.length = sz) (hc : ∀ (i j : Nat) x, i < k → (g' i).cells[j]? = some x → ∃ y, cs[i * sz + j]? = some y ∧ Rep w (forb A bl heap) U [] x y) :
    ∃ w', (storeCells ⟨b, lo * sz, none⟩ cs).run P w = .ok () w' ∧ Rel P A nt pend env (heap.set id (.arr sz n (splice g lo k g'))) bor tm w' U bl ob := by
  obtain ⟨c, e, fr, k1, k2, k3, k4, k5, k6⟩ := arr_obj h hid hg
  have hmul : (lo + k) * sz ≤ n * sz := Nat.mul_le_mul_right _ hle
  have hsp : (lo + k) * sz = lo * sz + k * sz := Nat.add_mul _ _ _
  obtain ⟨w', c', s1, s2, s3, s4⟩ := storeCells_run (P := P) b (lo * sz) cs 0 w c e fr k1 (by omega) h1 (fun o h1 h2 => k4 o (by omega))
  refine ⟨w', s1, arr_write h hid hg k1 s2 s3 (fun i hi => ?_) (fun i j x hi hx => ?_)⟩
  · rw [splice_get]; split
    · exact hs _ (by omega)
    · exact k5 i hi
  · rw [splice_get] at hx
    split at hx
    · rename_i hin
      obtain ⟨y, hy, hr⟩ := hc (i - lo) j x (by omega) hx
      have hyl := (List.getElem?_eq_some_iff.1 hy).1
      have e1 : i * sz = lo * sz + (i - lo) * sz := by rw [← Nat.add_mul]; congr 1; omega
      refine ⟨y, ?_, h1 y (List.mem_of_getElem? hy), hr⟩
      rw [s4, if_pos (by omega), ← hy]; congr 1; omega
    · rename_i hout
      obtain ⟨y, hy, hr⟩ := k6 i j x hi hx
      have hj : j < sz := by rw [← k5 i hi]; exact (List.getElem?_eq_some_iff.1 hx).1
      refine ⟨y, ?_, hr⟩
      rw [s4, if_neg ?_]; exact hy
      rcases Nat.lt_or_ge i lo with hlt | hge
      · have := index_mul (sz := sz) hlt; omega
      · have : (lo + k) * sz ≤ i * sz := Nat.mul_le_mul_right _ (by omega); omega
end

section
variable {P : Program} {w : World} {F : Nat → Prop} {U : Nat → Nat} {bl : Blocks} {B : Nat}
/-- The front of a source. -/
theorem src_pre {e : TypeId} {h : Heap} {x : AV} {m n : Nat} {g : Nat → AV} {x' : Value} (hs : srcOf P e h x = some (m, g)) (hx : Rep w F U bl x x') (ho : ObjsOK P w F U bl B h) (h0 : 0 < tySz P e) (hn : n ≤ m) :
    (Builtin.lenOf x').run P w = .ok m w ∧ ∃ cs : List Value, (Builtin.firstCells (tySz P e) n x').run P w = .ok cs.toArray w ∧ cs.length = n * tySz P e ∧ (∀ y ∈ cs, y.oneCell' = true) ∧
    (∀ i, i < n → (g i).cells.length = tySz P e) ∧ ∀ (i j : Nat) c, i < n → (g i).cells[j]? = some c → ∃ y, cs[i * tySz P e + j]? = some y ∧ Rep w F U [] c y := by
  obtain ⟨_, hl, _⟩ := srcOf_sound hs hx ho h0
  refine ⟨hl, ?_⟩
  have key : ∀ (y : AV) (y' : Value), srcOf P e h y = some (n, g) → Rep w F U bl y y' → (Builtin.firstCells (tySz P e) n y') = Builtin.firstCells (tySz P e) n x' → ∃ cs : List Value, (Builtin.firstCells (tySz P e) n x').run P w = .ok cs.toArray w ∧ cs.length = n * tySz P e ∧ (∀ y ∈ cs, y.oneCell' = true) ∧
    (∀ i, i < n → (g i).cells.length = tySz P e) ∧ ∀ (i j : Nat) c, i < n → (g i).cells[j]? = some c → ∃ y, cs[i * tySz P e + j]? = some y ∧ Rep w F U [] c y := by
    intro y y' h1 h2 h3
    obtain ⟨cs, _, q2, q3, q4, q5, q6⟩ := srcOf_sound h1 h2 ho h0
    rw [← h3]
    exact ⟨cs, q2 w rfl, q3, q4, q5, q6⟩
  have vcase : ∀ sz n0 g0, Rep w F U bl (.vec sz n0 g0) x' → (bif Nat.beq sz (tySz P e) then some (n0, g0) else none) = some (m, g) → ∃ cs : List Value, (Builtin.firstCells (tySz P e) n x').run P w = .ok cs.toArray w ∧ cs.length = n * tySz P e ∧ (∀ y ∈ cs, y.oneCell' = true) ∧
    (∀ i, i < n → (g i).cells.length = tySz P e) ∧ ∀ (i j : Nat) c, i < n → (g i).cells[j]? = some c → ∃ y, cs[i * tySz P e + j]? = some y ∧ Rep w F U [] c y := by
    intro sz n0 g0 hr hh
    cases hz : Nat.beq sz (tySz P e) with
    | false => simp [hz] at hh
    | true =>
      simp [hz] at hh
      obtain ⟨rfl, rfl⟩ := hh
      cases hr with
      | @vec _ _ _ _ ao cap hcap vals z1 z2 z3 z4 =>
        refine key (.vec sz n g0) (.slice ao n cap) (by simp [srcOf, hz]) (.vec (by omega) vals (fun h => ?_) (fun i hi => z2 i (by omega)) (fun i j hi hj => z3 i j (by omega) hj) (fun i j c hi hc => z4 i j c (by omega) hc)) (by cases ao <;> rfl)
        obtain ⟨q1, a, q2, q3, q4, q5, q6⟩ := z1 (by omega)
        have : n * sz ≤ n0 * sz := Nat.mul_le_mul_right _ hn
        exact ⟨q1, a, q2, q3, q4, by omega, fun i j hi hj => q6 i j (by omega) hj⟩
  have hs0 := hs
  unfold srcOf at hs
  split at hs
  · exact vcase _ _ _ hx hs
  · cases hx with | own hx => exact vcase _ _ _ hx hs
  · simp at hs
    obtain ⟨rfl, rfl⟩ := hs
    obtain rfl : n = 0 := by omega
    exact key _ _ hs0 hx rfl
  · rename_i id sz lo n0
    split at hs
    · rename_i sz' n' g0 hg
      cases hc : (Nat.beq sz sz' && Nat.beq sz (tySz P e) && Nat.ble (lo + n0) n') with
      | false => simp [hc] at hs
      | true =>
        simp [hc] at hs
        obtain ⟨rfl, rfl⟩ := hs
        simp only [Bool.and_eq_true, beq_eq, ble_eq, decide_eq_true_eq] at hc
        cases hx with
        | @row _ _ _ _ _ ao cap hcap hz =>
          refine key (.row id sz lo n) (.slice ao n cap) ?_ (.row (by omega) (fun h => hz (by omega))) (by cases ao <;> rfl)
          have h2 : (Nat.beq sz sz' && Nat.beq sz (tySz P e) && Nat.ble (lo + n) n') = true := by
            simp only [Bool.and_eq_true, beq_eq, ble_eq, decide_eq_true_eq]; exact ⟨hc.1, by omega⟩
          simp [srcOf, hg, h2]
    · simp at hs
  · simp at hs
end
end Ax

/- One operation, all kinds. -/
set_option linter.unusedVariables false
set_option linter.unusedSimpArgs false
namespace Ax
open Go Go.RowKit

section
variable {P : Program} {A : Amb} {nt : Nat} {pend : List (Nat × AObj)} {env : Env} {heap : Heap} {bor : Option (Nat × AV)} {tm : Array Value} {w : World} {U : Nat → Nat} {bl : Blocks} {ob : Loc → Option Nat}

theorem frozen_new {w : World} {b : Nat} {c : Array Value} {e : TypeId} (h : w.heap[b]? = some (.cells c e)) (o : Nat) : w.frozen? ⟨b, o, none⟩ = false := by simp [World.frozen?, h]

/-- A new variable's object. -/
theorem newVar_obj (h : Rel P A nt pend env heap bor tm w U bl ob) {id : Nat} (hid : bl[id]? = some none) {v : AV} {x : Value} {e : TypeId} (hg : heap.get id = .cells v.cells) (hv : Rep w (forb A bl heap) U bl v x) (hs : v.cells.all AV.scal = true)
    (hown : ∀ own, OwnAt w (forb A bl heap) U A.B own v x) (hA : A.bl0[id]? ≠ some none) :
    Rel P A nt (pend.filter fun p => p.1 != id) env heap bor tm (rowW w x.cells e) U (bl.set id (some w.heap.size)) ob := by
  obtain ⟨k1, k2, _⟩ := rep_cells hv hs
  have hnt : ∀ l, v ≠ .tup l := by intro l e; subst e; simp [AV.cells, AV.scal] at hs
  have hlt : id < bl.length := (List.getElem?_eq_some_iff.1 hid).1
  have hle : BlLe bl (bl.set id (some w.heap.size)) := by
    intro j b hj
    have hne : id ≠ j := fun e => by subst e; rw [hid] at hj; simp at hj
    rw [List.getElem?_set, if_neg hne]; exact hj
  have hforb : ∀ b, b < w.heap.size → forb A (bl.set id (some w.heap.size)) heap b → forb A bl heap b := by
    rintro b hb (hf | ⟨j, hj, hd⟩)
    · exact .inl hf
    · rw [List.getElem?_set] at hj
      by_cases e : id = j
      · subst e; simp [hlt] at hj; omega
      · rw [if_neg e] at hj; exact .inr ⟨j, hj, hd⟩
  have hblk : ∀ b, b < w.heap.size → (rowW w x.cells e).heap[b]? = w.heap[b]? := fun b hb => by show (w.heap.push _)[b]? = _; rw [Array.getElem?_push, if_neg (by omega)]
  have g : Grow0 w (forb A bl heap) U (rowW w x.cells e) (forb A (bl.set id (some w.heap.size)) heap) U :=
    ⟨fun b hb hf => .inl (hforb b hb hf), fun b hb _ => ⟨Nat.le_refl _, fun o _ => cell_block (hblk b hb) o⟩⟩
  refine h.adopt hid rfl ?_ hA
  rw [hg]
  refine ⟨x.cells, e, (0, 0), rowW_block x.cells e, by rw [k1.1]; simp, fun o _ => frozen_new (rowW_block x.cells e) o, fun i y z hy hz => ⟨(k1.2 i y z hy (by simpa using hz)).mono g hle, fun p u hp hou => ?_⟩⟩
  obtain ⟨q, hq, hok⟩ := hown (fun p' => if p' = pth v i p then ob (.cell id i p) else none) _ u (cells_at hy hnt p u hp) hou
  refine ⟨q, ?_, own_keeps (by simpa using hok) g (fun b hb hlt hF => ⟨hblk b hlt, rfl, fun hf => hF (hforb b hlt hf)⟩)⟩
  unfold AV.cells at hy
  unfold pth at hq
  split at hy
  · rename_i l
    simp only at hq
    cases hv with
    | @agg _ _ vs hn hh =>
      simp only [vat] at hq
      have hz' : vs[i]? = some z := by simpa [Value.cells] using hz
      rw [hz'] at hq; exact hq
  · rename_i hna
    have hio : i = 0 := by have := (List.getElem?_eq_some_iff.1 hy).1; simp at this; exact this
    subst hio
    simp at hy; subst hy
    have hxc := (scal_rep hv (by
      have hh := hs
      unfold AV.cells at hh
      split at hh
      · exact absurd rfl (hna _)
      · simpa using hh)).1
    rw [hxc] at hz
    simp at hz; subst hz
    split at hq
    · exact absurd rfl (hna _)
    · exact hq

theorem hasZero_of {t : TypeId} (h : hasZero P t = true) : ∃ i z, P.info? t = some i ∧ i.zero = some z := by
  unfold hasZero at h
  cases hi : P.info? t with
  | none => simp [hi] at h
  | some i => simp [hi] at h; obtain ⟨z, hz⟩ := Option.isSome_iff_exists.1 h; exact ⟨i, z, rfl, hz⟩

theorem alloc_wp {a : Act} (ha : a.defers = A.ds) (h : Rel P A nt pend env heap bor a.tmps w U bl ob) {o : Oper} {t : TypeId} (ho : o.op = .alloc t) (hd : ∀ t, o.dst = some t → t < nt) {base : Nat} (hp : (base, .cells (zeroAV P t).cells) ∈ pend)
    (hz : hasZero P t = true) (hs : (zeroAV P t).cells.all AV.scal = true) (hA : A.bl0[base]? ≠ some none) {k : St → Prop} {Q : Exit → Act → World → Prop} (hk : putK env o.dst (.ptr base 0) fun env => k ⟨env, heap, [], bor⟩) :
    o.wp P a w (NextIs P A nt (pend.filter fun p => p.1 != base) k) Q := by
  obtain ⟨i, z, hi, hiz⟩ := hasZero_of hz
  obtain ⟨z1, z2, z3⟩ := zeroAV_run (w := w) (F := forb A bl heap) (U := U) (bl := bl) (B := A.B) hi hiz
  obtain ⟨p1, p2, _⟩ := h.pend _ hp
  have h' := newVar_obj (e := t) h p1 p2 z2 hs z3 hA
  have hlt : base < bl.length := (List.getElem?_eq_some_iff.1 p1).1
  obtain ⟨ob', h2⟩ := h'.put0 hd (v := .ptr base 0) (x := .pointer (some ⟨w.heap.size, 0, none⟩)) (.ptr (by rw [List.getElem?_set, if_pos rfl]; simp [hlt])) (fun own => .bare (bare_ptr trivial))
  refine value_wp (x := .pointer (some ⟨w.heap.size, 0, none⟩)) (w' := rowW w z.cells t) ?_ (next_put ha ⟨_, _, ob', h2⟩ hk)
  unfold execOp
  rw [ho]
  simp only [Instr.alloc, Sem.run_bind, z1, Result.andThen_ok]
  simp [newVar, newRow, rowW]

theorem box_wp {a : Act} (ha : a.defers = A.ds) (h : Rel P A nt pend env heap bor a.tmps w U bl ob) {o : Oper} {t : TypeId} {x : Operand} {v : AV} (ho : o.op = .box t x) (hd : ∀ t, o.dst = some t → t < nt) (hv : Rep w (forb A bl heap) U bl v (a.eval x)) (hb : Bare v)
    (hs : v.cells.all AV.scal = true) (hA : A.bl0.length ≤ heap.length) {k : St → Prop} {Q : Exit → Act → World → Prop} (hk : putK env o.dst (.ptr heap.length 0) fun env => k ⟨env, heap ++ [.cells v.cells], [], bor⟩) :
    o.wp P a w (NextIs P A nt pend k) Q := by
  have h0 := h.hoist [.cells v.cells] (fun o ho => by simp at ho; subst ho; rfl)
  have hforb : ∀ b, forb A (bl ++ List.replicate 1 none) (heap ++ [.cells v.cells]) b → forb A bl heap b := by
    rintro b (hf | ⟨j, hj, hdd⟩)
    · exact .inl hf
    · by_cases hjl : j < bl.length
      · rw [List.getElem?_append_left hjl] at hj
        rw [heap_get_append, if_pos (by rw [← h.len]; exact hjl)] at hdd
        exact .inr ⟨j, hj, hdd⟩
      · rw [List.getElem?_append_right (by omega), List.getElem?_replicate] at hj
        split at hj <;> simp at hj
  have hle : BlLe bl (bl ++ List.replicate 1 none) := fun j b hj => by
    rw [List.getElem?_append_left (List.getElem?_eq_some_iff.1 hj).1]; exact hj
  have hid : (bl ++ List.replicate 1 none)[heap.length]? = some none := by rw [← h.len, List.getElem?_append_right (Nat.le_refl _)]; simp
  have h' := newVar_obj (e := t) h0 hid (v := v) (x := a.eval x) (by rw [heap_get_append, if_neg (by omega)]; simp [Heap.get])
    (hv.mono ⟨fun b _ hf => .inl (hforb b hf), fun b _ _ => ⟨Nat.le_refl _, fun _ _ => rfl⟩⟩ hle) hs (fun own => .bare hb) (by rw [List.getElem?_eq_none hA]; simp)
  have h1 := h'.unpend (pend' := pend) (fun p hp => List.mem_filter.2 ⟨List.mem_append_left _ hp, by
    have := (List.getElem?_eq_some_iff.1 (h.pend p hp).1).1
    rw [h.len] at this
    simp; omega⟩)
  obtain ⟨ob', h2⟩ := h1.put0 hd (v := .ptr heap.length 0) (x := .pointer (some ⟨w.heap.size, 0, none⟩)) (.ptr (by rw [List.getElem?_set, if_pos rfl]; simp [h.len])) (fun own => .bare (bare_ptr trivial))
  refine value_wp (x := .pointer (some ⟨w.heap.size, 0, none⟩)) (w' := rowW w (a.eval x).cells t) ?_ (next_put ha ⟨_, _, ob', h2⟩ hk)
  unfold execOp
  rw [ho]
  simp [Instr.box, newVar, newRow, rowW]

theorem move_wp {a : Act} (ha : a.defers = A.ds) (h : Rel P A nt pend env heap bor a.tmps w U bl ob) {o : Oper} {s : Nat} (ho : o.op = .move (.tmp s) ∨ o.op = .assign (.tmp s)) (hd : ∀ t, o.dst = some t → t < nt)
    {k : St → Prop} {Q : Exit → Act → World → Prop} (hk : putK (env.bare s) o.dst (env.get s) fun env => k ⟨env, heap, [], bor⟩) : o.wp P a w (NextIs P A nt pend k) Q := by
  obtain ⟨ob', h'⟩ := h.move s hd
  refine value_wp (x := a.tmps.getD s undef) (w' := w) ?_ (next_put ha ⟨_, _, ob', h'⟩ hk)
  unfold execOp
  rcases ho with ho | ho <;> rw [ho] <;> rfl

theorem copy_wp {a : Act} (ha : a.defers = A.ds) (h : Rel P A nt pend env heap bor a.tmps w U bl ob) {o : Oper} {x : Operand} {v : AV} (ho : o.op = .move x ∨ o.op = .assign x) (hd : ∀ t, o.dst = some t → t < nt)
    (hv : Rep w (forb A bl heap) U bl v (a.eval x)) (hown : ∀ own, OwnAt w (forb A bl heap) U A.B own v (a.eval x))
    {k : St → Prop} {Q : Exit → Act → World → Prop} (hk : putK env o.dst v fun env => k ⟨env, heap, [], bor⟩) : o.wp P a w (NextIs P A nt pend k) Q := by
  obtain ⟨ob', h'⟩ := h.put0 hd hv hown
  refine value_wp (x := a.eval x) (w' := w) ?_ (next_put ha ⟨_, _, ob', h'⟩ hk)
  unfold execOp
  rcases ho with ho | ho <;> rw [ho] <;> rfl

theorem store_wp {a : Act} (ha : a.defers = A.ds) (h : Rel P A nt pend env heap bor a.tmps w U bl ob) {o : Oper} {t : TypeId} {p x : Operand} {heap' : Heap} (ho : o.op = .store t p x) (hd : ∀ t, o.dst = some t → t < nt) (hpos : 0 < tySz P t)
    (hs : storeAV P heap t (evo P 0 env p) (evo P t env x) = some heap') {k : St → Prop} {Q : Exit → Act → World → Prop}
    (hk : match x with | .tmp s => putK (env.bare s) o.dst (.tup []) (fun env => k ⟨env, heap', [], bor⟩) | _ => putK env o.dst (.tup []) (fun env => k ⟨env, heap', [], bor⟩)) :
    o.wp P a w (NextIs P A nt pend k) Q := by
  obtain ⟨hvl, hvs, hcase⟩ := storeAV_of hs
  have hpr := evo_at (a := a) h 0 p
  rcases hcase with ⟨id, off, cs, hp, hg, hl, rfl⟩ | ⟨id, sz, i, off, hp, hsa⟩
  case inr =>
    rw [hp] at hpr
    obtain ⟨b, hb, hpe⟩ : ∃ b, bl[id]? = some (some b) ∧ a.eval p = .pointer (some ⟨b, i * sz + off, none⟩) := by
      generalize a.eval p = q at hpr
      cases hpr with | eptr hb => exact ⟨_, hb, rfl⟩
    obtain ⟨w', r1, r2⟩ := storeArr_sound h hsa hb (evo_at (a := a) h t x) hvl hvs hpos
    have fin2 : ∀ {env' : Env} {ob' : Loc → Option Nat}, Rel P A nt pend env' heap' bor a.tmps w' U bl ob' → (putK env' o.dst (.tup []) fun e2 => k ⟨e2, heap', [], bor⟩) → o.wp P a w (NextIs P A nt pend k) Q := by
      intro env' ob' hrel hk'
      obtain ⟨ob2, h2⟩ := undef_rep hrel hd
      refine skip_wp (w' := w') ?_ (next_put ha ⟨_, _, ob2, h2⟩ hk')
      unfold execOp
      rw [ho]
      simp only [hpe, Sem.run_bind, r1, Result.andThen_ok, Sem.run_pure]
    cases x with
    | tmp s => exact fin2 (r2.bareAt s) hk
    | const v => exact fin2 r2 hk
    | func f => exact fin2 r2 hk
    | global g => exact fin2 r2 hk
  rw [hp] at hpr
  obtain ⟨b, hb, hpe⟩ : ∃ b, bl[id]? = some (some b) ∧ a.eval p = .pointer (some ⟨b, off, none⟩) := by
    generalize a.eval p = q at hpr
    cases hpr with | ptr hb => exact ⟨_, hb, rfl⟩
  have fin : ∀ {env' : Env} {ob' : Loc → Option Nat} {w' : World}, (Instr.storeAt t (.pointer (some ⟨b, off, none⟩)) (a.eval x)).run P w = .ok () w' →
      Rel P A nt pend env' (heap.set id (.cells (setRange cs off (evo P t env x).cells))) bor a.tmps w' U bl ob' →
      (putK env' o.dst (.tup []) fun e2 => k ⟨e2, heap.set id (.cells (setRange cs off (evo P t env x).cells)), [], bor⟩) → o.wp P a w (NextIs P A nt pend k) Q := by
    intro env' ob' w' hrun hrel hk'
    obtain ⟨ob2, h2⟩ := undef_rep hrel hd
    refine skip_wp (w' := w') ?_ (next_put ha ⟨_, _, ob2, h2⟩ hk')
    unfold execOp
    rw [ho]
    simp only [hpe, Sem.run_bind, hrun, Result.andThen_ok, Sem.run_pure]
  cases x with
  | tmp s =>
    simp only at hk
    have hbare := h.bareAt s
    obtain ⟨w', r1, ob', r2⟩ := store_gen hbare hb hg hl (h.env s).1 hvl hvs hpos (ov := fun p => ob (.env s p)) (h.env s).2 (fun p b hh => h.obok _ b hh) (fun p q b h1 h2 => by have := h.obinj _ _ b h1 h2; injection this) (fun p b l h1 h2 => by
      cases l with
      | env t q =>
        simp only at h2
        by_cases e : t = s
        · simp [e] at h2
        · simp only [e, if_false] at h2
          have := h.obinj _ _ b h1 h2
          injection this with e1; exact e e1.symm
      | cell j i q => exact absurd (h.obinj _ _ b h1 h2) (by simp)
      | mapv j i q => exact absurd (h.obinj _ _ b h1 h2) (by simp))
    exact fin r1 r2 hk
  | const v =>
    simp only at hk
    obtain ⟨w', r1, ob', r2⟩ := store_gen h hb hg hl (evo_at (a := a) h t (.const v)) hvl hvs hpos (ov := fun _ => none) (evo_const_own t (by simp) _) (fun p b hh => by simp at hh) (fun p q b h1 => by simp at h1) (fun p b l h1 => by simp at h1)
    exact fin r1 r2 hk
  | func f =>
    simp only at hk
    obtain ⟨w', r1, ob', r2⟩ := store_gen h hb hg hl (evo_at (a := a) h t (.func f)) hvl hvs hpos (ov := fun _ => none) (evo_const_own t (by simp) _) (fun p b hh => by simp at hh) (fun p q b h1 => by simp at h1) (fun p b l h1 => by simp at h1)
    exact fin r1 r2 hk
  | global g =>
    simp only at hk
    obtain ⟨w', r1, ob', r2⟩ := store_gen h hb hg hl (evo_at (a := a) h t (.global g)) hvl hvs hpos (ov := fun _ => none) (evo_const_own t (by simp) _) (fun p b hh => by simp at hh) (fun p q b h1 => by simp at h1) (fun p b l h1 => by simp at h1)
    exact fin r1 r2 hk

theorem makeMap_wp {a : Act} (ha : a.defers = A.ds) (h : Rel P A nt pend env heap bor a.tmps w U bl ob) {o : Oper} {t : TypeId} (ho : o.op = .makeMap t none) (hd : ∀ t, o.dst = some t → t < nt) {base : Nat} {kt : TypeId} {ow : Bool} (hp : (base, .map kt ow []) ∈ pend)
    (hA : A.bl0[base]? ≠ some none) {k : St → Prop} {Q : Exit → Act → World → Prop} (hk : putK env o.dst (.mapr base) fun env => k ⟨env, heap, [], bor⟩) :
    o.wp P a w (NextIs P A nt (pend.filter fun p => p.1 != base) k) Q := by
  obtain ⟨p1, p2, _⟩ := h.pend _ hp
  have hlt : base < bl.length := (List.getElem?_eq_some_iff.1 p1).1
  have h' := h.adopt p1 (o := .map #[] 0) rfl (by
    rw [p2]
    refine ⟨#[], 0, by show (w.heap.push _)[w.heap.size]? = _; rw [Array.getElem?_push, if_pos rfl], ⟨rfl, fun i p e hp => by simp at hp⟩, ⟨fun i e hi => by simp at hi, fun i j e f hi => by simp at hi⟩, fun p hp => by simp at hp, fun i j p q hp => by simp at hp, fun _ => ⟨rfl, fun i e hi => by simp at hi⟩, fun i p e hp => by simp at hp⟩) hA
  obtain ⟨ob', h2⟩ := h'.put0 hd (v := .mapr base) (x := .map (some w.heap.size)) (.mapr (by rw [List.getElem?_set, if_pos rfl]; simp [hlt])) (fun own => .bare (bare_of rfl))
  refine value_wp (x := .map (some w.heap.size)) (w' := { w with heap := w.heap.push (.map #[] 0) }) ?_ (next_put ha ⟨_, _, ob', h2⟩ hk)
  unfold execOp
  rw [ho]
  simp [Instr.makeMap]

theorem extract_wp {a : Act} (ha : a.defers = A.ds) (h : Rel P A nt pend env heap bor a.tmps w U bl ob) {o : Oper} {s i : Nat} (ho : o.op = .extract (.tmp s) i) (hd : ∀ t, o.dst = some t → t < nt) {vs : List AV} {v : AV}
    (hv : env.get s = .tup vs) (hi : vs[i]? = some v) {k : St → Prop} {Q : Exit → Act → World → Prop} (hk : putK (env.set s (.tup (vs.set i v.strip))) o.dst v fun env => k ⟨env, heap, [], bor⟩) : o.wp P a w (NextIs P A nt pend k) Q := by
  obtain ⟨hr, hown⟩ := h.env s
  rw [hv] at hr hown
  obtain ⟨us, hus, hn, hh⟩ : ∃ us : Array Value, a.tmps.getD s undef = .tuple us ∧ vs.length = us.size ∧ ∀ (i : Nat) x y, vs[i]? = some x → us[i]? = some y → Rep w (forb A bl heap) U bl x y := by
    generalize a.tmps.getD s undef = q at hr
    cases hr with | tup hn hh => exact ⟨_, rfl, hn, hh⟩
  rw [hus] at hown
  have hlt : i < us.size := by rw [← hn]; exact (List.getElem?_eq_some_iff.1 hi).1
  have hrun : (execOp a.eval o).run P w = .ok (.value us[i]) w := by
    unfold execOp
    rw [ho]
    have : a.eval (.tmp s) = .tuple us := hus
    simp [this, Instr.extract, hlt]
  have hui : us[i]? = some us[i] := by simp [hlt]
  -- the tuple without what that part owns
  have low : ∀ l b, (match l with | Loc.env t p => if t = s ∧ p.head? = some i then none else ob (.env t p) | l => ob l) = some b → ob l = some b ∧ ∀ q, l ≠ .env s (i :: q) := by
    intro l b hl
    cases l with
    | env t p =>
      simp only at hl
      by_cases e : t = s ∧ p.head? = some i
      · simp [e] at hl
      · rw [if_neg e] at hl
        refine ⟨hl, fun q hq => e ?_⟩
        injection hq with h1 h2
        subst h1; subst h2; exact ⟨rfl, rfl⟩
    | cell id j p => exact ⟨hl, fun q hq => by cases hq⟩
    | mapv id j r => exact ⟨hl, fun q hq => by cases hq⟩
  have h1 : Rel P A nt pend (env.set s (.tup (vs.set i v.strip))) heap bor a.tmps w U bl
      (fun l => match l with | .env t p => if t = s ∧ p.head? = some i then none else ob (.env t p) | l => ob l) := by
    refine { h with env := fun t => ?_, obinj := fun l m b hl hm => h.obinj l m b (low l b hl).1 (low m b hm).1, obok := fun l b hl => h.obok l b (low l b hl).1 }
    rw [get_set]
    by_cases e : s = t
    · subst e
      rw [if_pos rfl, hus]
      refine ⟨.tup (by simpa using hn) (fun j x y hx hy => ?_), fun p u hp hou => ?_⟩
      · rw [List.getElem?_set] at hx
        by_cases e : i = j
        · subst e
          rw [if_pos rfl] at hx
          split at hx
          · simp at hx; subst hx; exact (hh i v y hi hy).strip
          · simp at hx
        · rw [if_neg e] at hx; exact hh j x y hx hy
      · cases p with
        | nil => simp [AV.at] at hp; subst hp; simp [AV.owned] at hou
        | cons j q =>
          simp only [AV.at] at hp
          by_cases e : i = j
          · subst e
            have : (vs.set i v.strip)[i]? = some v.strip := by rw [List.getElem?_set, if_pos rfl, if_pos (by rw [hn]; exact hlt)]
            rw [this] at hp
            rw [strip_bare v q u hp] at hou; cases hou
          · have : (vs.set i v.strip)[j]? = vs[j]? := by rw [List.getElem?_set, if_neg e]
            rw [this] at hp
            obtain ⟨y, hy, hok⟩ := hown (j :: q) u (by simpa [AV.at] using hp) hou
            refine ⟨y, hy, ?_⟩
            have e2 : ¬ (s = s ∧ (j :: q).head? = some i) := fun hh => e (by simpa using hh.2.symm)
            show OwnOK w _ U A.B (if s = s ∧ (j :: q).head? = some i then none else ob (.env s (j :: q))) u y
            rw [if_neg e2]; exact hok
    · rw [if_neg e]
      obtain ⟨q1, q2⟩ := h.env t
      refine ⟨q1, ?_⟩
      have e2 : (fun p => if t = s ∧ p.head? = some i then none else ob (.env t p)) = fun p => ob (.env t p) := funext fun p => if_neg (fun hh => e hh.1.symm)
      show OwnAt w _ U A.B (fun p => if t = s ∧ p.head? = some i then none else ob (.env t p)) _ _
      rw [e2]; exact q2
  cases hdst : o.dst with
  | none =>
    rw [hdst] at hk
    refine value_wp hrun ?_
    rw [hdst]
    exact next_put ha ⟨_, _, _, h1⟩ hk
  | some d =>
    rw [hdst] at hk
    refine value_wp hrun ?_
    rw [hdst]
    refine next_put ha ⟨_, _, _, h1.putG (hd d hdst) (v := v) (x := us[i]) (fun p => ob (.env s (i :: p))) (hh i v _ hi hui) (fun p u hp hou => ?_) (fun p b hb => ⟨h.obok _ b hb, fun q hq => ?_, fun l hl => ?_⟩)⟩ hk
    · obtain ⟨y, hy, hok⟩ := hown (i :: p) u (by simp only [AV.at, hi]; exact hp) hou
      refine ⟨y, ?_, hok⟩
      simpa [vat, hui] using hy
    · have := h.obinj _ _ b hb hq
      injection this with _ e2; injection e2
    · obtain ⟨l1, l2⟩ := low l b hl
      exact absurd (h.obinj _ _ b l1 hb) (l2 p)
end
end Ax

/- copy, clear, make; ghost steps. -/
set_option linter.unusedVariables false
set_option linter.unusedSimpArgs false
namespace Ax
open Go Go.RowKit

section
variable {P : Program} {A : Amb} {nt : Nat} {pend : List (Nat × AObj)} {env : Env} {heap : Heap} {bor : Option (Nat × AV)} {tm : Array Value} {w : World} {U : Nat → Nat} {bl : Blocks} {ob : Loc → Option Nat}

theorem wrap_i64 {n : Int} (h1 : -9223372036854775808 ≤ n) (h2 : n < 9223372036854775808) : IntKind.i64.wrap n = n := by
  rw [IntKind.wrap_i64]; omega
theorem heap_set_get : ∀ (h : Heap) (i : Nat), h.set i (h.get i) = h
  | [], _ => rfl
  | x :: r, 0 => rfl
  | x :: r, n + 1 => by simp only [Heap.set, Heap.get, heap_set_get r n]
theorem splice_zero (g : Nat → AV) (lo : Nat) (g' : Nat → AV) : splice g lo 0 g' = g := by
  funext j; rw [splice_get, if_neg (by omega)]

theorem copy_sound (h : Rel P A nt pend env heap bor tm w U bl ob) {t u ty : TypeId} {d x v : AV} {d' x' : Value} {heap' : Heap} (hs : copyAV P t u heap d x = some (v, heap')) (hd : Rep w (forb A bl heap) U bl d d') (hx : Rep w (forb A bl heap) U bl x x') {tys : Array TypeId} (hty : tys[0]? = some t) :
    ∃ r w', (Builtin.copy_ tys ty #[d', x']).run P w = .ok r w' ∧ Rel P A nt pend env heap' bor tm w' U bl ob ∧ ∃ n : Int, v = .int .i64 n ∧ r = .int .i64 n := by
  unfold copyAV at hs
  split at hs
  · rename_i e ht
    split at hs
    · rename_i id sz lo n m g' hsrc
      split at hs
      · rename_i sz' n' g hg
        cases hc : (isSliceT P u && Nat.beq sz sz' && Nat.beq sz (tySz P e) && Nat.ble (lo + n) n' && Nat.blt 0 sz) with
        | false => rw [hc] at hs; simp at hs
        | true =>
          rw [hc] at hs
          simp only [cond_true, Option.some.injEq, Prod.mk.injEq] at hs
          obtain ⟨rfl, rfl⟩ := hs
          simp only [Bool.and_eq_true, beq_eq, ble_eq, blt_eq, decide_eq_true_eq] at hc
          obtain ⟨⟨⟨⟨_, c1⟩, c2⟩, c3⟩, c4⟩ := hc
          subst c1
          obtain ⟨q1, cs, q2, q3, q4, q5, q6⟩ := src_pre (n := min m n) hsrc hx h.objsOK (by omega) (Nat.min_le_left _ _)
          rw [← c2] at q2 q3 q5 q6
          have hsz : (Go.sizeOf e).run P w = .ok sz w := by rw [c2]; exact run_size' (by omega)
          cases hd with
          | @row _ _ _ _ _ ao cap hcap hz =>
            rcases Nat.eq_zero_or_pos n with hn | hn
            · subst hn
              rw [Nat.min_zero] at q2 q3 ⊢
              have hcs : cs = [] := List.length_eq_zero_iff.1 (by rw [q3]; simp)
              subst hcs
              refine ⟨.int .i64 ((0 : Nat) : Int), w, ?_, ?_, _, rfl, rfl⟩
              · cases ao <;> simp [Builtin.copy_, hty, run_und ht (by simp), q1, hsz, q2, storeCells, goInt]
              · rw [splice_zero, ← hg, heap_set_get]; exact h
            · obtain ⟨b, hb, rfl⟩ := hz hn
              obtain ⟨w', r1, r2⟩ := splice_sound h hb hg (lo := lo) (k := min m n) (g' := g') (cs := cs) (by have := Nat.min_le_right m n; omega) q3 q4 q5 q6
              refine ⟨_, w', ?_, r2, _, rfl, rfl⟩
              have hmin : Nat.min m n = min m n := rfl
              simp [Builtin.copy_, hty, run_und ht (by simp), q1, hsz, hmin, q2, r1, goInt]
      · simp at hs
    · simp at hs
  · simp at hs

theorem zeroCells_get (z : Array Value) (n : Nat) (i j : Nat) (hi : i < n) (hj : j < z.size) : (Builtin.zeroCells z n)[i * z.size + j]? = z[j]? := by
  have hlt : i * z.size + j < n * z.size := by have := index_mul (sz := z.size) hi; omega
  simp only [Builtin.zeroCells, Array.getElem?_map]
  rw [Array.getElem?_range, if_pos hlt]
  simp only [Option.map_some]
  have : (i * z.size + j) % z.size = j := (divmod_cell hj).2
  rw [this]
  simp [hj]

theorem zero_cells (w : World) {e : TypeId} (hz : hasZero P e = true) (hd : (zeroAV P e).isData = true) (hs : (zeroAV P e).cells.all AV.scal = true) : ∃ z, (∀ w : World, (zeroValue e).run P w = .ok z w) ∧ z.cells.size = (zeroAV P e).cells.length ∧ (∀ y ∈ z.cells.toList, y.oneCell' = true) ∧
    (zeroElem P e).cells.length = (zeroAV P e).cells.length ∧ ∀ (w : World) (F : Nat → Prop) (U : Nat → Nat) (j : Nat) x, (zeroElem P e).cells[j]? = some x → ∃ y, z.cells[j]? = some y ∧ Rep w F U [] x y := by
  obtain ⟨z, hzz⟩ := zero_all hz
  refine ⟨z, fun w => (hzz w (fun _ => False) (fun _ => 0) [] 0).1, ?_, ?_, ?_, fun w F U j x hx => ?_⟩
  · obtain ⟨k1, _⟩ := rep_cells (hzz w (fun _ => False) (fun _ => 0) [] 0).2.1 hs
    have := k1.1; simpa using this.symm
  · exact (rep_cells (hzz w (fun _ => False) (fun _ => 0) [] 0).2.1 hs).2.1
  · unfold zeroElem; rw [strip_cells hs, stripL_length]
  · unfold zeroElem at hx
    rw [strip_cells hs, stripL_get] at hx
    obtain ⟨q, hq, rfl⟩ := Option.map_eq_some_iff.1 hx
    obtain ⟨k1, _⟩ := rep_cells (hzz w F U [] 0).2.1 hs
    have hl := (List.getElem?_eq_some_iff.1 hq).1
    have hlz : j < z.cells.size := by have := k1.1; simp at this; omega
    exact ⟨z.cells[j], by simp [hlz], ((k1.2 j q _ hq (by simp [hlz])).data (cells_data hd _ _ hq)).strip⟩

theorem clear_sound (h : Rel P A nt pend env heap bor tm w U bl ob) {t ty : TypeId} {d : AV} {d' : Value} {heap' : Heap} (hs : clearAV P t heap d = some heap') (hd : Rep w (forb A bl heap) U bl d d') {tys : Array TypeId} (hty : tys[0]? = some t) :
    ∃ w', (Builtin.clear_ tys ty #[d']).run P w = .ok (.tuple #[]) w' ∧ Rel P A nt pend env heap' bor tm w' U bl ob := by
  unfold clearAV at hs
  split at hs
  · rename_i e id sz lo n ht
    split at hs
    · rename_i sz' n' g hg
      cases hc : (Nat.beq sz sz' && Nat.beq sz (tySz P e) && Nat.ble (lo + n) n' && Nat.blt 0 sz && hasZero P e && (zeroAV P e).isData && (zeroAV P e).cells.all AV.scal && Nat.beq (zeroAV P e).cells.length sz) with
      | false => rw [hc] at hs; simp at hs
      | true =>
        rw [hc] at hs
        simp only [cond_true, Option.some.injEq] at hs
        subst hs
        simp only [Bool.and_eq_true, beq_eq, ble_eq, blt_eq, decide_eq_true_eq] at hc
        obtain ⟨⟨⟨⟨⟨⟨⟨c1, c2⟩, c3⟩, c4⟩, c5⟩, c6⟩, c7⟩, c8⟩ := hc
        subst c1
        obtain ⟨z, z1, z2, z3, z4, z5⟩ := zero_cells w c5 c6 c7
        cases hd with
        | @row _ _ _ _ _ ao cap hcap hz =>
          rcases Nat.eq_zero_or_pos n with hn | hn
          · subst hn
            refine ⟨w, ?_, by rw [splice_zero, ← hg, heap_set_get]; exact h⟩
            cases ao <;> simp [Builtin.clear_, hty, run_und ht (by simp)]
          · obtain ⟨b, hb, rfl⟩ := hz hn
            have hcl : (Builtin.zeroCells z.cells n).toList.length = n * sz := by simp [Builtin.zeroCells, z2, c8]
            obtain ⟨w', r1, r2⟩ := splice_sound h hb hg (k := n) (g' := fun _ => zeroElem P e) (cs := (Builtin.zeroCells z.cells n).toList) (by omega) hcl (fun y hy => by
                simp only [Builtin.zeroCells, Array.toList_map, List.mem_map] at hy
                obtain ⟨k, hk, rfl⟩ := hy
                have hk' : k % z.cells.size < z.cells.size := Nat.mod_lt _ (by omega)
                rw [getElem!_pos z.cells _ hk']
                exact z3 _ (by simp)) (fun i hi => by rw [z4, c8]) (fun i j x hi hx => by
                obtain ⟨y, hy, hr⟩ := z5 w (forb A bl heap) U j x hx
                have hj : j < z.cells.size := (Array.getElem?_eq_some_iff.1 hy).1
                refine ⟨y, ?_, hr⟩
                have := zeroCells_get z.cells n i j hi hj
                rw [z2, c8] at this
                simp only [Array.getElem?_toList]
                rw [this]; exact hy)
            refine ⟨w', ?_, r2⟩
            obtain ⟨n, rfl⟩ : ∃ k, n = k + 1 := ⟨n - 1, by omega⟩
            simp [Builtin.clear_, hty, run_und ht (by simp), z1, r1]
    · simp at hs
  · simp at hs

theorem makeSlice_sound (h : Rel P A nt pend env heap bor tm w U bl ob) {t : TypeId} {l c v : AV} {l' c' : Value} {d : Option Nat} (hd : ∀ t, d = some t → t < nt) (hs : makeSliceAV P t l c = some v) (hl : Rep w (forb A bl heap) U bl l l') (hc' : Rep w (forb A bl heap) U bl c c') :
    ∃ r w' U' ob', (Instr.makeSlice t l' c').run P w = .ok r w' ∧ Rel P A nt pend (setO env d v) heap bor (putO tm d r) w' U' bl ob' := by
  unfold makeSliceAV at hs
  split at hs
  · rename_i e n m ht
    obtain rfl := rep_int hl
    obtain rfl := rep_int hc'
    cases hc : (decide (0 ≤ n ∧ n ≤ m ∧ m ≤ 1099511627776) && Nat.ble (m.toNat * tyBy P e) 281474976710656 && Nat.blt 0 (tySz P e) && hasZero P e && (zeroAV P e).isData && (zeroAV P e).cells.all AV.scal && Nat.beq (zeroAV P e).cells.length (tySz P e)) with
    | false => rw [hc] at hs; simp at hs
    | true =>
      rw [hc] at hs
      simp only [cond_true, Option.some.injEq] at hs
      subst hs
      simp only [Bool.and_eq_true, beq_eq, ble_eq, blt_eq, decide_eq_true_eq] at hc
      obtain ⟨⟨⟨⟨⟨⟨c1, c2⟩, c4⟩, c5⟩, c6⟩, c7⟩, c8⟩ := hc
      obtain ⟨z, z1, z2, z3, z4, z5⟩ := zero_cells w c5 c6 c7
      obtain ⟨i, hi⟩ := info_size c4
      have hby : tyBy P e = i.bytes := by simp [tyBy, hi]
      rw [hby] at c2
      have wn : IntKind.i64.wrap n = n := wrap_i64 (by omega) (by omega)
      have wm : IntKind.i64.wrap m = m := wrap_i64 (by omega) (by omega)
      have hrow : ((Array.range (m.toNat * tySz P e)).map (z.cells[· % z.cells.size]!)).size = m.toNat * tySz P e := by simp
      have hnew := h.newU (q := w.drawn) (e := e) hd (row := (Array.range (m.toNat * tySz P e)).map (z.cells[· % z.cells.size]!)) (sz := tySz P e) (n := n.toNat) (c := m.toNat) (g := fun _ => zeroElem P e) c4 (Nat.le_refl _) (by omega) (by rw [hrow]; exact Nat.le_refl _) (fun i hi => by rw [z4, c8]) (fun i j x hi hx => by
          obtain ⟨y, hy, hr⟩ := z5 w (forb A bl heap) U j x hx
          have hj : j < z.cells.size := (Array.getElem?_eq_some_iff.1 hy).1
          refine ⟨y, ?_, z3 y (by have := Array.mem_of_getElem? hy; simpa using this), hr⟩
          have := zeroCells_get z.cells m.toNat i j (by omega) hj
          simp only [Builtin.zeroCells] at this
          rw [z2, c8] at this
          rw [z2, c8, this]; exact hy)
      obtain ⟨U', ob', hrel⟩ := hnew
      refine ⟨_, _, U', ob', ?_, hrel⟩
      have hbytes : ¬ ((i.bytes : Int) * m > 2 ^ 48) := by
        have : ((m.toNat * i.bytes : Nat) : Int) ≤ 281474976710656 := by omega
        have e1 : ((m.toNat * i.bytes : Nat) : Int) = (i.bytes : Int) * m := by
          rw [Int.natCast_mul, Int.toNat_of_nonneg (by omega), Int.mul_comm]
        rw [e1] at this
        omega
      have hsz : (Go.sizeOf e).run P w = .ok (tySz P e) w := run_size' c4
      have hti : (typeInfo e).run P w = .ok i w := run_info hi
      have hm0 : ¬ m < 0 := by omega
      have hn0 : ¬ n < 0 := by omega
      have hnm : ¬ n > m := by omega
      simp only [Instr.makeSlice, Sem.run_bind, run_und ht (by simp), Result.andThen_ok, asInt, asIntOf, Sem.run_pure, hti, wn, wm, hsz, run_askRoom]
      have hcond : (decide (m < 0) || decide ((i.bytes : Int) * m > 2 ^ 48) || decide (n < 0) || decide (n > m)) = false := by
        have hb2 : (i.bytes : Int) * m ≤ 281474976710656 := by omega
        simp [hm0, hb2, hn0, hnm]
      simp only [hcond, Bool.false_eq_true, if_false, Sem.run_pure, Result.andThen_ok]
      by_cases hz0 : m.toNat * tySz P e = 0
      · have e0 : ∀ f : Nat → Value, (Array.range 0).map f = #[] := fun f => by simp
        simp [hsz, hz0, newRow, rowW]
        rw [e0, e0]
      · simp [hsz, hz0, z1, newRow, rowW]
  · simp at hs

/-! ### ghost steps -/
/-- A state whose slot reads otherwise. -/
theorem Rel.reread (h : Rel P A nt pend env heap bor tm w U bl ob) {s : Nat} {v : AV} (hv : Rep w (forb A bl heap) U bl v (tm.getD s undef)) (ho : OwnAt w (forb A bl heap) U A.B (fun p => ob (.env s p)) v (tm.getD s undef)) :
    Rel P A nt pend (env.set s v) heap bor tm w U bl ob := by
  refine { h with env := fun t => ?_ }
  rw [get_set]
  by_cases e : s = t
  · subst e; simp only [if_true]; exact ⟨hv, ho⟩
  · simp only [e, if_false]; exact h.env t

theorem fresh_sound (h : Rel P A nt pend env heap bor tm w U bl ob) {s sz : Nat} {g : Nat → AV} (hs : env.get s = .own (.vec sz 0 g)) : Rel P A nt pend (env.set s (.uni (.vec sz 0 g))) heap bor tm w U bl ob := by
  obtain ⟨h1, h2⟩ := h.env s
  rw [hs] at h1 h2
  refine h.reread (by generalize tm.getD s undef = x at h1; cases h1 with | own hv => cases hv with | vec hcap => exact .uni) (uni_nil ?_)
  obtain ⟨y, hy, hok⟩ := h2 [] _ rfl rfl
  simp only [vat, Option.some.injEq] at hy
  subst hy
  cases h1 with
  | own hv =>
    generalize tm.getD s undef = x at hv hok
    cases hv with
    | vec hcap =>
      rcases hok with hc | ⟨a, hn, e1, e2, e3, e4, e5, e6, hsz, c, el, fr, e7, e8, e9⟩
      · exact ⟨_, _, rfl, Nat.zero_le _, .inl hc⟩
      · rcases hn with hn | hn
        · omega
        · obtain ⟨ab, ao, as⟩ := a
          simp only at hn e2 e3 e4 e5 e6 e7 e8 e9
          subst hn e4 e1
          exact ⟨_, _, rfl, Nat.zero_le _, .inr ⟨ab, rfl, e2, e3, e5, by omega, hsz, c, el, fr, e7, by omega, fun o ho => e9 o (by omega) ho, fun i hi => absurd hi (by omega), fun i j q hi => absurd hi (by omega)⟩⟩

/-- A slot's block, all of it, from now on for reading. -/
theorem share_sound (h : Rel P A nt pend env heap bor tm w U bl ob) {s sz n : Nat} {g : Nat → AV} (hs : env.get s = .uni (.vec sz n g)) : ∃ U', Rel P A nt pend (env.set s (.own (.vec sz n g))) heap bor tm w U' bl ob := by
  obtain ⟨h1, h2⟩ := h.env s
  rw [hs] at h2
  obtain ⟨y, hy, ao, cap, hx, hncap, hok⟩ := h2 [] _ rfl rfl
  simp only [vat, Option.some.injEq] at hy
  subst hy
  have triv : n = 0 → cap = 0 → Rel P A nt pend (env.set s (.own (.vec sz n g))) heap bor tm w U bl ob := by
    intro hn hc
    subst hn
    refine h.reread ?_ (own_nil (by rw [hx]; exact .inl (by omega)))
    rw [hx]
    exact .own (.vec (by omega) (fun _ _ => undef) (fun h => absurd h (by omega)) (fun i hi => absurd hi (by omega)) (fun i j hi _ => absurd hi (by omega)) (fun i j c hi _ => absurd hi (by omega)))
  rcases hok with hc | ⟨b, e1, e2, e3, e4, e5, hsz, c, el, fr, e7, e8, e9, e10, e11⟩
  · exact ⟨U, triv (by omega) hc⟩
  · subst e1
    let U' : Nat → Nat := fun c => if c = b then n * sz else U c
    have hlt := lt_of_some e7
    have hw : Wrote w b (.cells c el fr) w := ⟨rfl, rfl, rfl, rfl, e7, fun _ _ => rfl, rfl⟩
    have grow : Grow0 w (forb A bl heap) U w (forb A bl heap) U' := by
      refine ⟨fun _ _ hf => .inl hf, fun d _ _ => ?_⟩
      by_cases ec : d = b
      · subst ec; exact ⟨by simp only [U', if_true]; omega, fun o _ => rfl⟩
      · exact ⟨by simp only [U', if_neg ec]; exact Nat.le_refl _, fun o _ => rfl⟩
    have hg := h.growIn (l := .env s []) e2 hlt e3 e4 hw (n' := n * sz) (by omega) (fun o _ => rfl) ⟨s, [], rfl⟩ s ⟨[], rfl⟩
    have hmul : n * sz ≤ cap * sz := Nat.mul_le_mul_right _ hncap
    have hrep : Rep w (forb A bl heap) U' bl (.vec sz n g) (.slice (some ⟨b, 0, none⟩) n cap) := by
      refine .vec hncap (fun i j => c.getD (i * sz + j) undef) (fun _ => ⟨hsz, ⟨b, 0, none⟩, rfl, rfl, e4, by simp [U'], fun i j hi hj => ?_⟩) e10 (fun i j hi hj => ?_) (fun i j x hi hx => ?_)
      · rw [cell_row e7, Nat.zero_add]
        have : i * sz + j < c.size := by have := index_mul (sz := sz) hi; omega
        simp [Array.getD, this]
      · obtain ⟨y, h1, h2, _⟩ := e11 i j _ hi (List.getElem?_eq_getElem (by rw [e10 i hi]; exact hj))
        have hl := (Array.getElem?_eq_some_iff.1 h1).1
        have hv := (Array.getElem?_eq_some_iff.1 h1).2
        have : c.getD (i * sz + j) undef = y := by rw [Array.getD, dif_pos hl]; exact hv
        rw [this]; exact h2
      · obtain ⟨y, h1, _, h3⟩ := e11 i j x hi hx
        have hl := (Array.getElem?_eq_some_iff.1 h1).1
        have hv := (Array.getElem?_eq_some_iff.1 h1).2
        have : c.getD (i * sz + j) undef = y := by rw [Array.getD, dif_pos hl]; exact hv
        rw [this]; exact h3.mono grow (BlLe.refl _)
    refine ⟨U', ?_⟩
    have hsets : ∀ t, ((env.bare s).set s (.own (.vec sz n g))).get t = (env.set s (.own (.vec sz n g))).get t := by
      intro t; rw [get_set, get_set, get_bare]
      by_cases e : s = t <;> simp [e]
    refine { hg with env := fun t => ?_, obinj := h.obinj, obok := h.obok, objs := fun id b' hid => hg.objs id b' hid }
    rw [get_set]
    by_cases e : s = t
    · subst e
      simp only [if_true]
      rw [hx]
      refine ⟨.own hrep, own_nil (.inr ⟨⟨b, 0, none⟩, .inr rfl, rfl, e2, e3, rfl, e4, by simp [U'], hsz, c, el, fr, e7, by simpa using e8, fun o _ ho => e9 o ho⟩)⟩
    · simp only [e, if_false]
      have := hg.env t
      rw [get_bare, if_neg e] at this
      have e' : ¬ t = s := fun q => e q.symm
      simpa [e'] using this

theorem get_dead_ne {heap : Heap} {id : Nat} {o : AObj} (h : heap.get id = o) (hn : o ≠ .dead) : id < heap.length := by
  rcases Nat.lt_or_ge id heap.length with hl | hl
  · exact hl
  · rw [heap_get_none _ _ hl] at h; exact absurd h.symm hn

/-- A slot's block made an object that is written. -/
theorem adopt_sound (h : Rel P A nt pend env heap bor tm w U bl ob) (hA : A.bl0.length ≤ heap.length) {s sz n : Nat} {g : Nat → AV} (hs : env.get s = .uni (.vec sz n g) ∨ ∃ m, env.get s = .uni (.wide sz n m g)) :
    ∃ bl' ob', Rel P A nt pend (env.set s (.row heap.length sz 0 n)) (heap ++ [.arr sz n g]) bor tm w U bl' ob' := by
  obtain ⟨ao, cap, hx, hncap, hok⟩ : ∃ ao cap, tm.getD s undef = .slice ao n cap ∧ n ≤ cap ∧ (n = 0 ∨ ∃ b, ao = some ⟨b, 0, none⟩ ∧ ob (.env s []) = some b ∧ A.B ≤ b ∧ ¬ forb A bl heap b ∧ U b = 0 ∧ 0 < sz ∧
      ∃ c e fr, w.heap[b]? = some (.cells c e fr) ∧ n * sz ≤ c.size ∧ (∀ o, o < c.size → w.frozen? ⟨b, o, none⟩ = false) ∧ (∀ i, i < n → (g i).cells.length = sz) ∧
        ∀ (i j : Nat) q, i < n → (g i).cells[j]? = some q → ∃ y, c[i * sz + j]? = some y ∧ y.oneCell' = true ∧ Rep w (forb A bl heap) U [] q y) := by
    obtain ⟨h1, h2⟩ := h.env s
    rcases hs with hs | ⟨m, hs⟩
    · rw [hs] at h2
      obtain ⟨y, hy, ao, cap, hx, hncap, hok⟩ := h2 [] _ rfl rfl
      simp only [vat, Option.some.injEq] at hy
      subst hy
      refine ⟨ao, cap, hx, hncap, ?_⟩
      rcases hok with hc | ⟨b, e1, e2, e3, e4, e5, hsz, c, el, fr, e7, e8, rest⟩
      · exact .inl (by omega)
      · exact .inr ⟨b, e1, e2, e3, e4, e5, hsz, c, el, fr, e7, Nat.le_trans (Nat.mul_le_mul_right _ hncap) e8, rest⟩
    · rw [hs] at h2
      obtain ⟨y, hy, ao, cap, hx, hncap, hok⟩ := h2 [] _ rfl rfl
      simp only [vat, Option.some.injEq] at hy
      subst hy
      exact ⟨ao, cap, hx, hncap, hok⟩
  -- the slot reads nothing for a while
  have h0 := h.bareAt s
  -- an object that has no block
  have bare : n = 0 → ∃ bl' ob', Rel P A nt pend (env.set s (.row heap.length sz 0 n)) (heap ++ [.arr sz n g]) bor tm w U bl' ob' := by
    intro hn
    subst hn
    have h2 := h0.lay [.arr sz 0 g]
    refine ⟨_, (fun l => match l with | .env t p => if t = s then none else ob (.env t p) | l => ob l), { h2 with env := fun t => ?_ }⟩
    rw [get_set]
    by_cases e : s = t
    · subst e
      simp only [if_true]
      rw [hx]
      exact ⟨.row (Nat.zero_le _) (fun h => absurd h (by omega)), .bare (bare_of rfl)⟩
    · have := h2.env t
      rw [get_bare] at this
      simp only [e, if_false] at this ⊢
      exact this
  rcases hok with hc | ⟨b, e1, e2, e3, e4, e5, hsz, c, el, fr, e7, e8, e9, e10, e11⟩
  · exact bare hc
  rcases Nat.eq_zero_or_pos n with hn0 | hn0
  · exact bare hn0
  subst e1
  have hblt := lt_of_some e7
  have hnob : ∀ l, (match l with | Loc.env t p => if t = s then none else ob (.env t p) | l => ob l) ≠ some b := by
    intro l hl
    have key : ob l = some b ∧ ∀ p, l ≠ .env s p := by
      cases l with
      | env t p =>
        simp only at hl
        by_cases e : t = s
        · simp [e] at hl
        · simp only [e, if_false] at hl; exact ⟨hl, fun q hq => e (by injection hq)⟩
      | cell i j p => exact ⟨hl, fun q hq => by cases hq⟩
      | mapv i j p => exact ⟨hl, fun q hq => by cases hq⟩
    exact key.2 [] (h.obinj _ _ b key.1 e2)
  have hgl : ∀ (j c : Nat), (bl ++ [some b])[j]? = some (some c) ↔ bl[j]? = some (some c) ∨ (j = bl.length ∧ c = b) := by
    intro j c
    rw [List.getElem?_append]
    split
    · rename_i hlt
      constructor
      · exact .inl
      · rintro (h | ⟨h, _⟩)
        · exact h
        · omega
    · rename_i hge
      constructor
      · intro hh
        have := (List.getElem?_eq_some_iff.1 hh).1
        simp at this
        have e0 : j - bl.length = 0 := this
        rw [e0] at hh
        simp at hh
        exact .inr ⟨by omega, hh.symm⟩
      · rintro (h | ⟨rfl, rfl⟩)
        · rw [List.getElem?_eq_none (by omega)] at h; cases h
        · simp
  have hgh : ∀ j, j < heap.length → Heap.get (heap ++ [.arr sz n g]) j = heap.get j := fun j hj => by rw [heap_get_append, if_pos hj]
  have hgn : Heap.get (heap ++ [.arr sz n g]) heap.length = .arr sz n g := by rw [heap_get_append, if_neg (by omega)]; simp [Heap.get]
  have hle : BlLe bl (bl ++ [some b]) := fun j c hj => (hgl j c).2 (.inl hj)
  have hbl : ∀ (j c : Nat), bl[j]? = some (some c) → j < heap.length := fun j c hj => by rw [← h.len]; exact (List.getElem?_eq_some_iff.1 hj).1
  have hforb : ∀ c, forb A (bl ++ [some b]) (heap ++ [.arr sz n g]) c ↔ forb A bl heap c ∨ c = b := by
    intro c
    constructor
    · rintro (hf | ⟨j, hj, hd⟩)
      · exact .inl (.inl hf)
      · rcases (hgl j c).1 hj with hj' | ⟨_, rfl⟩
        · rw [hgh j (hbl j c hj')] at hd; exact .inl (.inr ⟨j, hj', hd⟩)
        · exact .inr rfl
    · rintro ((hf | ⟨j, hj, hd⟩) | rfl)
      · exact .inl hf
      · exact .inr ⟨j, (hgl j c).2 (.inl hj), by rw [hgh j (hbl j c hj)]; exact hd⟩
      · exact .inr ⟨bl.length, (hgl _ _).2 (.inr ⟨rfl, rfl⟩), by rw [h.len, hgn]; simp⟩
  have g0 : Grow0 w (forb A bl heap) U w (forb A (bl ++ [some b]) (heap ++ [.arr sz n g])) U := by
    refine ⟨fun c _ hf => ?_, fun c _ _ => ⟨Nat.le_refl _, fun _ _ => rfl⟩⟩
    rcases (hforb c).1 hf with hf | rfl
    · exact .inl hf
    · exact .inr e5
  have kp : ∀ l c, (match l with | Loc.env t p => if t = s then none else ob (.env t p) | l => ob l) = some c → c < w.heap.size → ¬ forb A bl heap c → w.heap[c]? = w.heap[c]? ∧ U c = U c ∧ ¬ forb A (bl ++ [some b]) (heap ++ [.arr sz n g]) c := by
    intro l c hl _ hn
    refine ⟨rfl, rfl, fun hf => ?_⟩
    rcases (hforb c).1 hf with hf | rfl
    · exact hn hf
    · exact hnob l hl
  refine ⟨bl ++ [some b], _, { size := h0.size, env := fun t => ?_, len := by simp [h.len], objs := ?_, inj := ?_, base := ?_, obinj := h0.obinj, obok := fun l c hl => ⟨(h0.obok l c hl).1, (h0.obok l c hl).2.1, fun j hj => ?_⟩, since := ?_, f0 := h.f0, hB := h.hB, hG := h.hG, pend := ?_ }⟩
  · rw [get_set]
    by_cases e : s = t
    · subst e
      simp only [if_true]
      rw [hx]
      exact ⟨.row hncap (fun _ => ⟨b, (hgl _ _).2 (.inr ⟨h.len.symm, rfl⟩), by simp⟩), .bare (bare_of rfl)⟩
    · have := h0.env t
      rw [get_bare] at this
      simp only [e, if_false] at this ⊢
      exact ⟨this.1.mono g0 hle, ownAt_keeps this.2 g0 (fun p c hc => kp (.env t p) c hc)⟩
  · intro j c1 hj
    rcases (hgl j c1).1 hj with hj' | ⟨rfl, rfl⟩
    · rw [hgh j (hbl j c1 hj')]
      refine obj_keeps (h0.objs j c1 hj') g0 hle rfl (fun _ _ _ _ _ => rfl) (fun d hd => ?_)
      rcases hd with ⟨i, p, hd⟩ | ⟨i, p, hd⟩
      · exact kp (.cell j i p) d hd
      · exact kp (.mapv j i p) d hd
    · rw [h.len, hgn]
      exact ⟨c, el, fr, e7, hsz, e8, e9, e10, fun i j x hi hx => let ⟨y, h1, h2, h3⟩ := e11 i j x hi hx; ⟨y, h1, h2, h3.mono g0 (BlLe.refl _)⟩⟩
  · intro i j c hi hj
    rcases (hgl i c).1 hi with hi' | ⟨rfl, rfl⟩ <;> rcases (hgl j c).1 hj with hj' | ⟨rfl, e⟩
    · exact h.inj i j c hi' hj'
    · subst e; exact absurd hi' ((h.obok _ _ e2).2.2 i)
    · exact absurd hj' ((h.obok _ _ e2).2.2 j)
    · rfl
  · intro j c hj
    rcases (hgl j c).1 hj with hj' | ⟨_, rfl⟩
    · exact h.base j c hj'
    · refine ⟨e3, hblt, fun hf => ?_, (h.obok _ _ e2).1⟩
      have := h.f0 _ hf; omega
  · rcases (hgl j c).1 hj with hj' | ⟨_, rfl⟩
    · exact (h0.obok l c hl).2.2 j hj'
    · exact hnob l hl
  · refine { below := h.since.below, g0 := h.since.g0.trans g0 h.since.below.size, ble := h.since.ble.trans hle, pnd := fun j hj => ?_, gown := h.since.gown, blen := (by simp; have := h.since.blen; omega), ub := h.since.ub }
    obtain ⟨p1, p2⟩ := h.since.pnd j hj
    have hl := (List.getElem?_eq_some_iff.1 p1).1
    exact ⟨by rw [List.getElem?_append_left hl]; exact p1, by rw [hgh j (by rw [← h.len]; exact hl)]; exact p2⟩
  · intro p hp
    obtain ⟨p1, p2, p3⟩ := h.pend p hp
    have hl := (List.getElem?_eq_some_iff.1 p1).1
    exact ⟨by rw [List.getElem?_append_left hl]; exact p1, by rw [hgh p.1 (by rw [← h.len]; exact hl)]; exact p2, p3⟩

/-- An object that is written no more. -/
theorem freeze_sound (h : Rel P A nt [] env heap bor tm w U bl ob) {s id sz lo n n' : Nat} {g : Nat → AV} (hs : env.get s = .row id sz lo n) (hg : heap.get id = .arr sz n' g) (hle : lo + n ≤ n') :
    ∃ U', Rel P A nt [] (env.set s (.vec sz n (fun j => g (lo + j)))) (heap.set id .dead) bor tm w U' bl ob := by
  have hidl : id < heap.length := get_dead_ne hg (by simp)
  have hget : ∀ j, (heap.set id .dead).get j = if id = j then .dead else heap.get j := by
    intro j; rw [heap_get_set]
    by_cases e : id = j
    · subst e; simp [hidl]
    · simp [e]
  let U' : Nat → Nat := fun c => if bl[id]? = some (some c) then n' * sz else U c
  have hforb : ∀ c, forb A bl (heap.set id .dead) c → forb A bl heap c := by
    rintro c (hf | ⟨j, hj, hd⟩)
    · exact .inl hf
    · rw [hget] at hd
      split at hd
      · exact absurd rfl hd
      · exact .inr ⟨j, hj, hd⟩
  have hnid : ∀ c, bl[id]? = some (some c) → ¬ forb A bl (heap.set id .dead) c := by
    rintro c hc (hf | ⟨j, hj, hd⟩)
    · exact (h.base id c hc).2.2.1 hf
    · obtain rfl := h.inj id j c hc hj
      rw [hget, if_pos rfl] at hd
      exact hd rfl
  have hbF : ∀ c, bl[id]? = some (some c) → forb A bl heap c := fun c hc => .inr ⟨id, hc, by rw [hg]; simp⟩
  have g0 : Grow0 w (forb A bl heap) U w (forb A bl (heap.set id .dead)) U' := by
    refine ⟨fun c _ hf => .inl (hforb c hf), fun c _ hc => ⟨?_, fun _ _ => rfl⟩⟩
    by_cases e : bl[id]? = some (some c)
    · exact absurd (hbF c e) hc
    · simp only [U', if_neg e]; exact Nat.le_refl _
  have kp : ∀ c, c < w.heap.size → ¬ forb A bl heap c → w.heap[c]? = w.heap[c]? ∧ U' c = U c ∧ ¬ forb A bl (heap.set id .dead) c := by
    intro c _ hn
    refine ⟨rfl, ?_, fun hf => hn (hforb c hf)⟩
    simp only [U']
    rw [if_neg (fun e => hn (hbF c e))]
  refine ⟨U', { size := h.size, env := fun t => ?_, len := by rw [heap_set_length]; exact h.len, objs := ?_, inj := h.inj, base := h.base, obinj := h.obinj, obok := h.obok, since := ?_, f0 := h.f0, hB := h.hB, hG := h.hG, pend := fun p hp => by simp at hp }⟩
  · rw [get_set]
    by_cases e : s = t
    · subst e
      simp only [if_true]
      have hr := (h.env s).1
      rw [hs] at hr
      generalize tm.getD s undef = x at hr
      cases hr with
      | @row _ _ _ _ _ ao cap hcap hz =>
        refine ⟨?_, .bare (bare_of rfl)⟩
        rcases Nat.eq_zero_or_pos n with hn | hn
        · subst hn
          exact .vec hcap (fun _ _ => undef) (fun h => absurd h (by omega)) (fun i hi => absurd hi (by omega)) (fun i j hi _ => absurd hi (by omega)) (fun i j c hi _ => absurd hi (by omega))
        · obtain ⟨b, hb, rfl⟩ := hz hn
          obtain ⟨c, el, fr, k1, k2, k3, k4, k5, k6⟩ := arr_obj h hb hg
          have hmul : (lo + n) * sz ≤ n' * sz := Nat.mul_le_mul_right _ hle
          have hsp : (lo + n) * sz = lo * sz + n * sz := Nat.add_mul _ _ _
          refine .vec hcap (fun i j => c.getD (lo * sz + i * sz + j) undef) (fun _ => ⟨k2, ⟨b, lo * sz, none⟩, rfl, rfl, hnid b hb, by simp only [U']; rw [if_pos hb]; omega, fun i j hi hj => ?_⟩) (fun i hi => k5 _ (by omega)) (fun i j hi hj => ?_) (fun i j x hi hx => ?_)
          · rw [cell_row k1]
            have : lo * sz + i * sz + j < c.size := by have := index_mul (sz := sz) hi; omega
            simp [Array.getD, this]
          · obtain ⟨y, h1, h2, _⟩ := k6 (lo + i) j _ (by omega) (List.getElem?_eq_getElem (by rw [k5 _ (by omega)]; exact hj))
            rw [Nat.add_mul] at h1
            have hl := (Array.getElem?_eq_some_iff.1 h1).1
            have hv := (Array.getElem?_eq_some_iff.1 h1).2
            have : c.getD (lo * sz + i * sz + j) undef = y := by rw [Array.getD, dif_pos hl]; exact hv
            rw [this]; exact h2
          · obtain ⟨y, h1, _, h3⟩ := k6 (lo + i) j x (by omega) hx
            rw [Nat.add_mul] at h1
            have hl := (Array.getElem?_eq_some_iff.1 h1).1
            have hv := (Array.getElem?_eq_some_iff.1 h1).2
            have : c.getD (lo * sz + i * sz + j) undef = y := by rw [Array.getD, dif_pos hl]; exact hv
            rw [this]; exact h3.mono g0 (BlLe.refl _)
    · simp only [e, if_false]
      exact ⟨(h.env t).1.mono g0 (BlLe.refl _), ownAt_keeps (h.env t).2 g0 (fun p c _ => kp c)⟩
  · intro j c hj
    rw [hget]
    by_cases e : id = j
    · rw [if_pos e]; trivial
    · rw [if_neg e]
      exact obj_keeps (h.objs j c hj) g0 (BlLe.refl _) rfl (fun _ _ _ _ _ => rfl) (fun d _ => kp d)
  · refine { below := h.since.below, g0 := h.since.g0.trans g0 h.since.below.size, ble := h.since.ble, pnd := fun j hj => ?_, gown := fun c hc => ?_, blen := h.since.blen, ub := fun c hc => ?_ }
    · obtain ⟨p1, p2⟩ := h.since.pnd j hj
      refine ⟨p1, ?_⟩
      rw [hget]
      by_cases e : id = j
      · subst e
        rcases p2 with p2 | p2
        · right; rw [← p2, hg]; rfl
        · exact .inr p2
      · rw [if_neg e]; exact p2
    · obtain ⟨g1, g2⟩ := h.since.gown c hc
      refine ⟨g1, ?_⟩
      simp only [U']
      rw [if_neg (fun e => (h.base id c e).2.2.2 hc)]; exact g2
    · simp only [U']
      rw [if_neg (fun e => by have := (h.base id c e).1; omega)]
      exact h.since.ub c hc
end
end Ax
