import Derived.Test.YtiadhiggmjiibaaMH
import Derived.Test.YtiadhiggmjiibaaME
import Derived.Shelf.SlSortCmp.WholeK
import Derived.Shelf.SlSortCmp.NoneTotal
/- Bodies and calls; the machine is sound. -/
set_option linter.unusedVariables false
set_option linter.unusedSimpArgs false
namespace Ax
open Go Go.RowKit

/-- Whose rooms the results bring. -/
def ownR (ob : Loc → Option Nat) (sl : Nat → Option Nat) : List Nat → Option Nat
  | i :: q => match sl i with
    | some t => ob (.env t q)
    | none => none
  | [] => none
theorem ownR_of {ob : Loc → Option Nat} {sl : Nat → Option Nat} {p : List Nat} {b : Nat} (h : ownR ob sl p = some b) : ∃ i q t, p = i :: q ∧ sl i = some t ∧ ob (.env t q) = some b := by
  cases p with
  | nil => simp [ownR] at h
  | cons i q =>
    simp only [ownR] at h
    split at h
    · rename_i t ht; exact ⟨i, q, t, rfl, ht, h⟩
    · simp at h
theorem ownR_inj {ob : Loc → Option Nat} (hob : ∀ l m b, ob l = some b → ob m = some b → l = m) {sl : Nat → Option Nat} (hsl : ∀ (i j t : Nat), sl i = some t → sl j = some t → i = j) {p q : List Nat} {b : Nat} (h : ownR ob sl p = some b) (k : ownR ob sl q = some b) : p = q := by
  obtain ⟨i, p', t, rfl, h1, h3⟩ := ownR_of h
  obtain ⟨j, q', s, rfl, k1, k3⟩ := ownR_of k
  have := hob _ _ _ h3 k3
  injection this with e1 e2
  subst e1 e2
  rw [hsl i j t h1 k1]

section
variable {P : Program} {A : Amb} {nt : Nat} {X : Rec Prop} {cx : Ctx} {I : FuncId → List AV → Heap → (AV → Heap → Prop) → Prop}

/-- The slots are done with. -/
theorem Rel.forget {env : Env} {heap : Heap} {bor} {tm : Array Value} {w : World} {U : Nat → Nat} {bl : Blocks} {ob : Loc → Option Nat} {pend} (h : Rel P A nt pend env heap bor tm w U bl ob) :
    Rel P A 0 [] [] heap bor #[] w U bl (fun l => match l with | .env _ _ => none | l => ob l) where
  size := Nat.zero_le _
  env t := ⟨.undef, .bare (bare_of rfl)⟩
  len := h.len
  objs id b hid := h.objs id b hid
  inj := h.inj
  base := h.base
  obinj l m b hl hm := h.obinj l m b (by cases l <;> first | exact hl | simp at hl) (by cases m <;> first | exact hm | simp at hm)
  obok l b hl := h.obok l b (by cases l <;> first | exact hl | simp at hl)
  since := h.since
  f0 := h.f0
  hB := h.hB
  hG := h.hG
  pend p hp := by simp at hp

theorem Rel.pad {heap : Heap} {bor} {env : Env} {tm : Array Value} {w : World} {U : Nat → Nat} {bl : Blocks} {ob : Loc → Option Nat} {pend} (h : Rel P A nt pend env heap bor tm w U bl ob) (n : Nat) : Rel P A (tm ++ Array.replicate n undef).size pend env heap bor (tm ++ Array.replicate n undef) w U bl ob := by
  have hg : ∀ t, (tm ++ Array.replicate n undef).getD t undef = tm.getD t undef := by
    intro t
    simp only [Array.getD_eq_getD_getElem?]
    by_cases e : t < tm.size
    · rw [Array.getElem?_append_left e]
    · rw [Array.getElem?_append_right (by omega), Array.getElem?_eq_none (xs := tm) (by omega), Array.getElem?_replicate]
      split <;> rfl
  exact { h with size := Nat.le_refl _, env := fun t => by rw [hg t]; exact h.env t }

theorem finish_sound (hX : ¬ X.fail) {f : FuncId} {fn : Func} {k : AV → Heap → Prop} {e : Ex} {st : St} {a : Act} {w : World} (hP : cx.P = P) (hg : Good P A nt [] st a w) (hk : finish X cx f fn k e st) :
    a.defers = A.ds ∧ ∃ v, (results fn a.tmps).run P w = .ok v w ∧ ∃ r heap' U' bl' ob' own, Rel P A 0 [] [] heap' none #[] w U' bl' ob' ∧ Rep w (forb A bl' heap') U' bl' r v ∧ OwnAt w (forb A bl' heap') U' A.B own r v ∧
    (∀ p b, own p = some b → (¬ A.G b ∧ b < w.heap.size ∧ ∀ id : Nat, bl'[id]? ≠ some (some b)) ∧ (∀ q, own q = some b → p = q) ∧ ∀ l, ob' l ≠ some b) ∧ k r heap' := by
  have hk' : ∃ st', Good P A nt [] st' a w ∧ (match st' with
    | ⟨env, heap, defers, bor⟩ => match defers, bor with
      | [], none =>
        match resultsOf cx env heap fn.results.toList with
        | some (vs, heap) => (packR vs).force fun r => k r heap
        | none => X.fail
      | _, _ => X.fail) := by
    unfold finish at hk
    cases e with
    | exit id => exact absurd hk hX
    | normal => exact ghostK_sound hX hg hk
    | ret => exact ghostK_sound hX hg hk
  clear hk hg
  obtain ⟨⟨env0, heap0, defers, bor⟩, hg, hk⟩ := hk'
  obtain ⟨ha, rfl, U, bl, ob0, h0⟩ := hg
  refine ⟨ha, ?_⟩
  have hk : (match bor with | none => (match resultsOf cx env0 heap0 fn.results.toList with | some (vs, heap) => k (packR vs) heap | none => X.fail) | some _ => X.fail) := by
    cases bor with
    | some q => exact hk
    | none =>
      dsimp only at hk ⊢
      split at hk
      · simpa only [AV.force_eq] using hk
      · exact absurd hk hX
  cases bor with
  | some q => exact absurd hk hX
  | none =>
    simp only at hk
    split at hk
    · rename_i vs heap hvs
      have hp := h0.pad (topR fn.results.toList)
      obtain ⟨xs, env, tm, ob, sl, hrun, h, _, _, hR⟩ := resultsOf_sound hP _ _ _ _ _ _ _ hp (by simp) hvs
      rw [runR_eq (tm' := a.tmps) fun t _ => by
        simp only [Array.getD_eq_getD_getElem?]
        by_cases e : t < a.tmps.size
        · rw [Array.getElem?_append_left e]
        · rw [Array.getElem?_append_right (by omega), Array.getElem?_eq_none (xs := a.tmps) (by omega), Array.getElem?_replicate]
          split <;> rfl] at hrun
      have hlen : vs.length = xs.length := hR.len.trans hR.len'.symm
      have hres : (results fn a.tmps).run P w = .ok (if h : xs.length = 1 then xs[0] else .tuple xs.toArray) w := by
        have key : ∀ m : Sem (List Value), m.run P w = .ok xs w → ((List.toArray <$> m) >>= fun vs => pure (if h : vs.size = 1 then vs[0] else .tuple vs) : Sem Value).run P w = .ok (if h : xs.length = 1 then xs[0] else .tuple xs.toArray) w := by
          intro m hm
          simp only [Sem.run_bind, map_eq_pure_bind, hm, Result.andThen_ok, Sem.run_pure]
          by_cases e1 : xs.length = 1 <;> simp [e1]
        unfold results
        rw [Array.mapM_eq_mapM_toList]
        exact key _ hrun
      have hnot : ∀ q t b, ob (.env t q) = some b → ((¬ A.G b ∧ b < w.heap.size ∧ ∀ id : Nat, bl[id]? ≠ some (some b)) ∧ ∀ l, (match l with | Loc.env _ _ => none | l => ob l) ≠ some b) := by
        intro q t b hb
        refine ⟨h.obok _ b hb, fun l hl => ?_⟩
        cases l with
        | env s p => simp at hl
        | cell id i p => have := h.obinj _ _ b hb hl; simp at this
        | mapv id i p => have := h.obinj _ _ b hb hl; simp at this
      have hown : ∀ (i : Nat) v x, vs[i]? = some v → xs[i]? = some x → OwnAt w (forb A bl heap) U A.B (fun q => ownR ob sl (i :: q)) v x := by
        intro i v x hv hx
        rcases hR.own i v x hv hx with hb | ⟨t, ht, ho⟩
        · exact .bare hb
        · have : (fun q => ownR ob sl (i :: q)) = fun q => ob (.env t q) := by
            funext q; simp only [ownR, ht]
          rw [this]; exact ho
      refine ⟨_, hres, packR vs, heap, U, bl, _, (fun p => if vs.length = 1 then ownR ob sl (0 :: p) else ownR ob sl p), h.forget, ?_, ?_, ?_, hk⟩
      · by_cases e1 : vs.length = 1
        · obtain ⟨v, rfl⟩ := List.length_eq_one_iff.1 e1
          obtain ⟨x, rfl⟩ := List.length_eq_one_iff.1 (hlen ▸ e1)
          simpa [packR] using hR.rep 0 v x rfl rfl
        · have : packR vs = .tup vs := by
            unfold packR; split
            · simp at e1
            · rfl
          rw [this, dif_neg (by omega)]
          exact .tup (by simpa using hlen) fun i x y hx hy => hR.rep i x y hx (by simpa using hy)
      · by_cases e1 : vs.length = 1
        · obtain ⟨v, rfl⟩ := List.length_eq_one_iff.1 e1
          obtain ⟨x, rfl⟩ := List.length_eq_one_iff.1 (hlen ▸ e1)
          simpa [packR] using hown 0 v x rfl rfl
        · have : packR vs = .tup vs := by
            unfold packR; split
            · simp at e1
            · rfl
          rw [this, dif_neg (by omega)]
          simp only [e1, if_false]
          intro p u hp hou
          cases p with
          | nil => simp [AV.at] at hp; subst hp; simp [AV.owned] at hou
          | cons i q =>
            simp only [AV.at] at hp
            split at hp
            · rename_i c hc
              have hi := (List.getElem?_eq_some_iff.1 hc).1
              have hx : xs[i]? = some (xs[i]'(by omega)) := by simp
              obtain ⟨y, hy, ho⟩ := hown i c _ hc hx q u hp hou
              exact ⟨y, by simp only [vat]; simp only [List.getElem?_toArray, hx]; exact hy, ho⟩
            · simp at hp
      · intro p b hb
        by_cases e1 : vs.length = 1
        · simp only [e1, if_true] at hb ⊢
          obtain ⟨i, q, t, _, _, ho⟩ := ownR_of hb
          refine ⟨(hnot q t b ho).1, fun q' hq' => ?_, (hnot q t b ho).2⟩
          have := ownR_inj h.obinj hR.inj hb hq'
          injection this
        · simp only [e1, if_false] at hb ⊢
          obtain ⟨i, q, t, _, _, ho⟩ := ownR_of hb
          exact ⟨(hnot q t b ho).1, fun q' hq' => ownR_inj h.obinj hR.inj hb hq', (hnot q t b ho).2⟩
    · exact absurd hk hX

theorem Rel.ds {pend} {env : Env} {heap : Heap} {bor} {tm : Array Value} {w : World} {U : Nat → Nat} {bl : Blocks} {ob : Loc → Option Nat} (h : Rel P A nt pend env heap bor tm w U bl ob) (l : List Deferred) : Rel P { A with ds := l } nt pend env heap bor tm w U bl ob :=
  { size := h.size, env := h.env, len := h.len, objs := h.objs, inj := h.inj, base := h.base, obinj := h.obinj, obok := h.obok, since := { below := h.since.below, g0 := h.since.g0, ble := h.since.ble, pnd := h.since.pnd, gown := h.since.gown, blen := h.since.blen, ub := h.since.ub }, f0 := h.f0, hB := h.hB, hG := h.hG, pend := h.pend }

/-- What a body's run ends in. -/
def Ended (P : Program) (A : Amb) (k : AV → Heap → Prop) (e : Ending) (w' : World) : Prop := ∃ r x heap' U' bl' ob' own, e = .returned x ∧ Rel P A 0 [] [] heap' none #[] w' U' bl' ob' ∧ Rep w' (forb A bl' heap') U' bl' r x ∧ OwnAt w' (forb A bl' heap') U' A.B own r x ∧
    (∀ p b, own p = some b → (¬ A.G b ∧ b < w'.heap.size ∧ ∀ id : Nat, bl'[id]? ≠ some (some b)) ∧ (∀ q, own q = some b → p = q) ∧ ∀ l, ob' l ≠ some b) ∧ k r heap'

theorem start_rel {f : FuncId} {fn : Func} (hfn : P.funcs[f]? = some fn) {args : List AV} {heap : Heap} {env : Env} (henv : ∀ t, env.get t = if 0 ≤ t then ((args[t - 0]?).map AV.strip).getD .undef else .undef) {w : World} {U : Nat → Nat} {bl : Blocks} {ob : Loc → Option Nat} {vs : Array Value}
    (hrel : Rel P A 0 [] [] heap none #[] w U bl ob) (hargs : RepL w (forb A bl heap) U bl args vs.toList) : Rel P A fn.ntmps [] env heap none (vs ++ Array.replicate (fn.ntmps - vs.size) undef) w U bl ob := by
  refine { hrel with size := by simp; omega, env := fun t => ?_ }
  rw [henv t, if_pos (Nat.zero_le _), Nat.sub_zero]
  cases ht : args[t]? with
  | none => exact ⟨.undef, .bare (bare_of rfl)⟩
  | some v =>
    have hlt : t < vs.size := by have := (List.getElem?_eq_some_iff.1 ht).1; have := hargs.1; simp at this; omega
    have hx : (vs ++ Array.replicate (fn.ntmps - vs.size) undef).getD t undef = vs[t] := by
      rw [Array.getD_eq_getD_getElem?, Array.getElem?_append_left hlt]; simp [hlt]
    rw [hx]
    refine ⟨(hargs.2 t v _ ht (by simp [hlt])).strip, .bare (strip_bare _)⟩

theorem body_wp (hL : Leans P cx X I) (hX : Calm X) (hP : cx.P = P) {calm : List Oper → Bool} (hC : ProgOK P calm cx.srt) {d : Nat} (hl : ∀ fid n b st K, X.loop d fid n b st K → LoopOK P calm fid n b st K)
    {f : FuncId} {args : List AV} {heap : Heap} {k : AV → Heap → Prop} (h : runBody X cx I calm d f args heap k) : ∃ fn c, P.funcs[f]? = some fn ∧ fn.body = some c ∧ ∀ (A : Amb) (w : World) (U : Nat → Nat) (bl : Blocks) (ob : Loc → Option Nat) (vs : Array Value),
  Rel P A 0 [] [] heap none #[] w U bl ob → RepL w (forb A bl heap) U bl args vs.toList → c.wp P (bodyPost P fn (Ended P A k)) { tmps := vs ++ Array.replicate (fn.ntmps - vs.size) undef, defers := [] } w := by
  unfold runBody at h
  rw [hP] at h
  split at h
  · rename_i fn hfn
    split at h
    · rename_i c hc
      refine ⟨fn, c, hfn, hc, ?_⟩
      intro A0 w U bl ob vs hrel0 hargs0
      obtain ⟨env, he, henv⟩ := params_get args 0 (fun env => den X cx I calm fn.ntmps d f c ⟨env, heap, [], none⟩ (finish X cx f fn k))
      rw [he] at h
      have hnt : fn.ntmps = ntmpsOf P f := by simp only [ntmpsOf, hfn]
      have hrel := hrel0.ds []
      generalize hA : ({ A0 with ds := [] } : Amb) = A at hrel
      have hargs : RepL w (forb A bl heap) U bl args vs.toList := by subst hA; exact hargs0
      have hds : A.ds = [] := by subst hA; rfl
      have hstart := start_rel hfn henv hrel hargs
      refine wp_mono (den_sound hL hX hP hC.mixed hnt (hl f) c (hC.calm f fn c hfn hc) _ _ _ w ⟨hds.symm, rfl, U, bl, ob, hstart⟩ h) ?_
      intro e a w' hp
      have key : ∀ ex st', Good P A fn.ntmps [] st' a w' → finish X cx f fn k ex st' → a.defers = [] ∧ ∃ v, (results fn a.tmps).run P w' = .ok v w' ∧ Ended P A0 k (.returned v) w' := by
        intro ex st' hg' hk'
        obtain ⟨hd, v, hv, r, heap', U', bl', ob', own, h1, h2, h3, h4, h5⟩ := finish_sound hL.fail hP hg' hk'
        subst hA
        exact ⟨hd, v, hv, r, v, heap', U', bl', ob', own, rfl, h1.ds A0.ds, h2, h3, h4, h5⟩
      cases e with
      | normal => obtain ⟨st', hg', hk'⟩ := hp; exact key _ st' hg' hk'
      | ret => obtain ⟨st', hg', hk'⟩ := hp; exact key _ st' hg' hk'
      | exit id =>
        obtain ⟨st', hg', hk'⟩ := hp
        obtain ⟨env', heap', defers', bor'⟩ := st'
        exact absurd hk' hL.fail
      | goto l => exact hp
      | panic ch => exact hp.elim
      | outgrown => exact hp.elim
    · exact absurd h hL.fail
  · exact absurd h hL.fail

theorem runBody_sound (hL : Leans P cx X I) (hX : Calm X) (hP : cx.P = P) {calm : List Oper → Bool} (hC : ProgOK P calm cx.srt) {d : Nat} (hl : ∀ fid n b st K, X.loop d fid n b st K → LoopOK P calm fid n b st K)
    {f : FuncId} {args : List AV} {heap : Heap} {k : AV → Heap → Prop} (h : runBody X cx I calm d f args heap k) : InlOK P f args heap k := by
  obtain ⟨fn, c, hfn, hc, hw⟩ := body_wp hL hX hP hC hl h
  exact ⟨⟨fn, hfn, by simp [hc]⟩, fun A w U bl ob vs hrel hargs => calls_of_wp hfn hc (hw A w U bl ob vs hrel hargs)⟩

/-- The model's own reading. -/
def semRec (P : Program) (calm : List Oper → Bool) : Rec Prop where
  fail := False
  all := fun n k => ∀ i, i < n → k i
  call := fun f a Q => CallOK P f a Q ∧ ∃ r, Q r
  loop := fun _ fid n b st K => LoopOK P calm fid n b st K ∧ ∃ e s, K e s
  sort := sortP
  br := BrP

theorem callOK_mono {f : FuncId} {a : List AV} {Q Q' : AV → Prop} (h : ∀ r, Q r → Q' r) (hc : CallOK P f a Q) : CallOK P f a Q' :=
  ⟨hc.1, fun w F U vs hF ha => (hc.2 w F U vs hF ha).mono fun e w' ⟨r, x, U', own, h1, h2, h3, h4, h5, h6⟩ => ⟨r, x, U', own, h1, h2, h3, h4, h5, h r h6⟩⟩
theorem post_mono {k k' : Ex → St → Prop} (h : ∀ e s, k e s → k' e s) {e : Exit} {a : Act} {w : World} (hp : Post P A nt k e a w) : Post P A nt k' e a w := by
  cases e with
  | normal => obtain ⟨s, h1, h2⟩ := hp; exact ⟨s, h1, h _ _ h2⟩
  | exit id => obtain ⟨s, h1, h2⟩ := hp; exact ⟨s, h1, h _ _ h2⟩
  | ret => obtain ⟨s, h1, h2⟩ := hp; exact ⟨s, h1, h _ _ h2⟩
  | goto l => exact hp
  | panic c => exact hp
  | outgrown => exact hp
theorem loopOK_mono {calm : List Oper → Bool} {fid : FuncId} {n : Nat} {b : Code} {st : St} {k k' : Ex → St → Prop} (h : ∀ e s, k e s → k' e s) (hl : LoopOK P calm fid n b st k) : LoopOK P calm fid n b st k' := by
  intro hc A a w hA hg fr kk cs
  obtain ⟨e, a', w', h1, h2⟩ := hl hc A a w hA hg fr kk cs
  exact ⟨e, a', w', post_mono h h1, h2⟩

theorem calm_sem {calm : List Oper → Bool} : Calm (semRec P calm) := ⟨id, fun _ _ _ h => h.2, fun f a Q Q' h hc => ⟨callOK_mono h hc.1, let ⟨r, hr⟩ := hc.2; ⟨r, h r hr⟩⟩, rfl, rfl⟩

theorem inlN_sound (hP : cx.P = P) {calm : List Oper → Bool} (hC : ProgOK P calm cx.srt) : ∀ d f args h k, inlN (semRec P calm) cx calm d f args h k → InlOK P f args h k
  | 0, f, args, h, k, hk => hk.elim
  | d + 1, f, args, h, k, hk =>
    runBody_sound (X := semRec P calm) ⟨id, fun _ _ _ h => h.1, inlN_sound hP hC d, hC.name, rfl, rfl, rfl, hC.prim⟩ calm_sem hP hC (fun _ _ _ _ _ h => h.1) hk

theorem leans_sem (hP : cx.P = P) {calm : List Oper → Bool} (hC : ProgOK P calm cx.srt) (d : Nat) : Leans P cx (semRec P calm) (inlN (semRec P calm) cx calm d) :=
  ⟨id, fun _ _ _ h => h.1, inlN_sound hP hC d, hC.name, rfl, rfl, rfl, hC.prim⟩

theorem giveOut_own {w : World} {F F' : Nat → Prop} {U : Nat → Nat} {B : Nat} {own : List Nat → Option Nat} {v : AV} {x : Value} (h : OwnAt w F U B own v x) (hF : ∀ b, F' b → F b) :
    OwnAt w F' U B (fun p => match own p with | some b => if B ≤ b then some b else none | none => none) v x := by
  intro p u hp hou
  obtain ⟨y, hy, ho⟩ := h p u hp hou
  refine ⟨y, hy, ?_⟩
  unfold OwnOK at ho ⊢
  split at ho
  · rcases ho with ho | ⟨a, hn, e1, e2, e3, e4, e5, rest⟩
    · exact .inl ho
    · exact .inr ⟨a, hn, e1, by simp [e2, e3], e3, e4, fun hf => e5 (hF _ hf), rest⟩
  · obtain ⟨ao, cap, hx, hc, ho⟩ := ho
    refine ⟨ao, cap, hx, hc, ?_⟩
    rcases ho with ho | ⟨b, e1, e2, e3, e4, e5, hsz, c, el, fr, e7, e8, e9, e10, e11⟩
    · exact .inl ho
    · exact .inr ⟨b, e1, by simp [e2, e3], e3, fun hf => e4 (hF _ hf), e5, hsz, c, el, fr, e7, e8, e9, e10, fun i j q hi hq => let ⟨y, h1, h2, h3⟩ := e11 i j q hi hq; ⟨y, h1, h2, h3.mono ⟨fun b _ hf => .inl (hF b hf), fun b _ _ => ⟨Nat.le_refl _, fun _ _ => rfl⟩⟩ (BlLe.refl _)⟩⟩
  · obtain ⟨ao, cap, hx, hc, ho⟩ := ho
    refine ⟨ao, cap, hx, hc, ?_⟩
    rcases ho with ho | ⟨b, e1, e2, e3, e4, e5, hsz, c, el, fr, e7, e8, e9, e10, e11⟩
    · exact .inl ho
    · exact .inr ⟨b, e1, by simp [e2, e3], e3, fun hf => e4 (hF _ hf), e5, hsz, c, el, fr, e7, e8, e9, e10, fun i j q hi hq => let ⟨y, h1, h2, h3⟩ := e11 i j q hi hq; ⟨y, h1, h2, h3.mono ⟨fun b _ hf => .inl (hF b hf), fun b _ _ => ⟨Nat.le_refl _, fun _ _ => rfl⟩⟩ (BlLe.refl _)⟩⟩
  · trivial

/-- An object becomes the room of the slice that goes out. -/
theorem release_ok {heap : Heap} {w : World} {U : Nat → Nat} {bl : Blocks} {ob : Loc → Option Nat} (h : Rel P A 0 [] [] heap none #[] w U bl ob) {id sz n n' : Nat} {g : Nat → AV} (hg : heap.get id = .arr sz n' g) (hle : n ≤ n') {x : Value} (hx : Rep w (forb A bl heap) U bl (.row id sz 0 n) x) :
    ∃ (U2 : Nat → Nat) (bo : Option Nat), (∀ b, b < A.B → U2 b = U b) ∧ Grow0 w (forb A bl heap) U w A.F0 U2 ∧ OwnOK w A.F0 U2 A.B bo (.uni (.wide sz n n g)) x ∧ Rep w A.F0 U2 [] (.uni (.wide sz n n g)) x ∧
      (∀ b, bo = some b → A.B ≤ b ∧ b < w.heap.size ∧ bl[id]? = some (some b)) ∧ ∀ c, ¬ forb A bl heap c → U2 c = U c := by
  let U2 : Nat → Nat := fun c => if bl[id]? = some (some c) then 0 else U c
  have hbF : ∀ c, bl[id]? = some (some c) → forb A bl heap c := fun c hc => .inr ⟨id, hc, by rw [hg]; simp⟩
  have hU : ∀ c, ¬ forb A bl heap c → U2 c = U c := fun c hc => by simp only [U2]; rw [if_neg (fun e => hc (hbF c e))]
  have g0 : Grow0 w (forb A bl heap) U w A.F0 U2 := ⟨fun c _ hf => .inl (.inl hf), fun c _ hc => ⟨by rw [hU c hc]; exact Nat.le_refl _, fun _ _ => rfl⟩⟩
  have hub : ∀ b, b < A.B → U2 b = U b := fun b hb => by
    simp only [U2]; rw [if_neg (fun e => by have := (h.base id b e).1; omega)]
  cases hx with
  | @row _ _ _ _ _ ao cap hcap hz =>
    rcases Nat.eq_zero_or_pos n with hn | hn
    · exact ⟨U2, none, hub, g0, ⟨ao, cap, rfl, hcap, .inl hn⟩, .uni, fun b hb => (by cases hb), hU⟩
    · obtain ⟨b, hb, rfl⟩ := hz hn
      obtain ⟨c, el, fr, k1, k2, k3, k4, k5, k6⟩ := arr_obj h hb hg
      obtain ⟨b1, b2, b3, b4⟩ := h.base id b hb
      have hmul : n * sz ≤ n' * sz := Nat.mul_le_mul_right _ hle
      refine ⟨U2, some b, hub, g0, ⟨_, cap, rfl, hcap, .inr ⟨b, by simp, rfl, b1, b3, by simp only [U2]; rw [if_pos hb], k2, c, el, fr, k1, by omega, k4, fun i hi => k5 i (by omega), fun i j q hi hq => ?_⟩⟩, .uni, fun c hc => ?_, hU⟩
      · obtain ⟨y, h1, h2, h3⟩ := k6 i j q (by omega) hq
        exact ⟨y, h1, h2, h3.mono g0 (BlLe.refl _)⟩
      · simp only [Option.some.injEq] at hc; subst hc; exact ⟨b1, b2, hb⟩

theorem release1_cases (h : Heap) (v : AV) : release1 h v = v ∨ ∃ id sz n n' g, v = .row id sz 0 n ∧ h.get id = .arr sz n' g ∧ n ≤ n' ∧ release1 h v = .uni (.wide sz n n g) := by
  unfold release1
  split
  · rename_i id sz n
    split
    · rename_i sz' n' g hg
      cases hc : (Nat.beq sz sz' && Nat.ble n n') with
      | false => exact .inl rfl
      | true =>
        simp only [Bool.and_eq_true, beq_eq, ble_eq, decide_eq_true_eq] at hc
        obtain ⟨rfl, hle⟩ := hc
        exact .inr ⟨id, sz, n, n', g, rfl, hg, hle, rfl⟩
    · exact .inl rfl
  · exact .inl rfl
/-- What goes out is what was, or its first part is a row whose object goes out with it. -/
theorem release_cases (h : Heap) (r : AV) : release h r = r ∨ ∃ id sz n n' g, h.get id = .arr sz n' g ∧ n ≤ n' ∧ ((r = .row id sz 0 n ∧ release h r = .uni (.wide sz n n g)) ∨ ∃ vs, r = .tup (.row id sz 0 n :: vs) ∧ release h r = .tup (.uni (.wide sz n n g) :: vs)) := by
  unfold release
  split
  · rename_i v vs
    rcases release1_cases h v with e | ⟨id, sz, n, n', g, rfl, hg, hle, e⟩
    · rw [e]; exact .inl rfl
    · rw [e]; exact .inr ⟨id, sz, n, n', g, hg, hle, .inr ⟨vs, rfl, rfl⟩⟩
  · rcases release1_cases h r with e | ⟨id, sz, n, n', g, rfl, hg, hle, e⟩
    · exact .inl e
    · exact .inr ⟨id, sz, n, n', g, hg, hle, .inl ⟨rfl, e⟩⟩

/-- A result as it is given out. -/
def Out (w : World) (U : Nat → Nat) (F : Nat → Prop) (w' : World) (r : AV) (x : Value) : Prop := ∃ U' own, Ext w U w' U' ∧ Rep w' F U' [] r x ∧ OwnAt w' F U' w.heap.size own r x ∧ ∀ p b, own p = some b → w.heap.size ≤ b ∧ b < w'.heap.size ∧ ∀ q, own q = some b → p = q

theorem out_of {w w' : World} {U U' : Nat → Nat} {F : Nat → Prop} {A : Amb} (hB : A.B = w.heap.size) (hF0 : A.F0 = F) (hw0 : A.w0 = w) (hU0 : A.U0 = U) {heap' : Heap} {bl' : Blocks} {ob' : Loc → Option Nat} {own : List Nat → Option Nat} {r : AV} {x : Value} (h1 : Rel P A 0 [] [] heap' none #[] w' U' bl' ob') (h2 : Rep w' (forb A bl' heap') U' bl' r x)
    (h3 : OwnAt w' (forb A bl' heap') U' A.B own r x) (h4 : ∀ p b, own p = some b → (¬ A.G b ∧ b < w'.heap.size ∧ ∀ id : Nat, bl'[id]? ≠ some (some b)) ∧ (∀ q, own q = some b → p = q) ∧ ∀ l, ob' l ≠ some b) (ow : Bool) (hd : (bif ow then release heap' r else r).isData = true) :
    Out w U F w' (bif ow then release heap' r else r) x := by
  have ext : ∀ U2 : Nat → Nat, (∀ b, b < A.B → U2 b = U' b) → Ext w U w' U2 := fun U2 hU2 => by
    have hb := h1.since.below
    have hu := h1.since.ub
    rw [hw0] at hb
    rw [hU0] at hu
    exact ⟨hb.os, hb.tape, hb.output, hb.size, fun b hb2 => ⟨hb.block b (by omega), (hU2 b (by omega)).trans (hu b (by omega))⟩, hb.drawn⟩
  have hsp : ∀ q b, (match own q with | some b => if A.B ≤ b then some b else none | none => none) = some b → own q = some b ∧ A.B ≤ b := by
    intro q b hq
    split at hq
    · rename_i b' hb'
      split at hq
      · simp at hq; subst hq; exact ⟨hb', ‹_›⟩
      · simp at hq
    · simp at hq
  have plain : r.isData = true → Out w U F w' r x := fun hd => by
    have hrep : Rep w' F U' [] r x := (h2.data hd).mono ⟨fun b _ hf => .inl (.inl (hF0 ▸ hf)), fun b _ _ => ⟨Nat.le_refl _, fun _ _ => rfl⟩⟩ (BlLe.refl _)
    have hown : OwnAt w' F U' A.B _ r x := giveOut_own h3 (fun b hf => .inl (hF0 ▸ hf))
    rw [hB] at hown
    refine ⟨U', _, ext U' (fun _ _ => rfl), hrep, hown, fun p b hb => ?_⟩
    rw [← hB] at hb ⊢
    obtain ⟨b1, b2⟩ := hsp p b hb
    exact ⟨b2, (h4 p b b1).1.2.1, fun q hq => (h4 p b b1).2.1 q (hsp q b hq).1⟩
  cases ow with
  | false => exact plain hd
  | true =>
    simp only [cond_true] at hd ⊢
    rcases release_cases heap' r with e | ⟨id, sz, n, n', g, hg, hle, ⟨rfl, e⟩ | ⟨vs, rfl, e⟩⟩
    · rw [e] at hd ⊢; exact plain hd
    · rw [e]
      obtain ⟨U2, bo, u1, u2, u3, u4, u5, u6⟩ := release_ok h1 hg hle h2
      rw [hF0] at u3 u4
      rw [hB] at u3
      refine ⟨U2, fun p => if p = [] then bo else none, ext U2 u1, u4, fun p u hp hou => ?_, fun p b hb => ?_⟩
      · cases p with
        | nil => simp only [AV.at, Option.some.injEq] at hp; subst hp; exact ⟨x, rfl, by simpa using u3⟩
        | cons i q => simp [AV.at] at hp
      · dsimp only at hb
        split at hb
        · rename_i hp
          obtain ⟨b1, b2, _⟩ := u5 b hb
          rw [hB] at b1
          refine ⟨b1, b2, fun q hq => ?_⟩
          dsimp only at hq
          split at hq
          · rename_i hq'; rw [hp, hq']
          · cases hq
        · cases hb
    · rw [e] at hd ⊢
      cases h2 with
      | @tup _ _ xs hn hr =>
        have hn0 : 0 < xs.size := by rw [← hn]; simp
        have hx0 : xs[0]? = some xs[0] := by simp [hn0]
        obtain ⟨U2, bo, u1, u2, u3, u4, u5, u6⟩ := release_ok h1 hg hle (hr 0 _ xs[0] rfl hx0)
        rw [hF0] at u2 u3 u4
        rw [hB] at u3
        simp only [AV.isData, AV.isDataL, Bool.and_eq_true] at hd
        have hov : ∀ (i : Nat) v y, vs[i]? = some v → xs[i + 1]? = some y → Rep w' F U2 [] v y := fun i v y hv hy =>
          ((hr (i + 1) v y (by simpa using hv) hy).data (isDataL_get hd.2 i v hv)).mono u2 (BlLe.refl _)
        refine ⟨U2, fun p => if p = [0] then bo else (match own p with | some b => if A.B ≤ b then some b else none | none => none), ext U2 u1, .tup (by simpa using hn) fun i v y hv hy => ?_, fun p u hp hou => ?_, fun p b hb => ?_⟩
        · cases i with
          | zero =>
            simp only [List.getElem?_cons_zero, Option.some.injEq] at hv
            rw [hx0] at hy
            simp only [Option.some.injEq] at hy
            subst hv hy
            exact u4
          | succ i => exact hov i v y (by simpa using hv) hy
        · cases p with
          | nil => simp only [AV.at, Option.some.injEq] at hp; subst hp; simp [AV.owned] at hou
          | cons i q =>
            cases i with
            | zero =>
              simp only [AV.at, List.getElem?_cons_zero] at hp
              cases q with
              | nil =>
                simp only [AV.at, Option.some.injEq] at hp; subst hp
                exact ⟨xs[0], by simp [vat, hx0], by simpa using u3⟩
              | cons j q => simp [AV.at] at hp
            | succ i =>
              have hp2 : (AV.tup (.row id sz 0 n :: vs)).at ((i + 1) :: q) = some u := by simpa [AV.at] using hp
              obtain ⟨y, hy, ho⟩ := h3 _ u hp2 hou
              refine ⟨y, hy, ?_⟩
              have e0 : ((i + 1) :: q : List Nat) ≠ [0] := by simp
              simp only [if_neg e0]
              have hk := own_keeps (F' := F) (U' := U2) ho u2 (fun b hb _ hnf => ⟨rfl, u6 b hnf, fun hf => hnf (.inl (hF0 ▸ hf))⟩)
              have hA : OwnAt w' F U2 A.B (fun _ => own ((i + 1) :: q)) u y := fun p v hp hov => by
                cases p with
                | nil => simp only [AV.at, Option.some.injEq] at hp; subst hp; exact ⟨y, rfl, hk⟩
                | cons j p =>
                  exfalso
                  cases u <;> simp [AV.owned] at hou <;> simp [AV.at] at hp
              obtain ⟨y2, hy2, ho2⟩ := giveOut_own hA (fun b hf => hf) [] u rfl hou
              simp only [vat, Option.some.injEq] at hy2
              subst hy2
              rw [hB] at ho2 ⊢
              exact ho2
        · dsimp only at hb
          split at hb
          · rename_i hp
            obtain ⟨b1, b2, b3⟩ := u5 b hb
            rw [hB] at b1
            refine ⟨b1, b2, fun q hq => ?_⟩
            dsimp only at hq
            split at hq
            · rename_i hq'; rw [hp, hq']
            · obtain ⟨c1, _⟩ := hsp q b hq
              exact absurd b3 ((h4 q b c1).1.2.2 id)
          · obtain ⟨b1, b2⟩ := hsp p b hb
            refine ⟨by rw [← hB]; exact b2, (h4 p b b1).1.2.1, fun q hq => ?_⟩
            dsimp only at hq
            split at hq
            · obtain ⟨_, _, b3⟩ := u5 b hq
              exact absurd b3 ((h4 p b b1).1.2.2 id)
            · exact (h4 p b b1).2.1 q (hsp q b hq).1

theorem callOK_of_inl {calm : List Oper → Bool} {f : FuncId} {args : List AV} {Q : AV → Prop} (hi : InlOK P f args [] (giveOut (semRec P calm) cx f Q)) : CallOK P f args Q := by
  obtain ⟨hb, h⟩ := hi
  refine ⟨hb, fun w F U vs hF hargs => ?_⟩
  let A : Amb := { B := w.heap.size, F0 := F, G := fun _ => False, w0 := w, bl0 := [], U0 := U, h0 := [] }
  have hrel : Rel P A 0 [] [] [] none #[] w U [] (fun _ => none) :=
    { size := Nat.zero_le _, env := fun t => ⟨.undef, .bare (bare_of rfl)⟩, len := rfl, objs := fun id b hid => by simp at hid, inj := fun i j b hi => by simp at hi,
      base := fun id b hid => by simp at hid, obinj := fun l m b hl => by simp at hl, obok := fun l b hl => by simp at hl,
      since := { below := BelowD.refl _ _, g0 := Grow0.refl _ _ _, ble := BlLe.refl _, pnd := fun id hid => by simp [A] at hid, gown := fun b hb => hb.elim, blen := Nat.le_refl _, ub := fun b _ => rfl },
      f0 := hF, hB := Nat.le_refl _, hG := fun b hb => hb.elim, pend := fun p hp => by simp at hp }
  have hargs' : RepL w (forb A [] []) U [] args vs.toList := by
    refine ⟨hargs.1, fun i x y hx hy => (hargs.2 i x y hx hy).mono ⟨fun b _ hf => ?_, fun b _ _ => ⟨Nat.le_refl _, fun _ _ => rfl⟩⟩ (BlLe.refl _)⟩
    rcases hf with hf | ⟨id, hid, _⟩
    · exact .inl hf
    · simp at hid
  refine (h A w U [] _ vs hrel hargs').mono ?_
  rintro e w' ⟨r, x, heap', U', bl', ob', own, rfl, h1, h2, h3, h4, h5⟩
  unfold giveOut giveOut2 at h5
  rcases cond_elim h5 with ⟨hd, h5⟩ | ⟨_, h5⟩
  · rw [AV.force_eq] at h5
    obtain ⟨U2, own2, o1, o2, o3, o4⟩ := out_of (w := w) (U := U) (F := F) rfl rfl rfl rfl h1 h2 h3 h4 (cx.ow f) hd
    cases how : cx.ow f with
    | false =>
      rw [how] at h5 o2
      exact ⟨_, x, U2, own2, rfl, o1, o2.strip, .bare (strip_bare _), o4, h5⟩
    | true =>
      rw [how] at h5 o2 o3
      exact ⟨_, x, U2, own2, rfl, o1, o2, o3, o4, h5⟩
  · exact h5.elim

theorem stepCall_sound (hP : cx.P = P) {calm : List Oper → Bool} (hC : ProgOK P calm cx.srt) {f : FuncId} {args : List AV} {Q : AV → Prop} (h : stepCall (semRec P calm) cx calm f args Q) : CallOK P f args Q :=
  callOK_of_inl (runBody_sound (X := semRec P calm) (leans_sem hP hC topDepth) calm_sem hP hC (fun _ _ _ _ _ h => h.1) h)

theorem sem_pre (hP : cx.P = P) {calm : List Oper → Bool} (hC : ProgOK P calm cx.srt) : PreFix cx calm (semRec P calm) where
  fail := rfl
  all := rfl
  sort := rfl
  br := rfl
  call f a Q h := ⟨stepCall_sound hP hC h, some_call (X := semRec P calm) rfl rfl rfl id (fun _ _ _ h => h.2) (fun _ _ _ _ _ _ h => h.2) h⟩
  loop d fid n b st K h := ⟨stepLoop_sound (leans_sem hP hC d) calm_sem hP hC.mixed (fun _ _ _ _ h => h.1) (by unfold stepLoop at h; rw [hP] at h; exact h), some_loop (X := semRec P calm) rfl rfl rfl id (fun _ _ _ h => h.2) (fun _ _ _ _ _ _ h => h.2) h⟩
  cmono f a Q Q' h hc := ⟨callOK_mono h hc.1, let ⟨r, hr⟩ := hc.2; ⟨r, h r hr⟩⟩
  lmono d fid n b st K K' h hl := ⟨loopOK_mono h hl.1, let ⟨e, s, hs⟩ := hl.2; ⟨e, s, h e s hs⟩⟩

/-- The least reading is sound. -/
theorem lfp_sound (hP : cx.P = P) {calm : List Oper → Bool} (hC : ProgOK P calm cx.srt) {f : FuncId} {args : List AV} {Q : AV → Prop} (h : (lfp cx calm).call f args Q) : CallOK P f args Q :=
  (h _ (sem_pre hP hC)).1
end
end Ax

/- Rules for running the machine by symbols. -/
set_option linter.unusedVariables false
namespace Ax
open Go Go.RowKit
def yesCalm : List Oper → Bool := fun _ => true
theorem branch_of {b : Bool} {y n : Prop} (h1 : b = true → y) (h2 : b = false → n) : BrP b y n := ⟨h1, h2⟩
theorem branch_true {b : Bool} {y n : Prop} (hb : b = true) (h1 : y) : BrP b y n := ⟨fun _ => h1, fun e => absurd (hb.symm.trans e) (by simp)⟩
theorem branch_false {b : Bool} {y n : Prop} (hb : b = false) (h1 : n) : BrP b y n := ⟨fun e => absurd (hb.symm.trans e) (by simp), fun _ => h1⟩

/-- A loop by a measure: J says which states stand at its head. -/
theorem loop_ind {cx : Ctx} {calm : List Oper → Bool} {d : Nat} {fid : FuncId} {n : Nat} {b : Code} {K : Ex → St → Prop} {ι : Type} (μ : ι → Nat) (S : ι → St)
    (round : ∀ i, (∀ j, μ j < μ i → (lfp cx calm).loop d fid n b (S j) K) → stepLoop (lfp cx calm) cx calm d fid n b (S i) K) : ∀ i, (lfp cx calm).loop d fid n b (S i) K := by
  intro i
  generalize hm : μ i = m
  induction m using Nat.strongRecOn generalizing i with
  | _ m ih => exact lfp_loop (round i fun j hj => ih (μ j) (hm ▸ hj) j rfl)
end Ax

/- A function that sorts, from the library's contract of slices.SortFunc at structs. -/
set_option linter.unusedVariables false
namespace Ax
open Go Go.RowKit Go.Sort Go.Shelf Go.Lib Go.Proofs

theorem grown_eq {w w' : World} (h : SortWorld w w.heap.size w') : ∃ q os', w' = grow (w.drewN q) os' := by
  refine ⟨w'.drawn - w.drawn, w'.heap.extract w.heap.size w'.heap.size, ?_⟩
  obtain ⟨h1, h2, h3, h4, h5, h6⟩ := h
  cases w with | mk heap tape drawn os output =>
  cases w' with | mk heap' tape' drawn' os' output' =>
  simp only [grow, World.drewN] at *
  subst h1; subst h2; subst h3
  have e1 : drawn + (drawn' - drawn) = drawn' := by omega
  have e2 : heap' = heap ++ heap'.extract heap.size heap'.size := by
    apply Array.ext_getElem?
    intro k
    by_cases hk : k < heap.size
    · rw [Array.getElem?_append_left hk]; exact h5 k hk (by omega)
    · rw [Array.getElem?_append_right (by omega)]
      simp only [Array.getElem?_extract]
      by_cases hk2 : k < heap'.size
      · rw [if_pos (by omega), show heap.size + (k - heap.size) = k by omega]
      · rw [if_neg (by omega)]; exact Array.getElem?_eq_none (by omega)
  rw [e1, ← e2]

theorem mapBlock_other (w : World) (blk : Nat) (f : Array Value → Array Value) {k : Nat} (h : k ≠ blk) : (mapBlock w blk f).heap[k]? = w.heap[k]? := by
  simp only [mapBlock, Array.getElem?_modify, if_neg (Ne.symm h)]
theorem sortWorldK_is {α : Type} [Inhabited α] (enc : α → List Value) (k : Nat) (w : World) (b m : Nat) (dk : Array α) (os : Array Obj) : SortWorld w b (sortWorldK enc k w b 0 m dk os) := by
  unfold sortWorldK putRowK putRow
  refine ⟨rfl, rfl, rfl, ?_, fun i hi hne => ?_, ?_⟩
  · rw [size_grow]; simp [mapBlock, Sort.ahead]
  · rw [heap_grow_old _ _ (by simpa [mapBlock, Sort.ahead] using hi), mapBlock_other _ _ _ hne]
    rfl
  · show w.drawn ≤ w.drawn + m
    omega

theorem sortPrim_of {P : Program} {ρ : Ren} (L : SlLaysF0.n6 P ρ) (hN : NameOK P) {k : Nat} (hk : 2 ≤ k) (aE : ∀ w, (isAgg (ρ.t 24)).run P w = .ok true w) (zE : ∀ w, (Go.sizeOf (ρ.t 24)).run P w = .ok k w) (hb : Bodied P (ρ.f 6)) : SortPrim P (ρ.f 6) k where
  pos := by omega
  bodied := hb
  empty w ao cap fv := (AnyF.slices_SortFunc_none L ao cap fv w).mono fun e w' ⟨h1, h2⟩ => ⟨h1, by rw [h2]; exact sortWorld_refl w _⟩
  full := by
    intro w b cap n g cb d c hrow h0 hcap hlt hd hirr htr hntr hbod hcmp
    haveI : Inhabited (Fin n) := ⟨⟨0, h0⟩⟩
    obtain ⟨cs, el, fr, k1, k2, k3, k4⟩ := hrow
    have hvalOf : ∀ l : List Value, valOf k l = .agg l.toArray := fun l => by simp [valOf, show k ≠ 1 by omega]
    let D : Array (Fin n) := Array.ofFn id
    have hD : D.size = n := by simp [D]
    have hDi : ∀ (i : Nat) (hi : i < n), D[i]! = ⟨i, hi⟩ := fun i hi => by
      rw [getElem!_pos D i (by rw [hD]; exact hi)]; simp [D]
    have hblk : b < w.heap.size := (Array.getElem?_eq_some_iff.1 k1).1
    have eg : ∀ (args : Array Value) (w : World), (callFunc g args).run P w = .ok (.enter g args) w := by
      obtain ⟨fn, f1, f2⟩ := hbod
      cases hc : fn.body with
      | none => rw [hc] at f2; simp at f2
      | some cc => exact enters_of f1 (hN _ _ f1 f2) hc
    have hdm : ∀ (t : Nat), t < n * k → t / k < n ∧ t % k < k ∧ t / k * k + t % k = t := fun t ht => by
      have h1 : t / k < n := by rw [Nat.div_lt_iff_lt_mul (by omega)]; exact ht
      have h2 := Nat.mod_lt t (show 0 < k by omega)
      have h3 := Nat.div_add_mod t k
      rw [Nat.mul_comm] at h3
      exact ⟨h1, h2, h3⟩
    have hH : HoldsK (fun i : Fin n => d i) k w b 0 D := by
      intro t ht
      rw [size_flatK, hD] at ht
      obtain ⟨a1, a2, a3⟩ := hdm t ht
      rw [get_flatK _ _ _ _ (by rw [hD]; exact ht), hDi _ a1, Nat.zero_add]
      have ht' : t < cs.size := by omega
      refine ⟨?_, k3 t ht'⟩
      have := k4 _ _ a1 a2
      rw [a3] at this
      have hj : t % k < (d (t / k)).length := by rw [(hd _ a1).1]; exact a2
      simp only [World.cell?, k1, id]
      rw [if_neg (by simp), this, List.getElem?_eq_getElem hj, getElem!_pos (d (t / k)) (t % k) hj]
    have hcmp' : ∀ w1, SortWorld w b w1 → ∀ i j, i < n → j < n → Calls P g (#[.agg (d i).toArray, .agg (d j).toArray] ++ cb) w1 fun e w' => e = .returned (.int .i64 (c i j)) ∧ SortWorld w1 w1.heap.size w' := fun w1 h1 i j hi hj => by
      have := hcmp w1 h1 i j hi hj
      rw [hvalOf, hvalOf] at this
      exact this
    have hcon := AnyQ.slices_SortFunc L k aE zE (fun i : Fin n => d i) (fun i => (hd i i.2).1) (fun i => (hd i i.2).2) (fun x y : Fin n => c x y) ⟨fun x => by simpa [ltOf] using hirr x x.2, fun x y z => by simpa [ltOf] using htr x y z x.2 y.2 z.2, fun x y z => by
      simp only [ltOf, decide_eq_false_iff_not]; exact hntr x y z x.2 y.2 z.2⟩ g cb b 0 cap D w eg (fun m os dk hs x y => (hcmp' _ (sortWorldK_is _ k w b m dk os) x y x.2 y.2).mono fun e w' ⟨h1, h2⟩ => ⟨h1, grown_eq h2⟩) hH hblk (by rw [hD]; exact hlt)
    rw [hD] at hcon
    refine hcon.mono ?_
    rintro e w' ⟨rfl, d', m, os, hp, hs, rfl⟩
    refine ⟨rfl, sortWorldK_is _ k w b m d' os, fun i => (d'[i]!).val, ?_, ?_, ?_⟩
    · obtain ⟨p1, _, p3⟩ := hp
      rw [hD] at p1
      have q := p3.map (fun i : Fin n => i.val)
      have e1 : (D.extract 0 n).toList.map (fun i : Fin n => i.val) = List.range n := by
        apply List.ext_getElem?
        intro i
        by_cases hi : i < n
        · simp [D, hi]
        · simp [D, hi]
      have e2 : (d'.extract 0 n).toList.map (fun i : Fin n => i.val) = (List.range n).map fun i => (d'[i]!).val := by
        apply List.ext_getElem?
        intro i
        by_cases hi : i < n
        · have : i < d'.size := by omega
          simp [hi, this]
        · simp [hi]; omega
      rw [e1, e2] at q
      exact q
    · intro i j hij hj
      have := hs i j (Nat.zero_le _) hij hj
      simpa [ltOf] using this
    · have p1 : d'.size = n := by rw [hp.1, hD]
      refine ⟨putCells id 0 (flatK (fun i : Fin n => d i) k d') cs, el, fr, ?_, by simpa [putCells] using k2, fun o ho => ?_, fun i j hi hj => ?_⟩
      · unfold sortWorldK putRowK putRow
        rw [heap_grow_old _ _ (by simpa [mapBlock, Sort.ahead] using hblk)]
        simp [mapBlock, Sort.ahead, Array.getElem?_modify, k1, onCells]
      · have := k3 o (by simpa [putCells] using ho)
        unfold sortWorldK putRowK
        rw [frozen?_grow _ _ _ (by simpa [putRow, mapBlock, Sort.ahead] using hblk), frozen?_putRow, frozen?_ahead]
        exact this
      · have hpos : i * k + j < n * k := by
          have : (i + 1) * k ≤ n * k := Nat.mul_le_mul_right _ hi
          rw [Nat.add_mul, Nat.one_mul] at this
          omega
        have e1 : (i * k + j) / k = i := by rw [Nat.mul_comm, Nat.mul_add_div (by omega), Nat.div_eq_of_lt hj]; omega
        have e2 : (i * k + j) % k = j := by rw [Nat.mul_comm, Nat.mul_add_mod, Nat.mod_eq_of_lt hj]
        have hl : (d (d'[i]!).val).length = k := (hd _ (d'[i]!).2).1
        have hlt' : i * k + j < cs.size := by omega
        have hg := get_flatK (fun i : Fin n => d i) k d' (i * k + j) (by rw [p1]; exact hpos)
        rw [e1, e2] at hg
        simp only [putCells, Array.getElem?_mapIdx, Array.getElem?_eq_getElem hlt', Option.map_some, size_flatK, p1, Nat.zero_le, true_and, Nat.zero_add, if_pos hpos, Nat.sub_zero, id, hg]
        rw [getElem!_pos _ j (by rw [hl]; exact hj), List.getElem?_eq_getElem (by rw [hl]; exact hj)]
end Ax
