import Derived.Test.YthjpknhibboboaaMJ
/- Bodies and calls; the machine is sound. -/
set_option linter.unusedVariables false
set_option linter.unusedSimpArgs false
namespace Ax
open Go Go.RowKit

theorem usedT_of {t : Nat} : ∀ {rs : List ResultVar} {m j : Nat}, rs[j]? = some (.tmp t) → m ≤ j → usedT t (rs.drop m) = true
  | [], m, j, h, _ => by simp at h
  | r :: rs, 0, 0, h, _ => by simp at h; subst h; simp [usedT, beq_eq]
  | r :: rs, 0, j + 1, h, _ => by
    have := usedT_of (rs := rs) (m := 0) (j := j) (by simpa using h) (Nat.zero_le _)
    simp only [List.drop_zero] at this ⊢
    cases r with
    | tmp s => simp [usedT, this]
    | cell a u => simpa [usedT] using this
  | r :: rs, m + 1, 0, h, hl => by omega
  | r :: rs, m + 1, j + 1, h, hl => by
    have := usedT_of (rs := rs) (m := m) (j := j) (by simpa using h) (by omega)
    simpa using this

/-- Whose rooms the results bring. -/
def ownR (ob : Loc → Option Nat) (rs : List ResultVar) : List Nat → Option Nat
  | i :: q => match rs[i]? with
    | some (.tmp t) => if usedT t (rs.drop (i + 1)) then none else ob (.env t q)
    | _ => none
  | [] => none
theorem ownR_of {ob : Loc → Option Nat} {rs : List ResultVar} {p : List Nat} {b : Nat} (h : ownR ob rs p = some b) : ∃ i q t, p = i :: q ∧ rs[i]? = some (.tmp t) ∧ usedT t (rs.drop (i + 1)) = false ∧ ob (.env t q) = some b := by
  cases p with
  | nil => simp [ownR] at h
  | cons i q =>
    simp only [ownR] at h
    split at h
    · rename_i t ht
      split at h
      · simp at h
      · rename_i hu; exact ⟨i, q, t, rfl, ht, by simpa using hu, h⟩
    · simp at h
theorem ownR_inj {ob : Loc → Option Nat} (hob : ∀ l m b, ob l = some b → ob m = some b → l = m) {rs : List ResultVar} {p q : List Nat} {b : Nat} (h : ownR ob rs p = some b) (k : ownR ob rs q = some b) : p = q := by
  obtain ⟨i, p', t, rfl, h1, h2, h3⟩ := ownR_of h
  obtain ⟨j, q', s, rfl, k1, k2, k3⟩ := ownR_of k
  have := hob _ _ _ h3 k3
  injection this with e1 e2
  subst e1 e2
  rcases Nat.lt_trichotomy i j with hij | rfl | hij
  · rw [usedT_of k1 hij] at h2; cases h2
  · rfl
  · rw [usedT_of h1 hij] at k2; cases k2

section
variable {P : Program} {A : Amb} {nt : Nat} {X : Rec Prop} {cx : Ctx} {I : FuncId → List AV → Heap → (AV → Heap → Prop) → Prop}

/-- The slots are done with. -/
theorem Rel.forget {env : Env} {heap : Heap} {bor} {tm : Array Value} {w : World} {U : Nat → Nat} {bl : Blocks} {ob : Loc → Option Nat} {pend} (h : Rel P A nt pend env heap bor tm w U bl ob) :
    Rel P A 0 [] [] heap bor #[] w U bl (fun l => match l with | .env _ _ => none | l => ob l) where
  size := Nat.zero_le _
  env t := ⟨.undef, .bare (bare_of rfl)⟩
  len := h.len
  objs id b hid := h.objs id b hid
  inj := h.inj
  base := h.base
  obinj l m b hl hm := h.obinj l m b (by cases l <;> first | exact hl | simp at hl) (by cases m <;> first | exact hm | simp at hm)
  obok l b hl := h.obok l b (by cases l <;> first | exact hl | simp at hl)
  since := h.since
  f0 := h.f0
  hB := h.hB
  hG := h.hG
  pend p hp := by simp at hp

theorem finish_sound (hX : ¬ X.fail) {f : FuncId} {fn : Func} {k : AV → Heap → Prop} {e : Ex} {st : St} {a : Act} {w : World} (hP : cx.P = P) (hg : Good P A nt [] st a w) (hk : finish X cx f fn k e st) :
    a.defers = [] ∧ ∃ v, (results fn a.tmps).run P w = .ok v w ∧ ∃ r heap' U' bl' ob' own, Rel P A 0 [] [] heap' none #[] w U' bl' ob' ∧ Rep w (forb A bl' heap') U' bl' r v ∧ OwnAt w (forb A bl' heap') U' A.B own r v ∧
    (∀ p b, own p = some b → (¬ A.G b ∧ b < w.heap.size ∧ ∀ id : Nat, bl'[id]? ≠ some (some b)) ∧ (∀ q, own q = some b → p = q) ∧ ∀ l, ob' l ≠ some b) ∧ k r heap' := by
  have hk' : ∃ st', Good P A nt [] st' a w ∧ (match st' with
    | ⟨env, heap, defers, bor⟩ => match defers, bor with
      | [], none =>
        match resultsOf cx.P env heap fn.results.toList with
        | some vs => (packR vs).force fun r => k r heap
        | none => X.fail
      | _, _ => X.fail) := by
    unfold finish at hk
    cases e with
    | exit id => exact absurd hk hX
    | normal => exact ghostK_sound hX hg hk
    | ret => exact ghostK_sound hX hg hk
  clear hk hg
  obtain ⟨⟨env, heap, defers, bor⟩, hg, hk⟩ := hk'
  obtain ⟨ha, rfl, U, bl, ob, h⟩ := hg
  refine ⟨ha, ?_⟩
  have hk : (match bor with | none => (match resultsOf cx.P env heap fn.results.toList with | some vs => k (packR vs) heap | none => X.fail) | some _ => X.fail) := by
    cases bor <;> simp only [AV.force_eq] at hk ⊢ <;> exact hk
  cases bor with
  | some q => exact absurd hk hX
  | none =>
    simp only at hk
    split at hk
    · rename_i vs hvs
      rw [hP] at hvs
      obtain ⟨xs, hrun, hR⟩ := resultsOf_sound h _ _ hvs
      have hlen : vs.length = xs.length := hR.len.trans hR.len'.symm
      have hres : (results fn a.tmps).run P w = .ok (if h : xs.length = 1 then xs[0] else .tuple xs.toArray) w := by
        have key : ∀ m : Sem (List Value), m.run P w = .ok xs w → ((List.toArray <$> m) >>= fun vs => pure (if h : vs.size = 1 then vs[0] else .tuple vs) : Sem Value).run P w = .ok (if h : xs.length = 1 then xs[0] else .tuple xs.toArray) w := by
          intro m hm
          simp only [Sem.run_bind, map_eq_pure_bind, hm, Result.andThen_ok, Sem.run_pure]
          by_cases e1 : xs.length = 1 <;> simp [e1]
        unfold results
        rw [Array.mapM_eq_mapM_toList]
        exact key _ hrun
      have hnot : ∀ q t b, ob (.env t q) = some b → ((¬ A.G b ∧ b < w.heap.size ∧ ∀ id : Nat, bl[id]? ≠ some (some b)) ∧ ∀ l, (match l with | Loc.env _ _ => none | l => ob l) ≠ some b) := by
        intro q t b hb
        refine ⟨h.obok _ b hb, fun l hl => ?_⟩
        cases l with
        | env s p => simp at hl
        | cell id i p => have := h.obinj _ _ b hb hl; simp at this
        | mapv id i p => have := h.obinj _ _ b hb hl; simp at this
      have hown : ∀ (i : Nat) v x, vs[i]? = some v → xs[i]? = some x → OwnAt w (forb A bl heap) U A.B (fun q => ownR ob fn.results.toList (i :: q)) v x := by
        intro i v x hv hx
        rcases hR.own i v x hv hx with hb | ⟨t, ht, hu, ho⟩
        · exact .bare hb
        · have : (fun q => ownR ob fn.results.toList (i :: q)) = fun q => ob (.env t q) := by
            funext q; simp only [ownR, ht, hu]; rfl
          rw [this]; exact ho
      refine ⟨_, hres, packR vs, heap, U, bl, _, (fun p => if vs.length = 1 then ownR ob fn.results.toList (0 :: p) else ownR ob fn.results.toList p), h.forget, ?_, ?_, ?_, hk⟩
      · by_cases e1 : vs.length = 1
        · obtain ⟨v, rfl⟩ := List.length_eq_one_iff.1 e1
          obtain ⟨x, rfl⟩ := List.length_eq_one_iff.1 (hlen ▸ e1)
          simpa [packR] using hR.rep 0 v x rfl rfl
        · have : packR vs = .tup vs := by
            unfold packR; split
            · simp at e1
            · rfl
          rw [this, dif_neg (by omega)]
          exact .tup (by simpa using hlen) fun i x y hx hy => hR.rep i x y hx (by simpa using hy)
      · by_cases e1 : vs.length = 1
        · obtain ⟨v, rfl⟩ := List.length_eq_one_iff.1 e1
          obtain ⟨x, rfl⟩ := List.length_eq_one_iff.1 (hlen ▸ e1)
          simpa [packR] using hown 0 v x rfl rfl
        · have : packR vs = .tup vs := by
            unfold packR; split
            · simp at e1
            · rfl
          rw [this, dif_neg (by omega)]
          simp only [e1, if_false]
          intro p u hp hou
          cases p with
          | nil => simp [AV.at] at hp; subst hp; simp [AV.owned] at hou
          | cons i q =>
            simp only [AV.at] at hp
            split at hp
            · rename_i c hc
              have hi := (List.getElem?_eq_some_iff.1 hc).1
              have hx : xs[i]? = some (xs[i]'(by omega)) := by simp
              obtain ⟨y, hy, ho⟩ := hown i c _ hc hx q u hp hou
              exact ⟨y, by simp only [vat]; simp only [List.getElem?_toArray, hx]; exact hy, ho⟩
            · simp at hp
      · intro p b hb
        by_cases e1 : vs.length = 1
        · simp only [e1, if_true] at hb ⊢
          obtain ⟨i, q, t, _, _, _, ho⟩ := ownR_of hb
          refine ⟨(hnot q t b ho).1, fun q' hq' => ?_, (hnot q t b ho).2⟩
          have := ownR_inj h.obinj hb hq'
          injection this
        · simp only [e1, if_false] at hb ⊢
          obtain ⟨i, q, t, _, _, _, ho⟩ := ownR_of hb
          exact ⟨(hnot q t b ho).1, fun q' hq' => ownR_inj h.obinj hb hq', (hnot q t b ho).2⟩
    · exact absurd hk hX

theorem runBody_sound (hL : Leans P cx X I) (hX : Calm X) (hP : cx.P = P) {calm : List Oper → Bool} (hC : ProgOK P calm cx.srt) {d : Nat} (hl : ∀ fid n b st K, X.loop d fid n b st K → LoopOK P calm fid n b st K)
    {f : FuncId} {args : List AV} {heap : Heap} {k : AV → Heap → Prop} (h : runBody X cx I calm d f args heap k) : InlOK P f args heap k := by
  unfold runBody at h
  rw [hP] at h
  split at h
  · rename_i fn hfn
    split at h
    · rename_i c hc
      refine ⟨⟨fn, hfn, by simp [hc]⟩, ?_⟩
      intro A w U bl ob vs hrel hargs
      obtain ⟨env, he, henv⟩ := params_get args 0 (fun env => den X cx I calm fn.ntmps d f c ⟨env, heap, [], none⟩ (finish X cx f fn k))
      rw [he] at h
      have hnt : fn.ntmps = ntmpsOf P f := by simp only [ntmpsOf, hfn]
      have hstart : Rel P A fn.ntmps [] env heap none (vs ++ Array.replicate (fn.ntmps - vs.size) undef) w U bl ob := by
        refine { hrel with size := by simp; omega, env := fun t => ?_ }
        rw [henv t, if_pos (Nat.zero_le _), Nat.sub_zero]
        cases ht : args[t]? with
        | none => exact ⟨.undef, .bare (bare_of rfl)⟩
        | some v =>
          have hlt : t < vs.size := by have := (List.getElem?_eq_some_iff.1 ht).1; have := hargs.1; simp at this; omega
          have hx : (vs ++ Array.replicate (fn.ntmps - vs.size) undef).getD t undef = vs[t] := by
            rw [Array.getD_eq_getD_getElem?, Array.getElem?_append_left hlt]; simp [hlt]
          rw [hx]
          refine ⟨(hargs.2 t v _ ht (by simp [hlt])).strip, .bare (strip_bare _)⟩
      refine calls_of_wp hfn hc (wp_mono (den_sound hL hX hP hC.mixed hnt (hl f) c (hC.calm f fn c hfn hc) _ _ _ w ⟨rfl, rfl, U, bl, ob, hstart⟩ h) ?_)
      intro e a w' hp
      have key : ∀ ex st', Good P A fn.ntmps [] st' a w' → finish X cx f fn k ex st' → a.defers = [] ∧ ∃ v, (results fn a.tmps).run P w' = .ok v w' ∧ ∃ r x heap' U' bl' ob' own, Ending.returned v = .returned x ∧ Rel P A 0 [] [] heap' none #[] w' U' bl' ob' ∧
          Rep w' (forb A bl' heap') U' bl' r x ∧ OwnAt w' (forb A bl' heap') U' A.B own r x ∧
          (∀ p b, own p = some b → (¬ A.G b ∧ b < w'.heap.size ∧ ∀ id : Nat, bl'[id]? ≠ some (some b)) ∧ (∀ q, own q = some b → p = q) ∧ ∀ l, ob' l ≠ some b) ∧ k r heap' := by
        intro ex st' hg' hk'
        obtain ⟨hd, v, hv, r, heap', U', bl', ob', own, h1, h2, h3, h4, h5⟩ := finish_sound hL.fail hP hg' hk'
        exact ⟨hd, v, hv, r, v, heap', U', bl', ob', own, rfl, h1, h2, h3, h4, h5⟩
      cases e with
      | normal => obtain ⟨st', hg', hk'⟩ := hp; exact key _ st' hg' hk'
      | ret => obtain ⟨st', hg', hk'⟩ := hp; exact key _ st' hg' hk'
      | exit id =>
        obtain ⟨st', hg', hk'⟩ := hp
        obtain ⟨env', heap', defers', bor'⟩ := st'
        exact absurd hk' hL.fail
      | goto l => exact hp
      | panic ch => exact hp.elim
      | outgrown => exact hp.elim
    · exact absurd h hL.fail
  · exact absurd h hL.fail

/-- The model's own reading. -/
def semRec (P : Program) (calm : List Oper → Bool) : Rec Prop where
  fail := False
  all := fun n k => ∀ i, i < n → k i
  call := fun f a Q => CallOK P f a Q ∧ ∃ r, Q r
  loop := fun _ fid n b st K => LoopOK P calm fid n b st K ∧ ∃ e s, K e s
  sort := sortP
  br := BrP

theorem callOK_mono {f : FuncId} {a : List AV} {Q Q' : AV → Prop} (h : ∀ r, Q r → Q' r) (hc : CallOK P f a Q) : CallOK P f a Q' :=
  ⟨hc.1, fun w F U vs hF ha => (hc.2 w F U vs hF ha).mono fun e w' ⟨r, x, U', own, h1, h2, h3, h4, h5, h6⟩ => ⟨r, x, U', own, h1, h2, h3, h4, h5, h r h6⟩⟩
theorem post_mono {k k' : Ex → St → Prop} (h : ∀ e s, k e s → k' e s) {e : Exit} {a : Act} {w : World} (hp : Post P A nt k e a w) : Post P A nt k' e a w := by
  cases e with
  | normal => obtain ⟨s, h1, h2⟩ := hp; exact ⟨s, h1, h _ _ h2⟩
  | exit id => obtain ⟨s, h1, h2⟩ := hp; exact ⟨s, h1, h _ _ h2⟩
  | ret => obtain ⟨s, h1, h2⟩ := hp; exact ⟨s, h1, h _ _ h2⟩
  | goto l => exact hp
  | panic c => exact hp
  | outgrown => exact hp
theorem loopOK_mono {calm : List Oper → Bool} {fid : FuncId} {n : Nat} {b : Code} {st : St} {k k' : Ex → St → Prop} (h : ∀ e s, k e s → k' e s) (hl : LoopOK P calm fid n b st k) : LoopOK P calm fid n b st k' := by
  intro hc A a w hA hg fr kk cs
  obtain ⟨e, a', w', h1, h2⟩ := hl hc A a w hA hg fr kk cs
  exact ⟨e, a', w', post_mono h h1, h2⟩

theorem calm_sem {calm : List Oper → Bool} : Calm (semRec P calm) := ⟨id, fun _ _ _ h => h.2, fun f a Q Q' h hc => ⟨callOK_mono h hc.1, let ⟨r, hr⟩ := hc.2; ⟨r, h r hr⟩⟩, rfl, rfl⟩

theorem inlN_sound (hP : cx.P = P) {calm : List Oper → Bool} (hC : ProgOK P calm cx.srt) : ∀ d f args h k, inlN (semRec P calm) cx calm d f args h k → InlOK P f args h k
  | 0, f, args, h, k, hk => hk.elim
  | d + 1, f, args, h, k, hk =>
    runBody_sound (X := semRec P calm) ⟨id, fun _ _ _ h => h.1, inlN_sound hP hC d, hC.name, rfl, rfl, rfl, hC.prim⟩ calm_sem hP hC (fun _ _ _ _ _ h => h.1) hk

theorem leans_sem (hP : cx.P = P) {calm : List Oper → Bool} (hC : ProgOK P calm cx.srt) (d : Nat) : Leans P cx (semRec P calm) (inlN (semRec P calm) cx calm d) :=
  ⟨id, fun _ _ _ h => h.1, inlN_sound hP hC d, hC.name, rfl, rfl, rfl, hC.prim⟩

theorem giveOut_own {w : World} {F F' : Nat → Prop} {U : Nat → Nat} {B : Nat} {own : List Nat → Option Nat} {v : AV} {x : Value} (h : OwnAt w F U B own v x) (hF : ∀ b, F' b → F b) :
    OwnAt w F' U B (fun p => match own p with | some b => if B ≤ b then some b else none | none => none) v x := by
  intro p u hp hou
  obtain ⟨y, hy, ho⟩ := h p u hp hou
  refine ⟨y, hy, ?_⟩
  unfold OwnOK at ho ⊢
  split at ho
  · rcases ho with ho | ⟨a, hn, e1, e2, e3, e4, e5, rest⟩
    · exact .inl ho
    · exact .inr ⟨a, hn, e1, by simp [e2, e3], e3, e4, fun hf => e5 (hF _ hf), rest⟩
  · obtain ⟨ao, cap, hx, hc, ho⟩ := ho
    refine ⟨ao, cap, hx, hc, ?_⟩
    rcases ho with ho | ⟨b, e1, e2, e3, e4, e5, hsz, c, el, fr, e7, e8, e9, e10, e11⟩
    · exact .inl ho
    · exact .inr ⟨b, e1, by simp [e2, e3], e3, fun hf => e4 (hF _ hf), e5, hsz, c, el, fr, e7, e8, e9, e10, fun i j q hi hq => let ⟨y, h1, h2, h3⟩ := e11 i j q hi hq; ⟨y, h1, h2, h3.mono ⟨fun b _ hf => .inl (hF b hf), fun b _ _ => ⟨Nat.le_refl _, fun _ _ => rfl⟩⟩ (BlLe.refl _)⟩⟩
  · trivial

theorem stepCall_sound (hP : cx.P = P) {calm : List Oper → Bool} (hC : ProgOK P calm cx.srt) {f : FuncId} {args : List AV} {Q : AV → Prop} (h : stepCall (semRec P calm) cx calm f args Q) : CallOK P f args Q := by
  obtain ⟨hb, h⟩ := runBody_sound (X := semRec P calm) (leans_sem hP hC topDepth) calm_sem hP hC (fun _ _ _ _ _ h => h.1) h
  refine ⟨hb, fun w F U vs hF hargs => ?_⟩
  let A : Amb := { B := w.heap.size, F0 := F, G := fun _ => False, w0 := w, bl0 := [], U0 := U, h0 := [] }
  have hrel : Rel P A 0 [] [] [] none #[] w U [] (fun _ => none) :=
    { size := Nat.zero_le _, env := fun t => ⟨.undef, .bare (bare_of rfl)⟩, len := rfl, objs := fun id b hid => by simp at hid, inj := fun i j b hi => by simp at hi,
      base := fun id b hid => by simp at hid, obinj := fun l m b hl => by simp at hl, obok := fun l b hl => by simp at hl,
      since := { below := BelowD.refl _ _, g0 := Grow0.refl _ _ _, ble := BlLe.refl _, pnd := fun id hid => by simp [A] at hid, gown := fun b hb => hb.elim, blen := Nat.le_refl _, ub := fun b _ => rfl },
      f0 := hF, hB := Nat.le_refl _, hG := fun b hb => hb.elim, pend := fun p hp => by simp at hp }
  have hargs' : RepL w (forb A [] []) U [] args vs.toList := by
    refine ⟨hargs.1, fun i x y hx hy => (hargs.2 i x y hx hy).mono ⟨fun b _ hf => ?_, fun b _ _ => ⟨Nat.le_refl _, fun _ _ => rfl⟩⟩ (BlLe.refl _)⟩
    rcases hf with hf | ⟨id, hid, _⟩
    · exact .inl hf
    · simp at hid
  refine (h A w U [] _ vs hrel hargs').mono ?_
  rintro e w' ⟨r, x, heap', U', bl', ob', own, rfl, h1, h2, h3, h4, h5⟩
  unfold giveOut at h5
  rcases cond_elim h5 with ⟨hd, h5⟩ | ⟨_, h5⟩
  · rw [AV.force_eq] at h5
    have hext : Ext w U w' U' := ⟨h1.since.below.os, h1.since.below.tape, h1.since.below.output, h1.since.below.size, fun b hb => ⟨h1.since.below.block b hb, h1.since.ub b hb⟩, h1.since.below.drawn⟩
    have hrep : Rep w' F U' [] r x := (h2.data hd).mono ⟨fun b _ hf => .inl (.inl hf), fun b _ _ => ⟨Nat.le_refl _, fun _ _ => rfl⟩⟩ (BlLe.refl _)
    have hown : OwnAt w' F U' w.heap.size _ r x := giveOut_own h3 (fun b hf => .inl hf)
    refine ⟨bif cx.ow f then r else r.strip, x, U', (fun p => match own p with | some b => if w.heap.size ≤ b then some b else none | none => none), rfl, hext, ?_, ?_, ?_, h5⟩
    · cases cx.ow f
      · exact hrep.strip
      · exact hrep
    · cases cx.ow f
      · exact .bare (strip_bare _)
      · exact hown
    · intro p b hb
      dsimp only at hb
      have hsp : ∀ q, (match own q with | some b => if w.heap.size ≤ b then some b else none | none => none) = some b → own q = some b ∧ w.heap.size ≤ b := by
        intro q hq
        split at hq
        · rename_i b' hb'
          split at hq
          · simp at hq; subst hq; exact ⟨hb', ‹_›⟩
          · simp at hq
        · simp at hq
      obtain ⟨b1, b2⟩ := hsp p hb
      exact ⟨b2, (h4 p b b1).1.2.1, fun q hq => (h4 p b b1).2.1 q (hsp q hq).1⟩
  · exact h5.elim

theorem sem_pre (hP : cx.P = P) {calm : List Oper → Bool} (hC : ProgOK P calm cx.srt) : PreFix cx calm (semRec P calm) where
  fail := rfl
  all := rfl
  sort := rfl
  br := rfl
  call f a Q h := ⟨stepCall_sound hP hC h, some_call (X := semRec P calm) rfl rfl rfl id (fun _ _ _ h => h.2) (fun _ _ _ _ _ _ h => h.2) h⟩
  loop d fid n b st K h := ⟨stepLoop_sound (leans_sem hP hC d) calm_sem hP hC.mixed (fun _ _ _ _ h => h.1) (by unfold stepLoop at h; rw [hP] at h; exact h), some_loop (X := semRec P calm) rfl rfl rfl id (fun _ _ _ h => h.2) (fun _ _ _ _ _ _ h => h.2) h⟩
  cmono f a Q Q' h hc := ⟨callOK_mono h hc.1, let ⟨r, hr⟩ := hc.2; ⟨r, h r hr⟩⟩
  lmono d fid n b st K K' h hl := ⟨loopOK_mono h hl.1, let ⟨e, s, hs⟩ := hl.2; ⟨e, s, h e s hs⟩⟩

/-- The least reading is sound. -/
theorem lfp_sound (hP : cx.P = P) {calm : List Oper → Bool} (hC : ProgOK P calm cx.srt) {f : FuncId} {args : List AV} {Q : AV → Prop} (h : (lfp cx calm).call f args Q) : CallOK P f args Q :=
  (h _ (sem_pre hP hC)).1
end
end Ax

/- Rules for running the machine by symbols. -/
set_option linter.unusedVariables false
namespace Ax
open Go Go.RowKit
def yesCalm : List Oper → Bool := fun _ => true
theorem branch_of {b : Bool} {y n : Prop} (h1 : b = true → y) (h2 : b = false → n) : BrP b y n := ⟨h1, h2⟩
theorem branch_true {b : Bool} {y n : Prop} (hb : b = true) (h1 : y) : BrP b y n := ⟨fun _ => h1, fun e => absurd (hb.symm.trans e) (by simp)⟩
theorem branch_false {b : Bool} {y n : Prop} (hb : b = false) (h1 : n) : BrP b y n := ⟨fun e => absurd (hb.symm.trans e) (by simp), fun _ => h1⟩

/-- A loop by a measure: J says which states stand at its head. -/
theorem loop_ind {cx : Ctx} {calm : List Oper → Bool} {d : Nat} {fid : FuncId} {n : Nat} {b : Code} {K : Ex → St → Prop} {ι : Type} (μ : ι → Nat) (S : ι → St)
    (round : ∀ i, (∀ j, μ j < μ i → (lfp cx calm).loop d fid n b (S j) K) → stepLoop (lfp cx calm) cx calm d fid n b (S i) K) : ∀ i, (lfp cx calm).loop d fid n b (S i) K := by
  intro i
  generalize hm : μ i = m
  induction m using Nat.strongRecOn generalizing i with
  | _ m ih => exact lfp_loop (round i fun j hj => ih (μ j) (hm ▸ hj) j rfl)
end Ax

/- Contracts by running the machine on the model's own reading. -/
set_option linter.unusedVariables false
namespace Ax
open Go Go.RowKit

structure SCall (P : Program) (calm : List Oper → Bool) (f : FuncId) (a : List AV) (Q : AV → Prop) : Prop where
  ok : CallOK P f a Q
  some : ∃ r, Q r
structure SLoop (P : Program) (calm : List Oper → Bool) (d : Nat) (fid : FuncId) (n : Nat) (b : Code) (st : St) (K : Ex → St → Prop) : Prop where
  ok : LoopOK P calm fid n b st K
  some : ∃ e s, K e s
def SX (P : Program) (calm : List Oper → Bool) : Rec Prop where
  fail := False
  all := fun n k => ∀ i, i < n → k i
  call := SCall P calm
  loop := SLoop P calm
  sort := sortP
  br := BrP
theorem SX_eq (P : Program) (calm : List Oper → Bool) : SX P calm = semRec P calm := by
  unfold SX semRec
  congr
  · funext f a Q; exact propext ⟨fun h => ⟨h.1, h.2⟩, fun h => ⟨h.1, h.2⟩⟩
  · funext d fid n b st K; exact propext ⟨fun h => ⟨h.1, h.2⟩, fun h => ⟨h.1, h.2⟩⟩

section
variable {P : Program} {cx : Ctx} {calm : List Oper → Bool}
/-- A contract, by running the body. -/
theorem okOf (hP : cx.P = P) (hC : ProgOK P calm cx.srt) {f : FuncId} {a : List AV} {Q : AV → Prop} (h : stepCall (SX P calm) cx calm f a Q) : CallOK P f a Q := by
  rw [SX_eq] at h
  exact stepCall_sound hP hC h
/-- A call, by its contract. -/
theorem call_by {f : FuncId} {a : List AV} {R Q : AV → Prop} (h : CallOK P f a R) (hs : ∃ r, R r) (hq : ∀ r, R r → Q r) : SCall P calm f a Q := by
  exact ⟨callOK_mono hq h, let ⟨r, hr⟩ := hs; ⟨r, hq r hr⟩⟩
theorem call_is {f : FuncId} {a : List AV} {v : AV} {Q : AV → Prop} (h : CallOK P f a (fun r => r = v)) (hq : Q v) : SCall P calm f a Q :=
  call_by h ⟨v, rfl⟩ (fun r hr => hr ▸ hq)
/-- A loop by a measure: S says which states stand at its head. -/
theorem loop_by (hP : cx.P = P) (hC : ProgOK P calm cx.srt) {d : Nat} {fid : FuncId} {n : Nat} {b : Code} {K : Ex → St → Prop} {ι : Type} (μ : ι → Nat) (S : ι → St)
    (round : ∀ i, (∀ j, μ j < μ i → SLoop P calm d fid n b (S j) K) → stepLoop (SX P calm) cx calm d fid n b (S i) K) : ∀ i, SLoop P calm d fid n b (S i) K := by
  intro i
  generalize hm : μ i = m
  induction m using Nat.strongRecOn generalizing i with
  | _ m ih =>
    have h := round i fun j hj => ih (μ j) (hm ▸ hj) j rfl
    rw [SX_eq] at h
    have := (sem_pre hP hC).loop d fid n b (S i) K h
    exact ⟨this.1, this.2⟩

/-! ### steps whose test is not plain -/
variable {o : Oper} {env : Env} {h : Heap} {k : AV → Prop} {e : Prop} {t u : TypeId} {x i : Operand} {n : Int} {len sz : Nat} {g : Nat → AV} {s : ByteArray}
theorem st_some {v : AV} (he : evalOp P o env h = some v) (hk : k v) : (match evalOp P o env h with | some v => k v | none => e) := by
  rw [he]; exact hk
theorem in_range {m : Nat} (h : m < len) : inRange (m : Int) len = true := by simp [inRange, h]
theorem st_index (ho : o.op = .index t x i) (hx : (evo P t env x).strip = .str s) (hi : intNat (evo P 0 env i) = some n) (ht : tyD P t = .string) (hr : inRange n s.size = true) (hk : k (wordB s n.toNat).strip) :
    (match evalOp P o env h with | some v => k v | none => e) := by
  refine st_some (v := (wordB s n.toNat).strip) ?_ hk
  unfold evalOp
  simp only [ho, hi, hx, indexAV, ht, hr, cond_true, Option.map_some]
theorem st_addr (ho : o.op = .indexAddr t x i) (hx : evo P t env x = .vec sz len g) (hi : intNat (evo P 0 env i) = some n) (ht : tyD P t = .slice u) (hs : Nat.beq sz (tySz P u) = true) (hr : inRange n len = true) (hk : k (.cptr (g n.toNat))) :
    (match evalOp P o env h with | some v => k v | none => e) := by
  refine st_some (v := .cptr (g n.toNat)) ?_ hk
  unfold evalOp
  simp only [ho, hi, hx, indexAddrAV, ht, hs, hr, cond_true]

theorem st_append {b y : AV} {gg : Nat → AV} {m : Nat} (hb : b = .own (.vec sz len g)) (ht : tyD P t = .slice u) {tt : TypeId} (hs : isSliceT P tt = true) (hy : srcOf P u h y = some (m, gg)) (hc : (Nat.beq sz (tySz P u) && Nat.blt 0 sz && zeroFits P u && Nat.blt 0 (tyBy P u)) = true)
    (hr : roomOK (len + m) (tyBy P u) = true) (hk : k (.own (.vec sz (len + m) (vapp (zeroElem P u) g len gg m)))) : (match appendAV P t tt h b y with | some v => k v | none => e) := by
  have : appendAV P t tt h b y = some (.own (.vec sz (len + m) (vapp (zeroElem P u) g len gg m))) := by
    unfold appendAV
    simp only [hs, ht, hb, hy, hc, hr, Bool.not_true, cond_false, cond_true]
  rw [this]; exact hk
theorem st_slice {lo hi : Option Operand} {l m : Nat} (ho : o.op = .slice t x lo hi none) (hx : (evo P t env x).strip = .vec sz len g) (ht : tyD P t = .slice u) (hl : boundOf 0 (lo.map (evo P 3 env)) = some l) (hm : boundOf len (hi.map (evo P 3 env)) = some m) (h1 : l ≤ m) (h2 : m ≤ len)
    (hs : (Nat.beq sz (tySz P u) && Nat.blt 0 sz) = true) (hw : (evo P t env x).isOwn = false) (hk : k (.vec sz (m - l) (vsub (zeroElem P u) g l (m - l)))) : (match evalOp P o env h with | some v => k v | none => e) := by
  refine st_some (v := .vec sz (m - l) (vsub (zeroElem P u) g l (m - l))) ?_ hk
  have e1 : Nat.ble l m = true := Nat.ble_eq_true_of_le h1
  have e2 : Nat.ble m len = true := Nat.ble_eq_true_of_le h2
  unfold evalOp
  simp only [ho, sliceAV, hx, ht, hl, hm, hs, hw, e1, e2, Bool.and_self, cond_true, cond_false, Option.map_none]
theorem st_rem {y : Operand} {yt : TypeId} {kk : IntKind} {a b r : Int} (ho : o.op = .binOp .rem t x y yt) (hx : (evo P t env x).strip = .int kk a) (hy : (evo P yt env y).strip = .int kk b) (hb : b ≠ 0) (hr : a.tmod b = r) (hk : k (.int kk r)) :
    (match evalOp P o env h with | some v => k v | none => e) := by
  refine st_some (v := .int kk r) ?_ hk
  unfold evalOp
  simp only [ho, hx, hy, binAV, intOp, decide_true, cond_true, decide_eq_false hb, cond_false, hr]
theorem vsub_at {z : AV} {g : Nat → AV} {l n : Nat} : ∀ i, i < n → vsub z g l n i = g (l + i) := fun i hi => by
  have : Nat.blt i n = true := by rw [Nat.blt_eq]; exact hi
  simp only [vsub, this, cond_true]
theorem room8 {m : Nat} (h : m ≤ 1000000) : roomOK m 8 = true := by
  simp [roomOK]; omega
theorem vapp_at {z a : AV} {g : Nat → AV} {n : Nat} {L : List Int} {w : Int} {v : Nat → AV} (h : ∀ i, i < L.length → g i = .int .i64 (L.getD i 0)) (hn : n = L.length) (hv : v 0 = .int .i64 w) : ∀ i, i < (L ++ [w]).length → vapp z g n v 1 i = .int .i64 ((L ++ [w]).getD i 0) := by
  intro i hi
  simp only [List.length_append, List.length_cons, List.length_nil] at hi
  unfold vapp
  subst hn
  by_cases h1 : i < L.length
  · have e : Nat.blt i L.length = true := by simp [Nat.blt]; omega
    rw [e, cond_true, h i h1]
    simp [List.getD, List.getElem?_append_left h1]
  · have e : Nat.blt i L.length = false := by rw [Bool.eq_false_iff, ne_eq, Nat.blt_eq]; omega
    have e2 : Nat.blt i (L.length + 1) = true := by rw [Nat.blt_eq]; omega
    rw [e, cond_false, e2, cond_true, show i - L.length = 0 by omega, hv]
    have : i = L.length := by omega
    subst this
    simp [List.getD]
theorem loop_to {d : Nat} {fid : FuncId} {n : Nat} {b : Code} {st : St} {K : Ex → St → Prop} {ι : Type} {μ : ι → Nat} {S : ι → St} {m : Nat} (ih : ∀ j, μ j < m → SLoop P calm d fid n b (S j) K) (j : ι) (hm : μ j < m) (hs : st = S j) : SLoop P calm d fid n b st K :=
  hs ▸ ih j hm
theorem wrap64 {x : Int} (h : -9223372036854775808 ≤ x ∧ x ≤ 9223372036854775807) : IntKind.i64.wrap x = x := by
  have : (Lit.int .i64 x).wf = true := by simp [Lit.wf, IntKind.min, IntKind.max, IntKind.signed, IntKind.bits]; omega
  simp [IntKind.wrap, IntKind.signed, IntKind.bits]
  omega

/-- A slice of a slice with known room. -/
theorem st_slice_wide {lo hi : Option Operand} {l m q : Nat} (ho : o.op = .slice t x lo hi none) (hx : (evo P t env x).strip = .wide sz len q g) (ht : tyD P t = .slice u) (hl : boundOf 0 (lo.map (evo P 3 env)) = some l) (hm : boundOf len (hi.map (evo P 3 env)) = some m) (h1 : l ≤ m) (h2 : m ≤ q)
    (hs : (Nat.beq sz (tySz P u) && Nat.blt 0 sz) = true) (hk : k (.vec sz (m - l) (vsub (zeroElem P u) g l (m - l)))) : (match evalOp P o env h with | some v => k v | none => e) := by
  refine st_some (v := .vec sz (m - l) (vsub (zeroElem P u) g l (m - l))) ?_ hk
  have e1 : Nat.ble l m = true := Nat.ble_eq_true_of_le h1
  have e2 : Nat.ble m q = true := Nat.ble_eq_true_of_le h2
  unfold evalOp
  simp only [ho, sliceAV, hx, ht, hl, hm, hs, e1, e2, Bool.and_self, cond_true, Option.map_none]
/-- A slice of one's own: its room is known. -/
theorem st_slice_own {lo hi : Option Operand} {l m : Nat} (ho : o.op = .slice t x lo hi none) (hx : evo P t env x = .own (.vec sz len g)) (ht : tyD P t = .slice u) (hl : boundOf 0 (lo.map (evo P 3 env)) = some l) (hm : boundOf len (hi.map (evo P 3 env)) = some m) (h1 : l ≤ m) (h2 : m ≤ len)
    (hs : (Nat.beq sz (tySz P u) && Nat.blt 0 sz) = true) (hk : k (.wide sz (m - l) (len - l) (vsub (zeroElem P u) g l (len - l)))) : (match evalOp P o env h with | some v => k v | none => e) := by
  refine st_some (v := .wide sz (m - l) (len - l) (vsub (zeroElem P u) g l (len - l))) ?_ hk
  have e1 : Nat.ble l m = true := Nat.ble_eq_true_of_le h1
  have e2 : Nat.ble m len = true := Nat.ble_eq_true_of_le h2
  have e3 : (AV.own (.vec sz len g)).strip = .vec sz len g := rfl
  have e4 : (AV.own (.vec sz len g)).isOwn = true := rfl
  unfold evalOp
  simp only [ho, sliceAV, hx, ht, hl, hm, hs, e1, e2, e3, e4, Bool.and_self, cond_true, Option.map_none]

/-- Values that stand for the same. -/
def Same (a a' : AV) : Prop := ∀ (w : World) (F : Nat → Prop) (U : Nat → Nat) (bl : Blocks) (v : Value), Rep w F U bl a v → Rep w F U bl a' v
theorem Same.refl (a : AV) : Same a a := fun _ _ _ _ _ h => h
theorem Same.vec {sz n : Nat} {g g' : Nat → AV} (h : ∀ i, i < n → g i = g' i) : Same (.vec sz n g) (.vec sz n g') := by
  intro w F U bl v hr
  cases hr with
  | vec hcap vals hz hs ho h1 =>
    exact .vec hcap vals hz (fun i hi => by rw [← h i hi]; exact hs i hi) ho (fun i j c hi hc => h1 i j c hi (by rw [h i hi]; exact hc))
theorem Same.wide {sz n m : Nat} {g g' : Nat → AV} (h : ∀ i, i < n → g i = g' i) : Same (.wide sz n m g) (.vec sz n g') :=
  fun w F U bl v hr => Same.vec h w F U bl v (wide_vec hr)
theorem Same.wides {sz n m : Nat} {g g' : Nat → AV} (hn : n ≤ m) (h : ∀ i, i < m → g i = g' i) : Same (.wide sz n m g) (.wide sz n m g') := by
  intro w F U bl v hr
  cases hr with
  | wide hcap hn hr => exact .wide hcap hn (Same.vec h _ _ _ _ _ hr)
inductive SameL : List AV → List AV → Prop
  | nil : SameL [] []
  | cons {a a' l l'} (h : Same a a') (hl : SameL l l') : SameL (a :: l) (a' :: l')
theorem SameL.rep {l l' : List AV} (h : SameL l l') {w : World} {F : Nat → Prop} {U : Nat → Nat} {bl : Blocks} : ∀ {vs : List Value}, RepL w F U bl l vs → RepL w F U bl l' vs := by
  induction h with
  | nil => exact fun h => h
  | @cons a a' l l' h hl ih =>
    intro vs hr
    cases vs with
    | nil => exact absurd hr.1 (by simp)
    | cons v vs =>
      have h1 := hr.2 0 a v rfl rfl
      have h2 : RepL w F U bl l vs := ⟨by have := hr.1; simpa using this, fun i x y hx hy => hr.2 (i + 1) x y (by simpa using hx) (by simpa using hy)⟩
      exact .cons (h _ _ _ _ _ h1) (ih h2)
theorem ok_same {f : FuncId} {a a' : List AV} {Q : AV → Prop} (hs : SameL a a') (h : CallOK P f a' Q) : CallOK P f a Q :=
  ⟨h.1, fun w F U vs hF ha => h.2 w F U vs hF (hs.rep ha)⟩
end
end Ax

/- More steps whose test is not plain: maps by abstract entries, rows by index. -/
set_option linter.unusedVariables false
namespace Ax
open Go Go.RowKit
section
variable {P : Program} {cx : Ctx} {calm : List Oper → Bool}
variable {o : Oper} {env : Env} {h : Heap} {k : AV → Prop} {e : Prop} {t u : TypeId} {x i : Operand} {n : Int} {len sz : Nat} {g : Nat → AV} {s : ByteArray}
theorem st_addr_v {v : AV} (ho : o.op = .indexAddr t x i) (hx : evo P t env x = .vec sz len g) (hi : intNat (evo P 0 env i) = some n) (ht : tyD P t = .slice u) (hs : Nat.beq sz (tySz P u) = true) (hr : inRange n len = true) (hv : g n.toNat = v) (hk : k (.cptr v)) :
    (match evalOp P o env h with | some v => k v | none => e) := by
  subst hv
  refine st_some (v := .cptr (g n.toNat)) ?_ hk
  unfold evalOp
  simp only [ho, hi, hx, indexAddrAV, ht, hs, hr, cond_true]
theorem st_bin {op : BinOp} {y : Operand} {yt : TypeId} {a b v : AV} (ho : o.op = .binOp op t x y yt) (hx : (evo P t env x).strip = a) (hy : (evo P yt env y).strip = b) (hv : binAV P op t a b = some v) (hk : k v) : (match evalOp P o env h with | some v => k v | none => e) := by
  refine st_some (v := v) ?_ hk
  unfold evalOp
  simp only [ho, hx, hy, hv]
theorem st_addr_row {id lo : Nat} (ho : o.op = .indexAddr t x i) (hx : evo P t env x = .row id sz lo len) (hi : intNat (evo P 0 env i) = some n) (ht : tyD P t = .slice u) (hs : (Nat.beq sz (tySz P u) && Nat.blt 0 sz) = true) (hr : inRange n len = true) (hk : k (.eptr id sz (lo + n.toNat) 0)) :
    (match evalOp P o env h with | some v => k v | none => e) := by
  refine st_some (v := .eptr id sz (lo + n.toNat) 0) ?_ hk
  simp only [Bool.and_eq_true] at hs
  unfold evalOp
  simp only [ho, hi, hx, indexAddrAV, ht, hs.1, hs.2, hr, cond_true]
theorem st_load_e {p : Operand} {id j : Nat} {cs : List AV} (ho : o.op = .load t p) (hp : evo P 0 env p = .eptr id sz j 0) (hh : h.get id = .arr sz len g) (hj : j < len) (hg : g j = .agg cs) (ht : tyAgg P t = true) (hs : cs.length = tySz P t) (hk : k (AV.agg cs).strip) :
    (match evalOp P o env h with | some v => k v | none => e) := by
  refine st_some (v := (AV.agg cs).strip) ?_ hk
  have e1 : Nat.beq sz sz = true := Nat.beq_refl sz
  have e2 : Nat.blt j len = true := by rw [Nat.blt_eq]; exact hj
  have e3 : Nat.ble (0 + cs.length) cs.length = true := Nat.ble_eq_true_of_le (by omega)
  unfold evalOp
  simp only [ho, hp, loadAV, readCells, hh, e1, e2, Bool.and_self, cond_true, hg, AV.cells, partAV, ht, ← hs, e3, List.drop_zero, List.take_length, Option.map_some]
theorem st_look {m q : Operand} {kt et : TypeId} {reg : Bool} {ents : List (AV × AV)} {id j : Nat} (ho : o.op = .lookup t m q false) (ht : tyD P t = .map kt et) (hm : (evo P t env m).strip = .mapr id) (hh : h.get id = .map kt reg ents) (hc : (keyOk P kt (evo P kt env q).strip && hasZero P et) = true)
    (hj : mpos P kt ents (evo P kt env q).strip = some j) {v : AV} (hv : mval .undef ents j = v) (hk : k v.strip) : (match evalOp P o env h with | some v => k v | none => e) := by
  subst hv
  refine st_some (v := (mval .undef ents j).strip) ?_ hk
  have e1 : Nat.beq kt kt = true := Nat.beq_refl kt
  unfold evalOp
  simp only [Bool.and_eq_true] at hc
  simp only [ho, ht, hm, lookAV, hh, e1, hc.1, hc.2, Bool.and_self, cond_true, hj, cond_false]
theorem st_look_no {m q : Operand} {kt et : TypeId} {reg : Bool} {ents : List (AV × AV)} {id : Nat} (ho : o.op = .lookup t m q false) (ht : tyD P t = .map kt et) (hm : (evo P t env m).strip = .mapr id) (hh : h.get id = .map kt reg ents) (hc : (keyOk P kt (evo P kt env q).strip && hasZero P et) = true)
    (hj : mpos P kt ents (evo P kt env q).strip = none) (hk : k (zeroElem P et)) : (match evalOp P o env h with | some v => k v | none => e) := by
  refine st_some (v := zeroElem P et) ?_ hk
  have e1 : Nat.beq kt kt = true := Nat.beq_refl kt
  unfold evalOp
  simp only [Bool.and_eq_true] at hc
  simp only [ho, ht, hm, lookAV, hh, e1, hc.1, hc.2, Bool.and_self, cond_true, hj, cond_false]
theorem st_look2 {m q : Operand} {kt et : TypeId} {reg : Bool} {ents : List (AV × AV)} {id j : Nat} (ho : o.op = .lookup t m q true) (ht : tyD P t = .map kt et) (hm : (evo P t env m).strip = .mapr id) (hh : h.get id = .map kt reg ents) (hc : (keyOk P kt (evo P kt env q).strip && hasZero P et) = true)
    (hj : mpos P kt ents (evo P kt env q).strip = some j) {v : AV} (hv : mval .undef ents j = v) (hk : k (.tup [v.strip, .bool true])) : (match evalOp P o env h with | some v => k v | none => e) := by
  subst hv
  refine st_some (v := .tup [(mval .undef ents j).strip, .bool true]) ?_ hk
  have e1 : Nat.beq kt kt = true := Nat.beq_refl kt
  unfold evalOp
  simp only [Bool.and_eq_true] at hc
  simp only [ho, ht, hm, lookAV, hh, e1, hc.1, hc.2, Bool.and_self, cond_true, hj]
theorem st_look2_no {m q : Operand} {kt et : TypeId} {reg : Bool} {ents : List (AV × AV)} {id : Nat} (ho : o.op = .lookup t m q true) (ht : tyD P t = .map kt et) (hm : (evo P t env m).strip = .mapr id) (hh : h.get id = .map kt reg ents) (hc : (keyOk P kt (evo P kt env q).strip && hasZero P et) = true)
    (hj : mpos P kt ents (evo P kt env q).strip = none) (hk : k (.tup [zeroElem P et, .bool false])) : (match evalOp P o env h with | some v => k v | none => e) := by
  refine st_some (v := .tup [zeroElem P et, .bool false]) ?_ hk
  have e1 : Nat.beq kt kt = true := Nat.beq_refl kt
  unfold evalOp
  simp only [Bool.and_eq_true] at hc
  simp only [ho, ht, hm, lookAV, hh, e1, hc.1, hc.2, Bool.and_self, cond_true, hj]
section
variable {A : Option Nat → AV → Heap → Prop} {B : Option Nat → AV → Prop} {C : Prop}
theorem st_ext {q : Option Nat} {v : AV} {h' : Heap} (he : extOp P o env h = some (q, v, some h')) (hk : A q v h') : (match extOp P o env h with | some (s, v, some h) => A s v h | some (s, v, none) => B s v | none => C) := by
  rw [he]; exact hk
theorem st_entry {m q : Operand} {kt et : TypeId} {ents : List (AV × AV)} {id j : Nat} (ho : o.op = .mapEntry t m q) (ht : tyD P t = .map kt et) (hm : (evo P t env m).strip = .mapr id) (hh : h.get id = .map kt true ents) (hc : (keyOk P kt (evo P kt env q).strip && noIter id h && hasZero P et && (zeroAV P et).isData) = true)
    (hj : mpos P kt ents (evo P kt env q).strip = some j) {v : AV} (hv : mval .undef ents j = v) (hk : A none (.tup [v, .int .i64 (j : Int)]) (h.set id (.map kt true (msetAt ents j v.strip)))) : (match extOp P o env h with | some (s, v, some h) => A s v h | some (s, v, none) => B s v | none => C) := by
  subst hv
  refine st_ext ?_ hk
  have e1 : Nat.beq kt kt = true := Nat.beq_refl kt
  have e2 : keyType P t = kt := by unfold keyType; rw [ht]
  simp only [Bool.and_eq_true] at hc
  obtain ⟨⟨⟨c1, c2⟩, c3⟩, c4⟩ := hc
  unfold extOp
  simp only [ho, mapEntryAV, e2, ht, hm, hh, e1, c1, c2, c3, c4, Bool.and_self, cond_true, hj]
theorem st_entry_no {m q : Operand} {kt et : TypeId} {ents : List (AV × AV)} {id : Nat} (ho : o.op = .mapEntry t m q) (ht : tyD P t = .map kt et) (hm : (evo P t env m).strip = .mapr id) (hh : h.get id = .map kt true ents) (hc : (keyOk P kt (evo P kt env q).strip && noIter id h && hasZero P et && (zeroAV P et).isData) = true)
    (hj : mpos P kt ents (evo P kt env q).strip = none) (hk : A none (.tup [zeroAV P et, .int .i64 (ents.length : Int)]) (h.set id (.map kt true (ents ++ [((evo P kt env q).strip, (zeroAV P et).strip)])))) : (match extOp P o env h with | some (s, v, some h) => A s v h | some (s, v, none) => B s v | none => C) := by
  refine st_ext ?_ hk
  have e1 : Nat.beq kt kt = true := Nat.beq_refl kt
  have e2 : keyType P t = kt := by unfold keyType; rw [ht]
  simp only [Bool.and_eq_true] at hc
  obtain ⟨⟨⟨c1, c2⟩, c3⟩, c4⟩ := hc
  unfold extOp
  simp only [ho, mapEntryAV, e2, ht, hm, hh, e1, c1, c2, c3, c4, Bool.and_self, cond_true, hj]
theorem st_estore {m q y : Operand} {kt : TypeId} {kk : IntKind} {ents : List (AV × AV)} {id : Nat} {x : AV} (ho : o.op = .entryStore t m q y) (hm : (evo P t env m).strip = .mapr id) (hq : evo P 3 env q = .int kk n) (hh : h.get id = .map kt true ents) (hn : inRange n ents.length = true) (hx : evo P (elemTypeM P t) env y = x) (hd : x.isData = true)
    (hk : A (tmpOp y) (.tup []) (h.set id (.map kt true (msetAt ents n.toNat x)))) : (match extOp P o env h with | some (s, v, some h) => A s v h | some (s, v, none) => B s v | none => C) := by
  refine st_ext ?_ hk
  unfold extOp
  simp only [ho, hm, hq, hx, entryStoreAV, hh, hn, hd, Bool.and_self, cond_true]
theorem st_mapset {m q y : Operand} {kt et : TypeId} {ents : List (AV × AV)} {reg : Bool} {id j : Nat} {x : AV} (ho : o.op = .mapUpdate t m q y) (ht : tyD P t = .map kt et) (hm : (evo P t env m).strip = .mapr id) (hh : h.get id = .map kt reg ents) (hx : evo P et env y = x) (hc : (keyOk P kt (evo P kt env q).strip && x.isData && noIter id h) = true)
    (hj : mpos P kt ents (evo P kt env q).strip = some j) (hk : A (tmpOp y) (.tup []) (h.set id (.map kt reg (msetAt ents j x)))) : (match extOp P o env h with | some (s, v, some h) => A s v h | some (s, v, none) => B s v | none => C) := by
  refine st_ext ?_ hk
  have e1 : Nat.beq kt kt = true := Nat.beq_refl kt
  have e2 : keyType P t = kt := by unfold keyType; rw [ht]
  have e3 : elemTypeM P t = et := by unfold elemTypeM; rw [ht]
  simp only [Bool.and_eq_true] at hc
  obtain ⟨⟨c1, c2⟩, c3⟩ := hc
  unfold extOp
  simp only [ho, mapSetAV, e2, e3, ht, hm, hx, hh, e1, c1, c2, c3, Bool.and_self, cond_true, hj]
theorem st_mapset_no {m q y : Operand} {kt et : TypeId} {ents : List (AV × AV)} {reg : Bool} {id : Nat} {x : AV} (ho : o.op = .mapUpdate t m q y) (ht : tyD P t = .map kt et) (hm : (evo P t env m).strip = .mapr id) (hh : h.get id = .map kt reg ents) (hx : evo P et env y = x) (hc : (keyOk P kt (evo P kt env q).strip && x.isData && noIter id h) = true)
    (hj : mpos P kt ents (evo P kt env q).strip = none) (hk : A (tmpOp y) (.tup []) (h.set id (.map kt reg (ents ++ [((evo P kt env q).strip, x)])))) : (match extOp P o env h with | some (s, v, some h) => A s v h | some (s, v, none) => B s v | none => C) := by
  refine st_ext ?_ hk
  have e1 : Nat.beq kt kt = true := Nat.beq_refl kt
  have e2 : keyType P t = kt := by unfold keyType; rw [ht]
  have e3 : elemTypeM P t = et := by unfold elemTypeM; rw [ht]
  simp only [Bool.and_eq_true] at hc
  obtain ⟨⟨c1, c2⟩, c3⟩ := hc
  unfold extOp
  simp only [ho, mapSetAV, e2, e3, ht, hm, hx, hh, e1, c1, c2, c3, Bool.and_self, cond_true, hj]
end
theorem st_store_e {A : Heap → Prop} {C : Prop} {id j : Nat} {pv x : AV} (hp : pv = .eptr id sz j 0) (hh : h.get id = .arr sz len g) (hj : j < len) (hc : (!(Nat.beq x.cells.length (tySz P t)) || !(x.cells.all AV.scal)) = false) (hd : (Nat.ble (0 + x.cells.length) sz && x.isData) = true)
    (hk : A (h.set id (.arr sz len (upd g j (setElem (g j) 0 sz x.strip))))) : (match storeAV P h t pv x with | some h => A h | none => C) := by
  have e1 : Nat.beq sz sz = true := Nat.beq_refl sz
  have e2 : Nat.blt j len = true := by rw [Nat.blt_eq]; exact hj
  simp only [Bool.and_eq_true] at hd
  have : storeAV P h t pv x = some (h.set id (.arr sz len (upd g j (setElem (g j) 0 sz x.strip)))) := by
    unfold storeAV
    rw [hc, hp]
    simp only [cond_false, storeArr, hh, e1, e2, hd.1, hd.2, Bool.and_self, cond_true]
  rw [this]; exact hk
theorem st_append_uni {b y : AV} {gg : Nat → AV} {m : Nat} (hb : b = .uni (.vec sz len g)) (ht : tyD P t = .slice u) {tt : TypeId} (hs : isSliceT P tt = true) (hy : srcOf P u h y = some (m, gg)) (hc : (Nat.beq sz (tySz P u) && Nat.blt 0 sz && zeroFits P u && Nat.blt 0 (tyBy P u)) = true)
    (hr : roomOK (len + m) (tyBy P u) = true) (hk : k (.uni (.vec sz (len + m) (vapp (zeroElem P u) g len gg m)))) : (match appendAV P t tt h b y with | some v => k v | none => e) := by
  have : appendAV P t tt h b y = some (.uni (.vec sz (len + m) (vapp (zeroElem P u) g len gg m))) := by
    unfold appendAV
    simp only [hs, ht, hb, hy, hc, hr, Bool.not_true, cond_false, cond_true]
  rw [this]; exact hk
end

theorem cond_t {c : Bool} {a b : Prop} (h : c = true) (ha : a) : cond c a b := by subst h; exact ha
theorem cond_f {c : Bool} {a b : Prop} (h : c = false) (hb : b) : cond c a b := by subst h; exact hb

/-! ### entries that stand for keys -/
inductive F2 {α β : Type} (R : α → β → Prop) : List α → List β → Prop
  | nil : F2 R [] []
  | cons {a b l m} (h : R a b) (r : F2 R l m) : F2 R (a :: l) (b :: m)
section
variable {α β : Type} {R R' : α → β → Prop}
theorem F2.len {l : List α} {m : List β} (h : F2 R l m) : m.length = l.length := by
  induction h with
  | nil => rfl
  | cons _ _ ih => simp [ih]
theorem F2.at {l : List α} {m : List β} (h : F2 R l m) {j : Nat} {a : α} (hj : l[j]? = some a) : ∃ b, m[j]? = some b ∧ R a b := by
  induction h generalizing j with
  | nil => simp at hj
  | cons h _ ih =>
    cases j with
    | zero => simp at hj; subst hj; exact ⟨_, rfl, h⟩
    | succ j => exact ih hj
theorem F2.snoc {l : List α} {m : List β} (h : F2 R l m) {a : α} {b : β} (hr : R a b) : F2 R (l ++ [a]) (m ++ [b]) := by
  induction h with
  | nil => exact .cons hr .nil
  | cons h _ ih => exact .cons h ih
theorem F2.mono {l : List α} {m : List β} (h : F2 R l m) (hr : ∀ a b, a ∈ l → R a b → R' a b) : F2 R' l m := by
  induction h with
  | nil => exact .nil
  | cons h _ ih => exact .cons (hr _ _ List.mem_cons_self h) (ih fun a b ha => hr a b (List.mem_cons_of_mem _ ha))
end
theorem mval_at {z : AV} {ents : List (AV × AV)} {j : Nat} {p : AV × AV} (h : ents[j]? = some p) : mval z ents j = p.2 := by
  induction ents generalizing j with
  | nil => simp at h
  | cons q r ih =>
    cases j with
    | zero => simp at h; subst h; rfl
    | succ j => exact ih h
theorem mpos_no {P : Program} {kt : TypeId} {α : Type} {enc : α → AV} {R : α → AV × AV → Prop} (hE : ∀ a p, R a p → p.1 = enc a) (hq : ∀ a b, eqKey P kt (enc a) (enc b) = true → a = b) {l : List α} {m : List (AV × AV)} (h : F2 R l m) {a : α} (ha : a ∉ l) : mpos P kt m (enc a) = none := by
  induction h with
  | nil => rfl
  | @cons b p l m h r ih =>
    have e1 : p.1 = enc b := hE _ _ h
    have e2 : eqKey P kt (enc a) p.1 = false := by
      rw [e1, Bool.eq_false_iff]
      exact fun e => ha (hq _ _ e ▸ List.mem_cons_self)
    obtain ⟨x, y⟩ := p
    simp only [mpos]
    rw [e2, cond_false, ih fun h => ha (List.mem_cons_of_mem _ h)]
    rfl
theorem mpos_at {P : Program} {kt : TypeId} {α : Type} {enc : α → AV} {R : α → AV × AV → Prop} (hE : ∀ a p, R a p → p.1 = enc a) (hq : ∀ a b, eqKey P kt (enc a) (enc b) = true ↔ a = b) {l : List α} {m : List (AV × AV)} (h : F2 R l m) (hn : l.Nodup) {a : α} {j : Nat} (hj : l[j]? = some a) : mpos P kt m (enc a) = some j := by
  induction h generalizing j with
  | nil => simp at hj
  | @cons b p l m h r ih =>
    have e1 : p.1 = enc b := hE _ _ h
    obtain ⟨n1, n2⟩ := List.nodup_cons.1 hn
    obtain ⟨x, y⟩ := p
    simp only [mpos]
    cases j with
    | zero =>
      simp at hj; subst hj
      rw [show eqKey P kt (enc b) x = true from e1 ▸ (hq _ _).2 rfl, cond_true]
    | succ j =>
      have hj : l[j]? = some a := by simpa using hj
      have : eqKey P kt (enc a) x = false := by
        rw [show x = enc b from e1, Bool.eq_false_iff]
        exact fun e => n1 ((hq _ _).1 e ▸ List.mem_of_getElem? hj)
      rw [this, cond_false, ih n2 hj]
      rfl
theorem F2.setAt {α : Type} {R R' : α → AV × AV → Prop} {l : List α} {m : List (AV × AV)} (h : F2 R l m) (hn : l.Nodup) {j : Nat} {a : α} (hj : l[j]? = some a) {x : AV} (h1 : ∀ b p, b ≠ a → R b p → R' b p) (h2 : ∀ p, R a p → R' a (p.1, x)) : F2 R' l (msetAt m j x) := by
  induction h generalizing j with
  | nil => simp at hj
  | @cons b p l m h r ih =>
    obtain ⟨n1, n2⟩ := List.nodup_cons.1 hn
    obtain ⟨y, z⟩ := p
    cases j with
    | zero =>
      simp at hj; subst hj
      exact .cons (h2 _ h) (r.mono fun c q hc => h1 c q fun e => n1 (e ▸ hc))
    | succ j =>
      have hj : l[j]? = some a := by simpa using hj
      refine .cons (h1 _ _ (fun e => n1 (e ▸ List.mem_of_getElem? hj)) h) (ih n2 hj)
theorem msetAt_last {m : List (AV × AV)} {q x y : AV} : msetAt (m ++ [(q, x)]) m.length y = m ++ [(q, y)] := by
  induction m with
  | nil => rfl
  | cons p r ih => obtain ⟨a, b⟩ := p; simp only [List.cons_append, List.length_cons, msetAt, ih]
theorem msetAt_twice {m : List (AV × AV)} {j : Nat} {x y : AV} : msetAt (msetAt m j x) j y = msetAt m j y := by
  induction m generalizing j with
  | nil => rfl
  | cons p r ih =>
    obtain ⟨a, b⟩ := p
    cases j with
    | zero => rfl
    | succ j => simp only [msetAt, ih]
theorem msetAt_len {m : List (AV × AV)} {j : Nat} {x : AV} : (msetAt m j x).length = m.length := by
  induction m generalizing j with
  | nil => rfl
  | cons p r ih =>
    obtain ⟨a, b⟩ := p
    cases j with
    | zero => rfl
    | succ j => simp only [msetAt, List.length_cons, ih]
end Ax
