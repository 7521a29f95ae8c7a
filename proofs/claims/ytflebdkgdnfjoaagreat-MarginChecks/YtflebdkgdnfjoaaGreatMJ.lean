import Derived.Test.YtflebdkgdnfjoaaGreatMF
import Derived.Test.YtflebdkgdnfjoaaGreatMI
import Derived.Test.YtflebdkgdnfjoaaGreatMG
import Derived.Tactics
import Derived.Scope
set_option linter.unusedVariables false
set_option linter.unusedSimpArgs false
namespace Ax
open Go Go.RowKit
theorem forceV_eq {R : Type} (l : Env) (k : Env → R) : Env.forceV l k = k l := by
  induction l generalizing k with
  | nil => rfl
  | cons p r ih => simp only [Env.forceV, ih, AV.force_eq]
theorem cond_elim {b : Bool} {p q : Prop} (h : bif b then p else q) : (b = true ∧ p) ∨ (b = false ∧ q) := by cases b; exact .inr ⟨rfl, h⟩; exact .inl ⟨rfl, h⟩
section
variable {P : Program} {A : Amb} {nt : Nat} {pend : List (Nat × AObj)} {env : Env} {heap : Heap} {bor : Option (Nat × AV)} {w : World} {U : Nat → Nat} {bl : Blocks} {ob : Loc → Option Nat} {a : Act}
variable {X : Rec Prop} {cx : Ctx} {I : FuncId → List AV → Heap → (AV → Heap → Prop) → Prop}
theorem denCall_sound (hL : Leans P cx X I) (ha : a.defers = A.ds) (h : Rel P A nt pend env heap bor a.tmps w U bl ob) {o : Oper} {c : Call} {f : Operand} {g : FuncId} {first caps : List AV} (ho : o.op = .call c) (hc : c.callee = .value f)
    (hf : evo P 0 env f = .fn g first caps) (hd : ∀ t, o.dst = some t → t < nt) {drawn : Bool} {k : St → Prop} {Q : Exit → Act → World → Prop}
    (hk : denCall X cx I drawn o.dst g (first ++ evoL P env c.argTypes.toList c.args.toList ++ caps) ⟨env, heap, [], bor⟩ k) : o.wp P a w (NextIs P A nt pend k) Q := by
  have hfr := evo_at (a := a) h 0 f
  rw [hf] at hfr
  obtain ⟨fs, cs, hfe, n1, n2, r1, r2⟩ : ∃ fs cs : Array Value, a.eval f = .func (.func g) fs cs ∧ first.length = fs.size ∧ caps.length = cs.size ∧ (∀ (i : Nat) x y, first[i]? = some x → fs[i]? = some y → Rep w (forb A bl heap) U bl x y) ∧
      ∀ (i : Nat) x y, caps[i]? = some x → cs[i]? = some y → Rep w (forb A bl heap) U bl x y := by
    generalize a.eval f = q at hfr
    cases hfr with | fn h1 h2 h3 h4 => exact ⟨_, _, rfl, h1, h2, h3, h4⟩
  have hargs : RepL w (forb A bl heap) U bl (first ++ evoL P env c.argTypes.toList c.args.toList ++ caps) (fs ++ c.args.map a.eval ++ cs).toList := by
    have e1 : RepL w (forb A bl heap) U bl first fs.toList := ⟨by simpa using n1, fun i x y hx hy => r1 i x y hx (by simpa using hy)⟩
    have e2 : RepL w (forb A bl heap) U bl caps cs.toList := ⟨by simpa using n2, fun i x y hx hy => r2 i x y hx (by simpa using hy)⟩
    have e3 := evoL_rep (P := P) (fun t => (h.env t).1) c.argTypes.toList c.args.toList
    have := (e1.append e3).append e2
    simpa using this
  have fin : Bodied P g → Calls P g (fs ++ c.args.map a.eval ++ cs) w (fun e w' => ∃ x, e = .returned x ∧ NextIs P A nt pend k ⟨putO a.tmps o.dst x, a.defers⟩ w') → o.wp P a w (NextIs P A nt pend k) Q := by
    intro hb hcalls
    have hrun : (execOp a.eval o).run P w = .ok (.enter g (fs ++ c.args.map a.eval ++ cs)) w := by
      unfold execOp
      rw [ho]
      exact run_call_value hc hfe hb hL.name
    unfold Oper.wp
    rw [hrun, Oper.upon_enter]
    refine hcalls.mono ?_
    rintro e w' ⟨x, rfl, hn⟩
    simp only
    rw [put_eq]; exact hn
  simp only [denCall, AV.forceL_eq] at hk
  rcases cond_elim hk with ⟨hb, hk⟩ | ⟨hb, hk⟩
  · simp only [Bool.and_eq_true] at hb
    have hco := hL.call _ _ _ hk
    refine fin hco.1 ((call_pure h hd hco hargs hb.1).mono ?_)
    rintro e w' ⟨r, x, rfl, hrel, hq⟩
    exact ⟨x, rfl, next_put ha (by obtain ⟨U', ob', hr⟩ := hrel; exact ⟨U', bl, ob', hr⟩) hq⟩
  · rcases cond_elim hk with ⟨_, hk⟩ | ⟨_, hk⟩
    · exact absurd hk hL.fail
    rcases cond_elim hk with ⟨_, hk⟩ | ⟨_, hk⟩
    · unfold denDC at hk
      rcases cond_elim hk with ⟨hs0, hk⟩ | ⟨_, hk⟩
      · rw [blt_eq, decide_eq_true_eq] at hs0
        revert hk hargs
        generalize (first ++ evoL P env c.argTypes.toList c.args.toList ++ caps) = AS
        generalize hvs : (fs ++ c.args.map a.eval ++ cs) = VS at fin ⊢
        intro hargs hk
        split at hk
        · rename_i vb vi vx
          rcases cond_elim hk with ⟨hc, hk2⟩ | ⟨_, hk2⟩
          · clear hk
            rw [beq_eq, decide_eq_true_eq] at hc
            split at hk2
            · rename_i id v h' hins
              obtain ⟨xb, m1, hm1, hxb, hr1⟩ := hargs.head
              obtain ⟨xi, m2, hm2, hxi, hr2⟩ := hr1.head
              obtain ⟨xx, m3, hm3, hxx, hr3⟩ := hr2.head
              obtain rfl : m3 = [] := List.length_eq_zero_iff.1 hr3.1.symm
              subst hm3; subst hm2
              have hVS : VS = #[xb, xi, xx] := by apply Array.ext'; simpa using hm1
              rw [hVS] at fin
              have hprim := (hL.prim g hs0).2 hc
              refine fin hprim.bodied ((insert_calls h hprim hins hxb hxi hxx hd).mono ?_)
              rintro e' w' ⟨y, rfl, U', bl', ob', hrel⟩
              rw [Heap.force_eq, forceV_eq] at hk2
              exact ⟨_, rfl, next_put ha ⟨U', bl', ob', hrel⟩ hk2⟩
            · exact absurd hk2 hL.fail
          · exact absurd hk2 hL.fail
        · rename_i id sz lo n h1 caps1
          split at hk
          · rename_i sz' n' e hg
            rcases cond_elim hk with ⟨hc, hk2⟩ | ⟨_, hk2⟩
            · clear hk
              simp only [Bool.and_eq_true, beq_eq, decide_eq_true_eq] at hc
              obtain ⟨⟨⟨⟨c0, rfl⟩, c2⟩, rfl⟩, rfl⟩ := hc
              have c0 : cx.srt g ≠ 100 := by simpa using c0
              rw [AV.forceL_eq] at hk2
              rcases cond_elim hk2 with ⟨hcd, hk3⟩ | ⟨_, hk3⟩
              · clear hk2
                rw [hL.sort] at hk3
                obtain ⟨x, m1, hm1, hx, hr1⟩ := hargs.head
                obtain ⟨y, m2, hm2, hy, hr2⟩ := hr1.head
                obtain rfl : m2 = [] := List.length_eq_zero_iff.1 hr2.1.symm
                subst hm2
                have hVS : VS = #[x, y] := by apply Array.ext'; simpa using hm1
                rw [hVS] at fin
                have hprim := (hL.prim g hs0).1 c0
                rw [← c2] at hprim
                refine fin hprim.bodied ((sort_calls hL.call h hprim hg hx hy hcd hk3).mono ?_)
                rintro e' w' ⟨rfl, l, hkl, U', ob', hrel⟩
                rw [Heap.force_eq] at hkl
                obtain ⟨ob2, h2⟩ := hrel.put0 hd (v := .tup []) (x := .tuple #[]) (.tup rfl (fun i x y hx => by simp at hx)) (fun own => .bare (bare_of rfl))
                exact ⟨_, rfl, next_put ha ⟨_, _, ob2, h2⟩ hkl⟩
              · exact absurd hk3 hL.fail
            · exact absurd hk2 hL.fail
          · exact absurd hk hL.fail
        · exact absurd hk hL.fail
      · rw [AV.forceL_eq] at hk
        rcases cond_elim hk with ⟨hdl, hk⟩ | ⟨_, hk⟩
        · have hco := hL.call _ _ _ hk
          refine fin hco.1 ((call_lend h hd hco hargs hdl).mono ?_)
          rintro e w' ⟨r, x, rfl, hq, hrel⟩
          rcases cond_elim hq with ⟨hsc, hq⟩ | ⟨_, hq⟩
          · exact ⟨x, rfl, next_put ha (by obtain ⟨U', ob', hr⟩ := hrel hsc; exact ⟨U', bl, ob', hr⟩) hq⟩
          · exact absurd hq hL.fail
        · exact absurd hk hL.fail
    · split at hk
      · exact absurd hk hL.fail
      · rename_i hbor
        rcases cond_elim hk with ⟨_, hk⟩ | ⟨hno, hk⟩
        · exact absurd hk hL.fail
        simp only [Bool.not_eq_false'] at hno
        simp only [Heap.force_eq] at hk
        have hco := hL.inl _ _ _ _ hk
        refine fin hco.1 ((call_inl h hd hno hco hargs).mono ?_)
        rintro e w' ⟨r, x, heap', rfl, hrel, hq⟩
        exact ⟨x, rfl, next_put ha hrel hq⟩
theorem fresh_rel (h : Rel P A nt pend env heap bor a.tmps w U bl ob) (s : Nat) : Rel P A nt pend (env.set s (freshen (env.get s))) heap bor a.tmps w U bl ob := by
  unfold freshen
  split
  · rename_i sz g hs; exact fresh_sound h hs
  · exact h.reread (h.env s).1 (h.env s).2
theorem waits_append : ∀ (x y : Heap) (n : Nat), waits n (x ++ y) = waits n x ++ waits (n + x.length) y
  | [], y, n => by simp [waits]
  | a :: x, y, n => by
    have e : n + 1 + x.length = n + (x.length + 1) := by omega
    simp only [List.cons_append, waits, waits_append x y (n + 1), List.length_cons, e]
theorem nilTest_of {op : BinOp} {t : TypeId} {x : AV} {y : Operand} {n : Nat} {b : Bool} (h : nilTest P op t x y = some (n, b)) :
    y = .const (.slice none 0 0) ∧ (∃ e, tyD P t = .slice e) ∧ ∃ sz g, x = .vec sz n g ∧ (op = .eql ∧ b = false ∨ op = .neq ∧ b = true) := by
  unfold nilTest at h
  split at h
  · split at h
    · rename_i e he
      split at h
      · simp at h; obtain ⟨rfl, rfl⟩ := h; exact ⟨rfl, ⟨e, he⟩, _, _, rfl, .inl ⟨rfl, rfl⟩⟩
      · simp at h; obtain ⟨rfl, rfl⟩ := h; exact ⟨rfl, ⟨e, he⟩, _, _, rfl, .inr ⟨rfl, rfl⟩⟩
      · simp at h
    · simp at h
  · simp at h
theorem nil_wp {pend' : List (Nat × AObj)} (ha : a.defers = A.ds) (h : Rel P A nt pend' env heap bor a.tmps w U bl ob) {o : Oper} (hd : ∀ t, o.dst = some t → t < nt) {op : BinOp} {t : TypeId} {x y : Operand} {yt : TypeId} (ho : o.op = .binOp op t x y yt) {n : Nat} {b : Bool}
    (hn : nilTest P op t (evo P t env x).strip y = some (n, b)) {k : St → Prop} {Q : Exit → Act → World → Prop}
    (hk : BrP (Nat.beq n 0) (∀ i, i < 2 → putK env o.dst (.bool (Nat.beq i 0)) fun env => k ⟨env, heap, [], bor⟩) (putK env o.dst (.bool b) fun env => k ⟨env, heap, [], bor⟩)) : o.wp P a w (NextIs P A nt pend' k) Q := by
  obtain ⟨rfl, ⟨e, ht⟩, sz, g, hx, hop⟩ := nilTest_of hn
  have hr := (evo_at h t x).strip
  rw [hx] at hr
  generalize hxv : a.eval x = xv at hr
  cases hr with
  | @vec _ _ _ _ ao cap hcap vals hz hs hone hh =>
    have hu : (Go.underlying t).run P w = .ok (.slice e) w := run_underlying (und_of ht (by simp)) w
    have heq : (Op.equal t (.slice ao n cap) (.slice none 0 0)).run P w = .ok ao.isNone w := eq_of fun d => by
      cases ao <;> simp [Op.equalIn, hu]
    have run : (execOp a.eval o).run P w = .ok (.value (.bool (bif b then !ao.isNone else ao.isNone))) w := by
      have e1 : a.eval (.const (.slice none 0 0)) = .slice none 0 0 := rfl
      have hg := guard_int (P := P) (w := w) op t x (.const (.slice none 0 0)) (.slice ao n cap) (.slice none 0 0) rfl
      have hb : (binOp op t (.slice ao n cap) (.slice none 0 0)).run P w = .ok (.bool (bif b then !ao.isNone else ao.isNone)) w := by
        rcases hop with ⟨rfl, rfl⟩ | ⟨rfl, rfl⟩
        · show ((do pure (.bool (← Op.equal t (.slice ao n cap) (.slice none 0 0)))) : Sem Value).run P w = _
          simp only [Sem.run_bind, heq, Result.andThen_ok, Sem.run_pure]; rfl
        · show ((do pure (.bool (!(← Op.equal t (.slice ao n cap) (.slice none 0 0))))) : Sem Value).run P w = _
          simp only [Sem.run_bind, heq, Result.andThen_ok, Sem.run_pure]; rfl
      unfold execOp
      rw [ho]
      simp only [hxv, e1, Sem.run_bind, hg, hb, Result.andThen_ok, Sem.run_pure]
    have out : ∀ c : Bool, (putK env o.dst (.bool c) fun env => k ⟨env, heap, [], bor⟩) → (bif b then !ao.isNone else ao.isNone) = c → o.wp P a w (NextIs P A nt pend' k) Q := by
      intro c hc e
      rw [e] at run
      obtain ⟨ob', h'⟩ := h.put0 hd (v := .bool c) (x := .bool c) .bool (fun own => .bare (bare_of rfl))
      exact value_wp run (next_put ha ⟨U, bl, ob', h'⟩ hc)
    cases hnz : Nat.beq n 0 with
    | true =>
      have h0 := hk.yes hnz
      cases hb : (bif b then !ao.isNone else ao.isNone) with
      | true => exact out true (h0 0 (by omega)) hb
      | false => exact out false (h0 1 (by omega)) hb
    | false =>
      have h1 := hk.no hnz
      have hpos : 0 < n := by
        rcases Nat.eq_zero_or_pos n with e | e
        · subst e; simp at hnz
        · exact e
      obtain ⟨_, a', rfl, _⟩ := hz hpos
      refine out b h1 ?_
      cases b <;> rfl
theorem denOp_sound {pend pend' : List (Nat × AObj)} {defers : List (AV × List AV)} (hL : Leans P cx X I) (hP : cx.P = P) {drawn : Bool} {fid rid ix base : Nat} {o : Oper} {rest : List Oper} {k : St → Prop} {Q : Exit → Act → World → Prop}
    (hg : Good P A nt pend ⟨env, heap, defers, bor⟩ a w) (hin : ∀ p, p ∈ waits base (hoisted P o) → p ∈ pend) (hsub : ∀ p, p ∈ pend' → p ∈ pend ∧ (0 < (hoisted P o).length → p.1 ≠ base))
    (hA : A.bl0.length ≤ base) (hAh : A.bl0.length ≤ heap.length) (hd : ∀ t, o.dst = some t → t < nt)
    (hk : denOp X cx I drawn fid rid ix base o rest ⟨env, heap, defers, bor⟩ k) : o.wp P a w (NextIs P A nt pend' k) Q := by
  subst hP
  obtain ⟨ha, rfl, U, bl, ob, h0⟩ := hg
  have hbase : A.bl0[base]? ≠ some none := by rw [List.getElem?_eq_none hA]; simp
  have h : Rel cx.P A nt pend' env heap bor a.tmps w U bl ob := h0.unpend (fun p hp => (hsub p hp).1)
  have hfil : ∀ p, p ∈ pend' → 0 < (hoisted cx.P o).length → p ∈ pend.filter fun p => p.1 != base :=
    fun p hp hl => List.mem_filter.2 ⟨(hsub p hp).1, by simpa using (hsub p hp).2 hl⟩
  have plain : ∀ v, evalOp cx.P o env heap = some v → (putK env o.dst v fun env => k ⟨env, heap, [], bor⟩) → o.wp cx.P a w (NextIs cx.P A nt pend' k) Q :=
    fun v he hk' => plain_wp rfl h ha hd he hk'
  unfold denOp at hk
  dsimp only at hk
  split at hk
  ·
    rename_i x hop
    split at hk
    · rename_i s
      rcases cond_elim hk with ⟨_, hk⟩ | ⟨_, hk⟩
      · exact move_wp ha h (.inl hop) hd hk
      · exact copy_wp ha h (.inl hop) hd (h.env s).1.strip (fun own => .bare (strip_bare _)) hk
    · rename_i hx
      exact copy_wp ha h (.inl hop) hd (evo_at h o.type x) (fun own => evo_const_own o.type (fun s e => hx s e) own) hk
  ·
    rename_i x hop
    split at hk
    · rename_i s
      exact move_wp ha h (.inr hop) hd hk
    · rename_i hx
      exact copy_wp ha h (.inr hop) hd (evo_at h o.type x) (fun own => evo_const_own o.type (fun s e => hx s e) own) hk
  ·
    rename_i t hop
    have hho : hoisted cx.P o = [.cells (zeroAV cx.P t).cells] := by unfold hoisted; rw [hop]
    rcases cond_elim hk with ⟨_, hk⟩ | ⟨hz, hk⟩
    · exact absurd hk hL.fail
    · simp only [Bool.not_eq_false', Bool.and_eq_true] at hz
      rw [forceNat_eq] at hk
      have := alloc_wp (Q := Q) ha h0 hop hd (hin _ (by rw [hho]; simp [waits])) hz.1 hz.2 hbase hk
      refine Oper.wp_mono (fun a' w' => ?_) this
      rintro ⟨st', hgood, hkk⟩
      obtain ⟨env', heap', defers', bor'⟩ := st'
      obtain ⟨g1, g2, U', bl', ob', g3⟩ := hgood
      exact ⟨_, ⟨g1, g2, U', bl', ob', g3.unpend (fun p hp => hfil p hp (by rw [hho]; simp))⟩, hkk⟩
  ·
    rename_i t hop
    obtain ⟨kt, ow, hho⟩ : ∃ kt ow, hoisted cx.P o = [.map kt ow []] := by
      unfold hoisted; rw [hop]; simp only; split <;> exact ⟨_, _, rfl⟩
    rw [forceNat_eq] at hk
    have := makeMap_wp (Q := Q) ha h0 hop hd (base := base) (kt := kt) (ow := ow) (hin _ (by rw [hho]; simp [waits])) hbase hk
    refine Oper.wp_mono (fun a' w' => ?_) this
    rintro ⟨st', hgood, hkk⟩
    obtain ⟨env', heap', defers', bor'⟩ := st'
    obtain ⟨g1, g2, U', bl', ob', g3⟩ := hgood
    exact ⟨_, ⟨g1, g2, U', bl', ob', g3.unpend (fun p hp => hfil p hp (by rw [hho]; simp))⟩, hkk⟩
  ·
    rename_i t x hop
    rcases cond_elim hk with ⟨hs, hk⟩ | ⟨_, hk⟩
    · rw [forceNat_eq, Heap.force_eq] at hk
      exact box_wp ha h hop hd (keepA_rep (evo_at h t x)) (keepA_bare _) (sameShape_of hs).2 hAh hk
    · exact absurd hk hL.fail
  ·
    rename_i t p v hop
    split at hk
    · rename_i heap' hs
      rcases cond_elim hk with ⟨_, hk⟩ | ⟨hpos, hk⟩
      · exact absurd hk hL.fail
      · rw [Heap.force_eq] at hk
        simp only [Bool.not_eq_false', blt_eq, decide_eq_true_eq] at hpos
        refine store_wp ha h hop hd hpos hs ?_
        cases v <;> exact hk
    · exact absurd hk hL.fail
  ·
    rename_i c hop
    split at hk
    ·
      rename_i hcb
      have runA : ∀ (x y : Operand) (t u : TypeId), c.args.toList = [x, y] → c.argTypes.toList = [t, u] → ∀ v, (∀ ty, (Builtin.append_ #[t, u] ty #[a.eval x, a.eval y]).run cx.P w = v) →
          (execOp a.eval o).run cx.P w = v.andThen fun y w' => .ok (.value y) w' := by
        intro x y t u h1 h2 v hv
        have e1 : c.args = #[x, y] := by apply Array.ext'; simpa using h1
        have e2 : c.argTypes = #[t, u] := by apply Array.ext'; simpa using h2
        obtain ⟨csz, hb⟩ := run_call_builtin (P := cx.P) (w := w) (ρ := a.eval) (ty := o.type) hcb
        unfold execOp
        rw [hop]
        simp only
        rw [hb, e1, e2]
        have := hv o.type
        simp only [builtin, Sem.run_bind]
        rw [show (Array.map a.eval #[x, y]) = #[a.eval x, a.eval y] by simp, this]
        cases v <;> rfl
      split at hk
      · rename_i s x t u h1 h2
        split at hk
        · rename_i id v heap' hao
          rcases cond_elim hk with ⟨_, hk⟩ | ⟨_, hk⟩
          · exact absurd hk hL.fail
          rw [Heap.force_eq, forceV_eq] at hk
          have key : ∀ ty, ∃ y w' U' bl' ob', (Builtin.append_ #[t, u] ty #[a.tmps.getD s undef, a.eval x]).run cx.P w = .ok y w' ∧ Rel cx.P A nt _ (setO (env.scrub id) o.dst v) heap' bor (putO a.tmps o.dst y) w' U' bl' ob' :=
            fun ty => appendO_sound (ty := ty) h hd hao (evo_at h u x)
          obtain ⟨y, w', U', bl', ob', r1, r2⟩ := key o.type
          have hrun : (execOp a.eval o).run cx.P w = .ok (.value y) w' := by
            rw [runA (.tmp s) x t u h1 h2 (.ok y w') (fun ty => r1)]; rfl
          exact value_wp hrun (next_put ha ⟨U', bl', ob', r2⟩ hk)
        rcases cond_elim hk with ⟨_, hk⟩ | ⟨_, hk⟩
        · split at hk
          · rename_i v hv
            have h1' := fresh_rel h s
            have hv' : appendAV cx.P t u heap ((env.set s (freshen (env.get s))).get s) (evo cx.P u env x) = some v := by rw [get_set, if_pos rfl]; exact hv
            have key : ∀ ty, ∃ y w' U' ob', (Builtin.append_ #[t, u] ty #[a.tmps.getD s undef, a.eval x]).run cx.P w = .ok y w' ∧ Rel cx.P A nt _ (setO ((env.set s (freshen (env.get s))).bare s) o.dst v) heap bor (putO a.tmps o.dst y) w' U' bl ob' :=
              fun ty => append_sound (ty := ty) h1' hd hv' (evo_at h u x)
            obtain ⟨y, w', U', ob', r1, r2⟩ := key o.type
            have hrun : (execOp a.eval o).run cx.P w = .ok (.value y) w' := by
              rw [runA (.tmp s) x t u h1 h2 (.ok y w') (fun ty => r1)]; rfl
            have r3 : Rel cx.P A nt pend' (setO (env.set s .undef) o.dst v) heap bor (putO a.tmps o.dst y) w' U' bl ob' := by
              refine { r2 with env := fun t' => ?_ }
              have hr := r2.env t'
              have e1 : ∀ E : Env, (setO E o.dst v).get t' = if o.dst = some t' then v else E.get t' := by
                intro E
                cases o.dst with
                | none => simp [setO]
                | some d => simp only [setO, get_set, Option.some.injEq]
              rw [e1] at hr ⊢
              by_cases hdt : o.dst = some t'
              · rw [if_pos hdt] at hr ⊢; exact hr
              · rw [if_neg hdt] at hr ⊢
                rw [get_bare, get_set] at hr
                rw [get_set]
                by_cases hst : s = t'
                · rw [if_pos hst]; exact ⟨.undef, .bare (bare_of rfl)⟩
                · rw [if_neg hst, if_neg hst] at hr; rw [if_neg hst]; exact hr
            exact value_wp hrun (next_put ha ⟨U', bl, ob', r3⟩ hk)
          · exact absurd hk hL.fail
        split at hk
        · rename_i v hv
          have key : ∀ ty, ∃ y w' U' ob', (Builtin.append_ #[t, u] ty #[a.tmps.getD s undef, a.eval x]).run cx.P w = .ok y w' ∧ Rel cx.P A nt _ (setO (env.bare s) o.dst v) heap bor (putO a.tmps o.dst y) w' U' bl ob' :=
            fun ty => append_sound (ty := ty) h hd hv (evo_at h u x)
          obtain ⟨y, w', U', ob', r1, r2⟩ := key o.type
          have hrun : (execOp a.eval o).run cx.P w = .ok (.value y) w' := by
            rw [runA (.tmp s) x t u h1 h2 (.ok y w') (fun ty => r1)]; rfl
          exact value_wp hrun (next_put ha ⟨U', bl, ob', r2⟩ hk)
        · exact absurd hk hL.fail
      · rename_i cv x t u h1 h2
        split at hk
        · rename_i v hv
          obtain ⟨e, n, g, m, g', c', hu, ht, hcc, hbv, hs, z0, hz, hb, hr, rfl⟩ := appendAV_of hv
          rcases hcc with rfl | rfl
          case inr => exact absurd hbv (ofConst_nouni t cv)
          have hsrc := srcOf_sound hs (evo_at h u x) h.objsOK z0
          have hcr := (ofConst_rep (w := w) (F := forb A bl heap) (U := U) (bl := bl) (B := A.B) (P := cx.P) t cv)
          rw [hbv] at hcr
          obtain ⟨cr, co⟩ := hcr
          obtain ⟨y0, hy0, hok⟩ := co (fun _ => none) [] _ rfl rfl
          simp only [vat, Option.some.injEq] at hy0
          subst hy0
          cases cr with
          | own hvec =>
            obtain ⟨ao, cap, hncap, hval⟩ : ∃ ao cap, n ≤ cap ∧ cv = .slice ao n cap := by cases hvec with | vec hcap => exact ⟨_, _, hcap, rfl⟩
            subst hval
            have hcap : cap = n := by
              rcases hok with hh | ⟨a', _, _, hh, _⟩
              · exact hh
              · simp at hh
            by_cases hmv : n + m ≤ cap
            · have hm : m = 0 := by omega
              subst hm
              obtain ⟨cs, k1, k2, k3, ko, k4, k5⟩ := hsrc
              have hcs : cs = [] := List.length_eq_zero_iff.1 (by rw [k3]; simp)
              subst hcs
              have hrun' : ∀ ty, (Builtin.append_ #[t, u] ty #[.slice ao n cap, a.eval x]).run cx.P w = .ok (.slice ao (n + 0) cap) w := by
                intro ty; rw [append_stay (ty := ty) ht hu z0 k1 (k2 w rfl) hmv]; cases ao <;> simp [storeCells]
              have hrep : Rep w (forb A bl heap) U bl (.vec (tySz cx.P e) (n + 0) (vapp (zeroElem cx.P e) g n g' 0)) (.slice ao (n + 0) cap) := by
                cases hvec with
                | vec hc vals z1 z2 zo z3 =>
                  refine .vec hc vals z1 (fun i hi => ?_) (fun i j hi hj => zo i j (by omega) hj) (fun i j c hi hc => ?_)
                  · rw [vapp_get, if_pos (by omega)]; exact z2 i (by omega)
                  · rw [vapp_get, if_pos (by omega)] at hc; exact z3 i j c (by omega) hc
              obtain ⟨ob', h2'⟩ := h.put0 hd (.own hrep) (fun own => own_nil (.inl hcap))
              have hrun : (execOp a.eval o).run cx.P w = .ok (.value (.slice ao (n + 0) cap)) w := by
                rw [runA (.const (.slice ao n cap)) x t u h1 h2 (.ok (.slice ao (n + 0) cap) w) hrun']; rfl
              exact value_wp hrun (next_put ha ⟨U, bl, ob', h2'⟩ hk)
            · have key : ∀ ty, _ := fun ty => append_gen (ty := ty) h hd hu ht z0 hz hb hr hvec hsrc hmv
              obtain ⟨y, w', U', ob', r1, r2⟩ := key o.type
              have hrun : (execOp a.eval o).run cx.P w = .ok (.value y) w' := by
                rw [runA (.const (.slice ao n cap)) x t u h1 h2 (.ok y w') (fun ty => r1)]; rfl
              exact value_wp hrun (next_put ha ⟨U', bl, ob', r2⟩ hk)
        · exact absurd hk hL.fail
      · exact absurd hk hL.fail
    · split at hk
      · rename_i v he; exact plain v he hk
      · exact ext_wp hL.fail rfl ha h hd hk
    · rename_i f hcv
      split at hk
      · rename_i g first caps hf
        exact denCall_sound hL ha h hop hcv hf hd hk
      · exact absurd hk hL.fail
    · exact absurd hk hL.fail
  ·
    rename_i t p hop
    rcases cond_elim hk with ⟨_, hk⟩ | ⟨_, hk⟩
    · split at hk
      · rename_i v heap' hv
        rw [Heap.force_eq] at hk
        obtain ⟨y, r1, ob', r2⟩ := take_sound rfl h hv (evo_at (a := a) h 0 p) hd
        refine value_wp (x := y) (w' := w) ?_ (next_put ha ⟨_, _, ob', r2⟩ hk)
        unfold execOp; rw [hop]; simp [r1]
      · exact absurd hk hL.fail
    · split at hk
      · rename_i v he; exact plain v he hk
      · exact absurd hk hL.fail
  ·
    rename_i t m q ok hop
    rcases cond_elim hk with ⟨hc, hk⟩ | ⟨_, hk⟩
    · simp only [Bool.and_eq_true, Bool.not_eq_true'] at hc
      split at hk
      · rename_i kt e ht
        split at hk
        · rename_i v heap' hv
          rw [Heap.force_eq] at hk
          obtain ⟨y, r1, ob', r2⟩ := lookTake_sound h hd hv (evo_at (a := a) h t m).strip (evo_at (a := a) h kt q).strip
          refine value_wp (x := y) (w' := w) ?_ (next_put ha ⟨_, _, ob', r2⟩ hk)
          unfold execOp; rw [hop, hc.1]; simp [r1]
        · exact absurd hk hL.fail
      · exact absurd hk hL.fail
    · split at hk
      · rename_i v he; exact plain v he hk
      · exact absurd hk hL.fail
  ·
    rename_i t len parts hop
    rcases cond_elim hk with ⟨_, hk⟩ | ⟨_, hk⟩
    · split at hk
      · rename_i sz n z hz
        rw [forceNat_eq, Heap.force_eq] at hk
        obtain ⟨q1, q2⟩ := elemParts_rep (P := cx.P) (fun t => (h.env t).1) (elemOfT cx.P t) parts.toList
        obtain ⟨r, w', U', bl', ob', r1, r2⟩ := buildO_sound h hAh hd (qs := parts.map fun (i, x) => (i, a.eval x)) hz (by rw [parts_map]; exact q1) (by rw [parts_map]; exact q2)
        refine value_wp (x := r) (w' := w') ?_ (next_put ha ⟨U', bl', ob', r2⟩ hk)
        unfold execOp; rw [hop]; simp [r1]
      · exact absurd hk hL.fail
    · split at hk
      · rename_i v he; exact plain v he hk
      · exact ext_wp hL.fail rfl ha h hd hk
  ·
    rename_i t l c hop
    rcases cond_elim hk with ⟨_, hk⟩ | ⟨_, hk⟩
    · split at hk
      · rename_i sz n z hz
        rw [forceNat_eq, Heap.force_eq] at hk
        obtain ⟨r, w', U', bl', ob', r1, r2⟩ := makeArr_sound h hAh hd hz (evo_at (a := a) h 3 l) (evo_at (a := a) h 3 c)
        refine value_wp (x := r) (w' := w') ?_ (next_put ha ⟨U', bl', ob', r2⟩ hk)
        unfold execOp; rw [hop]; simp [r1]
      · exact absurd hk hL.fail
    · exact ext_wp hL.fail rfl ha h hd hk
  ·
    rename_i op t x y yt hop
    split at hk
    · rename_i n b hn
      rcases cond_elim hk with ⟨_, hk⟩ | ⟨_, hk⟩
      · exact absurd hk hL.fail
      · rw [hL.br, hL.all] at hk
        exact nil_wp ha h hd hop hn hk
    · split at hk
      · rename_i v he; exact plain v he hk
      · exact ext_wp hL.fail rfl ha h hd hk
  ·
    rename_i x i hop
    split at hk
    · rename_i s
      split at hk
      · rename_i vs hv
        split at hk
        · rename_i v hi; exact extract_wp ha h hop hd hv hi hk
        · exact absurd hk hL.fail
      · exact absurd hk hL.fail
    · exact absurd hk hL.fail
  ·
    rename_i t x hop
    rcases cond_elim hk with ⟨_, hk⟩ | ⟨_, hk⟩
    · exact absurd hk hL.fail
    · split at hk
      · rename_i q hq
        rw [forceNat_eq, Heap.force_eq] at hk
        exact range_wp ha h hop hd hq hAh hk
      · exact absurd hk hL.fail
  ·
    rename_i it s hop
    rcases cond_elim hk with ⟨_, hk⟩ | ⟨hs, hk⟩
    · exact absurd hk hL.fail
    · split at hk
      · rename_i id hid
        split at hk
        · rename_i q left hg
          simp only [Heap.force_eq] at hk
          rw [hL.br, hL.all] at hk
          simp only [Bool.or_eq_false_iff] at hs
          rw [hs.2] at hop
          exact next_wp ha h hop hd hid hg (fun e => hk.yes e) (fun e j hj => hk.no e j (by omega))
        · exact absurd hk hL.fail
      · exact absurd hk hL.fail
  · split at hk
    · rename_i v he; exact plain v he hk
    · exact ext_wp hL.fail rfl ha h hd hk
end
end Ax

namespace Ax
open Go Go.RowKit
theorem underL_get {n : Nat} : ∀ {l : List AV}, AV.underL n l = true → ∀ (i : Nat) x, l[i]? = some x → x.under n = true
  | [], h, i, x, hx => by simp at hx
  | v :: r, h, i, x, hx => by
    simp only [AV.underL, Bool.and_eq_true] at h
    cases i with
    | zero => simp at hx; exact hx ▸ h.1
    | succ i => exact underL_get h.2 i x (by simpa using hx)
theorem cells_under {n : Nat} {v : AV} (h : v.under n = true) : ∀ (j : Nat) c, v.cells[j]? = some c → c.under n = true := by
  intro j c hc
  unfold AV.cells at hc
  split at hc
  · exact underL_get (by simpa [AV.under] using h) j c hc
  · cases j with
    | zero => simp at hc; exact hc ▸ h
    | succ j => simp at hc
theorem Rep.take {w : World} {F : Nat → Prop} {U : Nat → Nat} {bl : Blocks} {n : Nat} {v : AV} {x : Value} (h : Rep w F U bl v x) : v.under n = true → Rep w F U (bl.take n) v x := by
  have hb : ∀ {bl : Blocks} {id b : Nat}, bl[id]? = some (some b) → Nat.blt id n = true → (bl.take n)[id]? = some (some b) := by
    intro bl id b h hlt
    rw [blt_eq] at hlt
    rw [List.getElem?_take_of_lt (by simpa using hlt)]; exact h
  induction h with
  | undef => exact fun _ => .undef
  | bool => exact fun _ => .bool
  | int => exact fun _ => .int
  | str => exact fun _ => .str
  | agg hn h ih => exact fun hd => .agg hn fun i x y hx hy => ih i x y hx hy (underL_get (by simpa [AV.under] using hd) i x hx)
  | tup hn h ih => exact fun hd => .tup hn fun i x y hx hy => ih i x y hx hy (underL_get (by simpa [AV.under] using hd) i x hx)
  | vec hcap vals hz hs h1 h ih => exact fun _ => .vec hcap vals hz hs h1 h
  | own h ih => exact fun hd => .own (ih (by simpa [AV.under] using hd))
  | uni => exact fun _ => .uni
  | wide hcap hn h ih => exact fun _ => .wide hcap hn (ih rfl)
  | cptr vals hp hc h ih => exact fun hd => .cptr vals hp hc fun j c hj => ih j c hj (cells_under (by simpa [AV.under] using hd) j c hj)
  | ptr h => exact fun hd => .ptr (hb h (by simpa [AV.under] using hd))
  | eptr h => exact fun hd => .eptr (hb h (by simpa [AV.under] using hd))
  | nilptr => exact fun _ => .nilptr
  | row hcap hz => exact fun hd => .row hcap fun hn => let ⟨b, h1, h2⟩ := hz hn; ⟨b, hb h1 (by simpa [AV.under] using hd), h2⟩
  | brow hn hz => exact fun hd => .brow hn (hz.imp (fun e => e) fun ⟨b, h1, h2⟩ => ⟨b, hb h1 (by simpa [AV.under] using hd), h2⟩)
  | nils => exact fun _ => .nils
  | rvec hcap vals hz hs h ih => exact fun hd => .rvec hcap vals hz hs fun i c hc => ih i c hc (underL_get (by simpa [AV.under] using hd) i c hc)
  | mapr h => exact fun hd => .mapr (hb h (by simpa [AV.under] using hd))
  | nilmap => exact fun _ => .nilmap
  | fn hn hm h h' ih ih' =>
    intro hd
    simp only [AV.under, Bool.and_eq_true] at hd
    exact .fn hn hm (fun i x y hx hy => ih i x y hx hy (underL_get hd.1 i x hx)) (fun i x y hx hy => ih' i x y hx hy (underL_get hd.2 i x hx))
  | nilfn => exact fun _ => .nilfn
  | iter h => exact fun hd => .iter (hb h (by simpa [AV.under] using hd))
  | iface h ih => exact fun hd => .iface (ih (by simpa [AV.under] using hd))
  | nilIface => exact fun _ => .nilIface
theorem scrub_rep {w : World} {F : Nat → Prop} {U : Nat → Nat} {bl : Blocks} {n : Nat} {v : AV} {x : Value} (h : Rep w F U bl v x) : Rep w F U (bl.take n) (scrub n v) x := by
  unfold scrub
  cases hu : v.under n
  · exact .undef
  · exact h.take hu
theorem keepEnv_get (ks : Option (List Nat)) (n : Nat) (env : Env) (t : Nat) :
    (keepEnv ks n env).get t = .undef ∨ (keepEnv ks n env).get t = scrub n (env.get t) := by
  induction env with
  | nil => left; rfl
  | cons p r ih =>
    obtain ⟨s, v⟩ := p
    cases ks with
    | none =>
      simp only [keepEnv, Env.get]
      cases Nat.beq s t
      · exact ih
      · exact .inr rfl
    | some l =>
      simp only [keepEnv]
      cases hm : memN s l
      · simp only [cond_false, Env.get]
        by_cases e : s = t
        · subst e
          left
          clear ih
          induction r with
          | nil => rfl
          | cons q r ih =>
            obtain ⟨s', v'⟩ := q
            simp only [keepEnv]
            cases hm' : memN s' l
            · exact ih
            · simp only [cond_true, Env.get]
              have : Nat.beq s' s = false := by
                rw [beq_eq, decide_eq_false_iff_not]; rintro rfl; rw [hm] at hm'; cases hm'
              rw [this]; exact ih
        · have : Nat.beq s t = false := by rw [beq_eq, decide_eq_false_iff_not]; exact e
          rw [this]; exact ih
      · simp only [cond_true, Env.get]
        cases Nat.beq s t
        · exact ih
        · exact .inr rfl
theorem takeH_eq : ∀ (n : Nat) (h : Heap), takeH n h = h.take n
  | 0, _ => by simp [takeH]
  | n + 1, [] => by simp [takeH]
  | n + 1, o :: r => by simp [takeH, takeH_eq n r]
theorem heap_get_take : ∀ (n : Nat) (h : Heap) (id : Nat), id < n → Heap.get (h.take n) id = h.get id
  | 0, _, _, hl => absurd hl (Nat.not_lt_zero _)
  | n + 1, [], id, hl => by simp
  | n + 1, o :: r, 0, hl => rfl
  | n + 1, o :: r, id + 1, hl => heap_get_take n r id (by omega)
theorem underH_get {n : Nat} : ∀ (m : Nat) (h : Heap), underH n m h = true → ∀ id : Nat, id < m → (h.get id).under n = true
  | 0, _, _, id, hl => absurd hl (Nat.not_lt_zero _)
  | m + 1, [], _, id, _ => rfl
  | m + 1, o :: r, hu, id, hl => by
    simp only [underH, Bool.and_eq_true] at hu
    cases id with
    | zero => exact hu.1
    | succ id => exact underH_get m r hu.2 id (by omega)
theorem Env.forceV_eq {R : Type} (l : Env) (k : Env → R) : Env.forceV l k = k l := by
  induction l generalizing k with
  | nil => rfl
  | cons p r ih => simp only [Env.forceV, ih, AV.force_eq]
section
variable {P : Program} {A : Amb} {nt : Nat} {pend : List (Nat × AObj)} {env : Env} {heap : Heap} {bor : Option (Nat × AV)} {tm : Array Value} {w : World} {U : Nat → Nat} {bl : Blocks} {ob : Loc → Option Nat}
theorem objTake {w : World} {F : Nat → Prop} {U : Nat → Nat} {bl : Blocks} {B n : Nat} {own : Nat → List Nat → Option Nat} {ownM : Nat → List Nat → Option Nat} {bor : Option AV} {o : AObj} {b : Nat}
    (h : ObjRep P w F U bl B own ownM bor o b) (hu : o.under n = true) : ObjRep P w F U (bl.take n) B own ownM bor o b := by
  cases o with
  | cells cs =>
    obtain ⟨c, e, fr, h1, h2, h3, h4⟩ := h
    exact ⟨c, e, fr, h1, h2, h3, fun i x y hx hy => ⟨(h4 i x y hx hy).1.take (underL_get (by simpa [AObj.under] using hu) i x hx), (h4 i x y hx hy).2⟩⟩
  | iter q l cu =>
    cases q with
    | none => exact h
    | some id =>
      obtain ⟨bm, es, clock, seen, last, h1, hr⟩ := h
      have hlt : id < n := by simpa [AObj.under, blt_eq] using hu
      exact ⟨bm, es, clock, seen, last, by rw [List.getElem?_take_of_lt hlt]; exact h1, hr⟩
  | _ => exact h
theorem Rel.clean (h : Rel P A nt [] env heap bor tm w U bl ob) (ks : Option (List Nat)) {n : Nat} (hA : A.bl0.length ≤ n) (hu : underH n n heap = true) :
    Rel P A nt [] (keepEnv ks n env) (heap.take n) bor tm w U (bl.take n) ob := by
  have hget : ∀ {id b : Nat}, (bl.take n)[id]? = some (some b) → id < n ∧ bl[id]? = some (some b) := by
    intro id b hi
    rw [List.getElem?_take] at hi
    split at hi
    · exact ⟨‹_›, hi⟩
    · simp at hi
  have hforb : ∀ c, forb A (bl.take n) (heap.take n) c → forb A bl heap c := by
    rintro c (hf | ⟨j, hj, hd⟩)
    · exact .inl hf
    · obtain ⟨j1, j2⟩ := hget hj
      rw [heap_get_take _ _ _ j1] at hd
      exact .inr ⟨j, j2, hd⟩
  have g : Grow0 w (forb A bl heap) U w (forb A (bl.take n) (heap.take n)) U := ⟨fun b _ hf => .inl (hforb b hf), fun b _ _ => ⟨Nat.le_refl _, fun _ _ => rfl⟩, fun _ hb => ⟨hb, Nat.le_refl _⟩⟩
  have kp : ∀ b, b < w.heap.size → ¬ forb A bl heap b → w.heap[b]? = w.heap[b]? ∧ U b = U b ∧ ¬ forb A (bl.take n) (heap.take n) b := fun b _ hn => ⟨rfl, rfl, fun hf => hn (hforb b hf)⟩
  refine { size := h.size, env := fun t => ?_, len := (by rw [List.length_take, List.length_take, h.len]), objs := ?_, inj := ?_, base := ?_, obinj := h.obinj, obok := fun l b hb => ⟨(h.obok l b hb).1, (h.obok l b hb).2.1, fun j hj => (h.obok l b hb).2.2 j (hget hj).2⟩, since := ?_, f0 := h.f0, hB := h.hB, hG := h.hG, pend := fun p hp => (by simp at hp), fro := fun j hj => (by
    rcases Nat.lt_or_ge j n with hl | hl
    · rw [heap_get_take _ _ _ hl] at hj; exact h.fro j hj
    · omega) }
  · rcases keepEnv_get ks n env t with e | e
    · rw [e]; exact ⟨.undef, .bare (bare_of rfl)⟩
    · rw [e]
      refine ⟨scrub_rep ((h.env t).1.mono g (BlLe.refl _)), ?_⟩
      unfold scrub
      cases (env.get t).under n
      · exact .bare (bare_of rfl)
      · exact ownAt_keeps (h.env t).2 g (fun p b _ => kp b)
  · intro j b hj
    obtain ⟨j1, j2⟩ := hget hj
    rw [heap_get_take _ _ _ j1]
    exact objTake (obj_keeps (h.objs j b j2) g (BlLe.refl _) rfl (fun _ => rfl) (fun _ _ _ _ _ _ => rfl) (fun c _ => kp c)) (underH_get n heap hu j j1)
  · intro i j b hi hj; exact h.inj i j b (hget hi).2 (hget hj).2
  · intro j b hj; exact h.base j b (hget hj).2
  · refine { below := h.since.below, g0 := h.since.g0.trans g h.since.below.size, ble := fun j b hj => ?_, pnd := ?_, gown := h.since.gown, blen := ?_, ub := h.since.ub }
    · have hl := (List.getElem?_eq_some_iff.1 hj).1
      rw [List.getElem?_take_of_lt (by omega)]; exact h.since.ble j b hj
    · intro j hj
      have hl := (List.getElem?_eq_some_iff.1 hj).1
      obtain ⟨p1, p2⟩ := h.since.pnd j hj
      exact ⟨by rw [List.getElem?_take_of_lt (by omega)]; exact p1, by rw [heap_get_take _ _ _ (by omega)]; exact p2⟩
    · rw [List.length_take]; have := h.since.blen; omega
theorem cleanK_sound {X : Rec Prop} (hX : ¬ X.fail) {ks : Option (List Nat)} {n : Nat} {st : St} {k : St → Prop} {a : Act} (hg : Good P A nt [] st a w) (hA : A.bl0.length ≤ n) (hk : cleanK X ks n st k) :
    ∃ st', Good P A nt [] st' a w ∧ k st' := by
  obtain ⟨env, heap, defers, bor⟩ := st
  obtain ⟨ha, rfl, U, bl, ob, h⟩ := hg
  simp only [cleanK, Env.forceV_eq, Heap.force_eq, takeH_eq] at hk
  rcases cond_elim hk with ⟨hu, hk⟩ | ⟨_, hk⟩
  · exact ⟨_, ⟨ha, rfl, U, _, ob, h.clean ks hA hu⟩, hk⟩
  · exact absurd hk hX
theorem good_len {A : Amb} {env : Env} {heap : Heap} {defers} {bor} {a : Act} {w : World} {pend} (hg : Good P A nt pend ⟨env, heap, defers, bor⟩ a w) : A.bl0.length ≤ heap.length := by
  obtain ⟨ha, rfl, U, bl, ob, h⟩ := hg
  rw [← h.len]; exact h.since.blen
theorem branch_eq {X : Rec Prop} (hX : X.br = BrP) (env : Env) (t : Option Nat) (b : Bool) (y n : Env → Prop) : branch X env t b y n = bif b then y (setO env t (.bool true)) else n (setO env t (.bool false)) := by
  unfold branch; rw [putK_eq, putK_eq, hX]
  cases b
  · exact propext ⟨fun h => h.no rfl, fun h => ⟨fun e => absurd e (by simp), fun _ => h⟩⟩
  · exact propext ⟨fun h => h.yes rfl, fun h => ⟨fun _ => h, fun e => absurd e (by simp)⟩⟩
theorem Rel.envEq (h : Rel P A nt pend env heap bor tm w U bl ob) {env' : Env} (e : ∀ t, env'.get t = env.get t) : Rel P A nt pend env' heap bor tm w U bl ob :=
  { h with env := fun t => by rw [e t]; exact h.env t }
theorem Rel.settle (h : Rel P A nt pend env heap bor tm w U bl ob) {t : Option Nat} {v : AV} (e : ∀ s, t = some s → env.get s = v) : Rel P A nt pend (setO env t v) heap bor tm w U bl ob := by
  refine h.envEq fun s => ?_
  cases t with
  | none => rfl
  | some d =>
    show (env.set d v).get s = env.get s
    rw [get_set]
    split
    · rename_i hd; subst hd; exact (e d rfl).symm
    · rfl
theorem rep_bool' {F : Nat → Prop} {b : Bool} {x : Value} (h : Rep w F U bl (.bool b) x) : x = .bool b := by cases h; rfl
theorem rep_tup0 {F : Nat → Prop} {x : Value} (h : Rep w F U bl (.tup []) x) : x = .tuple #[] := by
  cases h with
  | tup hn hh => congr 1; exact Array.eq_empty_of_size_eq_zero hn.symm
theorem guard_bool (h : Rel P A nt pend env heap bor tm w U bl ob) {ops : Array Oper} {j : Nat} {b : Bool} (hb : envGuard ops.toList env j = .bool b) :
    yielded ops tm j = some b ∧ ∀ s, guardSlot ops.toList j = some s → env.get s = .bool b := by
  unfold envGuard at hb
  unfold yielded guardSlot
  simp only [Array.getElem?_toList] at hb ⊢
  cases ho : ops[j]? with
  | none => rw [ho] at hb; simp at hb
  | some o =>
    rw [ho] at hb
    simp only at hb
    cases hd : o.dst with
    | none => rw [hd] at hb; simp at hb
    | some d =>
      rw [hd] at hb
      simp only at hb
      have hr := (h.env d).1
      rw [hb] at hr
      have := rep_bool' hr
      refine ⟨?_, fun s hs => ?_⟩
      · simp only [Option.bind_some, hd]
        rw [Array.getD_eq_getD_getElem?] at this
        cases hx : tm[d]? with
        | none => rw [hx] at this; simp [undef] at this
        | some y => rw [hx] at this; simp at this; rw [this]
      · simp [hd] at hs; subst hs; exact hb
theorem guard_nought (h : Rel P A nt pend env heap bor tm w U bl ob) {ops : Array Oper} {j : Nat} (hb : envGuard ops.toList env j = .tup []) : yielded ops tm j = none := by
  unfold envGuard at hb
  unfold yielded
  simp only [Array.getElem?_toList] at hb ⊢
  cases ho : ops[j]? with
  | none => rfl
  | some o =>
    rw [ho] at hb
    simp only at hb
    cases hd : o.dst with
    | none => simp [hd]
    | some d =>
      rw [hd] at hb
      simp only at hb
      have hr := (h.env d).1
      rw [hb] at hr
      have := rep_tup0 hr
      simp only [Option.bind_some, hd]
      rw [Array.getD_eq_getD_getElem?] at this
      cases hx : tm[d]? with
      | none => rfl
      | some y => rw [hx] at this; simp at this; rw [this]
section
variable {X : Rec Prop} {cx : Ctx} {I : FuncId → List AV → Heap → (AV → Heap → Prop) → Prop}
theorem denOps_sound (hL : Leans P cx X I) (hP : cx.P = P) {drawn : Bool} {fid rid : Nat} {ops : Array Oper} {Q : Exit → Act → World → Prop} {k : St → Prop}
    (hQ : ∀ st a w, Good P A nt [] st a w → k st → Q .normal a w) : ∀ (rest : List Oper) (ix base : Nat) (st : St) (a : Act) (w : World),
    Good P A nt (waits base (hoistAll P rest)) st a w → A.bl0.length ≤ base → dstOk nt rest = true → denOps X cx I drawn fid rid ops.toList ix base rest st k → wpList P ops Q rest a w
  | [], ix, base, ⟨env, heap, defers, bor⟩, a, w, hg, hA, hd, hk => hQ _ a w (by simpa [hoistAll, waits] using hg) (by simpa only [denOps] using hk)
  | o :: rest, ix, base, ⟨env, heap, defers, bor⟩, a, w, hg, hA, hd, hk => by
    simp only [dstOk, Bool.and_eq_true] at hd
    have hd1 : ∀ t, o.dst = some t → t < nt := by
      intro t ht
      have := hd.1
      rw [ht] at this
      simpa [blt_eq] using this
    have ih := fun st a w => denOps_sound (drawn := drawn) (fid := fid) (rid := rid) (ops := ops) hL hP hQ rest (ix + 1) (base + (hoisted P o).length) st a w
    have hrel := hg
    obtain ⟨ha, rfl, U, bl, ob, h⟩ := hrel
    have hAh : A.bl0.length ≤ heap.length := by rw [← h.len]; exact h.since.blen
    have go : ∀ env', (∀ t, env'.get t = env.get t) → (denOp X cx I drawn fid rid ix base o rest ⟨env', heap, [], bor⟩ fun st => denOps X cx I drawn fid rid ops.toList (ix + 1) (base + (hoisted cx.P o).length) rest st k) →
        o.wp P a w (wpList P ops Q rest) Q := by
      intro env' he hk'
      refine Oper.wp_mono (fun a' w' => ?_) (denOp_sound (pend' := waits (base + (hoisted P o).length) (hoistAll P rest)) hL hP ⟨ha, rfl, U, bl, ob, h.envEq he⟩
        (fun p hp => by simp only [hoistAll, waits_append]; exact List.mem_append_left _ hp)
        (fun p hp => ⟨by simp only [hoistAll, waits_append]; exact List.mem_append_right _ hp, fun hl => by have := (waits_mem _ _ p hp).1; omega⟩) hA hAh hd1 hk')
      rintro ⟨st', hg', hk''⟩
      rw [hP] at hk''
      exact ih st' a' w' hg' (by omega) hd.2 hk''
    have pass : ∀ env', (∀ t, env'.get t = env.get t) → (putK env' o.dst (.tup []) fun env => denOps X cx I drawn fid rid ops.toList (ix + 1) (base + (hoisted cx.P o).length) rest ⟨env, heap, [], bor⟩ k) →
        wpList P ops Q rest (a.put o.dst undef) w := by
      intro env' he hk'
      rw [putK_eq, hP] at hk'
      obtain ⟨ob', h'⟩ := undef_rep (h.envEq he) hd1
      rw [put_eq]
      refine ih _ _ w ⟨ha, rfl, U, bl, ob', h'.unpend (fun p hp => ?_)⟩ (by omega) hd.2 hk'
      simp only [hoistAll, waits_append]
      exact List.mem_append_right _ hp
    unfold wpList
    unfold denOps at hk
    cases hgd : o.guard with
    | none =>
      rw [hgd] at hk
      rw [if_pos (by simp [Region.wanted, hgd])]
      exact .inl (go env (fun _ => rfl) hk)
    | some jw =>
      obtain ⟨j, want⟩ := jw
      rw [hgd] at hk
      dsimp only at hk
      split at hk
      · rename_i b hb
        obtain ⟨hy, hs⟩ := guard_bool h hb
        have he : ∀ t, (setO env (guardSlot ops.toList j) (.bool b)).get t = env.get t := by
          intro t
          cases hgs : guardSlot ops.toList j with
          | none => rfl
          | some d =>
            show (env.set d (.bool b)).get t = env.get t
            rw [get_set]
            split
            · rename_i hdt; subst hdt; exact (hs d hgs).symm
            · rfl
        cases want <;> cases b <;> simp only [branch_eq hL.br, cond_true, cond_false] at hk
        · rw [if_pos (by simp [Region.wanted, hgd, hy])]; exact .inl (go _ he hk)
        · rw [if_neg (by simp [Region.wanted, hgd, hy])]; exact pass _ he hk
        · rw [if_neg (by simp [Region.wanted, hgd, hy])]; exact pass _ he hk
        · rw [if_pos (by simp [Region.wanted, hgd, hy])]; exact .inl (go _ he hk)
      · rename_i hb
        rw [if_neg (by simp [Region.wanted, hgd, guard_nought h hb])]
        exact pass env (fun _ => rfl) hk
      · exact absurd hk hL.fail
end
end
end Ax

namespace Ax
open Go Go.RowKit
def tmpsOf : List Operand → List Nat
  | [] => []
  | .tmp s :: r => s :: tmpsOf r
  | _ :: r => tmpsOf r
theorem tmpsOf_mem : ∀ {l : List Operand} {s : Nat}, Operand.tmp s ∈ l → s ∈ tmpsOf l
  | [], s, h => by simp at h
  | x :: r, s, h => by
    rcases List.mem_cons.1 h with rfl | h
    · simp [tmpsOf]
    · have := tmpsOf_mem h
      cases x <;> simp [tmpsOf, this]
def opSlots (op : Op) : List Nat := tmpsOf op.operands.toList
def rdH (op : Op) : Bool :=
  match op with
  | .load _ _ => true
  | .store _ _ _ => true
  | .box _ _ => true
  | .lookup _ _ _ _ => true
  | .mapUpdate _ _ _ _ => true
  | .insert _ _ _ _ => true
  | .mapEntry _ _ _ => true
  | .entryStore _ _ _ _ => true
  | .range _ _ => true
  | .entry _ => true
  | .next _ _ => true
  | .call c => match c.callee with | .value _ => false | _ => true
  | _ => false
def wrH (op : Op) : Bool :=
  match op with
  | .store _ _ _ => true
  | .box _ _ => true
  | .mapUpdate _ _ _ _ => true
  | .insert _ _ _ _ => true
  | .mapEntry _ _ _ => true
  | .entryStore _ _ _ _ => true
  | .range _ _ => true
  | .next _ _ => true
  | .call c =>
    match c.callee with
    | .builtin .delete => true
    | .builtin .copy => true
    | .builtin .clear => true
    | _ => false
  | _ => false
def isCallV (op : Op) : Bool :=
  match op with
  | .call c => match c.callee with | .value _ => true | _ => false
  | _ => false
def SameOn (l : List Nat) (env env' : Env) : Prop := ∀ s ∈ l, env.get s = env'.get s
theorem evo_same {P : Program} {op : Op} {env env' : Env} (h : SameOn (opSlots op) env env') (t : TypeId) {x : Operand} (hx : x ∈ op.operands.toList) : evo P t env x = evo P t env' x := by
  cases x with
  | tmp s => exact h s (tmpsOf_mem hx)
  | _ => rfl
theorem evoL_same {P : Program} {env env' : Env} : ∀ (ts : List TypeId) (l : List Operand), (∀ t x, x ∈ l → evo P t env x = evo P t env' x) → evoL P env ts l = evoL P env' ts l
  | t :: ts, x :: xs, h => by simp only [evoL]; rw [h t x (by simp), evoL_same ts xs (fun t y hy => h t y (by simp [hy]))]
  | [], x :: xs, h => by simp only [evoL]; rw [h 0 x (by simp), evoL_same [] xs (fun t y hy => h t y (by simp [hy]))]
  | t :: ts, [], h => by simp [evoL]
  | [], [], h => by simp [evoL]
theorem partsOf_same {P : Program} {env env' : Env} (t : TypeId) : ∀ (l : List (Nat × Operand)), (∀ u x, x ∈ l.map (·.2) → evo P u env x = evo P u env' x) → partsOf P t env l = partsOf P t env' l
  | [], h => rfl
  | (i, x) :: r, h => by simp only [partsOf]; rw [partsOf_same t r (fun u y hy => h u y (by simp at hy ⊢; exact .inr hy)), h _ x (by simp)]
theorem elemParts_same {P : Program} {env env' : Env} (t : TypeId) : ∀ (l : List (Nat × Operand)), (∀ u x, x ∈ l.map (·.2) → evo P u env x = evo P u env' x) → elemParts P t env l = elemParts P t env' l
  | [], h => rfl
  | (i, x) :: r, h => by simp only [elemParts]; rw [elemParts_same t r (fun u y hy => h u y (by simp at hy ⊢; exact .inr hy)), h _ x (by simp)]
theorem evalOp_same {P : Program} {o : Oper} {env env' : Env} {heap heap' : Heap} (h : SameOn (opSlots o.op) env env') (hh : rdH o.op = true → heap = heap') : evalOp P o env heap = evalOp P o env' heap' := by
  have key : ∀ t x, x ∈ o.op.operands.toList → evo P t env x = evo P t env' x := fun t x hx => evo_same h t hx
  clear h
  unfold evalOp
  generalize o.op = op at *
  cases op with
  | pick c a b => simp only [key 0 c (by simp [Op.operands]), key _ a (by simp [Op.operands]), key _ b (by simp [Op.operands])]
  | build t ps => simp only [partsOf_same t ps.toList (fun u x hx => key u x (by simpa [Op.operands] using hx))]
  | buildSlice t n ps => simp only [elemParts_same _ ps.toList (fun u x hx => key u x (by simpa [Op.operands] using hx))]
  | binOp op t x y u => simp only [key _ x (by simp [Op.operands]), key _ y (by simp [Op.operands])]
  | unOp op t x => simp only [key _ x (by simp [Op.operands])]
  | convert s d x => simp only [key _ x (by simp [Op.operands])]
  | nilCheck x => simp only [key _ x (by simp [Op.operands])]
  | fieldAddr t x f => simp only [key _ x (by simp [Op.operands])]
  | field t x f => simp only [key _ x (by simp [Op.operands])]
  | indexAddr t x i => simp only [key _ x (by simp [Op.operands]), key _ i (by simp [Op.operands])]
  | index t x i => simp only [key _ x (by simp [Op.operands]), key _ i (by simp [Op.operands])]
  | load t p => rw [hh rfl]; simp only [key _ p (by simp [Op.operands])]
  | extract x i => simp only [key _ x (by simp [Op.operands])]
  | lookup t m k ok => rw [hh rfl]; simp only [key _ m (by simp [Op.operands]), key _ k (by simp [Op.operands])]
  | entry it => rw [hh rfl]; simp only [key _ it (by simp [Op.operands])]
  | makeFunc f xs cs =>
    cases f with
    | func f => simp only [evoL_same [] xs.toList (fun u x hx => key u x (by simp [Op.operands] at hx ⊢; exact .inl hx)), evoL_same [] cs.toList (fun u x hx => key u x (by simp [Op.operands] at hx ⊢; exact .inr hx))]
    | _ => rfl
  | slice t x l h m =>
    have kl : l.map (evo P 3 env) = l.map (evo P 3 env') := by cases l with | none => rfl | some y => simp [key 3 y (by simp [Op.operands])]
    have kh : h.map (evo P 3 env) = h.map (evo P 3 env') := by cases h with | none => rfl | some y => simp [key 3 y (by simp [Op.operands])]
    have km : m.map (evo P 3 env) = m.map (evo P 3 env') := by cases m with | none => rfl | some y => simp [key 3 y (by simp [Op.operands])]
    simp only [key _ x (by simp [Op.operands]), kl, kh, km]
  | call c =>
    obtain ⟨callee, args, argTypes⟩ := c
    cases callee with
    | value f => rfl
    | invoke r m => rfl
    | builtin b =>
      have he : heap = heap' := hh rfl
      subst he
      have ka : ∀ t x, x ∈ args.toList → evo P t env x = evo P t env' x := fun t x hx => key t x (by simpa [Op.operands, Call.operands] using hx)
      cases b with
      | len =>
        simp only
        split
        · rename_i x t h1 h2; simp only [ka _ x (by rw [h1]; simp)]
        · rfl
      | min => simp only [evoL_same [] args.toList ka]
      | max => simp only [evoL_same [] args.toList ka]
      | _ => rfl
  | _ => rfl
theorem extOp_same {P : Program} {o : Oper} {env env' : Env} {heap heap' : Heap} (h : SameOn (opSlots o.op) env env') (hh : rdH o.op = true → heap = heap') : extOp P o env heap = extOp P o env' heap' := by
  have key : ∀ t x, x ∈ o.op.operands.toList → evo P t env x = evo P t env' x := fun t x hx => evo_same h t hx
  clear h
  unfold extOp
  generalize o.op = op at *
  cases op with
  | mapUpdate t m k x => rw [hh rfl]; simp only [key _ m (by simp [Op.operands]), key _ k (by simp [Op.operands]), key _ x (by simp [Op.operands])]
  | insert t m k x => rw [hh rfl]; simp only [key _ m (by simp [Op.operands]), key _ k (by simp [Op.operands]), key _ x (by simp [Op.operands])]
  | mapEntry t m k => rw [hh rfl]; simp only [key _ m (by simp [Op.operands]), key _ k (by simp [Op.operands])]
  | entryStore t m s x => rw [hh rfl]; simp only [key _ m (by simp [Op.operands]), key _ s (by simp [Op.operands]), key _ x (by simp [Op.operands])]
  | makeSlice t l c => simp only [key _ l (by simp [Op.operands]), key _ c (by simp [Op.operands])]
  | call c =>
    obtain ⟨callee, args, argTypes⟩ := c
    cases callee with
    | value f => rfl
    | invoke r m => rfl
    | builtin b =>
      have he : heap = heap' := hh rfl
      subst he
      have ka : ∀ t x, x ∈ args.toList → evo P t env x = evo P t env' x := fun t x hx => key t x (by simpa [Op.operands, Call.operands] using hx)
      cases b with
      | delete =>
        simp only
        split
        · rename_i m k t r h1 h2; simp only [ka _ m (by rw [h1]; simp), ka _ k (by rw [h1]; simp)]
        · rfl
      | copy =>
        simp only
        split
        · rename_i d x t u h1 h2; simp only [ka _ d (by rw [h1]; simp), ka _ x (by rw [h1]; simp)]
        · rfl
      | clear =>
        simp only
        split
        · rename_i d t h1 h2; simp only [ka _ d (by rw [h1]; simp)]
        · rfl
      | _ => rfl
  | _ => rfl
end Ax

namespace Ax
open Go Go.RowKit
inductive Eff where
  | fail
  | put (b : Option Nat) (ws : List (Nat × AV)) (h : Option Heap)
  | call (g : FuncId) (args : List AV)
  | inl (g : FuncId) (args : List AV)
  | dc (g : FuncId) (args : List AV)
  | nilT (n : Nat) (b : Bool)
  | nxt (id : Nat) (q : Option Nat) (left : List (AV × AV))
  | app (id : Nat) (v : AV) (h : Heap)
  | mkO (sz n : Nat) (g : Nat → AV)
def setL : List (Nat × AV) → Env → Env
  | [], e => e
  | (d, v) :: r, e => setL r (e.set d v)
def optW (d : Option Nat) (v : AV) : List (Nat × AV) := match d with | some d => [(d, v)] | none => []
theorem setL_optW (d : Option Nat) (v : AV) (e : Env) : setL (optW d v) e = setO e d v := by cases d <;> rfl
def tmpO : Operand → Option Nat
  | .tmp s => some s
  | _ => none
def extEff (cx : Ctx) (o : Oper) (env : Env) (heap : Heap) : Eff :=
  match extOp cx.P o env heap with
  | some (s, v, h) => .put s (optW o.dst v) h
  | none => .fail
def effOp (cx : Ctx) (drawn : Bool) (fid rid ix base : Nat) (o : Oper) (rest : List Oper) (env : Env) (heap : Heap) : Eff :=
  match o.op with
  | .move x =>
    match x with
    | .tmp s =>
      bif isBaseO o.dst rest || (!drawn && cx.xf fid rid ix) then .put (some s) (optW o.dst (env.get s)) none
      else .put none (optW o.dst (env.get s).strip) none
    | _ => .put none (optW o.dst (evo cx.P o.type env x)) none
  | .assign x =>
    match x with
    | .tmp s => .put (some s) (optW o.dst (env.get s)) none
    | _ => .put none (optW o.dst (evo cx.P o.type env x)) none
  | .alloc t => bif !(hasZero cx.P t && (zeroAV cx.P t).cells.all AV.scal) then .fail else .put none (optW o.dst (.ptr base 0)) none
  | .makeMap _ none => .put none (optW o.dst (.mapr base)) none
  | .box t x =>
    bif sameShape cx.P t (evo cx.P t env x).keepA then .put none (optW o.dst (.ptr heap.length 0)) (some (heap ++ [.cells (evo cx.P t env x).keepA.cells]))
    else .fail
  | .store t p v =>
    match storeAV cx.P heap t (evo cx.P 0 env p) (evo cx.P t env v) with
    | some h => bif !(Nat.blt 0 (tySz cx.P t)) then .fail else .put (tmpO v) (optW o.dst (.tup [])) (some h)
    | none => .fail
  | .call c =>
    match c.callee with
    | .builtin .append =>
      match c.args.toList, c.argTypes.toList with
      | [.tmp s, x], [t, u] =>
        match appendO cx.P t u heap (env.get s) (evo cx.P u env x) with
        | some (id, v, h) => bif drawn then .fail else .app id v h
        | none =>
        bif !drawn && cx.xf fid rid ix then
          match appendAV cx.P t u heap (freshen (env.get s)) (evo cx.P u env x) with
          | some v => .put none ((s, .undef) :: optW o.dst v) none
          | none => .fail
        else
        match appendAV cx.P t u heap (env.get s) (evo cx.P u env x) with
        | some v => .put (some s) (optW o.dst v) none
        | none => .fail
      | [.const v, x], [t, u] =>
        match appendAV cx.P t u heap (ofConst cx.P t v) (evo cx.P u env x) with
        | some v => .put none (optW o.dst v) none
        | none => .fail
      | _, _ => .fail
    | .builtin _ =>
      match evalOp cx.P o env heap with
      | some v => .put none (optW o.dst v) none
      | none => extEff cx o env heap
    | .value f =>
      match evo cx.P 0 env f with
      | .fn g first caps =>
        bif AV.isDataL (first ++ evoL cx.P env c.argTypes.toList c.args.toList ++ caps) && !cx.inl g then .call g (first ++ evoL cx.P env c.argTypes.toList c.args.toList ++ caps)
        else bif drawn then .fail
        else bif cx.ln g || Nat.blt 0 (cx.srt g) then .dc g (first ++ evoL cx.P env c.argTypes.toList c.args.toList ++ caps)
        else .inl g (first ++ evoL cx.P env c.argTypes.toList c.args.toList ++ caps)
      | _ => .fail
    | _ => .fail
  | .load t p =>
    bif isBaseO o.dst rest || (!drawn && cx.xf fid rid ix) then
      match takeAV cx heap t (evo cx.P 0 env p) with
      | some (v, h) => .put none (optW o.dst v) (some h)
      | none => .fail
    else
    match evalOp cx.P o env heap with
    | some v => .put none (optW o.dst v) none
    | none => .fail
  | .lookup t m q ok =>
    bif !ok && (isBaseO o.dst rest || (!drawn && cx.xf fid rid ix)) then
      match tyD cx.P t with
      | .map kt _ =>
        match lookTakeAV cx.P t heap (evo cx.P t env m).strip (evo cx.P kt env q).strip with
        | some (v, h) => .put none (optW o.dst v) (some h)
        | none => .fail
      | _ => .fail
    else
    match evalOp cx.P o env heap with
    | some v => .put none (optW o.dst v) none
    | none => .fail
  | .makeSlice t l c =>
    bif !drawn && cx.xf fid rid ix then
      match makeArrAV cx.P t (evo cx.P 3 env l) (evo cx.P 3 env c) with
      | some (sz, n, z) => .mkO sz n fun _ => z
      | none => .fail
    else extEff cx o env heap
  | .buildSlice t len parts =>
    bif !drawn && cx.xf fid rid ix then
      match buildO cx.P t len (elemParts cx.P (elemOfT cx.P t) env parts.toList) with
      | some (sz, n, g) => .mkO sz n g
      | none => .fail
    else
      match evalOp cx.P o env heap with
      | some v => .put none (optW o.dst v) none
      | none => extEff cx o env heap
  | .binOp op t x y yt =>
    match nilTest cx.P op t (evo cx.P t env x).strip y with
    | some (n, b) => bif drawn then .fail else .nilT n b
    | none =>
      match evalOp cx.P o env heap with
      | some v => .put none (optW o.dst v) none
      | none => extEff cx o env heap
  | .extract x i =>
    match x with
    | .tmp s =>
      match env.get s with
      | .tup vs =>
        match vs[i]? with
        | some v => .put none ((s, .tup (vs.set i v.strip)) :: optW o.dst v) none
        | none => .fail
      | _ => .fail
    | _ => .fail
  | .range t x =>
    bif drawn then .fail else
    match rangeAV cx.P t heap (evo cx.P t env x).strip with
    | some q => .put none (optW o.dst (.iter heap.length)) (some (heap ++ [q]))
    | none => .fail
  | .next it s =>
    bif drawn || s then .fail else
    match evo cx.P 0 env it with
    | .iter id =>
      match heap.get id with
      | .iter q left _ => .nxt id q left
      | _ => .fail
    | _ => .fail
  | _ =>
    match evalOp cx.P o env heap with
    | some v => .put none (optW o.dst v) none
    | none => extEff cx o env heap
def effSem {R : Type} (X : Rec R) (I : FuncId → List AV → Heap → (AV → Heap → R) → R) (J : Option Nat → FuncId → List AV → St → (St → R) → R) (dst : Option Nat) (e : Eff) (st : St) (k : St → R) : R :=
  match e with
  | .fail => X.fail
  | .put b ws h => k ⟨setL ws (bareO b st.env), h.getD st.heap, st.defers, st.bor⟩
  | .call g args => X.call g args fun r => k ⟨setO st.env dst r, st.heap, st.defers, st.bor⟩
  | .inl g args =>
    match st.bor with
    | some _ => X.fail
    | none => bif !noO st.heap then X.fail else I g args st.heap fun r h => k ⟨setO st.env dst r, h, st.defers, none⟩
  | .dc g args => J dst g args st k
  | .app id v h => k ⟨setO (Env.scrub id st.env) dst v, h, st.defers, st.bor⟩
  | .mkO sz n g => k ⟨setO st.env dst (.brow st.heap.length sz n), st.heap ++ [.oarr sz n g], st.defers, st.bor⟩
  | .nilT n b => X.br (Nat.beq n 0) (X.all 2 fun i => k ⟨setO st.env dst (.bool (Nat.beq i 0)), st.heap, st.defers, st.bor⟩) (k ⟨setO st.env dst (.bool b), st.heap, st.defers, st.bor⟩)
  | .nxt id q left => X.br (Nat.beq left.length 0) (k ⟨setO st.env dst (.tup [.bool false]), st.heap.set id .dead, st.defers, st.bor⟩)
      (X.all (left.length - 1 + 1) fun j => k ⟨setO st.env dst (leftAt left j), st.heap.set id (.iter q (left.eraseIdx j) (curAt left j)), st.defers, st.bor⟩)
theorem putK_setO {R : Type} (env : Env) (d : Option Nat) (v : AV) (k : Env → R) : putK env d v k = k (setO env d v) := by rw [putK_eq]; rfl
theorem denOp_eff {R : Type} (X : Rec R) (cx : Ctx) (I : FuncId → List AV → Heap → (AV → Heap → R) → R) (drawn : Bool) (fid rid ix base : Nat) (o : Oper) (rest : List Oper) (env : Env) (heap : Heap) (defers : List (AV × List AV)) (bor : Option (Nat × AV)) (k : St → R) :
    denOp X cx I drawn fid rid ix base o rest ⟨env, heap, defers, bor⟩ k = effSem X I (denDC X cx) o.dst (effOp cx drawn fid rid ix base o rest env heap) ⟨env, heap, defers, bor⟩ k := by
  have ext : extK X cx o k env heap defers bor = effSem X I (denDC X cx) o.dst (extEff cx o env heap) ⟨env, heap, defers, bor⟩ k := by
    unfold extK extEff
    cases extOp cx.P o env heap with
    | none => rfl
    | some p =>
      obtain ⟨s, v, h⟩ := p
      cases h <;> simp only [effSem, setL_optW, putK_setO, Option.getD, Heap.force_eq]
  have dflt : (match evalOp cx.P o env heap with
      | some v => putK env o.dst v fun env => k ⟨env, heap, defers, bor⟩
      | none => extK X cx o k env heap defers bor) = effSem X I (denDC X cx) o.dst (match evalOp cx.P o env heap with
      | some v => .put none (optW o.dst v) none
      | none => extEff cx o env heap) ⟨env, heap, defers, bor⟩ k := by
    split
    · simp only [effSem, setL_optW, putK_setO, bareO, Option.getD]
    · exact ext
  unfold denOp effOp
  dsimp only
  generalize hop : o.op = op
  cases op with
  | move x =>
    cases x with
    | tmp s =>
      dsimp only
      cases isBaseO o.dst rest || (!drawn && cx.xf fid rid ix) <;> simp only [cond_true, cond_false, effSem, setL_optW, putK_setO, bareO, Option.getD]
    | _ => simp only [effSem, setL_optW, putK_setO, bareO, Option.getD]
  | assign x =>
    cases x <;> simp only [effSem, setL_optW, putK_setO, bareO, Option.getD]
  | alloc t =>
    dsimp only
    cases (!(hasZero cx.P t && (zeroAV cx.P t).cells.all AV.scal)) <;> simp only [cond_true, cond_false, effSem, setL_optW, putK_setO, bareO, Option.getD, forceNat_eq]
  | makeMap t r =>
    cases r with
    | none => simp only [effSem, setL_optW, putK_setO, bareO, Option.getD, forceNat_eq]
    | some r => exact dflt
  | box t x =>
    dsimp only
    cases sameShape cx.P t (evo cx.P t env x).keepA <;> simp only [cond_true, cond_false, effSem, setL_optW, putK_setO, bareO, Option.getD, forceNat_eq, Heap.force_eq]
  | store t p v =>
    dsimp only
    cases storeAV cx.P heap t (evo cx.P 0 env p) (evo cx.P t env v) with
    | none => rfl
    | some h =>
      dsimp only
      cases (!Nat.blt 0 (tySz cx.P t)) <;> simp only [cond_true, cond_false, effSem]
      rw [Heap.force_eq]
      cases v <;> simp only [setL_optW, putK_setO, bareO, Option.getD, tmpO]
  | call c =>
    obtain ⟨callee, args, argTypes⟩ := c
    dsimp only
    cases callee with
    | value f =>
      dsimp only
      cases evo cx.P 0 env f with
      | fn g first caps =>
        simp only [denCall, AV.forceL_eq]
        cases AV.isDataL (first ++ evoL cx.P env argTypes.toList args.toList ++ caps) && !cx.inl g
        · cases drawn
          · cases cx.ln g || Nat.blt 0 (cx.srt g)
            · cases bor with
              | none =>
                cases hno : noO heap <;> simp only [cond_true, cond_false, effSem, putK_setO, Heap.force_eq, hno, Bool.not_true, Bool.not_false]
              | some b => simp only [cond_true, cond_false, effSem, putK_setO, Heap.force_eq]
            · simp only [cond_true, cond_false, effSem]
          · simp only [cond_true, cond_false, effSem]
        · simp only [cond_true, cond_false, effSem, putK_setO]
      | _ => rfl
    | invoke r m => rfl
    | builtin b =>
      cases b with
      | append =>
        dsimp only
        generalize args.toList = l
        generalize argTypes.toList = m
        rcases l with _ | ⟨y, _ | ⟨x, _ | ⟨z, l⟩⟩⟩
        · rfl
        · cases y <;> rfl
        · rcases m with _ | ⟨t, _ | ⟨u, _ | ⟨z, m⟩⟩⟩
          · cases y <;> rfl
          · cases y <;> rfl
          · cases y with
            | tmp s =>
              dsimp only
              cases appendO cx.P t u heap (env.get s) (evo cx.P u env x) with
              | some q =>
                obtain ⟨id, v, h⟩ := q
                cases drawn
                · simp only [cond_false, effSem, putK_setO, Heap.force_eq, forceV_eq]
                · rfl
              | none =>
              dsimp only
              cases !drawn && cx.xf fid rid ix
              case true =>
                simp only [cond_true]
                cases appendAV cx.P t u heap (freshen (env.get s)) (evo cx.P u env x) <;> simp only [effSem, setL_optW, putK_setO, bareO, Option.getD, setL]
              simp only [cond_false]
              cases appendAV cx.P t u heap (env.get s) (evo cx.P u env x) <;> simp only [effSem, setL_optW, putK_setO, bareO, Option.getD]
            | const v =>
              dsimp only
              cases appendAV cx.P t u heap (ofConst cx.P t v) (evo cx.P u env x) <;> simp only [effSem, setL_optW, putK_setO, bareO, Option.getD]
            | _ => rfl
          · cases y <;> rfl
        · cases y <;> rfl
      | _ => exact dflt
  | load t p =>
    dsimp only
    cases isBaseO o.dst rest || (!drawn && cx.xf fid rid ix) with
    | true =>
      simp only [cond_true]
      cases takeAV cx heap t (evo cx.P 0 env p) with
      | none => rfl
      | some q => obtain ⟨v, h⟩ := q; simp only [effSem, setL_optW, putK_setO, bareO, Option.getD, Heap.force_eq]
    | false =>
      simp only [cond_false]
      cases evalOp cx.P o env heap <;> simp only [effSem, setL_optW, putK_setO, bareO, Option.getD]
  | lookup t m q ok =>
    dsimp only
    cases !ok && (isBaseO o.dst rest || (!drawn && cx.xf fid rid ix)) with
    | true =>
      simp only [cond_true]
      cases tyD cx.P t with
      | map kt e =>
        dsimp only
        cases lookTakeAV cx.P t heap (evo cx.P t env m).strip (evo cx.P kt env q).strip with
        | none => rfl
        | some r => obtain ⟨v, h⟩ := r; simp only [effSem, setL_optW, putK_setO, bareO, Option.getD, Heap.force_eq]
      | _ => rfl
    | false =>
      simp only [cond_false]
      cases evalOp cx.P o env heap <;> simp only [effSem, setL_optW, putK_setO, bareO, Option.getD]
  | makeSlice t l c =>
    dsimp only
    cases !drawn && cx.xf fid rid ix with
    | true =>
      simp only [cond_true]
      cases makeArrAV cx.P t (evo cx.P 3 env l) (evo cx.P 3 env c) with
      | none => rfl
      | some r => obtain ⟨sz, n, z⟩ := r; simp only [effSem, putK_setO, Heap.force_eq, forceNat_eq]
    | false => simp only [cond_false]; exact ext
  | buildSlice t len parts =>
    dsimp only
    cases !drawn && cx.xf fid rid ix with
    | true =>
      simp only [cond_true]
      cases buildO cx.P t len (elemParts cx.P (elemOfT cx.P t) env parts.toList) with
      | none => rfl
      | some r => obtain ⟨sz, n, z⟩ := r; simp only [effSem, putK_setO, Heap.force_eq, forceNat_eq]
    | false => simp only [cond_false]; exact dflt
  | binOp op t x y yt =>
    dsimp only
    cases nilTest cx.P op t (evo cx.P t env x).strip y with
    | none => exact dflt
    | some p =>
      obtain ⟨n, b⟩ := p
      cases drawn
      · simp only [cond_false, effSem, putK_setO]
      · rfl
  | extract x i =>
    cases x with
    | tmp s =>
      dsimp only
      cases env.get s with
      | tup vs =>
        dsimp only
        cases vs[i]? <;> simp only [effSem, setL_optW, putK_setO, bareO, Option.getD, setL]
      | _ => rfl
    | _ => rfl
  | range t x =>
    dsimp only
    cases drawn
    · simp only [cond_false]
      cases rangeAV cx.P t heap (evo cx.P t env x).strip <;> simp only [effSem, setL_optW, putK_setO, bareO, Option.getD, forceNat_eq, Heap.force_eq]
    · rfl
  | next it s =>
    dsimp only
    cases drawn || s
    · simp only [cond_false]
      cases evo cx.P 0 env it with
      | iter id =>
        dsimp only
        cases heap.get id <;> simp only [effSem, putK_setO, Heap.force_eq]
      | _ => rfl
    · rfl
  | _ => exact dflt
end Ax
