import Derived.Test.YtiadhiggmjiibaaMF
import Derived.Tactics
import Derived.Scope
/- Slots and objects forgotten; regions; code. -/
set_option linter.unusedVariables false
set_option linter.unusedSimpArgs false
namespace Ax
open Go Go.RowKit

/-! ### what a loop forgets -/
theorem underL_get {n : Nat} : ∀ {l : List AV}, AV.underL n l = true → ∀ (i : Nat) x, l[i]? = some x → x.under n = true
  | [], h, i, x, hx => by simp at hx
  | v :: r, h, i, x, hx => by
    simp only [AV.underL, Bool.and_eq_true] at h
    cases i with
    | zero => simp at hx; exact hx ▸ h.1
    | succ i => exact underL_get h.2 i x (by simpa using hx)
theorem cells_under {n : Nat} {v : AV} (h : v.under n = true) : ∀ (j : Nat) c, v.cells[j]? = some c → c.under n = true := by
  intro j c hc
  unfold AV.cells at hc
  split at hc
  · exact underL_get (by simpa [AV.under] using h) j c hc
  · cases j with
    | zero => simp at hc; exact hc ▸ h
    | succ j => simp at hc

theorem Rep.take {w : World} {F : Nat → Prop} {U : Nat → Nat} {bl : Blocks} {n : Nat} {v : AV} {x : Value} (h : Rep w F U bl v x) : v.under n = true → Rep w F U (bl.take n) v x := by
  have hb : ∀ {bl : Blocks} {id b : Nat}, bl[id]? = some (some b) → Nat.blt id n = true → (bl.take n)[id]? = some (some b) := by
    intro bl id b h hlt
    rw [blt_eq] at hlt
    rw [List.getElem?_take_of_lt (by simpa using hlt)]; exact h
  induction h with
  | undef => exact fun _ => .undef
  | bool => exact fun _ => .bool
  | int => exact fun _ => .int
  | str => exact fun _ => .str
  | agg hn h ih => exact fun hd => .agg hn fun i x y hx hy => ih i x y hx hy (underL_get (by simpa [AV.under] using hd) i x hx)
  | tup hn h ih => exact fun hd => .tup hn fun i x y hx hy => ih i x y hx hy (underL_get (by simpa [AV.under] using hd) i x hx)
  | vec hcap vals hz hs h1 h ih => exact fun _ => .vec hcap vals hz hs h1 h
  | own h ih => exact fun hd => .own (ih (by simpa [AV.under] using hd))
  | uni => exact fun _ => .uni
  | wide hcap hn h ih => exact fun _ => .wide hcap hn (ih rfl)
  | cptr vals hp hc h ih => exact fun hd => .cptr vals hp hc fun j c hj => ih j c hj (cells_under (by simpa [AV.under] using hd) j c hj)
  | ptr h => exact fun hd => .ptr (hb h (by simpa [AV.under] using hd))
  | eptr h => exact fun hd => .eptr (hb h (by simpa [AV.under] using hd))
  | nilptr => exact fun _ => .nilptr
  | row hcap hz => exact fun hd => .row hcap fun hn => let ⟨b, h1, h2⟩ := hz hn; ⟨b, hb h1 (by simpa [AV.under] using hd), h2⟩
  | rvec hcap vals hz hs h ih => exact fun hd => .rvec hcap vals hz hs fun i c hc => ih i c hc (underL_get (by simpa [AV.under] using hd) i c hc)
  | mapr h => exact fun hd => .mapr (hb h (by simpa [AV.under] using hd))
  | nilmap => exact fun _ => .nilmap
  | fn hn hm h h' ih ih' =>
    intro hd
    simp only [AV.under, Bool.and_eq_true] at hd
    exact .fn hn hm (fun i x y hx hy => ih i x y hx hy (underL_get hd.1 i x hx)) (fun i x y hx hy => ih' i x y hx hy (underL_get hd.2 i x hx))
  | nilfn => exact fun _ => .nilfn
  | iter h => exact fun hd => .iter (hb h (by simpa [AV.under] using hd))
  | iface h ih => exact fun hd => .iface (ih (by simpa [AV.under] using hd))
  | nilIface => exact fun _ => .nilIface

theorem scrub_rep {w : World} {F : Nat → Prop} {U : Nat → Nat} {bl : Blocks} {n : Nat} {v : AV} {x : Value} (h : Rep w F U bl v x) : Rep w F U (bl.take n) (scrub n v) x := by
  unfold scrub
  cases hu : v.under n
  · exact .undef
  · exact h.take hu

theorem keepEnv_get (ks : Option (List Nat)) (n : Nat) (env : Env) (t : Nat) :
    (keepEnv ks n env).get t = .undef ∨ (keepEnv ks n env).get t = scrub n (env.get t) := by
  induction env with
  | nil => left; rfl
  | cons p r ih =>
    obtain ⟨s, v⟩ := p
    cases ks with
    | none =>
      simp only [keepEnv, Env.get]
      cases Nat.beq s t
      · exact ih
      · exact .inr rfl
    | some l =>
      simp only [keepEnv]
      cases hm : memN s l
      · simp only [cond_false, Env.get]
        by_cases e : s = t
        · subst e
          left
          clear ih
          induction r with
          | nil => rfl
          | cons q r ih =>
            obtain ⟨s', v'⟩ := q
            simp only [keepEnv]
            cases hm' : memN s' l
            · exact ih
            · simp only [cond_true, Env.get]
              have : Nat.beq s' s = false := by
                rw [beq_eq, decide_eq_false_iff_not]; rintro rfl; rw [hm] at hm'; cases hm'
              rw [this]; exact ih
        · have : Nat.beq s t = false := by rw [beq_eq, decide_eq_false_iff_not]; exact e
          rw [this]; exact ih
      · simp only [cond_true, Env.get]
        cases Nat.beq s t
        · exact ih
        · exact .inr rfl

theorem takeH_eq : ∀ (n : Nat) (h : Heap), takeH n h = h.take n
  | 0, _ => by simp [takeH]
  | n + 1, [] => by simp [takeH]
  | n + 1, o :: r => by simp [takeH, takeH_eq n r]
theorem heap_get_take : ∀ (n : Nat) (h : Heap) (id : Nat), id < n → Heap.get (h.take n) id = h.get id
  | 0, _, _, hl => absurd hl (Nat.not_lt_zero _)
  | n + 1, [], id, hl => by simp
  | n + 1, o :: r, 0, hl => rfl
  | n + 1, o :: r, id + 1, hl => heap_get_take n r id (by omega)
theorem underH_get {n : Nat} : ∀ (m : Nat) (h : Heap), underH n m h = true → ∀ id : Nat, id < m → (h.get id).under n = true
  | 0, _, _, id, hl => absurd hl (Nat.not_lt_zero _)
  | m + 1, [], _, id, _ => rfl
  | m + 1, o :: r, hu, id, hl => by
    simp only [underH, Bool.and_eq_true] at hu
    cases id with
    | zero => exact hu.1
    | succ id => exact underH_get m r hu.2 id (by omega)
theorem Env.forceV_eq {R : Type} (l : Env) (k : Env → R) : Env.forceV l k = k l := by
  induction l generalizing k with
  | nil => rfl
  | cons p r ih => simp only [Env.forceV, ih, AV.force_eq]

section
variable {P : Program} {A : Amb} {nt : Nat} {pend : List (Nat × AObj)} {env : Env} {heap : Heap} {bor : Option (Nat × AV)} {tm : Array Value} {w : World} {U : Nat → Nat} {bl : Blocks} {ob : Loc → Option Nat}

theorem objTake {w : World} {F : Nat → Prop} {U : Nat → Nat} {bl : Blocks} {B n : Nat} {own : Nat → List Nat → Option Nat} {ownM : Nat → List Nat → Option Nat} {bor : Option AV} {o : AObj} {b : Nat}
    (h : ObjRep P w F U bl B own ownM bor o b) (hu : o.under n = true) : ObjRep P w F U (bl.take n) B own ownM bor o b := by
  cases o with
  | cells cs =>
    obtain ⟨c, e, fr, h1, h2, h3, h4⟩ := h
    exact ⟨c, e, fr, h1, h2, h3, fun i x y hx hy => ⟨(h4 i x y hx hy).1.take (underL_get (by simpa [AObj.under] using hu) i x hx), (h4 i x y hx hy).2⟩⟩
  | _ => exact h

theorem Rel.clean (h : Rel P A nt [] env heap bor tm w U bl ob) (ks : Option (List Nat)) {n : Nat} (hA : A.bl0.length ≤ n) (hu : underH n n heap = true) :
    Rel P A nt [] (keepEnv ks n env) (heap.take n) bor tm w U (bl.take n) ob := by
  have hget : ∀ {id b : Nat}, (bl.take n)[id]? = some (some b) → id < n ∧ bl[id]? = some (some b) := by
    intro id b hi
    rw [List.getElem?_take] at hi
    split at hi
    · exact ⟨‹_›, hi⟩
    · simp at hi
  have hforb : ∀ c, forb A (bl.take n) (heap.take n) c → forb A bl heap c := by
    rintro c (hf | ⟨j, hj, hd⟩)
    · exact .inl hf
    · obtain ⟨j1, j2⟩ := hget hj
      rw [heap_get_take _ _ _ j1] at hd
      exact .inr ⟨j, j2, hd⟩
  have g : Grow0 w (forb A bl heap) U w (forb A (bl.take n) (heap.take n)) U := ⟨fun b _ hf => .inl (hforb b hf), fun b _ _ => ⟨Nat.le_refl _, fun _ _ => rfl⟩⟩
  have kp : ∀ b, b < w.heap.size → ¬ forb A bl heap b → w.heap[b]? = w.heap[b]? ∧ U b = U b ∧ ¬ forb A (bl.take n) (heap.take n) b := fun b _ hn => ⟨rfl, rfl, fun hf => hn (hforb b hf)⟩
  refine { size := h.size, env := fun t => ?_, len := (by rw [List.length_take, List.length_take, h.len]), objs := ?_, inj := ?_, base := ?_, obinj := h.obinj, obok := fun l b hb => ⟨(h.obok l b hb).1, (h.obok l b hb).2.1, fun j hj => (h.obok l b hb).2.2 j (hget hj).2⟩, since := ?_, f0 := h.f0, hB := h.hB, hG := h.hG, pend := fun p hp => (by simp at hp) }
  · rcases keepEnv_get ks n env t with e | e
    · rw [e]; exact ⟨.undef, .bare (bare_of rfl)⟩
    · rw [e]
      refine ⟨scrub_rep ((h.env t).1.mono g (BlLe.refl _)), ?_⟩
      unfold scrub
      cases (env.get t).under n
      · exact .bare (bare_of rfl)
      · exact ownAt_keeps (h.env t).2 g (fun p b _ => kp b)
  · intro j b hj
    obtain ⟨j1, j2⟩ := hget hj
    rw [heap_get_take _ _ _ j1]
    exact objTake (obj_keeps (h.objs j b j2) g (BlLe.refl _) rfl (fun c _ => kp c)) (underH_get n heap hu j j1)
  · intro i j b hi hj; exact h.inj i j b (hget hi).2 (hget hj).2
  · intro j b hj; exact h.base j b (hget hj).2
  · refine { below := h.since.below, g0 := h.since.g0.trans g h.since.below.size, ble := fun j b hj => ?_, pnd := ?_, gown := h.since.gown, blen := ?_, ub := h.since.ub }
    · have hl := (List.getElem?_eq_some_iff.1 hj).1
      rw [List.getElem?_take_of_lt (by omega)]; exact h.since.ble j b hj
    · intro j hj
      have hl := (List.getElem?_eq_some_iff.1 hj).1
      obtain ⟨p1, p2⟩ := h.since.pnd j hj
      exact ⟨by rw [List.getElem?_take_of_lt (by omega)]; exact p1, by rw [heap_get_take _ _ _ (by omega)]; exact p2⟩
    · rw [List.length_take]; have := h.since.blen; omega

theorem cleanK_sound {X : Rec Prop} (hX : ¬ X.fail) {ks : Option (List Nat)} {n : Nat} {st : St} {k : St → Prop} {a : Act} (hg : Good P A nt [] st a w) (hA : A.bl0.length ≤ n) (hk : cleanK X ks n st k) :
    ∃ st', Good P A nt [] st' a w ∧ k st' := by
  obtain ⟨env, heap, defers, bor⟩ := st
  obtain ⟨ha, rfl, U, bl, ob, h⟩ := hg
  simp only [cleanK, Env.forceV_eq, Heap.force_eq, takeH_eq] at hk
  rcases cond_elim hk with ⟨hu, hk⟩ | ⟨_, hk⟩
  · exact ⟨_, ⟨ha, rfl, U, _, ob, h.clean ks hA hu⟩, hk⟩
  · exact absurd hk hX

theorem good_len {A : Amb} {env : Env} {heap : Heap} {defers} {bor} {a : Act} {w : World} {pend} (hg : Good P A nt pend ⟨env, heap, defers, bor⟩ a w) : A.bl0.length ≤ heap.length := by
  obtain ⟨ha, rfl, U, bl, ob, h⟩ := hg
  rw [← h.len]; exact h.since.blen

/-! ### two ways -/
theorem branch_eq {X : Rec Prop} (hX : X.br = BrP) (env : Env) (t : Option Nat) (b : Bool) (y n : Env → Prop) : branch X env t b y n = bif b then y (setO env t (.bool true)) else n (setO env t (.bool false)) := by
  unfold branch; rw [putK_eq, putK_eq, hX]
  cases b
  · exact propext ⟨fun h => h.no rfl, fun h => ⟨fun e => absurd e (by simp), fun _ => h⟩⟩
  · exact propext ⟨fun h => h.yes rfl, fun h => ⟨fun _ => h, fun e => absurd e (by simp)⟩⟩

theorem Rel.envEq (h : Rel P A nt pend env heap bor tm w U bl ob) {env' : Env} (e : ∀ t, env'.get t = env.get t) : Rel P A nt pend env' heap bor tm w U bl ob :=
  { h with env := fun t => by rw [e t]; exact h.env t }
theorem Rel.settle (h : Rel P A nt pend env heap bor tm w U bl ob) {t : Option Nat} {v : AV} (e : ∀ s, t = some s → env.get s = v) : Rel P A nt pend (setO env t v) heap bor tm w U bl ob := by
  refine h.envEq fun s => ?_
  cases t with
  | none => rfl
  | some d =>
    show (env.set d v).get s = env.get s
    rw [get_set]
    split
    · rename_i hd; subst hd; exact (e d rfl).symm
    · rfl

theorem rep_bool' {F : Nat → Prop} {b : Bool} {x : Value} (h : Rep w F U bl (.bool b) x) : x = .bool b := by cases h; rfl
theorem rep_tup0 {F : Nat → Prop} {x : Value} (h : Rep w F U bl (.tup []) x) : x = .tuple #[] := by
  cases h with
  | tup hn hh => congr 1; exact Array.eq_empty_of_size_eq_zero hn.symm

theorem guard_bool (h : Rel P A nt pend env heap bor tm w U bl ob) {ops : Array Oper} {j : Nat} {b : Bool} (hb : envGuard ops.toList env j = .bool b) :
    yielded ops tm j = some b ∧ ∀ s, guardSlot ops.toList j = some s → env.get s = .bool b := by
  unfold envGuard at hb
  unfold yielded guardSlot
  simp only [Array.getElem?_toList] at hb ⊢
  cases ho : ops[j]? with
  | none => rw [ho] at hb; simp at hb
  | some o =>
    rw [ho] at hb
    simp only at hb
    cases hd : o.dst with
    | none => rw [hd] at hb; simp at hb
    | some d =>
      rw [hd] at hb
      simp only at hb
      have hr := (h.env d).1
      rw [hb] at hr
      have := rep_bool' hr
      refine ⟨?_, fun s hs => ?_⟩
      · simp only [Option.bind_some, hd]
        rw [Array.getD_eq_getD_getElem?] at this
        cases hx : tm[d]? with
        | none => rw [hx] at this; simp [undef] at this
        | some y => rw [hx] at this; simp at this; rw [this]
      · simp [hd] at hs; subst hs; exact hb

theorem guard_nought (h : Rel P A nt pend env heap bor tm w U bl ob) {ops : Array Oper} {j : Nat} (hb : envGuard ops.toList env j = .tup []) : yielded ops tm j = none := by
  unfold envGuard at hb
  unfold yielded
  simp only [Array.getElem?_toList] at hb ⊢
  cases ho : ops[j]? with
  | none => rfl
  | some o =>
    rw [ho] at hb
    simp only at hb
    cases hd : o.dst with
    | none => simp [hd]
    | some d =>
      rw [hd] at hb
      simp only at hb
      have hr := (h.env d).1
      rw [hb] at hr
      have := rep_tup0 hr
      simp only [Option.bind_some, hd]
      rw [Array.getD_eq_getD_getElem?] at this
      cases hx : tm[d]? with
      | none => rfl
      | some y => rw [hx] at this; simp at this; rw [this]

section
variable {X : Rec Prop} {cx : Ctx} {I : FuncId → List AV → Heap → (AV → Heap → Prop) → Prop}

theorem denOps_sound (hL : Leans P cx X I) (hP : cx.P = P) {drawn : Bool} {fid rid : Nat} {ops : Array Oper} {Q : Exit → Act → World → Prop} {k : St → Prop}
    (hQ : ∀ st a w, Good P A nt [] st a w → k st → Q .normal a w) : ∀ (rest : List Oper) (ix base : Nat) (st : St) (a : Act) (w : World),
    Good P A nt (waits base (hoistAll P rest)) st a w → A.bl0.length ≤ base → dstOk nt rest = true → denOps X cx I drawn fid rid ops.toList ix base rest st k → wpList P ops Q rest a w
  | [], ix, base, ⟨env, heap, defers, bor⟩, a, w, hg, hA, hd, hk => hQ _ a w (by simpa [hoistAll, waits] using hg) (by simpa only [denOps] using hk)
  | o :: rest, ix, base, ⟨env, heap, defers, bor⟩, a, w, hg, hA, hd, hk => by
    simp only [dstOk, Bool.and_eq_true] at hd
    have hd1 : ∀ t, o.dst = some t → t < nt := by
      intro t ht
      have := hd.1
      rw [ht] at this
      simpa [blt_eq] using this
    have ih := fun st a w => denOps_sound (drawn := drawn) (fid := fid) (rid := rid) (ops := ops) hL hP hQ rest (ix + 1) (base + (hoisted P o).length) st a w
    have hrel := hg
    obtain ⟨ha, rfl, U, bl, ob, h⟩ := hrel
    have hAh : A.bl0.length ≤ heap.length := by rw [← h.len]; exact h.since.blen
    have go : ∀ env', (∀ t, env'.get t = env.get t) → (denOp X cx I drawn fid rid ix base o rest ⟨env', heap, [], bor⟩ fun st => denOps X cx I drawn fid rid ops.toList (ix + 1) (base + (hoisted cx.P o).length) rest st k) →
        o.wp P a w (wpList P ops Q rest) Q := by
      intro env' he hk'
      refine Oper.wp_mono (fun a' w' => ?_) (denOp_sound (pend' := waits (base + (hoisted P o).length) (hoistAll P rest)) hL hP ⟨ha, rfl, U, bl, ob, h.envEq he⟩
        (fun p hp => by simp only [hoistAll, waits_append]; exact List.mem_append_left _ hp)
        (fun p hp => ⟨by simp only [hoistAll, waits_append]; exact List.mem_append_right _ hp, fun hl => by have := (waits_mem _ _ p hp).1; omega⟩) hA hAh hd1 hk')
      rintro ⟨st', hg', hk''⟩
      rw [hP] at hk''
      exact ih st' a' w' hg' (by omega) hd.2 hk''
    have pass : ∀ env', (∀ t, env'.get t = env.get t) → (putK env' o.dst (.tup []) fun env => denOps X cx I drawn fid rid ops.toList (ix + 1) (base + (hoisted cx.P o).length) rest ⟨env, heap, [], bor⟩ k) →
        wpList P ops Q rest (a.put o.dst undef) w := by
      intro env' he hk'
      rw [putK_eq, hP] at hk'
      obtain ⟨ob', h'⟩ := undef_rep (h.envEq he) hd1
      rw [put_eq]
      refine ih _ _ w ⟨ha, rfl, U, bl, ob', h'.unpend (fun p hp => ?_)⟩ (by omega) hd.2 hk'
      simp only [hoistAll, waits_append]
      exact List.mem_append_right _ hp
    unfold wpList
    unfold denOps at hk
    cases hgd : o.guard with
    | none =>
      rw [hgd] at hk
      rw [if_pos (by simp [Region.wanted, hgd])]
      exact .inl (go env (fun _ => rfl) hk)
    | some jw =>
      obtain ⟨j, want⟩ := jw
      rw [hgd] at hk
      dsimp only at hk
      split at hk
      · rename_i b hb
        obtain ⟨hy, hs⟩ := guard_bool h hb
        have he : ∀ t, (setO env (guardSlot ops.toList j) (.bool b)).get t = env.get t := by
          intro t
          cases hgs : guardSlot ops.toList j with
          | none => rfl
          | some d =>
            show (env.set d (.bool b)).get t = env.get t
            rw [get_set]
            split
            · rename_i hdt; subst hdt; exact (hs d hgs).symm
            · rfl
        cases want <;> cases b <;> simp only [branch_eq hL.br, cond_true, cond_false] at hk
        · rw [if_pos (by simp [Region.wanted, hgd, hy])]; exact .inl (go _ he hk)
        · rw [if_neg (by simp [Region.wanted, hgd, hy])]; exact pass _ he hk
        · rw [if_neg (by simp [Region.wanted, hgd, hy])]; exact pass _ he hk
        · rw [if_pos (by simp [Region.wanted, hgd, hy])]; exact .inl (go _ he hk)
      · rename_i hb
        rw [if_neg (by simp [Region.wanted, hgd, guard_nought h hb])]
        exact pass env (fun _ => rfl) hk
      · exact absurd hk hL.fail
end
end
end Ax

/- What an operation of a drawn region does, told first-order; what it looks at, what it turns. -/
set_option linter.unusedVariables false
set_option linter.unusedSimpArgs false
namespace Ax
open Go Go.RowKit

/-! ### what is looked at -/
def tmpsOf : List Operand → List Nat
  | [] => []
  | .tmp s :: r => s :: tmpsOf r
  | _ :: r => tmpsOf r
theorem tmpsOf_mem : ∀ {l : List Operand} {s : Nat}, Operand.tmp s ∈ l → s ∈ tmpsOf l
  | [], s, h => by simp at h
  | x :: r, s, h => by
    rcases List.mem_cons.1 h with rfl | h
    · simp [tmpsOf]
    · have := tmpsOf_mem h
      cases x <;> simp [tmpsOf, this]
def opSlots (op : Op) : List Nat := tmpsOf op.operands.toList
def rdH (op : Op) : Bool :=
  match op with
  | .load _ _ => true
  | .store _ _ _ => true
  | .box _ _ => true
  | .lookup _ _ _ _ => true
  | .mapUpdate _ _ _ _ => true
  | .insert _ _ _ _ => true
  | .mapEntry _ _ _ => true
  | .entryStore _ _ _ _ => true
  | .call c => match c.callee with | .value _ => false | _ => true
  | _ => false
def wrH (op : Op) : Bool :=
  match op with
  | .store _ _ _ => true
  | .box _ _ => true
  | .mapUpdate _ _ _ _ => true
  | .insert _ _ _ _ => true
  | .mapEntry _ _ _ => true
  | .entryStore _ _ _ _ => true
  | .call c =>
    match c.callee with
    | .builtin .delete => true
    | .builtin .copy => true
    | .builtin .clear => true
    | _ => false
  | _ => false
def isCallV (op : Op) : Bool :=
  match op with
  | .call c => match c.callee with | .value _ => true | _ => false
  | _ => false

def SameOn (l : List Nat) (env env' : Env) : Prop := ∀ s ∈ l, env.get s = env'.get s
theorem evo_same {P : Program} {op : Op} {env env' : Env} (h : SameOn (opSlots op) env env') (t : TypeId) {x : Operand} (hx : x ∈ op.operands.toList) : evo P t env x = evo P t env' x := by
  cases x with
  | tmp s => exact h s (tmpsOf_mem hx)
  | _ => rfl
theorem evoL_same {P : Program} {env env' : Env} : ∀ (ts : List TypeId) (l : List Operand), (∀ t x, x ∈ l → evo P t env x = evo P t env' x) → evoL P env ts l = evoL P env' ts l
  | t :: ts, x :: xs, h => by simp only [evoL]; rw [h t x (by simp), evoL_same ts xs (fun t y hy => h t y (by simp [hy]))]
  | [], x :: xs, h => by simp only [evoL]; rw [h 0 x (by simp), evoL_same [] xs (fun t y hy => h t y (by simp [hy]))]
  | t :: ts, [], h => by simp [evoL]
  | [], [], h => by simp [evoL]
theorem partsOf_same {P : Program} {env env' : Env} (t : TypeId) : ∀ (l : List (Nat × Operand)), (∀ u x, x ∈ l.map (·.2) → evo P u env x = evo P u env' x) → partsOf P t env l = partsOf P t env' l
  | [], h => rfl
  | (i, x) :: r, h => by simp only [partsOf]; rw [partsOf_same t r (fun u y hy => h u y (by simp at hy ⊢; exact .inr hy)), h _ x (by simp)]
theorem elemParts_same {P : Program} {env env' : Env} (t : TypeId) : ∀ (l : List (Nat × Operand)), (∀ u x, x ∈ l.map (·.2) → evo P u env x = evo P u env' x) → elemParts P t env l = elemParts P t env' l
  | [], h => rfl
  | (i, x) :: r, h => by simp only [elemParts]; rw [elemParts_same t r (fun u y hy => h u y (by simp at hy ⊢; exact .inr hy)), h _ x (by simp)]

theorem evalOp_same {P : Program} {o : Oper} {env env' : Env} {heap heap' : Heap} (h : SameOn (opSlots o.op) env env') (hh : rdH o.op = true → heap = heap') : evalOp P o env heap = evalOp P o env' heap' := by
  have key : ∀ t x, x ∈ o.op.operands.toList → evo P t env x = evo P t env' x := fun t x hx => evo_same h t hx
  clear h
  unfold evalOp
  generalize o.op = op at *
  cases op with
  | pick c a b => simp only [key 0 c (by simp [Op.operands]), key _ a (by simp [Op.operands]), key _ b (by simp [Op.operands])]
  | build t ps => simp only [partsOf_same t ps.toList (fun u x hx => key u x (by simpa [Op.operands] using hx))]
  | buildSlice t n ps => simp only [elemParts_same _ ps.toList (fun u x hx => key u x (by simpa [Op.operands] using hx))]
  | binOp op t x y u => simp only [key _ x (by simp [Op.operands]), key _ y (by simp [Op.operands])]
  | unOp op t x => simp only [key _ x (by simp [Op.operands])]
  | convert s d x => simp only [key _ x (by simp [Op.operands])]
  | nilCheck x => simp only [key _ x (by simp [Op.operands])]
  | fieldAddr t x f => simp only [key _ x (by simp [Op.operands])]
  | field t x f => simp only [key _ x (by simp [Op.operands])]
  | indexAddr t x i => simp only [key _ x (by simp [Op.operands]), key _ i (by simp [Op.operands])]
  | index t x i => simp only [key _ x (by simp [Op.operands]), key _ i (by simp [Op.operands])]
  | load t p => rw [hh rfl]; simp only [key _ p (by simp [Op.operands])]
  | extract x i => simp only [key _ x (by simp [Op.operands])]
  | lookup t m k ok => rw [hh rfl]; simp only [key _ m (by simp [Op.operands]), key _ k (by simp [Op.operands])]
  | makeFunc f xs cs =>
    cases f with
    | func f => simp only [evoL_same [] xs.toList (fun u x hx => key u x (by simp [Op.operands] at hx ⊢; exact .inl hx)), evoL_same [] cs.toList (fun u x hx => key u x (by simp [Op.operands] at hx ⊢; exact .inr hx))]
    | _ => rfl
  | slice t x l h m =>
    have kl : l.map (evo P 3 env) = l.map (evo P 3 env') := by cases l with | none => rfl | some y => simp [key 3 y (by simp [Op.operands])]
    have kh : h.map (evo P 3 env) = h.map (evo P 3 env') := by cases h with | none => rfl | some y => simp [key 3 y (by simp [Op.operands])]
    have km : m.map (evo P 3 env) = m.map (evo P 3 env') := by cases m with | none => rfl | some y => simp [key 3 y (by simp [Op.operands])]
    simp only [key _ x (by simp [Op.operands]), kl, kh, km]
  | call c =>
    obtain ⟨callee, args, argTypes⟩ := c
    cases callee with
    | value f => rfl
    | invoke r m => rfl
    | builtin b =>
      have he : heap = heap' := hh rfl
      subst he
      have ka : ∀ t x, x ∈ args.toList → evo P t env x = evo P t env' x := fun t x hx => key t x (by simpa [Op.operands, Call.operands] using hx)
      cases b with
      | len =>
        simp only
        split
        · rename_i x t h1 h2; simp only [ka _ x (by rw [h1]; simp)]
        · rfl
      | min => simp only [evoL_same [] args.toList ka]
      | max => simp only [evoL_same [] args.toList ka]
      | _ => rfl
  | _ => rfl

theorem extOp_same {P : Program} {o : Oper} {env env' : Env} {heap heap' : Heap} (h : SameOn (opSlots o.op) env env') (hh : rdH o.op = true → heap = heap') : extOp P o env heap = extOp P o env' heap' := by
  have key : ∀ t x, x ∈ o.op.operands.toList → evo P t env x = evo P t env' x := fun t x hx => evo_same h t hx
  clear h
  unfold extOp
  generalize o.op = op at *
  cases op with
  | mapUpdate t m k x => rw [hh rfl]; simp only [key _ m (by simp [Op.operands]), key _ k (by simp [Op.operands]), key _ x (by simp [Op.operands])]
  | insert t m k x => rw [hh rfl]; simp only [key _ m (by simp [Op.operands]), key _ k (by simp [Op.operands]), key _ x (by simp [Op.operands])]
  | mapEntry t m k => rw [hh rfl]; simp only [key _ m (by simp [Op.operands]), key _ k (by simp [Op.operands])]
  | entryStore t m s x => rw [hh rfl]; simp only [key _ m (by simp [Op.operands]), key _ s (by simp [Op.operands]), key _ x (by simp [Op.operands])]
  | makeSlice t l c => simp only [key _ l (by simp [Op.operands]), key _ c (by simp [Op.operands])]
  | call c =>
    obtain ⟨callee, args, argTypes⟩ := c
    cases callee with
    | value f => rfl
    | invoke r m => rfl
    | builtin b =>
      have he : heap = heap' := hh rfl
      subst he
      have ka : ∀ t x, x ∈ args.toList → evo P t env x = evo P t env' x := fun t x hx => key t x (by simpa [Op.operands, Call.operands] using hx)
      cases b with
      | delete =>
        simp only
        split
        · rename_i m k t r h1 h2; simp only [ka _ m (by rw [h1]; simp), ka _ k (by rw [h1]; simp)]
        · rfl
      | copy =>
        simp only
        split
        · rename_i d x t u h1 h2; simp only [ka _ d (by rw [h1]; simp), ka _ x (by rw [h1]; simp)]
        · rfl
      | clear =>
        simp only
        split
        · rename_i d t h1 h2; simp only [ka _ d (by rw [h1]; simp)]
        · rfl
      | _ => rfl
  | _ => rfl
end Ax

/- Effects of the operations of drawn regions. -/
set_option linter.unusedVariables false
set_option linter.unusedSimpArgs false
namespace Ax
open Go Go.RowKit

inductive Eff where
  | fail
  | put (b : Option Nat) (ws : List (Nat × AV)) (h : Option Heap)
  | call (g : FuncId) (args : List AV)
  | inl (g : FuncId) (args : List AV)
  | dc (g : FuncId) (args : List AV)
  | nilT (n : Nat) (b : Bool)

def setL : List (Nat × AV) → Env → Env
  | [], e => e
  | (d, v) :: r, e => setL r (e.set d v)
def optW (d : Option Nat) (v : AV) : List (Nat × AV) := match d with | some d => [(d, v)] | none => []
theorem setL_optW (d : Option Nat) (v : AV) (e : Env) : setL (optW d v) e = setO e d v := by cases d <;> rfl

def tmpO : Operand → Option Nat
  | .tmp s => some s
  | _ => none

def extEff (cx : Ctx) (o : Oper) (env : Env) (heap : Heap) : Eff :=
  match extOp cx.P o env heap with
  | some (s, v, h) => .put s (optW o.dst v) h
  | none => .fail
def effOp (cx : Ctx) (drawn : Bool) (fid rid ix base : Nat) (o : Oper) (rest : List Oper) (env : Env) (heap : Heap) : Eff :=
  match o.op with
  | .move x =>
    match x with
    | .tmp s =>
      bif isBaseO o.dst rest || (!drawn && cx.xf fid rid ix) then .put (some s) (optW o.dst (env.get s)) none
      else .put none (optW o.dst (env.get s).strip) none
    | _ => .put none (optW o.dst (evo cx.P o.type env x)) none
  | .assign x =>
    match x with
    | .tmp s => .put (some s) (optW o.dst (env.get s)) none
    | _ => .put none (optW o.dst (evo cx.P o.type env x)) none
  | .alloc t => bif !(hasZero cx.P t && (zeroAV cx.P t).cells.all AV.scal) then .fail else .put none (optW o.dst (.ptr base 0)) none
  | .makeMap _ none => .put none (optW o.dst (.mapr base)) none
  | .box t x =>
    bif sameShape cx.P t (evo cx.P t env x).strip then .put none (optW o.dst (.ptr heap.length 0)) (some (heap ++ [.cells (evo cx.P t env x).strip.cells]))
    else .fail
  | .store t p v =>
    match storeAV cx.P heap t (evo cx.P 0 env p) (evo cx.P t env v) with
    | some h => bif !(Nat.blt 0 (tySz cx.P t)) then .fail else .put (tmpO v) (optW o.dst (.tup [])) (some h)
    | none => .fail
  | .call c =>
    match c.callee with
    | .builtin .append =>
      match c.args.toList, c.argTypes.toList with
      | [.tmp s, x], [t, u] =>
        bif !drawn && cx.xf fid rid ix then
          match appendAV cx.P t u heap (freshen (env.get s)) (evo cx.P u env x) with
          | some v => .put none ((s, .undef) :: optW o.dst v) none
          | none => .fail
        else
        match appendAV cx.P t u heap (env.get s) (evo cx.P u env x) with
        | some v => .put (some s) (optW o.dst v) none
        | none => .fail
      | [.const v, x], [t, u] =>
        match appendAV cx.P t u heap (ofConst cx.P t v) (evo cx.P u env x) with
        | some v => .put none (optW o.dst v) none
        | none => .fail
      | _, _ => .fail
    | .builtin _ =>
      match evalOp cx.P o env heap with
      | some v => .put none (optW o.dst v) none
      | none => extEff cx o env heap
    | .value f =>
      match evo cx.P 0 env f with
      | .fn g first caps =>
        bif AV.isDataL (first ++ evoL cx.P env c.argTypes.toList c.args.toList ++ caps) && !cx.inl g then .call g (first ++ evoL cx.P env c.argTypes.toList c.args.toList ++ caps)
        else bif drawn then .fail
        else bif cx.ln g || Nat.blt 0 (cx.srt g) then .dc g (first ++ evoL cx.P env c.argTypes.toList c.args.toList ++ caps)
        else .inl g (first ++ evoL cx.P env c.argTypes.toList c.args.toList ++ caps)
      | _ => .fail
    | _ => .fail
  | .load t p =>
    bif !drawn && (isBaseO o.dst rest || cx.xf fid rid ix) then
      match takeAV cx heap t (evo cx.P 0 env p) with
      | some (v, h) => .put none (optW o.dst v) (some h)
      | none => .fail
    else
    match evalOp cx.P o env heap with
    | some v => .put none (optW o.dst v) none
    | none => .fail
  | .binOp op t x y yt =>
    match nilTest cx.P op t (evo cx.P t env x).strip y with
    | some (n, b) => bif drawn then .fail else .nilT n b
    | none =>
      match evalOp cx.P o env heap with
      | some v => .put none (optW o.dst v) none
      | none => extEff cx o env heap
  | .extract x i =>
    match x with
    | .tmp s =>
      match env.get s with
      | .tup vs =>
        match vs[i]? with
        | some v => .put none ((s, .tup (vs.set i v.strip)) :: optW o.dst v) none
        | none => .fail
      | _ => .fail
    | _ => .fail
  | _ =>
    match evalOp cx.P o env heap with
    | some v => .put none (optW o.dst v) none
    | none => extEff cx o env heap

def effSem {R : Type} (X : Rec R) (I : FuncId → List AV → Heap → (AV → Heap → R) → R) (J : Option Nat → FuncId → List AV → St → (St → R) → R) (dst : Option Nat) (e : Eff) (st : St) (k : St → R) : R :=
  match e with
  | .fail => X.fail
  | .put b ws h => k ⟨setL ws (bareO b st.env), h.getD st.heap, st.defers, st.bor⟩
  | .call g args => X.call g args fun r => k ⟨setO st.env dst r, st.heap, st.defers, st.bor⟩
  | .inl g args =>
    match st.bor with
    | some _ => X.fail
    | none => I g args st.heap fun r h => k ⟨setO st.env dst r, h, st.defers, none⟩
  | .dc g args => J dst g args st k
  | .nilT n b => X.br (Nat.beq n 0) (X.all 2 fun i => k ⟨setO st.env dst (.bool (Nat.beq i 0)), st.heap, st.defers, st.bor⟩) (k ⟨setO st.env dst (.bool b), st.heap, st.defers, st.bor⟩)

theorem putK_setO {R : Type} (env : Env) (d : Option Nat) (v : AV) (k : Env → R) : putK env d v k = k (setO env d v) := by rw [putK_eq]; rfl

theorem denOp_eff {R : Type} (X : Rec R) (cx : Ctx) (I : FuncId → List AV → Heap → (AV → Heap → R) → R) (drawn : Bool) (fid rid ix base : Nat) (o : Oper) (rest : List Oper) (env : Env) (heap : Heap) (defers : List (AV × List AV)) (bor : Option (Nat × AV)) (k : St → R) :
    denOp X cx I drawn fid rid ix base o rest ⟨env, heap, defers, bor⟩ k = effSem X I (denDC X cx) o.dst (effOp cx drawn fid rid ix base o rest env heap) ⟨env, heap, defers, bor⟩ k := by
  have ext : extK X cx o k env heap defers bor = effSem X I (denDC X cx) o.dst (extEff cx o env heap) ⟨env, heap, defers, bor⟩ k := by
    unfold extK extEff
    cases extOp cx.P o env heap with
    | none => rfl
    | some p =>
      obtain ⟨s, v, h⟩ := p
      cases h <;> simp only [effSem, setL_optW, putK_setO, Option.getD, Heap.force_eq]
  have dflt : (match evalOp cx.P o env heap with
      | some v => putK env o.dst v fun env => k ⟨env, heap, defers, bor⟩
      | none => extK X cx o k env heap defers bor) = effSem X I (denDC X cx) o.dst (match evalOp cx.P o env heap with
      | some v => .put none (optW o.dst v) none
      | none => extEff cx o env heap) ⟨env, heap, defers, bor⟩ k := by
    split
    · simp only [effSem, setL_optW, putK_setO, bareO, Option.getD]
    · exact ext
  unfold denOp effOp
  dsimp only
  generalize hop : o.op = op
  cases op with
  | move x =>
    cases x with
    | tmp s =>
      dsimp only
      cases isBaseO o.dst rest || (!drawn && cx.xf fid rid ix) <;> simp only [cond_true, cond_false, effSem, setL_optW, putK_setO, bareO, Option.getD]
    | _ => simp only [effSem, setL_optW, putK_setO, bareO, Option.getD]
  | assign x =>
    cases x <;> simp only [effSem, setL_optW, putK_setO, bareO, Option.getD]
  | alloc t =>
    dsimp only
    cases (!(hasZero cx.P t && (zeroAV cx.P t).cells.all AV.scal)) <;> simp only [cond_true, cond_false, effSem, setL_optW, putK_setO, bareO, Option.getD, forceNat_eq]
  | makeMap t r =>
    cases r with
    | none => simp only [effSem, setL_optW, putK_setO, bareO, Option.getD, forceNat_eq]
    | some r => exact dflt
  | box t x =>
    dsimp only
    cases sameShape cx.P t (evo cx.P t env x).strip <;> simp only [cond_true, cond_false, effSem, setL_optW, putK_setO, bareO, Option.getD, forceNat_eq, Heap.force_eq]
  | store t p v =>
    dsimp only
    cases storeAV cx.P heap t (evo cx.P 0 env p) (evo cx.P t env v) with
    | none => rfl
    | some h =>
      dsimp only
      cases (!Nat.blt 0 (tySz cx.P t)) <;> simp only [cond_true, cond_false, effSem]
      rw [Heap.force_eq]
      cases v <;> simp only [setL_optW, putK_setO, bareO, Option.getD, tmpO]
  | call c =>
    obtain ⟨callee, args, argTypes⟩ := c
    dsimp only
    cases callee with
    | value f =>
      dsimp only
      cases evo cx.P 0 env f with
      | fn g first caps =>
        simp only [denCall, AV.forceL_eq]
        cases AV.isDataL (first ++ evoL cx.P env argTypes.toList args.toList ++ caps) && !cx.inl g
        · cases drawn
          · cases cx.ln g || Nat.blt 0 (cx.srt g)
            · cases bor <;> simp only [cond_true, cond_false, effSem, putK_setO, Heap.force_eq]
            · simp only [cond_true, cond_false, effSem]
          · simp only [cond_true, cond_false, effSem]
        · simp only [cond_true, cond_false, effSem, putK_setO]
      | _ => rfl
    | invoke r m => rfl
    | builtin b =>
      cases b with
      | append =>
        dsimp only
        generalize args.toList = l
        generalize argTypes.toList = m
        rcases l with _ | ⟨y, _ | ⟨x, _ | ⟨z, l⟩⟩⟩
        · rfl
        · cases y <;> rfl
        · rcases m with _ | ⟨t, _ | ⟨u, _ | ⟨z, m⟩⟩⟩
          · cases y <;> rfl
          · cases y <;> rfl
          · cases y with
            | tmp s =>
              dsimp only
              cases !drawn && cx.xf fid rid ix
              case true =>
                simp only [cond_true]
                cases appendAV cx.P t u heap (freshen (env.get s)) (evo cx.P u env x) <;> simp only [effSem, setL_optW, putK_setO, bareO, Option.getD, setL]
              simp only [cond_false]
              cases appendAV cx.P t u heap (env.get s) (evo cx.P u env x) <;> simp only [effSem, setL_optW, putK_setO, bareO, Option.getD]
            | const v =>
              dsimp only
              cases appendAV cx.P t u heap (ofConst cx.P t v) (evo cx.P u env x) <;> simp only [effSem, setL_optW, putK_setO, bareO, Option.getD]
            | _ => rfl
          · cases y <;> rfl
        · cases y <;> rfl
      | _ => exact dflt
  | load t p =>
    dsimp only
    cases !drawn && (isBaseO o.dst rest || cx.xf fid rid ix) with
    | true =>
      simp only [cond_true]
      cases takeAV cx heap t (evo cx.P 0 env p) with
      | none => rfl
      | some q => obtain ⟨v, h⟩ := q; simp only [effSem, setL_optW, putK_setO, bareO, Option.getD, Heap.force_eq]
    | false =>
      simp only [cond_false]
      cases evalOp cx.P o env heap <;> simp only [effSem, setL_optW, putK_setO, bareO, Option.getD]
  | binOp op t x y yt =>
    dsimp only
    cases nilTest cx.P op t (evo cx.P t env x).strip y with
    | none => exact dflt
    | some p =>
      obtain ⟨n, b⟩ := p
      cases drawn
      · simp only [cond_false, effSem, putK_setO]
      · rfl
  | extract x i =>
    cases x with
    | tmp s =>
      dsimp only
      cases env.get s with
      | tup vs =>
        dsimp only
        cases vs[i]? <;> simp only [effSem, setL_optW, putK_setO, bareO, Option.getD, setL]
      | _ => rfl
    | _ => rfl
  | _ => exact dflt
end Ax

/- Effects: what they depend on, what they turn. -/
set_option linter.unusedVariables false
set_option linter.unusedSimpArgs false
namespace Ax
open Go Go.RowKit

def moved (all : List Oper) (d : Option Nat) (op : Op) : List Nat :=
  match op with
  | .move x => bif isBaseO d all then tmpsOf [x] else []
  | .assign x => tmpsOf [x]
  | .store _ _ v => tmpsOf [v]
  | .mapUpdate _ _ _ x => tmpsOf [x]
  | .insert _ _ _ x => tmpsOf [x]
  | .entryStore _ _ _ x => tmpsOf [x]
  | .extract x _ => tmpsOf [x]
  | .call c => match c.callee with | .builtin .append => (match c.args.toList with | x :: _ => tmpsOf [x] | [] => []) | _ => []
  | _ => []
def optL (d : Option Nat) : List Nat := match d with | some d => [d] | none => []
def wrSlots (all : List Oper) (o : Oper) : List Nat := optL o.dst ++ moved all o.dst o.op

theorem effOp_same {cx : Ctx} {drawn : Bool} {fid rid ix base : Nat} {o : Oper} {rest : List Oper} {env env' : Env} {heap heap' : Heap} (h : SameOn (opSlots o.op) env env') (hh : rdH o.op = true → heap = heap') :
    effOp cx drawn fid rid ix base o rest env heap = effOp cx drawn fid rid ix base o rest env' heap' := by
  have ev := evalOp_same (P := cx.P) (o := o) h hh
  have ex : extEff cx o env heap = extEff cx o env' heap' := by unfold extEff; rw [extOp_same (P := cx.P) (o := o) h hh]
  have key : ∀ t x, x ∈ o.op.operands.toList → evo cx.P t env x = evo cx.P t env' x := fun t x hx => evo_same h t hx
  have kg : ∀ s, Operand.tmp s ∈ o.op.operands.toList → env.get s = env'.get s := fun s hs => h s (tmpsOf_mem hs)
  clear h
  have dflt : (match evalOp cx.P o env heap with
      | some v => Eff.put none (optW o.dst v) none
      | none => extEff cx o env heap) = (match evalOp cx.P o env' heap' with
      | some v => Eff.put none (optW o.dst v) none
      | none => extEff cx o env' heap') := by rw [ev, ex]
  have ldfl : (match evalOp cx.P o env heap with
      | some v => Eff.put none (optW o.dst v) none
      | none => .fail) = (match evalOp cx.P o env' heap' with
      | some v => Eff.put none (optW o.dst v) none
      | none => .fail) := by rw [ev]
  clear ev ex
  unfold effOp
  generalize hop : o.op = op at *
  cases op with
  | move x =>
    cases x with
    | tmp s => simp only [kg s (by simp [Op.operands])]
    | _ => rfl
  | assign x =>
    cases x with
    | tmp s => simp only [kg s (by simp [Op.operands])]
    | _ => rfl
  | alloc t => rfl
  | makeMap t r => cases r with
    | none => rfl
    | some r => exact dflt
  | box t x => simp only [key _ x (by simp [Op.operands]), hh rfl]
  | store t p v => simp only [key _ p (by simp [Op.operands]), key _ v (by simp [Op.operands]), hh rfl]
  | call c =>
    obtain ⟨callee, args, argTypes⟩ := c
    cases callee with
    | value f =>
      have ka : ∀ t x, x ∈ args.toList → evo cx.P t env x = evo cx.P t env' x := fun t x hx => key t x (by simp [Op.operands, Call.operands] at hx ⊢; exact .inr hx)
      simp only [key _ f (by simp [Op.operands, Call.operands]), evoL_same argTypes.toList args.toList ka]
    | invoke r m => rfl
    | builtin b =>
      cases b with
      | append =>
        have ka : ∀ t x, x ∈ args.toList → evo cx.P t env x = evo cx.P t env' x := fun t x hx => key t x (by simpa [Op.operands, Call.operands] using hx)
        have kga : ∀ s, Operand.tmp s ∈ args.toList → env.get s = env'.get s := fun s hx => kg s (by simpa [Op.operands, Call.operands] using hx)
        have he : heap = heap' := hh rfl
        subst he
        dsimp only
        generalize args.toList = l at *
        generalize argTypes.toList = m
        rcases l with _ | ⟨y, _ | ⟨x, _ | ⟨z, l⟩⟩⟩
        · rfl
        · cases y <;> rfl
        · rcases m with _ | ⟨t, _ | ⟨u, _ | ⟨z, m⟩⟩⟩
          · cases y <;> rfl
          · cases y <;> rfl
          · cases y with
            | tmp s => simp only [kga s (by simp), ka u x (by simp)]
            | const v => simp only [ka u x (by simp)]
            | _ => rfl
          · cases y <;> rfl
        · cases y <;> rfl
      | _ => exact dflt
  | load t p =>
    have he : heap = heap' := hh rfl
    subst he
    simp only [key _ p (by simp [Op.operands])]
    cases !drawn && (isBaseO o.dst rest || cx.xf fid rid ix) with
    | true => rfl
    | false => exact ldfl
  | binOp op t x y yt =>
    simp only [key _ x (by simp [Op.operands])]
    cases nilTest cx.P op t (evo cx.P t env' x).strip y with
    | none => exact dflt
    | some p => rfl
  | extract x i =>
    cases x with
    | tmp s => simp only [kg s (by simp [Op.operands])]
    | _ => rfl
  | _ => exact dflt

/-- What an effect turns lies in these slots. -/
def Eff.within (l : List Nat) (wh cv : Bool) : Eff → Prop
  | .fail => True
  | .put b ws h => (∀ s, b = some s → s ∈ l) ∧ (∀ p ∈ ws, p.1 ∈ l) ∧ (wh = false → h = none)
  | .call _ _ => cv = true
  | .inl _ _ => False
  | .dc _ _ => False
  | .nilT _ _ => False
theorem optW_in {d : Option Nat} {v : AV} {l : List Nat} : ∀ p ∈ optW d v, p.1 ∈ optL d ++ l := by
  intro p hp
  cases d with
  | none => simp [optW] at hp
  | some d => simp [optW] at hp; subst hp; simp [optL]

theorem extEff_within {all : List Oper} {cx : Ctx} {o : Oper} {env : Env} {heap : Heap} {cv : Bool} : (extEff cx o env heap).within (optL o.dst ++ moved all o.dst o.op) (wrH o.op) cv := by
  unfold extEff
  cases he : extOp cx.P o env heap with
  | none => trivial
  | some p =>
    obtain ⟨s, v, h⟩ := p
    have key : (∀ s0, s = some s0 → s0 ∈ moved all o.dst o.op) ∧ (wrH o.op = false → h = none) := by
      have tm : ∀ (x : Operand) s0, tmpOp x = some s0 → s0 ∈ tmpsOf [x] := by
        intro x s0 hx
        cases x <;> simp [tmpOp] at hx
        subst hx; simp [tmpsOf]
      unfold extOp at he
      split at he
      · rename_i hop
        rw [hop]
        split at he
        · simp only [Option.some.injEq, Prod.mk.injEq] at he
          obtain ⟨rfl, _, _⟩ := he
          exact ⟨fun s0 hs => tm _ _ hs, fun hw => by simp [wrH] at hw⟩
        · simp at he
      · rename_i hop
        rw [hop]
        split at he
        · simp only [Option.some.injEq, Prod.mk.injEq] at he
          obtain ⟨rfl, _, _⟩ := he
          exact ⟨fun s0 hs => tm _ _ hs, fun hw => by simp [wrH] at hw⟩
        · simp at he
      · rename_i hop
        rw [hop]
        split at he
        · simp only [Option.some.injEq, Prod.mk.injEq] at he
          obtain ⟨rfl, _, _⟩ := he
          exact ⟨fun s0 hs => by simp at hs, fun hw => by simp [wrH] at hw⟩
        · simp at he
      · rename_i hop
        rw [hop]
        split at he
        · simp only [Option.some.injEq, Prod.mk.injEq] at he
          obtain ⟨rfl, _, _⟩ := he
          exact ⟨fun s0 hs => tm _ _ hs, fun hw => by simp [wrH] at hw⟩
        · simp at he
      · rename_i hop
        obtain ⟨v1, _, he1⟩ := Option.map_eq_some_iff.1 he
        simp only [Prod.mk.injEq] at he1
        obtain ⟨rfl, _, rfl⟩ := he1
        exact ⟨fun s0 hs => by simp at hs, fun _ => rfl⟩
      · rename_i hop
        rw [hop]
        split at he
        · obtain ⟨v1, _, he1⟩ := Option.map_eq_some_iff.1 he
          simp only [Prod.mk.injEq] at he1
          obtain ⟨rfl, _, _⟩ := he1
          exact ⟨fun s0 hs => by simp at hs, fun hw => by simp [wrH] at hw⟩
        · simp at he
      · rename_i hop
        rw [hop]
        split at he
        · obtain ⟨v1, _, he1⟩ := Option.map_eq_some_iff.1 he
          simp only [Prod.mk.injEq] at he1
          obtain ⟨rfl, _, _⟩ := he1
          exact ⟨fun s0 hs => by simp at hs, fun hw => by simp [wrH] at hw⟩
        · simp at he
      · rename_i hop
        rw [hop]
        split at he
        · obtain ⟨v1, _, he1⟩ := Option.map_eq_some_iff.1 he
          simp only [Prod.mk.injEq] at he1
          obtain ⟨rfl, _, _⟩ := he1
          exact ⟨fun s0 hs => by simp at hs, fun hw => by simp [wrH] at hw⟩
        · simp at he
      · simp at he
    exact ⟨fun s0 hs => List.mem_append_right _ (key.1 s0 hs), optW_in, key.2⟩

theorem effOp_within {all : List Oper} {cx : Ctx} {fid rid ix base : Nat} {o : Oper} {rest : List Oper} (hb : isBaseO o.dst rest = true → isBaseO o.dst all = true) {env : Env} {heap : Heap} :
    (effOp cx true fid rid ix base o rest env heap).within (wrSlots all o) (wrH o.op) (isCallV o.op) := by
  have put1 : ∀ v wh cv l, (Eff.put none (optW o.dst v) none).within (optL o.dst ++ l) wh cv := fun v wh cv l => ⟨fun s h => by simp at h, optW_in, fun _ => rfl⟩
  have put2 : ∀ s v wh cv l, s ∈ l → (Eff.put (some s) (optW o.dst v) none).within (optL o.dst ++ l) wh cv := fun s v wh cv l hl => ⟨fun t h => by simp at h; subst h; simp [hl], optW_in, fun _ => rfl⟩
  have dflt : ∀ cv, (match evalOp cx.P o env heap with
      | some v => Eff.put none (optW o.dst v) none
      | none => extEff cx o env heap).within (optL o.dst ++ moved all o.dst o.op) (wrH o.op) cv := by
    intro cv
    split
    · exact put1 _ _ _ _
    · exact extEff_within
  unfold effOp wrSlots
  generalize hop : o.op = op at *
  cases op with
  | move x =>
    cases x with
    | tmp s =>
      dsimp only
      cases hbb : isBaseO o.dst rest || (!true && cx.xf fid rid ix)
      · exact put1 _ _ _ _
      · have : isBaseO o.dst rest = true := by simpa using hbb
        exact put2 _ _ _ _ _ (by simp [moved, tmpsOf, hb this])
    | _ => exact put1 _ _ _ _
  | assign x =>
    cases x with
    | tmp s => exact put2 _ _ _ _ _ (by simp [moved, tmpsOf])
    | _ => exact put1 _ _ _ _
  | alloc t =>
    dsimp only
    cases (!(hasZero cx.P t && (zeroAV cx.P t).cells.all AV.scal))
    · exact put1 _ _ _ _
    · trivial
  | makeMap t r => cases r with
    | none => exact put1 _ _ _ _
    | some r => exact dflt _
  | box t x =>
    dsimp only
    cases sameShape cx.P t (evo cx.P t env x).strip
    · trivial
    · exact ⟨fun s h => by simp at h, optW_in, fun h => by simp [wrH] at h⟩
  | store t p v =>
    dsimp only
    split
    · cases (!Nat.blt 0 (tySz cx.P t))
      · refine ⟨fun s h => ?_, optW_in, fun h => by simp [wrH] at h⟩
        cases v <;> simp [tmpO] at h
        subst h
        simp [moved, tmpsOf]
      · trivial
    · trivial
  | call c =>
    obtain ⟨callee, args, argTypes⟩ := c
    cases callee with
    | value f =>
      dsimp only
      split
      · rename_i g first caps _
        cases AV.isDataL (first ++ evoL cx.P env argTypes.toList args.toList ++ caps) && !cx.inl g
        · trivial
        · rfl
      · trivial
    | invoke r m => trivial
    | builtin b =>
      cases b with
      | append =>
        dsimp only [moved]
        generalize args.toList = l at *
        generalize argTypes.toList = m
        rcases l with _ | ⟨y, _ | ⟨x, _ | ⟨z, l⟩⟩⟩
        · trivial
        · cases y <;> trivial
        · rcases m with _ | ⟨t, _ | ⟨u, _ | ⟨z, m⟩⟩⟩
          · cases y <;> trivial
          · cases y <;> trivial
          · cases y with
            | tmp s =>
              simp only [Bool.not_true, Bool.false_and, cond_false]
              split
              · exact put2 _ _ _ _ _ (by simp [tmpsOf])
              · trivial
            | const v =>
              dsimp only
              split
              · exact put1 _ _ _ _
              · trivial
            | _ => trivial
          · cases y <;> trivial
        · cases y <;> trivial
      | _ => exact dflt _
  | load t p =>
    simp only [Bool.not_true, Bool.false_and, cond_false]
    split
    · exact put1 _ _ _ _
    · trivial
  | extract x i =>
    cases x with
    | tmp s =>
      dsimp only
      split
      · split
        · refine ⟨fun s h => by simp at h, fun p hp => ?_, fun _ => rfl⟩
          rcases List.mem_cons.1 hp with rfl | hp
          · simp [moved, tmpsOf]
          · exact optW_in p hp
        · trivial
      · trivial
    | _ => trivial
  | binOp op t x y yt =>
    dsimp only
    cases nilTest cx.P op t (evo cx.P t env x).strip y with
    | none => exact dflt _
    | some p => trivial
  | _ => exact dflt _

/-! ### slots after a turn -/
theorem setL_out : ∀ (ws : List (Nat × AV)) (env : Env) (t : Nat), (∀ p ∈ ws, p.1 ≠ t) → (setL ws env).get t = env.get t
  | [], env, t, h => rfl
  | (d, v) :: r, env, t, h => by
    simp only [setL]
    rw [setL_out r _ t (fun p hp => h p (by simp [hp])), get_set, if_neg (h (d, v) (by simp))]
theorem setL_pt : ∀ (ws : List (Nat × AV)) (env env' : Env) (t : Nat), env.get t = env'.get t → (setL ws env).get t = (setL ws env').get t
  | [], env, env', t, h => h
  | (d, v) :: r, env, env', t, h => by
    simp only [setL]
    refine setL_pt r _ _ t ?_
    rw [get_set, get_set]; split
    · rfl
    · exact h
theorem bareO_out {b : Option Nat} {env : Env} {t : Nat} (h : ∀ s, b = some s → s ≠ t) : (bareO b env).get t = env.get t := by
  cases b with
  | none => rfl
  | some s => simp only [bareO]; rw [get_bare, if_neg (h s rfl)]
theorem bareO_pt {b : Option Nat} {env env' : Env} {t : Nat} (h : env.get t = env'.get t) : (bareO b env).get t = (bareO b env').get t := by
  cases b with
  | none => exact h
  | some s => simp only [bareO]; rw [get_bare, get_bare, h]
theorem setO_out {d : Option Nat} {v : AV} {env : Env} {t : Nat} (h : ∀ s, d = some s → s ≠ t) : (setO env d v).get t = env.get t := by
  cases d with
  | none => rfl
  | some s => simp only [setO]; rw [get_set, if_neg (h s rfl)]
theorem setO_pt {d : Option Nat} {v : AV} {env env' : Env} {t : Nat} (h : env.get t = env'.get t) : (setO env d v).get t = (setO env' d v).get t := by
  cases d with
  | none => exact h
  | some s => simp only [setO]; rw [get_set, get_set, h]
end Ax

/- Steps of drawn regions; two that do not touch each other change places. -/
set_option linter.unusedVariables false
set_option linter.unusedSimpArgs false
namespace Ax
open Go Go.RowKit

structure Tag where
  ix : Nat
  base : Nat
  o : Oper
  rest : List Oper

/-- A step, its guard seen to. -/
def stepEff (cx : Ctx) (fid rid : Nat) (all : List Oper) (t : Tag) (env : Env) (heap : Heap) : Eff :=
  match t.o.guard with
  | none => effOp cx true fid rid t.ix t.base t.o t.rest env heap
  | some (j, want) =>
    match envGuard all env j with
    | .bool b => if b = want then effOp cx true fid rid t.ix t.base t.o t.rest env heap else .put none (optW t.o.dst (.tup [])) none
    | .tup [] => .put none (optW t.o.dst (.tup [])) none
    | _ => .fail
def guardSlots (all : List Oper) (o : Oper) : List Nat := match o.guard with | some (j, _) => optL (guardSlot all j) | none => []
def seen (all : List Oper) (o : Oper) : List Nat := guardSlots all o ++ opSlots o.op

def EqSt (a b : St) : Prop := (∀ t, a.env.get t = b.env.get t) ∧ a.heap = b.heap ∧ a.defers = b.defers ∧ a.bor = b.bor
theorem EqSt.refl (a : St) : EqSt a a := ⟨fun _ => rfl, rfl, rfl, rfl⟩
theorem EqSt.symm {a b : St} (h : EqSt a b) : EqSt b a := ⟨fun t => (h.1 t).symm, h.2.1.symm, h.2.2.1.symm, h.2.2.2.symm⟩
theorem EqSt.trans {a b c : St} (h : EqSt a b) (k : EqSt b c) : EqSt a c := ⟨fun t => (h.1 t).trans (k.1 t), h.2.1.trans k.2.1, h.2.2.1.trans k.2.2.1, h.2.2.2.trans k.2.2.2⟩
def Closed (k : St → Prop) : Prop := ∀ a b, EqSt a b → k a → k b

/-- Calls answer something, and more if more is let through. -/
structure Calm (X : Rec Prop) : Prop where
  fail : ¬ X.fail
  some : ∀ f args Q, X.call f args Q → ∃ r, Q r
  mono : ∀ f args (Q Q' : AV → Prop), (∀ r, Q r → Q' r) → X.call f args Q → X.call f args Q'
  br : X.br = BrP
  all : X.all = fun n k => ∀ i, i < n → k i

section
variable {X : Rec Prop} {cx : Ctx} {fid rid : Nat} {all : List Oper}

def noIX (X : Rec Prop) : FuncId → List AV → Heap → (AV → Heap → Prop) → Prop := fun _ _ _ _ => X.fail
def noJX (X : Rec Prop) : Option Nat → FuncId → List AV → St → (St → Prop) → Prop := fun _ _ _ _ _ => X.fail
def stepE (X : Rec Prop) (cx : Ctx) (fid rid : Nat) (all : List Oper) (t : Tag) (st : St) (k : St → Prop) : Prop := effSem X (noIX X) (noJX X) t.o.dst (stepEff cx fid rid all t st.env st.heap) st k

theorem stepEff_same {t : Tag} {env env' : Env} {heap heap' : Heap} (h : SameOn (seen all t.o) env env') (hh : rdH t.o.op = true → heap = heap') :
    stepEff cx fid rid all t env heap = stepEff cx fid rid all t env' heap' := by
  have ho : effOp cx true fid rid t.ix t.base t.o t.rest env heap = effOp cx true fid rid t.ix t.base t.o t.rest env' heap' := effOp_same (fun s hs => h s (by simp [seen, hs])) hh
  unfold stepEff
  cases hg : t.o.guard with
  | none => exact ho
  | some jw =>
    obtain ⟨j, want⟩ := jw
    have : envGuard all env j = envGuard all env' j := by
      have hs : ∀ s, guardSlot all j = some s → env.get s = env'.get s := fun s hs => h s (by simp [seen, guardSlots, hg, hs, optL])
      unfold envGuard
      unfold guardSlot at hs
      cases ho : all[j]? with
      | none => rfl
      | some p =>
        rw [ho] at hs
        simp only [Option.bind_some] at hs
        cases hd : p.dst with
        | none => simp only [hd]
        | some d => simp only [hd]; exact hs d hd
    simp only [this, ho]

def BaseIn (all : List Oper) (t : Tag) : Prop := isBaseO t.o.dst t.rest = true → isBaseO t.o.dst all = true
theorem stepEff_within {t : Tag} (hb : BaseIn all t) {env : Env} {heap : Heap} : (stepEff cx fid rid all t env heap).within (wrSlots all t.o) (wrH t.o.op) (isCallV t.o.op) := by
  have skip : (Eff.put none (optW t.o.dst (.tup [])) none).within (wrSlots all t.o) (wrH t.o.op) (isCallV t.o.op) := ⟨fun s h => by simp at h, optW_in, fun _ => rfl⟩
  unfold stepEff
  split
  · exact effOp_within hb
  · split
    · split
      · exact effOp_within hb
      · exact skip
    · exact skip
    · trivial

theorem effSem_mono (hX : Calm X) {d : Option Nat} {e : Eff} {st : St} {k k' : St → Prop} (h : ∀ s, k s → k' s) (hk : effSem X (noIX X) (noJX X) d e st k) : effSem X (noIX X) (noJX X) d e st k' := by
  cases e with
  | fail => exact hk
  | put b ws hp => exact h _ hk
  | call g args => exact hX.mono _ _ _ _ (fun r hr => h _ hr) hk
  | inl g args => exact absurd hk (by simp only [effSem, noIX]; split <;> exact hX.fail)
  | dc g args => exact absurd hk hX.fail
  | nilT n b =>
    simp only [effSem, hX.br, hX.all] at hk ⊢
    exact ⟨fun e i hi => h _ (hk.yes e i hi), fun e => h _ (hk.no e)⟩
theorem effSem_eq (hX : Calm X) {d : Option Nat} {e : Eff} {st st' : St} {k : St → Prop} (hc : Closed k) (h : EqSt st st') (hk : effSem X (noIX X) (noJX X) d e st k) : effSem X (noIX X) (noJX X) d e st' k := by
  obtain ⟨h1, h2, h3, h4⟩ := h
  cases e with
  | fail => exact hk
  | put b ws hp =>
    simp only [effSem] at hk ⊢
    refine hc _ _ ?_ hk
    exact ⟨fun t => setL_pt _ _ _ _ (bareO_pt (h1 t)), by simp only [h2], h3, h4⟩
  | call g args =>
    simp only [effSem] at hk ⊢
    refine hX.mono _ _ _ _ (fun r hr => ?_) hk
    refine hc _ _ ?_ hr
    exact ⟨fun t => setO_pt (h1 t), h2, h3, h4⟩
  | inl g args => exact absurd hk (by simp only [effSem, noIX]; split <;> exact hX.fail)
  | dc g args => exact absurd hk hX.fail
  | nilT n b =>
    simp only [effSem, hX.br, hX.all] at hk ⊢
    exact ⟨fun e i hi => hc ⟨setO st.env d (.bool (Nat.beq i 0)), st.heap, st.defers, st.bor⟩ _ ⟨fun t => setO_pt (h1 t), h2, h3, h4⟩ (hk.yes e i hi), fun e => hc ⟨setO st.env d (.bool b), st.heap, st.defers, st.bor⟩ _ ⟨fun t => setO_pt (h1 t), h2, h3, h4⟩ (hk.no e)⟩

theorem stepE_mono (hX : Calm X) {t : Tag} {st : St} {k k' : St → Prop} (h : ∀ s, k s → k' s) (hk : stepE X cx fid rid all t st k) : stepE X cx fid rid all t st k' := effSem_mono hX h hk
theorem stepE_closed (hX : Calm X) {t : Tag} {k : St → Prop} (hc : Closed k) : Closed fun st => stepE X cx fid rid all t st k := by
  intro a b h hk
  unfold stepE at *
  rw [stepEff_same (env' := a.env) (heap' := a.heap) (fun s _ => (h.1 s).symm) (fun _ => h.2.1.symm)]
  exact effSem_eq hX hc h hk

/-- Two steps that may change places. -/
def disj (l m : List Nat) : Bool := l.all fun x => !memN x m
theorem memN_iff {t : Nat} : ∀ {l : List Nat}, memN t l = true ↔ t ∈ l
  | [] => by simp [memN]
  | s :: r => by
    simp only [memN, Bool.or_eq_true, memN_iff (l := r), beq_eq, decide_eq_true_eq, List.mem_cons]
    constructor
    · rintro (h | h)
      · exact .inl h.symm
      · exact .inr h
    · rintro (h | h)
      · exact .inl h.symm
      · exact .inr h
theorem disj_spec {l m : List Nat} (h : disj l m = true) {t : Nat} (hl : t ∈ l) (hm : t ∈ m) : False := by
  have := List.all_eq_true.1 h t hl
  rw [memN_iff.2 hm] at this
  simp at this
def clash (x y : Op) : Bool := (wrH x && (rdH y || wrH y)) || (wrH y && rdH x) || (isCallV x && isCallV y)
def indep0 (all : List Oper) (x y : Oper) : Bool := disj (wrSlots all x) (seen all y) && disj (wrSlots all y) (seen all x) && disj (wrSlots all x) (wrSlots all y) && !clash x.op y.op

theorem dst_in {o : Oper} {d : Nat} (h : o.dst = some d) : d ∈ wrSlots all o := by simp [wrSlots, h, optL]

theorem stepE_swap0 (hX : Calm X) {x y : Tag} (hbx : BaseIn all x) (hby : BaseIn all y) (hi : indep0 all x.o y.o = true) {st : St} {k : St → Prop} (hc : Closed k)
    (hk : stepE X cx fid rid all x st fun st => stepE X cx fid rid all y st k) : stepE X cx fid rid all y st fun st => stepE X cx fid rid all x st k := by
  simp only [indep0, Bool.and_eq_true, Bool.not_eq_true', clash, Bool.or_eq_false_iff, Bool.and_eq_false_iff] at hi
  obtain ⟨⟨⟨d1, d2⟩, d3⟩, ⟨c1, c2⟩, c3⟩ := hi
  have wx := stepEff_within (cx := cx) (fid := fid) (rid := rid) (all := all) (t := x) hbx (env := st.env) (heap := st.heap)
  have wy := stepEff_within (cx := cx) (fid := fid) (rid := rid) (all := all) (t := y) hby (env := st.env) (heap := st.heap)
  have same_y : ∀ (st' : St), (∀ s, s ∉ wrSlots all x.o → st'.env.get s = st.env.get s) → (rdH y.o.op = true → st'.heap = st.heap) → stepEff cx fid rid all y st'.env st'.heap = stepEff cx fid rid all y st.env st.heap :=
    fun st' h1 h2 => stepEff_same (fun s hs => h1 s (fun hw => disj_spec d1 hw hs)) h2
  have same_x : ∀ (st' : St), (∀ s, s ∉ wrSlots all y.o → st'.env.get s = st.env.get s) → (rdH x.o.op = true → st'.heap = st.heap) → stepEff cx fid rid all x st'.env st'.heap = stepEff cx fid rid all x st.env st.heap :=
    fun st' h1 h2 => stepEff_same (fun s hs => h1 s (fun hw => disj_spec d2 hw hs)) h2
  unfold stepE at hk ⊢
  generalize hex : stepEff cx fid rid all x st.env st.heap = ex at *
  generalize hey : stepEff cx fid rid all y st.env st.heap = ey at *
  have outP : ∀ {b : Option Nat} {ws : List (Nat × AV)} {l : List Nat} {env : Env}, (∀ s, b = some s → s ∈ l) → (∀ p ∈ ws, p.1 ∈ l) → ∀ s, s ∉ l → (setL ws (bareO b env)).get s = env.get s := by
    intro b ws l env h1 h2 s hs
    rw [setL_out ws _ s (fun p hp e => hs (e ▸ h2 p hp)), bareO_out (t := s) (fun t ht e => hs (e ▸ h1 t ht))]
  have outD : ∀ {o : Oper} {v : AV} {env : Env} {s : Nat}, s ∉ wrSlots all o → (setO env o.dst v).get s = env.get s := fun hs => setO_out (fun t ht e => hs (e ▸ dst_in ht))
  cases ex with
  | fail => exact absurd hk hX.fail
  | inl g args => exact wx.elim
  | dc g args => exact wx.elim
  | nilT n b => exact wx.elim
  | put b ws h =>
    obtain ⟨p1, p2, p3⟩ := wx
    simp only [effSem] at hk
    have hy : stepEff cx fid rid all y (setL ws (bareO b st.env)) (h.getD st.heap) = ey := by
      have := same_y ⟨setL ws (bareO b st.env), h.getD st.heap, st.defers, st.bor⟩ (fun s hs => outP p1 p2 s hs) (fun hr => by
        rcases c1 with c1 | c1
        · rw [p3 c1]; rfl
        · rw [hr] at c1; simp at c1)
      exact this
    rw [hy] at hk
    cases ey with
    | inl g' args' => exact wy.elim
    | dc g' args' => exact wy.elim
    | nilT n' b' => exact wy.elim
    | fail => exact absurd hk hX.fail
    | put b' ws' h' =>
      obtain ⟨q1, q2, q3⟩ := wy
      simp only [effSem] at hk ⊢
      have hx : stepEff cx fid rid all x (setL ws' (bareO b' st.env)) (h'.getD st.heap) = .put b ws h := by
        have := same_x ⟨setL ws' (bareO b' st.env), h'.getD st.heap, st.defers, st.bor⟩ (fun s hs => outP q1 q2 s hs) (fun hr => by
          rcases c2 with c2 | c2
          · rw [q3 c2]; rfl
          · rw [hr] at c2; simp at c2)
        exact this
      rw [hx]
      refine hc _ _ ?_ hk
      refine ⟨fun t => ?_, ?_, rfl, rfl⟩
      · show (setL ws' (bareO b' (setL ws (bareO b st.env)))).get t = (setL ws (bareO b (setL ws' (bareO b' st.env)))).get t
        by_cases hw : t ∈ wrSlots all x.o
        · have hn : t ∉ wrSlots all y.o := fun hy => disj_spec d3 hw hy
          rw [outP q1 q2 t hn]
          exact setL_pt _ _ _ _ (bareO_pt (outP q1 q2 t hn).symm)
        · rw [outP p1 p2 t hw]
          exact setL_pt _ _ _ _ (bareO_pt (outP p1 p2 t hw))
      · cases h with
        | none => rfl
        | some hh =>
          cases h' with
          | none => rfl
          | some hh' =>
            exfalso
            rcases c1 with c1 | c1
            · have := p3 c1; simp at this
            · have : wrH y.o.op = true := by
                cases e : wrH y.o.op
                · have := q3 e; simp at this
                · rfl
              rw [this] at c1; simp at c1
    | call g args =>
      simp only [effSem] at hk ⊢
      refine hX.mono _ _ _ _ (fun r hr => ?_) hk
      have hx : stepEff cx fid rid all x (setO st.env y.o.dst r) st.heap = .put b ws h := same_x ⟨setO st.env y.o.dst r, st.heap, st.defers, st.bor⟩ (fun s hs => outD hs) (fun _ => rfl)
      rw [hx]
      refine hc _ _ ?_ hr
      refine ⟨fun t => ?_, rfl, rfl, rfl⟩
      by_cases hw : t ∈ wrSlots all x.o
      · have hn : t ∉ wrSlots all y.o := fun hy => disj_spec d3 hw hy
        show (setO (setL ws (bareO b st.env)) y.o.dst r).get t = (setL ws (bareO b (setO st.env y.o.dst r))).get t
        rw [outD hn]
        exact setL_pt _ _ _ _ (bareO_pt (outD hn).symm)
      · show (setO (setL ws (bareO b st.env)) y.o.dst r).get t = (setL ws (bareO b (setO st.env y.o.dst r))).get t
        rw [outP p1 p2 t hw]
        exact setO_pt (outP p1 p2 t hw)
  | call g args =>
    simp only [effSem] at hk
    have hy : ∀ r, stepEff cx fid rid all y (setO st.env x.o.dst r) st.heap = ey := fun r => same_y ⟨setO st.env x.o.dst r, st.heap, st.defers, st.bor⟩ (fun s hs => outD hs) (fun _ => rfl)
    simp only [hy] at hk
    cases ey with
    | inl g' args' => exact wy.elim
    | dc g' args' => exact wy.elim
    | nilT n' b' => exact wy.elim
    | fail => obtain ⟨r, hr⟩ := hX.some _ _ _ hk; exact absurd hr hX.fail
    | put b' ws' h' =>
      obtain ⟨q1, q2, q3⟩ := wy
      simp only [effSem] at hk ⊢
      have hx : stepEff cx fid rid all x (setL ws' (bareO b' st.env)) (h'.getD st.heap) = .call g args := by
        have := same_x ⟨setL ws' (bareO b' st.env), h'.getD st.heap, st.defers, st.bor⟩ (fun s hs => outP q1 q2 s hs) (fun hr => by
          rcases c2 with c2 | c2
          · rw [q3 c2]; rfl
          · rw [hr] at c2; simp at c2)
        exact this
      rw [hx]
      refine hX.mono _ _ _ _ (fun r hr => ?_) hk
      refine hc _ _ ?_ hr
      refine ⟨fun t => ?_, rfl, rfl, rfl⟩
      by_cases hw : t ∈ wrSlots all y.o
      · have hn : t ∉ wrSlots all x.o := fun hy => disj_spec d3 hy hw
        show (setL ws' (bareO b' (setO st.env x.o.dst r))).get t = (setO (setL ws' (bareO b' st.env)) x.o.dst r).get t
        rw [outD hn]
        exact setL_pt _ _ _ _ (bareO_pt (outD hn))
      · show (setL ws' (bareO b' (setO st.env x.o.dst r))).get t = (setO (setL ws' (bareO b' st.env)) x.o.dst r).get t
        rw [outP q1 q2 t hw]
        exact setO_pt (outP q1 q2 t hw).symm
    | call g' args' =>
      exfalso
      rcases c3 with c3 | c3
      · exact absurd wx (by simp [Eff.within, c3])
      · exact absurd wy (by simp [Eff.within, c3])

/-- Two results of one call, taken apart. -/
def twoParts (x y : Oper) : Bool :=
  match x.op, y.op, x.dst, y.dst, x.guard, y.guard with
  | .extract (.tmp s) i, .extract (.tmp t) j, some d, some e, none, none => Nat.beq s t && !Nat.beq i j && !Nat.beq d e && !Nat.beq d s && !Nat.beq e s
  | _, _, _, _, _, _ => false
def indep (all : List Oper) (x y : Oper) : Bool := indep0 all x y || twoParts x y

theorem stepE_extract {t : Tag} {s i d : Nat} (ho : t.o.op = .extract (.tmp s) i) (hd : t.o.dst = some d) (hg : t.o.guard = none) {st : St} {k : St → Prop} (hX : Calm X) (hk : stepE X cx fid rid all t st k) :
    ∃ vs v, st.env.get s = .tup vs ∧ vs[i]? = some v ∧ k ⟨(st.env.set s (.tup (vs.set i v.strip))).set d v, st.heap, st.defers, st.bor⟩ := by
  unfold stepE stepEff at hk
  rw [hg] at hk
  dsimp only at hk
  unfold effOp at hk
  rw [ho, hd] at hk
  dsimp only at hk
  cases hs : st.env.get s with
  | tup vs =>
    rw [hs] at hk
    dsimp only at hk
    cases hv : vs[i]? with
    | none => rw [hv] at hk; exact absurd hk hX.fail
    | some v => rw [hv] at hk; exact ⟨vs, v, rfl, hv, hk⟩
  | _ => rw [hs] at hk; exact absurd hk hX.fail
theorem extract_stepE {t : Tag} {s i d : Nat} (ho : t.o.op = .extract (.tmp s) i) (hd : t.o.dst = some d) (hg : t.o.guard = none) {st : St} {k : St → Prop} {vs : List AV} {v : AV} (hs : st.env.get s = .tup vs) (hv : vs[i]? = some v)
    (hk : k ⟨(st.env.set s (.tup (vs.set i v.strip))).set d v, st.heap, st.defers, st.bor⟩) : stepE X cx fid rid all t st k := by
  unfold stepE stepEff
  rw [hg]
  dsimp only
  unfold effOp
  rw [ho, hd]
  dsimp only
  rw [hs]
  dsimp only
  rw [hv]
  exact hk

theorem twoParts_swap (hX : Calm X) {x y : Tag} (hi : twoParts x.o y.o = true) {st : St} {k : St → Prop} (hc : Closed k)
    (hk : stepE X cx fid rid all x st fun st => stepE X cx fid rid all y st k) : stepE X cx fid rid all y st fun st => stepE X cx fid rid all x st k := by
  unfold twoParts at hi
  split at hi
  · rename_i s i t j d e hxo hyo hxd hyd hxg hyg
    simp only [Bool.and_eq_true, Bool.not_eq_true', beq_eq, decide_eq_true_eq, decide_eq_false_iff_not] at hi
    obtain ⟨⟨⟨⟨rfl, hij⟩, hde⟩, hds⟩, hes⟩ := hi
    obtain ⟨vs, v, h1, h2, h3⟩ := stepE_extract hxo hxd hxg hX hk
    obtain ⟨ws, u, k1, k2, k3⟩ := stepE_extract hyo hyd hyg hX h3
    dsimp only at k1
    rw [get_set, if_neg hds, get_set, if_pos rfl] at k1
    injection k1 with k1
    subst k1
    rw [List.getElem?_set_ne hij] at k2
    refine extract_stepE hyo hyd hyg h1 k2 (extract_stepE hxo hxd hxg (vs := vs.set j u.strip) (v := v) ?_ ?_ ?_)
    · dsimp only; rw [get_set, if_neg hes, get_set, if_pos rfl]
    · rw [List.getElem?_set_ne (fun h => hij h.symm)]; exact h2
    · refine hc _ _ ?_ k3
      refine ⟨fun t => ?_, rfl, rfl, rfl⟩
      simp only [get_set]
      rw [List.set_comm _ _ hij]
      have hed : ¬ e = d := fun h => hde h.symm
      have hsd : ¬ s = d := fun h => hds h.symm
      have hse : ¬ s = e := fun h => hes h.symm
      by_cases a1 : d = t
      · subst a1; simp [hed, hsd]
      · by_cases a2 : e = t
        · subst a2; simp [a1, hse]
        · by_cases a3 : s = t <;> simp [a1, a2, a3]
  · simp at hi

theorem stepE_swap (hX : Calm X) {x y : Tag} (hbx : BaseIn all x) (hby : BaseIn all y) (hi : indep all x.o y.o = true) {st : St} {k : St → Prop} (hc : Closed k)
    (hk : stepE X cx fid rid all x st fun st => stepE X cx fid rid all y st k) : stepE X cx fid rid all y st fun st => stepE X cx fid rid all x st k := by
  unfold indep at hi
  rw [Bool.or_eq_true] at hi
  rcases hi with hi | hi
  · exact stepE_swap0 hX hbx hby hi hc hk
  · exact twoParts_swap hX hi hc hk
end
end Ax

/- Drawn regions: any order does what the text's order does. -/
set_option linter.unusedVariables false
set_option linter.unusedSimpArgs false
namespace Ax
open Go Go.RowKit

section
variable {X : Rec Prop} {cx : Ctx} {fid rid : Nat} {all : List Oper}

def stepsE (X : Rec Prop) (cx : Ctx) (fid rid : Nat) (all : List Oper) : List Tag → St → (St → Prop) → Prop
  | [], st, k => k st
  | t :: r, st, k => stepE X cx fid rid all t st fun st => stepsE X cx fid rid all r st k

theorem stepsE_closed (hX : Calm X) {k : St → Prop} (hc : Closed k) : ∀ (l : List Tag), Closed fun st => stepsE X cx fid rid all l st k
  | [] => hc
  | t :: r => stepE_closed hX (stepsE_closed hX hc r)

theorem stepsE_front (hX : Calm X) {k : St → Prop} (hc : Closed k) {t : Tag} (ht : BaseIn all t) : ∀ (l m : List Tag), (∀ u ∈ l, indep all u.o t.o = true ∧ BaseIn all u) → ∀ st, stepsE X cx fid rid all (l ++ t :: m) st k →
    stepE X cx fid rid all t st fun st => stepsE X cx fid rid all (l ++ m) st k
  | [], m, _, st, h => h
  | u :: l, m, hi, st, h => by
    simp only [List.cons_append, stepsE] at h ⊢
    refine stepE_swap hX (hi u (by simp)).2 ht (hi u (by simp)).1 (stepsE_closed hX hc (l ++ m)) (stepE_mono hX (fun s hs => ?_) h)
    exact stepsE_front hX hc ht l m (fun v hv => hi v (by simp [hv])) s hs

def tags (P : Program) : Nat → Nat → List Oper → List Tag
  | _, _, [] => []
  | ix, base, o :: rest => ⟨ix, base, o, rest⟩ :: tags P (ix + 1) (base + (hoisted P o).length) rest

theorem guard_get {env : Env} {j : Nat} {b : Bool} (hb : envGuard all env j = .bool b) : ∀ t, (setO env (guardSlot all j) (.bool b)).get t = env.get t := by
  intro t
  unfold envGuard at hb
  unfold guardSlot
  cases ho : all[j]? with
  | none => rfl
  | some o =>
    rw [ho] at hb
    simp only [Option.bind_some] at hb ⊢
    cases hd : o.dst with
    | none => rfl
    | some d =>
      rw [hd] at hb
      simp only [setO] at hb ⊢
      rw [get_set]
      split
      · rename_i e; subst e; exact hb.symm
      · rfl

theorem effSem_noIX {I : FuncId → List AV → Heap → (AV → Heap → Prop) → Prop} {d : Option Nat} {e : Eff} {st : St} {k : St → Prop} {l wh cv} {J} (hw : e.within l wh cv) (h : effSem X I J d e st k) : effSem X (noIX X) (noJX X) d e st k := by
  cases e with
  | inl g args => exact hw.elim
  | dc g args => exact hw.elim
  | nilT n b => exact hw.elim
  | _ => exact h

theorem effSem_anyJ {I : FuncId → List AV → Heap → (AV → Heap → Prop) → Prop} {d : Option Nat} {e : Eff} {st : St} {k : St → Prop} {l wh cv} {J J'} (hw : e.within l wh cv) (h : effSem X I J d e st k) : effSem X I J' d e st k := by
  cases e with
  | dc g args => exact hw.elim
  | nilT n b => exact hw.elim
  | _ => exact h

theorem isBase_sub {d : Option Nat} : ∀ (l m : List Oper), isBaseO d m = true → isBaseO d (l ++ m) = true
  | [], m, h => h
  | o :: l, m, h => by
    have ih := isBase_sub l m h
    cases d with
    | none => simp [isBaseO] at h
    | some d =>
      simp only [isBaseO, List.cons_append] at ih ⊢
      unfold isBase
      split
      · rename_i h1; cases h1
      · rename_i h1; simp only [List.cons.injEq] at h1; obtain ⟨_, rfl⟩ := h1; simp [ih]
      · rename_i h1; simp only [List.cons.injEq] at h1; obtain ⟨_, rfl⟩ := h1; exact ih

theorem denOps_steps (hX : Calm X) {I : FuncId → List AV → Heap → (AV → Heap → Prop) → Prop} {k0 k : St → Prop} (hc : Closed k) (hk0 : ∀ st, k0 st → k st) : ∀ (rest : List Oper) (ix base : Nat) (st : St), (∃ l, all = l ++ rest) →
    denOps X cx I true fid rid all ix base rest st k0 → stepsE X cx fid rid all (tags cx.P ix base rest) st k
  | [], ix, base, st, _, h => hk0 _ (by simpa only [denOps] using h)
  | o :: rest, ix, base, ⟨env, heap, defers, bor⟩, ⟨l0, hl0⟩, h => by
    have hsub : ∃ l, all = l ++ rest := ⟨l0 ++ [o], by simp [hl0]⟩
    have hbase : isBaseO o.dst rest = true → isBaseO o.dst all = true := fun hb' => by obtain ⟨l, hl⟩ := hsub; rw [hl]; exact isBase_sub l rest hb'
    have ih := fun st => denOps_steps hX (I := I) hc hk0 rest (ix + 1) (base + (hoisted cx.P o).length) st hsub
    have cl := stepsE_closed (cx := cx) (fid := fid) (rid := rid) (all := all) hX hc (tags cx.P (ix + 1) (base + (hoisted cx.P o).length) rest)
    unfold denOps at h
    simp only [tags, stepsE, stepE, stepEff]
    cases hg : o.guard with
    | none =>
      rw [hg] at h
      simp only [denOp_eff] at h
      exact effSem_mono hX ih (effSem_noIX (effOp_within hbase) h)
    | some jw =>
      obtain ⟨j, want⟩ := jw
      rw [hg] at h
      dsimp only at h ⊢
      have go : ∀ env', (∀ t, env'.get t = env.get t) → (denOp X cx I true fid rid ix base o rest ⟨env', heap, defers, bor⟩ fun st => denOps X cx I true fid rid all (ix + 1) (base + (hoisted cx.P o).length) rest st k0) →
          effSem X (noIX X) (noJX X) o.dst (effOp cx true fid rid ix base o rest env heap) ⟨env, heap, defers, bor⟩ fun st => stepsE X cx fid rid all (tags cx.P (ix + 1) (base + (hoisted cx.P o).length) rest) st k := by
        intro env' he hk
        rw [denOp_eff, effOp_same (env' := env) (heap' := heap) (fun s _ => he s) (fun _ => rfl)] at hk
        exact effSem_eq (st := ⟨env', heap, defers, bor⟩) hX cl ⟨he, rfl, rfl, rfl⟩ (effSem_mono hX ih (effSem_noIX (effOp_within hbase) hk))
      have pass : ∀ env', (∀ t, env'.get t = env.get t) → (putK env' o.dst (.tup []) fun env => denOps X cx I true fid rid all (ix + 1) (base + (hoisted cx.P o).length) rest ⟨env, heap, defers, bor⟩ k0) →
          effSem X (noIX X) (noJX X) o.dst (.put none (optW o.dst (.tup [])) none) ⟨env, heap, defers, bor⟩ fun st => stepsE X cx fid rid all (tags cx.P (ix + 1) (base + (hoisted cx.P o).length) rest) st k := by
        intro env' he hk
        rw [putK_setO] at hk
        simp only [effSem, setL_optW, bareO, Option.getD]
        refine cl _ _ ?_ (ih _ hk)
        exact ⟨fun t => setO_pt (he t), rfl, rfl, rfl⟩
      split at h
      · rename_i b hb
        have he := guard_get hb
        simp only [hb]
        cases want <;> cases b <;> simp only [branch_eq hX.br, cond_true, cond_false] at h
        · simp only [if_true]; exact go _ he h
        · simp only [Bool.true_eq_false, if_false]; exact pass _ he h
        · simp only [Bool.false_eq_true, if_false]; exact pass _ he h
        · simp only [if_true]; exact go _ he h
      · rename_i hb
        simp only [hb]
        exact pass env (fun _ => rfl) h
      · exact absurd h hX.fail

/-! ### what a calm region is -/
def maskOf (ms : List Nat) (o : Oper) : Nat := o.after.toList.foldr (fun e acc => if Region.binds .any e then 2 ^ e.on ||| ms.getD e.on 0 ||| acc else acc) 0
def masks : List Nat → List Oper → List Nat
  | ms, [] => ms
  | ms, o :: r => masks (ms ++ [maskOf ms o]) r
def backB (i : Nat) (o : Oper) : Bool := o.after.toList.all fun e => !Region.binds .any e || Nat.blt e.on i
def pairB (all : List Oper) (ms : List Nat) (i j : Nat) : Bool :=
  match all[i]?, all[j]? with
  | some x, some y => Nat.testBit (ms.getD i 0) j || indep all y x
  | _, _ => true
def calmB (all : List Oper) : Bool :=
  (List.range all.length).all fun i => (match all[i]? with | some o => backB i o | none => true) && (List.range i).all fun j => pairB all (masks [] all) i j

def PredsIn (all : List Oper) (L : Nat → Prop) (i : Nat) : Prop := ∀ o, all[i]? = some o → ∀ e ∈ o.after.toList, Region.binds .any e = true → L e.on
def DownL (all : List Oper) (L : Nat → Prop) : Prop := ∀ i, L i → PredsIn all L i

theorem maskOf_bit {ms : List Nat} {o : Oper} {j : Nat} (h : Nat.testBit (maskOf ms o) j = true) : ∃ e ∈ o.after.toList, Region.binds .any e = true ∧ (e.on = j ∨ Nat.testBit (ms.getD e.on 0) j = true) := by
  unfold maskOf at h
  generalize o.after.toList = l at h
  induction l with
  | nil => simp at h
  | cons e r ih =>
    simp only [List.foldr_cons] at h
    split at h
    · rename_i hb
      simp only [Nat.testBit_or, Bool.or_eq_true, Nat.testBit_two_pow, decide_eq_true_eq] at h
      rcases h with (h | h) | h
      · exact ⟨e, by simp, hb, .inl h⟩
      · exact ⟨e, by simp, hb, .inr h⟩
      · obtain ⟨e', h1, h2⟩ := ih h
        exact ⟨e', by simp [h1], h2⟩
    · obtain ⟨e', h1, h2⟩ := ih h
      exact ⟨e', by simp [h1], h2⟩

theorem masks_ok : ∀ (r : List Oper) (ms : List Nat), (∀ i, all[ms.length + i]? = r[i]?) →
    (∀ i j, Nat.testBit (ms.getD i 0) j = true → ∀ L, DownL all L → PredsIn all L i → L j) → ∀ i j, Nat.testBit ((masks ms r).getD i 0) j = true → ∀ L, DownL all L → PredsIn all L i → L j
  | [], ms, _, h => h
  | o :: r, ms, hall, h => by
    refine masks_ok r (ms ++ [maskOf ms o]) (fun i => ?_) (fun i j hb L hd hp => ?_)
    · have := hall (i + 1)
      rw [List.getElem?_cons_succ] at this
      rw [← this]; congr 1; simp; omega
    · by_cases hi : i < ms.length
      · rw [List.getD_eq_getElem?_getD, List.getElem?_append_left hi, ← List.getD_eq_getElem?_getD] at hb; exact h i j hb L hd hp
      · by_cases e : i = ms.length
        · subst e
          have : (ms ++ [maskOf ms o]).getD ms.length 0 = maskOf ms o := by simp [List.getD]
          rw [this] at hb
          obtain ⟨e, he, hbd, hj⟩ := maskOf_bit hb
          have ho : all[ms.length]? = some o := by have := hall 0; simpa using this
          have hl : L e.on := hp o ho e he hbd
          rcases hj with rfl | hj
          · exact hl
          · exact h e.on j hj L hd (hd _ hl)
        · have : (ms ++ [maskOf ms o]).getD i 0 = 0 := by
            rw [List.getD_eq_getElem?_getD, List.getElem?_eq_none (by simp; omega)]; rfl
          rw [this] at hb; simp at hb

theorem calm_spec (h : calmB all = true) : (∀ i o, all[i]? = some o → ∀ e ∈ o.after.toList, Region.binds .any e = true → e.on < i) ∧
    ∀ i j x y, j < i → all[i]? = some x → all[j]? = some y → (∀ L, DownL all L → PredsIn all L i → L j) ∨ indep all y x = true := by
  unfold calmB at h
  rw [List.all_eq_true] at h
  constructor
  · intro i o ho e he hb
    have := h i (List.mem_range.2 (List.getElem?_eq_some_iff.1 ho).1)
    rw [Bool.and_eq_true, ho] at this
    have h1 := this.1
    simp only [backB, List.all_eq_true] at h1
    have := h1 e he
    rw [hb] at this
    simpa [blt_eq] using this
  · intro i j x y hj hx hy
    have := h i (List.mem_range.2 (List.getElem?_eq_some_iff.1 hx).1)
    rw [Bool.and_eq_true] at this
    have h2 := (List.all_eq_true.1 this.2) j (List.mem_range.2 hj)
    simp only [pairB, hx, hy, Bool.or_eq_true] at h2
    rcases h2 with h2 | h2
    · exact .inl (masks_ok all [] (fun i => by simp) (fun i j hb => by simp at hb) i j h2)
    · exact .inr h2
end
end Ax
