import Derived.Test.YtflebdkgdnfjoaaGreatME
import Derived.IntWalk
set_option linter.unusedVariables false
set_option linter.unusedSimpArgs false
namespace Ax
open Go Go.RowKit
section
variable {P : Program} {A : Amb} {nt : Nat} {pend : List (Nat × AObj)} {env : Env} {heap : Heap} {bor : Option (Nat × AV)} {tm : Array Value} {w : World} {U : Nat → Nat} {bl : Blocks} {ob : Loc → Option Nat}
theorem frozen_new {w : World} {b : Nat} {c : Array Value} {e : TypeId} (h : w.heap[b]? = some (.cells c e)) (o : Nat) : w.frozen? ⟨b, o, none⟩ = false := by simp [World.frozen?, h]
theorem newVar_obj (h : Rel P A nt pend env heap bor tm w U bl ob) {id : Nat} (hid : bl[id]? = some none) {v : AV} {x : Value} {e : TypeId} (hg : heap.get id = .cells v.cells) (hv : Rep w (forb A bl heap) U bl v x) (hs : v.cells.all AV.scal = true)
    (hown : ∀ own, OwnAt w (forb A bl heap) U A.B own v x) (hA : A.bl0[id]? ≠ some none) :
    Rel P A nt (pend.filter fun p => p.1 != id) env heap bor tm (rowW w x.cells e) U (bl.set id (some w.heap.size)) ob := by
  obtain ⟨k1, k2, _⟩ := rep_cells hv hs
  have hnt : ∀ l, v ≠ .tup l := by intro l e; subst e; simp [AV.cells, AV.scal] at hs
  have hlt : id < bl.length := (List.getElem?_eq_some_iff.1 hid).1
  have hle : BlLe bl (bl.set id (some w.heap.size)) := by
    intro j b hj
    have hne : id ≠ j := fun e => by subst e; rw [hid] at hj; simp at hj
    rw [List.getElem?_set, if_neg hne]; exact hj
  have hforb : ∀ b, b < w.heap.size → forb A (bl.set id (some w.heap.size)) heap b → forb A bl heap b := by
    rintro b hb (hf | ⟨j, hj, hd⟩)
    · exact .inl hf
    · rw [List.getElem?_set] at hj
      by_cases e : id = j
      · subst e; simp [hlt] at hj; omega
      · rw [if_neg e] at hj; exact .inr ⟨j, hj, hd⟩
  have hblk : ∀ b, b < w.heap.size → (rowW w x.cells e).heap[b]? = w.heap[b]? := fun b hb => by show (w.heap.push _)[b]? = _; rw [Array.getElem?_push, if_neg (by omega)]
  have g : Grow0 w (forb A bl heap) U (rowW w x.cells e) (forb A (bl.set id (some w.heap.size)) heap) U :=
    ⟨fun b hb hf => .inl (hforb b hb hf), fun b hb _ => ⟨Nat.le_refl _, fun o _ => cell_block (hblk b hb) o⟩, fun b hb => ⟨by simp [rowW]; omega, Nat.le_refl _⟩⟩
  refine h.adopt hid rfl ?_ hA
  rw [hg]
  refine ⟨x.cells, e, (0, 0), rowW_block x.cells e, by rw [k1.1]; simp, fun o _ => frozen_new (rowW_block x.cells e) o, fun i y z hy hz => ⟨(k1.2 i y z hy (by simpa using hz)).mono g hle, fun p u hp hou => ?_⟩⟩
  obtain ⟨q, hq, hok⟩ := hown (fun p' => if p' = pth v i p then ob (.cell id i p) else none) _ u (cells_at hy hnt p u hp) hou
  refine ⟨q, ?_, own_keeps (by simpa using hok) g (fun b hb hlt hF => ⟨hblk b hlt, rfl, fun hf => hF (hforb b hlt hf)⟩)⟩
  unfold AV.cells at hy
  unfold pth at hq
  split at hy
  · rename_i l
    simp only at hq
    cases hv with
    | @agg _ _ vs hn hh =>
      simp only [vat] at hq
      have hz' : vs[i]? = some z := by simpa [Value.cells] using hz
      rw [hz'] at hq; exact hq
  · rename_i hna
    have hio : i = 0 := by have := (List.getElem?_eq_some_iff.1 hy).1; simp at this; exact this
    subst hio
    simp at hy; subst hy
    have hxc := (scal_rep hv (by
      have hh := hs
      unfold AV.cells at hh
      split at hh
      · exact absurd rfl (hna _)
      · simpa using hh)).1
    rw [hxc] at hz
    simp at hz; subst hz
    split at hq
    · exact absurd rfl (hna _)
    · exact hq
theorem hasZero_of {t : TypeId} (h : hasZero P t = true) : ∃ i z, P.info? t = some i ∧ i.zero = some z := by
  unfold hasZero at h
  cases hi : P.info? t with
  | none => simp [hi] at h
  | some i => simp [hi] at h; obtain ⟨z, hz⟩ := Option.isSome_iff_exists.1 h; exact ⟨i, z, rfl, hz⟩
theorem alloc_wp {a : Act} (ha : a.defers = A.ds) (h : Rel P A nt pend env heap bor a.tmps w U bl ob) {o : Oper} {t : TypeId} (ho : o.op = .alloc t) (hd : ∀ t, o.dst = some t → t < nt) {base : Nat} (hp : (base, .cells (zeroAV P t).cells) ∈ pend)
    (hz : hasZero P t = true) (hs : (zeroAV P t).cells.all AV.scal = true) (hA : A.bl0[base]? ≠ some none) {k : St → Prop} {Q : Exit → Act → World → Prop} (hk : putK env o.dst (.ptr base 0) fun env => k ⟨env, heap, [], bor⟩) :
    o.wp P a w (NextIs P A nt (pend.filter fun p => p.1 != base) k) Q := by
  obtain ⟨i, z, hi, hiz⟩ := hasZero_of hz
  obtain ⟨z1, z2, z3⟩ := zeroAV_run (w := w) (F := forb A bl heap) (U := U) (bl := bl) (B := A.B) hi hiz
  obtain ⟨p1, p2, _⟩ := h.pend _ hp
  have h' := newVar_obj (e := t) h p1 p2 z2 hs z3 hA
  have hlt : base < bl.length := (List.getElem?_eq_some_iff.1 p1).1
  obtain ⟨ob', h2⟩ := h'.put0 hd (v := .ptr base 0) (x := .pointer (some ⟨w.heap.size, 0, none⟩)) (.ptr (by rw [List.getElem?_set, if_pos rfl]; simp [hlt])) (fun own => .bare (bare_ptr trivial))
  refine value_wp (x := .pointer (some ⟨w.heap.size, 0, none⟩)) (w' := rowW w z.cells t) ?_ (next_put ha ⟨_, _, ob', h2⟩ hk)
  unfold execOp
  rw [ho]
  simp only [Instr.alloc, Sem.run_bind, z1, Result.andThen_ok]
  simp [newVar, newRow, rowW]
theorem box_wp {a : Act} (ha : a.defers = A.ds) (h : Rel P A nt pend env heap bor a.tmps w U bl ob) {o : Oper} {t : TypeId} {x : Operand} {v : AV} (ho : o.op = .box t x) (hd : ∀ t, o.dst = some t → t < nt) (hv : Rep w (forb A bl heap) U bl v (a.eval x)) (hb : Bare v)
    (hs : v.cells.all AV.scal = true) (hA : A.bl0.length ≤ heap.length) {k : St → Prop} {Q : Exit → Act → World → Prop} (hk : putK env o.dst (.ptr heap.length 0) fun env => k ⟨env, heap ++ [.cells v.cells], [], bor⟩) :
    o.wp P a w (NextIs P A nt pend k) Q := by
  have h0 := h.hoist [.cells v.cells] (fun o ho => by simp at ho; subst ho; rfl)
  have hforb : ∀ b, forb A (bl ++ List.replicate 1 none) (heap ++ [.cells v.cells]) b → forb A bl heap b := by
    rintro b (hf | ⟨j, hj, hdd⟩)
    · exact .inl hf
    · by_cases hjl : j < bl.length
      · rw [List.getElem?_append_left hjl] at hj
        rw [heap_get_append, if_pos (by rw [← h.len]; exact hjl)] at hdd
        exact .inr ⟨j, hj, hdd⟩
      · rw [List.getElem?_append_right (by omega), List.getElem?_replicate] at hj
        split at hj <;> simp at hj
  have hle : BlLe bl (bl ++ List.replicate 1 none) := fun j b hj => by
    rw [List.getElem?_append_left (List.getElem?_eq_some_iff.1 hj).1]; exact hj
  have hid : (bl ++ List.replicate 1 none)[heap.length]? = some none := by rw [← h.len, List.getElem?_append_right (Nat.le_refl _)]; simp
  have h' := newVar_obj (e := t) h0 hid (v := v) (x := a.eval x) (by rw [heap_get_append, if_neg (by omega)]; simp [Heap.get])
    (hv.mono ⟨fun b _ hf => .inl (hforb b hf), fun b _ _ => ⟨Nat.le_refl _, fun _ _ => rfl⟩, fun _ hb => ⟨hb, Nat.le_refl _⟩⟩ hle) hs (fun own => .bare hb) (by rw [List.getElem?_eq_none hA]; simp)
  have h1 := h'.unpend (pend' := pend) (fun p hp => List.mem_filter.2 ⟨List.mem_append_left _ hp, by
    have := (List.getElem?_eq_some_iff.1 (h.pend p hp).1).1
    rw [h.len] at this
    simp; omega⟩)
  obtain ⟨ob', h2⟩ := h1.put0 hd (v := .ptr heap.length 0) (x := .pointer (some ⟨w.heap.size, 0, none⟩)) (.ptr (by rw [List.getElem?_set, if_pos rfl]; simp [h.len])) (fun own => .bare (bare_ptr trivial))
  refine value_wp (x := .pointer (some ⟨w.heap.size, 0, none⟩)) (w' := rowW w (a.eval x).cells t) ?_ (next_put ha ⟨_, _, ob', h2⟩ hk)
  unfold execOp
  rw [ho]
  simp [Instr.box, newVar, newRow, rowW]
theorem move_wp {a : Act} (ha : a.defers = A.ds) (h : Rel P A nt pend env heap bor a.tmps w U bl ob) {o : Oper} {s : Nat} (ho : o.op = .move (.tmp s) ∨ o.op = .assign (.tmp s)) (hd : ∀ t, o.dst = some t → t < nt)
    {k : St → Prop} {Q : Exit → Act → World → Prop} (hk : putK (env.bare s) o.dst (env.get s) fun env => k ⟨env, heap, [], bor⟩) : o.wp P a w (NextIs P A nt pend k) Q := by
  obtain ⟨ob', h'⟩ := h.move s hd
  refine value_wp (x := a.tmps.getD s undef) (w' := w) ?_ (next_put ha ⟨_, _, ob', h'⟩ hk)
  unfold execOp
  rcases ho with ho | ho <;> rw [ho] <;> rfl
theorem copy_wp {a : Act} (ha : a.defers = A.ds) (h : Rel P A nt pend env heap bor a.tmps w U bl ob) {o : Oper} {x : Operand} {v : AV} (ho : o.op = .move x ∨ o.op = .assign x) (hd : ∀ t, o.dst = some t → t < nt)
    (hv : Rep w (forb A bl heap) U bl v (a.eval x)) (hown : ∀ own, OwnAt w (forb A bl heap) U A.B own v (a.eval x))
    {k : St → Prop} {Q : Exit → Act → World → Prop} (hk : putK env o.dst v fun env => k ⟨env, heap, [], bor⟩) : o.wp P a w (NextIs P A nt pend k) Q := by
  obtain ⟨ob', h'⟩ := h.put0 hd hv hown
  refine value_wp (x := a.eval x) (w' := w) ?_ (next_put ha ⟨_, _, ob', h'⟩ hk)
  unfold execOp
  rcases ho with ho | ho <;> rw [ho] <;> rfl
theorem store_wp {a : Act} (ha : a.defers = A.ds) (h : Rel P A nt pend env heap bor a.tmps w U bl ob) {o : Oper} {t : TypeId} {p x : Operand} {heap' : Heap} (ho : o.op = .store t p x) (hd : ∀ t, o.dst = some t → t < nt) (hpos : 0 < tySz P t)
    (hs : storeAV P heap t (evo P 0 env p) (evo P t env x) = some heap') {k : St → Prop} {Q : Exit → Act → World → Prop}
    (hk : match x with | .tmp s => putK (env.bare s) o.dst (.tup []) (fun env => k ⟨env, heap', [], bor⟩) | _ => putK env o.dst (.tup []) (fun env => k ⟨env, heap', [], bor⟩)) :
    o.wp P a w (NextIs P A nt pend k) Q := by
  obtain ⟨hvl, hvs, hcase⟩ := storeAV_of hs
  have hpr := evo_at (a := a) h 0 p
  rcases hcase with ⟨id, off, cs, hp, hg, hl, rfl⟩ | ⟨id, sz, i, off, hp, hsa⟩
  case inr =>
    rw [hp] at hpr
    obtain ⟨b, hb, hpe⟩ : ∃ b, bl[id]? = some (some b) ∧ a.eval p = .pointer (some ⟨b, i * sz + off, none⟩) := by
      generalize a.eval p = q at hpr
      cases hpr with | eptr hb => exact ⟨_, hb, rfl⟩
    cases hio : (heap.get id).isO with
    | true =>
      obtain ⟨sz', n', g, hg⟩ : ∃ sz' n' g, heap.get id = .oarr sz' n' g := by
        cases hh : heap.get id <;> rw [hh] at hio <;> first | exact ⟨_, _, _, rfl⟩ | cases hio
      unfold storeArr at hsa
      rw [hg] at hsa
      simp only at hsa
      cases hc : (Nat.beq sz sz' && Nat.blt i n' && Nat.ble (off + (evo P t env x).cells.length) sz && (evo P t env x).isData) with
      | false => rw [hc] at hsa; simp at hsa
      | true =>
        rw [hc] at hsa
        simp only [cond_true, Option.some.injEq] at hsa
        subst hsa
        simp only [Bool.and_eq_true, beq_eq, blt_eq, ble_eq, decide_eq_true_eq] at hc
        obtain ⟨⟨⟨rfl, hi⟩, hle⟩, hdt⟩ := hc
        have finO : ∀ {env' : Env} {ob' : Loc → Option Nat} {w' : World}, (Instr.storeAt t (.pointer (some ⟨b, i * sz + off, none⟩)) (a.eval x)).run P w = .ok () w' →
            Rel P A nt pend env' (heap.set id (.oarr sz n' (upd g i (setElem (g i) off sz (evo P t env x))))) bor a.tmps w' U bl ob' →
            (putK env' o.dst (.tup []) fun e2 => k ⟨e2, heap.set id (.oarr sz n' (upd g i (setElem (g i) off sz (evo P t env x)))), [], bor⟩) → o.wp P a w (NextIs P A nt pend k) Q := by
          intro env' ob' w' hrun hrel hk'
          obtain ⟨ob2, h2⟩ := undef_rep hrel hd
          refine skip_wp (w' := w') ?_ (next_put ha ⟨_, _, ob2, h2⟩ hk')
          unfold execOp
          rw [ho]
          simp only [hpe, Sem.run_bind, hrun, Result.andThen_ok, Sem.run_pure]
        cases x with
        | tmp s =>
          simp only at hk
          have hbare := h.bareAt s
          obtain ⟨w', r1, ob', r2⟩ := store_genO hbare hb hg hi hle hdt (h.env s).1 hvl hvs hpos (ov := fun p => ob (.env s p)) (h.env s).2 (fun p b hh => h.obok _ b hh) (fun p q b h1 h2 => by have := h.obinj _ _ b h1 h2; injection this) (fun p b l h1 h2 => by
            cases l with
            | env t q =>
              simp only at h2
              by_cases e : t = s
              · simp [e] at h2
              · simp only [e, if_false] at h2
                have := h.obinj _ _ b h1 h2
                injection this with e1; exact e e1.symm
            | cell j i q => exact absurd (h.obinj _ _ b h1 h2) (by simp)
            | mapv j i q => exact absurd (h.obinj _ _ b h1 h2) (by simp))
          exact finO r1 r2 hk
        | const v =>
          simp only at hk
          obtain ⟨w', r1, ob', r2⟩ := store_genO h hb hg hi hle hdt (evo_at (a := a) h t (.const v)) hvl hvs hpos (ov := fun _ => none) (evo_const_own t (by simp) _) (fun p b hh => by simp at hh) (fun p q b h1 => by simp at h1) (fun p b l h1 => by simp at h1)
          exact finO r1 r2 hk
        | func f =>
          simp only at hk
          obtain ⟨w', r1, ob', r2⟩ := store_genO h hb hg hi hle hdt (evo_at (a := a) h t (.func f)) hvl hvs hpos (ov := fun _ => none) (evo_const_own t (by simp) _) (fun p b hh => by simp at hh) (fun p q b h1 => by simp at h1) (fun p b l h1 => by simp at h1)
          exact finO r1 r2 hk
        | global g2 =>
          simp only at hk
          obtain ⟨w', r1, ob', r2⟩ := store_genO h hb hg hi hle hdt (evo_at (a := a) h t (.global g2)) hvl hvs hpos (ov := fun _ => none) (evo_const_own t (by simp) _) (fun p b hh => by simp at hh) (fun p q b h1 => by simp at h1) (fun p b l h1 => by simp at h1)
          exact finO r1 r2 hk
    | false =>
    obtain ⟨w', r1, r2⟩ := storeArr_sound h hsa hio hb (evo_at (a := a) h t x) hvl hvs hpos
    have fin2 : ∀ {env' : Env} {ob' : Loc → Option Nat}, Rel P A nt pend env' heap' bor a.tmps w' U bl ob' → (putK env' o.dst (.tup []) fun e2 => k ⟨e2, heap', [], bor⟩) → o.wp P a w (NextIs P A nt pend k) Q := by
      intro env' ob' hrel hk'
      obtain ⟨ob2, h2⟩ := undef_rep hrel hd
      refine skip_wp (w' := w') ?_ (next_put ha ⟨_, _, ob2, h2⟩ hk')
      unfold execOp
      rw [ho]
      simp only [hpe, Sem.run_bind, r1, Result.andThen_ok, Sem.run_pure]
    cases x with
    | tmp s => exact fin2 (r2.bareAt s) hk
    | const v => exact fin2 r2 hk
    | func f => exact fin2 r2 hk
    | global g => exact fin2 r2 hk
  rw [hp] at hpr
  obtain ⟨b, hb, hpe⟩ : ∃ b, bl[id]? = some (some b) ∧ a.eval p = .pointer (some ⟨b, off, none⟩) := by
    generalize a.eval p = q at hpr
    cases hpr with | ptr hb => exact ⟨_, hb, rfl⟩
  have fin : ∀ {env' : Env} {ob' : Loc → Option Nat} {w' : World}, (Instr.storeAt t (.pointer (some ⟨b, off, none⟩)) (a.eval x)).run P w = .ok () w' →
      Rel P A nt pend env' (heap.set id (.cells (setRange cs off (evo P t env x).cells))) bor a.tmps w' U bl ob' →
      (putK env' o.dst (.tup []) fun e2 => k ⟨e2, heap.set id (.cells (setRange cs off (evo P t env x).cells)), [], bor⟩) → o.wp P a w (NextIs P A nt pend k) Q := by
    intro env' ob' w' hrun hrel hk'
    obtain ⟨ob2, h2⟩ := undef_rep hrel hd
    refine skip_wp (w' := w') ?_ (next_put ha ⟨_, _, ob2, h2⟩ hk')
    unfold execOp
    rw [ho]
    simp only [hpe, Sem.run_bind, hrun, Result.andThen_ok, Sem.run_pure]
  cases x with
  | tmp s =>
    simp only at hk
    have hbare := h.bareAt s
    obtain ⟨w', r1, ob', r2⟩ := store_gen hbare hb hg hl (h.env s).1 hvl hvs hpos (ov := fun p => ob (.env s p)) (h.env s).2 (fun p b hh => h.obok _ b hh) (fun p q b h1 h2 => by have := h.obinj _ _ b h1 h2; injection this) (fun p b l h1 h2 => by
      cases l with
      | env t q =>
        simp only at h2
        by_cases e : t = s
        · simp [e] at h2
        · simp only [e, if_false] at h2
          have := h.obinj _ _ b h1 h2
          injection this with e1; exact e e1.symm
      | cell j i q => exact absurd (h.obinj _ _ b h1 h2) (by simp)
      | mapv j i q => exact absurd (h.obinj _ _ b h1 h2) (by simp))
    exact fin r1 r2 hk
  | const v =>
    simp only at hk
    obtain ⟨w', r1, ob', r2⟩ := store_gen h hb hg hl (evo_at (a := a) h t (.const v)) hvl hvs hpos (ov := fun _ => none) (evo_const_own t (by simp) _) (fun p b hh => by simp at hh) (fun p q b h1 => by simp at h1) (fun p b l h1 => by simp at h1)
    exact fin r1 r2 hk
  | func f =>
    simp only at hk
    obtain ⟨w', r1, ob', r2⟩ := store_gen h hb hg hl (evo_at (a := a) h t (.func f)) hvl hvs hpos (ov := fun _ => none) (evo_const_own t (by simp) _) (fun p b hh => by simp at hh) (fun p q b h1 => by simp at h1) (fun p b l h1 => by simp at h1)
    exact fin r1 r2 hk
  | global g =>
    simp only at hk
    obtain ⟨w', r1, ob', r2⟩ := store_gen h hb hg hl (evo_at (a := a) h t (.global g)) hvl hvs hpos (ov := fun _ => none) (evo_const_own t (by simp) _) (fun p b hh => by simp at hh) (fun p q b h1 => by simp at h1) (fun p b l h1 => by simp at h1)
    exact fin r1 r2 hk
theorem makeMap_wp {a : Act} (ha : a.defers = A.ds) (h : Rel P A nt pend env heap bor a.tmps w U bl ob) {o : Oper} {t : TypeId} (ho : o.op = .makeMap t none) (hd : ∀ t, o.dst = some t → t < nt) {base : Nat} {kt : TypeId} {ow : Bool} (hp : (base, .map kt ow []) ∈ pend)
    (hA : A.bl0[base]? ≠ some none) {k : St → Prop} {Q : Exit → Act → World → Prop} (hk : putK env o.dst (.mapr base) fun env => k ⟨env, heap, [], bor⟩) :
    o.wp P a w (NextIs P A nt (pend.filter fun p => p.1 != base) k) Q := by
  obtain ⟨p1, p2, _⟩ := h.pend _ hp
  have hlt : base < bl.length := (List.getElem?_eq_some_iff.1 p1).1
  have h' := h.adopt p1 (o := .map #[] 0) rfl (by
    rw [p2]
    refine ⟨#[], 0, by show (w.heap.push _)[w.heap.size]? = _; rw [Array.getElem?_push, if_pos rfl], ⟨rfl, fun i p e hp => by simp at hp⟩, ⟨fun i e hi => by simp at hi, fun i j e f hi => by simp at hi⟩, fun p hp => by simp at hp, fun i j p q hp => by simp at hp, fun _ => ⟨rfl, fun i e hi => by simp at hi⟩, fun i p e hp => by simp at hp⟩) hA
  obtain ⟨ob', h2⟩ := h'.put0 hd (v := .mapr base) (x := .map (some w.heap.size)) (.mapr (by rw [List.getElem?_set, if_pos rfl]; simp [hlt])) (fun own => .bare (bare_of rfl))
  refine value_wp (x := .map (some w.heap.size)) (w' := { w with heap := w.heap.push (.map #[] 0) }) ?_ (next_put ha ⟨_, _, ob', h2⟩ hk)
  unfold execOp
  rw [ho]
  simp [Instr.makeMap]
theorem extract_wp {a : Act} (ha : a.defers = A.ds) (h : Rel P A nt pend env heap bor a.tmps w U bl ob) {o : Oper} {s i : Nat} (ho : o.op = .extract (.tmp s) i) (hd : ∀ t, o.dst = some t → t < nt) {vs : List AV} {v : AV}
    (hv : env.get s = .tup vs) (hi : vs[i]? = some v) {k : St → Prop} {Q : Exit → Act → World → Prop} (hk : putK (env.set s (.tup (vs.set i v.strip))) o.dst v fun env => k ⟨env, heap, [], bor⟩) : o.wp P a w (NextIs P A nt pend k) Q := by
  obtain ⟨hr, hown⟩ := h.env s
  rw [hv] at hr hown
  obtain ⟨us, hus, hn, hh⟩ : ∃ us : Array Value, a.tmps.getD s undef = .tuple us ∧ vs.length = us.size ∧ ∀ (i : Nat) x y, vs[i]? = some x → us[i]? = some y → Rep w (forb A bl heap) U bl x y := by
    generalize a.tmps.getD s undef = q at hr
    cases hr with | tup hn hh => exact ⟨_, rfl, hn, hh⟩
  rw [hus] at hown
  have hlt : i < us.size := by rw [← hn]; exact (List.getElem?_eq_some_iff.1 hi).1
  have hrun : (execOp a.eval o).run P w = .ok (.value us[i]) w := by
    unfold execOp
    rw [ho]
    have : a.eval (.tmp s) = .tuple us := hus
    simp [this, Instr.extract, hlt]
  have hui : us[i]? = some us[i] := by simp [hlt]
  have low : ∀ l b, (match l with | Loc.env t p => if t = s ∧ p.head? = some i then none else ob (.env t p) | l => ob l) = some b → ob l = some b ∧ ∀ q, l ≠ .env s (i :: q) := by
    intro l b hl
    cases l with
    | env t p =>
      simp only at hl
      by_cases e : t = s ∧ p.head? = some i
      · simp [e] at hl
      · rw [if_neg e] at hl
        refine ⟨hl, fun q hq => e ?_⟩
        injection hq with h1 h2
        subst h1; subst h2; exact ⟨rfl, rfl⟩
    | cell id j p => exact ⟨hl, fun q hq => by cases hq⟩
    | mapv id j r => exact ⟨hl, fun q hq => by cases hq⟩
  have h1 : Rel P A nt pend (env.set s (.tup (vs.set i v.strip))) heap bor a.tmps w U bl
      (fun l => match l with | .env t p => if t = s ∧ p.head? = some i then none else ob (.env t p) | l => ob l) := by
    refine { h with env := fun t => ?_, obinj := fun l m b hl hm => h.obinj l m b (low l b hl).1 (low m b hm).1, obok := fun l b hl => h.obok l b (low l b hl).1 }
    rw [get_set]
    by_cases e : s = t
    · subst e
      rw [if_pos rfl, hus]
      refine ⟨.tup (by simpa using hn) (fun j x y hx hy => ?_), fun p u hp hou => ?_⟩
      · rw [List.getElem?_set] at hx
        by_cases e : i = j
        · subst e
          rw [if_pos rfl] at hx
          split at hx
          · simp at hx; subst hx; exact (hh i v y hi hy).strip
          · simp at hx
        · rw [if_neg e] at hx; exact hh j x y hx hy
      · cases p with
        | nil => simp [AV.at] at hp; subst hp; simp [AV.owned] at hou
        | cons j q =>
          simp only [AV.at] at hp
          by_cases e : i = j
          · subst e
            have : (vs.set i v.strip)[i]? = some v.strip := by rw [List.getElem?_set, if_pos rfl, if_pos (by rw [hn]; exact hlt)]
            rw [this] at hp
            rw [strip_bare v q u hp] at hou; cases hou
          · have : (vs.set i v.strip)[j]? = vs[j]? := by rw [List.getElem?_set, if_neg e]
            rw [this] at hp
            obtain ⟨y, hy, hok⟩ := hown (j :: q) u (by simpa [AV.at] using hp) hou
            refine ⟨y, hy, ?_⟩
            have e2 : ¬ (s = s ∧ (j :: q).head? = some i) := fun hh => e (by simpa using hh.2.symm)
            show OwnOK w _ U A.B (if s = s ∧ (j :: q).head? = some i then none else ob (.env s (j :: q))) u y
            rw [if_neg e2]; exact hok
    · rw [if_neg e]
      obtain ⟨q1, q2⟩ := h.env t
      refine ⟨q1, ?_⟩
      have e2 : (fun p => if t = s ∧ p.head? = some i then none else ob (.env t p)) = fun p => ob (.env t p) := funext fun p => if_neg (fun hh => e hh.1.symm)
      show OwnAt w _ U A.B (fun p => if t = s ∧ p.head? = some i then none else ob (.env t p)) _ _
      rw [e2]; exact q2
  cases hdst : o.dst with
  | none =>
    rw [hdst] at hk
    refine value_wp hrun ?_
    rw [hdst]
    exact next_put ha ⟨_, _, _, h1⟩ hk
  | some d =>
    rw [hdst] at hk
    refine value_wp hrun ?_
    rw [hdst]
    refine next_put ha ⟨_, _, _, h1.putG (hd d hdst) (v := v) (x := us[i]) (fun p => ob (.env s (i :: p))) (hh i v _ hi hui) (fun p u hp hou => ?_) (fun p b hb => ⟨h.obok _ b hb, fun q hq => ?_, fun l hl => ?_⟩)⟩ hk
    · obtain ⟨y, hy, hok⟩ := hown (i :: p) u (by simp only [AV.at, hi]; exact hp) hou
      refine ⟨y, ?_, hok⟩
      simpa [vat, hui] using hy
    · have := h.obinj _ _ b hb hq
      injection this with _ e2; injection e2
    · obtain ⟨l1, l2⟩ := low l b hl
      exact absurd (h.obinj _ _ b l1 hb) (l2 p)
end
end Ax

namespace Ax
open Go Go.RowKit
section
variable {P : Program} {A : Amb} {nt : Nat} {pend : List (Nat × AObj)} {env : Env} {heap : Heap} {bor : Option (Nat × AV)} {tm : Array Value} {w : World} {U : Nat → Nat} {bl : Blocks} {ob : Loc → Option Nat}
theorem wrap_i64 {n : Int} (h1 : -9223372036854775808 ≤ n) (h2 : n < 9223372036854775808) : IntKind.i64.wrap n = n := by
  rw [IntKind.wrap_i64]; omega
theorem heap_set_get : ∀ (h : Heap) (i : Nat), h.set i (h.get i) = h
  | [], _ => rfl
  | x :: r, 0 => rfl
  | x :: r, n + 1 => by simp only [Heap.set, Heap.get, heap_set_get r n]
theorem splice_zero (g : Nat → AV) (lo : Nat) (g' : Nat → AV) : splice g lo 0 g' = g := by
  funext j; rw [splice_get, if_neg (by omega)]
theorem copy_sound (h : Rel P A nt pend env heap bor tm w U bl ob) {t u ty : TypeId} {d x v : AV} {d' x' : Value} {heap' : Heap} (hs : copyAV P t u heap d x = some (v, heap')) (hd : Rep w (forb A bl heap) U bl d d') (hx : Rep w (forb A bl heap) U bl x x') {tys : Array TypeId} (hty : tys[0]? = some t) :
    ∃ r w', (Builtin.copy_ tys ty #[d', x']).run P w = .ok r w' ∧ Rel P A nt pend env heap' bor tm w' U bl ob ∧ ∃ n : Int, v = .int .i64 n ∧ r = .int .i64 n := by
  unfold copyAV at hs
  split at hs
  · rename_i e ht
    split at hs
    · rename_i id sz lo n m g' hsrc
      split at hs
      · rename_i sz' n' g hg
        cases hc : (isSliceT P u && Nat.beq sz sz' && Nat.beq sz (tySz P e) && Nat.ble (lo + n) n' && Nat.blt 0 sz) with
        | false => rw [hc] at hs; simp at hs
        | true =>
          rw [hc] at hs
          simp only [cond_true, Option.some.injEq, Prod.mk.injEq] at hs
          obtain ⟨rfl, rfl⟩ := hs
          simp only [Bool.and_eq_true, beq_eq, ble_eq, blt_eq, decide_eq_true_eq] at hc
          obtain ⟨⟨⟨⟨_, c1⟩, c2⟩, c3⟩, c4⟩ := hc
          subst c1
          obtain ⟨q1, cs, q2, q3, q4, q5, q6⟩ := src_pre (n := min m n) hsrc hx h.objsOK (by omega) (Nat.min_le_left _ _)
          rw [← c2] at q2 q3 q5 q6
          have hsz : (Go.sizeOf e).run P w = .ok sz w := by rw [c2]; exact run_size' (by omega)
          cases hd with
          | @row _ _ _ _ _ ao cap hcap hz =>
            rcases Nat.eq_zero_or_pos n with hn | hn
            · subst hn
              rw [Nat.min_zero] at q2 q3 ⊢
              have hcs : cs = [] := List.length_eq_zero_iff.1 (by rw [q3]; simp)
              subst hcs
              refine ⟨.int .i64 ((0 : Nat) : Int), w, ?_, ?_, _, rfl, rfl⟩
              · cases ao <;> simp [Builtin.copy_, hty, run_und ht (by simp), q1, hsz, q2, storeCells, goInt]
              · rw [splice_zero, ← hg, heap_set_get]; exact h
            · obtain ⟨b, hb, rfl⟩ := hz hn
              obtain ⟨w', r1, r2⟩ := splice_sound h hb hg (lo := lo) (k := min m n) (g' := g') (cs := cs) (by have := Nat.min_le_right m n; omega) q3 q4 q5 q6
              refine ⟨_, w', ?_, r2, _, rfl, rfl⟩
              have hmin : Nat.min m n = min m n := rfl
              simp [Builtin.copy_, hty, run_und ht (by simp), q1, hsz, hmin, q2, r1, goInt]
      · simp at hs
    · simp at hs
  · simp at hs
theorem zeroCells_get (z : Array Value) (n : Nat) (i j : Nat) (hi : i < n) (hj : j < z.size) : (Builtin.zeroCells z n)[i * z.size + j]? = z[j]? := by
  have hlt : i * z.size + j < n * z.size := by have := index_mul (sz := z.size) hi; omega
  simp only [Builtin.zeroCells, Array.getElem?_map]
  rw [Array.getElem?_range, if_pos hlt]
  simp only [Option.map_some]
  have : (i * z.size + j) % z.size = j := (divmod_cell hj).2
  rw [this]
  simp [hj]
theorem zero_cells (w : World) {e : TypeId} (hz : hasZero P e = true) (hd : (zeroAV P e).isData = true) (hs : (zeroAV P e).cells.all AV.scal = true) : ∃ z, (∀ w : World, (zeroValue e).run P w = .ok z w) ∧ z.cells.size = (zeroAV P e).cells.length ∧ (∀ y ∈ z.cells.toList, y.oneCell' = true) ∧
    (zeroElem P e).cells.length = (zeroAV P e).cells.length ∧ ∀ (w : World) (F : Nat → Prop) (U : Nat → Nat) (j : Nat) x, (zeroElem P e).cells[j]? = some x → ∃ y, z.cells[j]? = some y ∧ Rep w F U [] x y := by
  obtain ⟨z, hzz⟩ := zero_all hz
  refine ⟨z, fun w => (hzz w (fun _ => False) (fun _ => 0) [] 0).1, ?_, ?_, ?_, fun w F U j x hx => ?_⟩
  · obtain ⟨k1, _⟩ := rep_cells (hzz w (fun _ => False) (fun _ => 0) [] 0).2.1 hs
    have := k1.1; simpa using this.symm
  · exact (rep_cells (hzz w (fun _ => False) (fun _ => 0) [] 0).2.1 hs).2.1
  · unfold zeroElem; rw [strip_cells hs, stripL_length]
  · unfold zeroElem at hx
    rw [strip_cells hs, stripL_get] at hx
    obtain ⟨q, hq, rfl⟩ := Option.map_eq_some_iff.1 hx
    obtain ⟨k1, _⟩ := rep_cells (hzz w F U [] 0).2.1 hs
    have hl := (List.getElem?_eq_some_iff.1 hq).1
    have hlz : j < z.cells.size := by have := k1.1; simp at this; omega
    exact ⟨z.cells[j], by simp [hlz], ((k1.2 j q _ hq (by simp [hlz])).data (cells_data hd _ _ hq)).strip⟩
theorem clear_sound (h : Rel P A nt pend env heap bor tm w U bl ob) {t ty : TypeId} {d : AV} {d' : Value} {heap' : Heap} (hs : clearAV P t heap d = some heap') (hd : Rep w (forb A bl heap) U bl d d') {tys : Array TypeId} (hty : tys[0]? = some t) :
    ∃ w', (Builtin.clear_ tys ty #[d']).run P w = .ok (.tuple #[]) w' ∧ Rel P A nt pend env heap' bor tm w' U bl ob := by
  unfold clearAV at hs
  split at hs
  · rename_i e id sz lo n ht
    split at hs
    · rename_i sz' n' g hg
      cases hc : (Nat.beq sz sz' && Nat.beq sz (tySz P e) && Nat.ble (lo + n) n' && Nat.blt 0 sz && hasZero P e && (zeroAV P e).isData && (zeroAV P e).cells.all AV.scal && Nat.beq (zeroAV P e).cells.length sz) with
      | false => rw [hc] at hs; simp at hs
      | true =>
        rw [hc] at hs
        simp only [cond_true, Option.some.injEq] at hs
        subst hs
        simp only [Bool.and_eq_true, beq_eq, ble_eq, blt_eq, decide_eq_true_eq] at hc
        obtain ⟨⟨⟨⟨⟨⟨⟨c1, c2⟩, c3⟩, c4⟩, c5⟩, c6⟩, c7⟩, c8⟩ := hc
        subst c1
        obtain ⟨z, z1, z2, z3, z4, z5⟩ := zero_cells w c5 c6 c7
        cases hd with
        | @row _ _ _ _ _ ao cap hcap hz =>
          rcases Nat.eq_zero_or_pos n with hn | hn
          · subst hn
            refine ⟨w, ?_, by rw [splice_zero, ← hg, heap_set_get]; exact h⟩
            cases ao <;> simp [Builtin.clear_, hty, run_und ht (by simp)]
          · obtain ⟨b, hb, rfl⟩ := hz hn
            have hcl : (Builtin.zeroCells z.cells n).toList.length = n * sz := by simp [Builtin.zeroCells, z2, c8]
            obtain ⟨w', r1, r2⟩ := splice_sound h hb hg (k := n) (g' := fun _ => zeroElem P e) (cs := (Builtin.zeroCells z.cells n).toList) (by omega) hcl (fun y hy => by
                simp only [Builtin.zeroCells, Array.toList_map, List.mem_map] at hy
                obtain ⟨k, hk, rfl⟩ := hy
                have hk' : k % z.cells.size < z.cells.size := Nat.mod_lt _ (by omega)
                rw [getElem!_pos z.cells _ hk']
                exact z3 _ (by simp)) (fun i hi => by rw [z4, c8]) (fun i j x hi hx => by
                obtain ⟨y, hy, hr⟩ := z5 w (forb A bl heap) U j x hx
                have hj : j < z.cells.size := (Array.getElem?_eq_some_iff.1 hy).1
                refine ⟨y, ?_, hr⟩
                have := zeroCells_get z.cells n i j hi hj
                rw [z2, c8] at this
                simp only [Array.getElem?_toList]
                rw [this]; exact hy)
            refine ⟨w', ?_, r2⟩
            obtain ⟨n, rfl⟩ : ∃ k, n = k + 1 := ⟨n - 1, by omega⟩
            simp [Builtin.clear_, hty, run_und ht (by simp), z1, r1]
    · simp at hs
  · simp at hs
theorem makeSlice_sound (h : Rel P A nt pend env heap bor tm w U bl ob) {t : TypeId} {l c v : AV} {l' c' : Value} {d : Option Nat} (hd : ∀ t, d = some t → t < nt) (hs : makeSliceAV P t l c = some v) (hl : Rep w (forb A bl heap) U bl l l') (hc' : Rep w (forb A bl heap) U bl c c') :
    ∃ r w' U' ob', (Instr.makeSlice t l' c').run P w = .ok r w' ∧ Rel P A nt pend (setO env d v) heap bor (putO tm d r) w' U' bl ob' := by
  unfold makeSliceAV at hs
  split at hs
  · rename_i e n m ht
    obtain rfl := rep_int hl
    obtain rfl := rep_int hc'
    cases hc : (decide (0 ≤ n ∧ n ≤ m ∧ m ≤ 1099511627776) && Nat.ble (m.toNat * tyBy P e) 281474976710656 && Nat.blt 0 (tySz P e) && hasZero P e && (zeroAV P e).isData && (zeroAV P e).cells.all AV.scal && Nat.beq (zeroAV P e).cells.length (tySz P e)) with
    | false => rw [hc] at hs; simp at hs
    | true =>
      rw [hc] at hs
      simp only [cond_true, Option.some.injEq] at hs
      subst hs
      simp only [Bool.and_eq_true, beq_eq, ble_eq, blt_eq, decide_eq_true_eq] at hc
      obtain ⟨⟨⟨⟨⟨⟨c1, c2⟩, c4⟩, c5⟩, c6⟩, c7⟩, c8⟩ := hc
      obtain ⟨z, z1, z2, z3, z4, z5⟩ := zero_cells w c5 c6 c7
      obtain ⟨i, hi⟩ := info_size c4
      have hby : tyBy P e = i.bytes := by simp [tyBy, hi]
      rw [hby] at c2
      have wn : IntKind.i64.wrap n = n := wrap_i64 (by omega) (by omega)
      have wm : IntKind.i64.wrap m = m := wrap_i64 (by omega) (by omega)
      have hrow : ((Array.range (m.toNat * tySz P e)).map (z.cells[· % z.cells.size]!)).size = m.toNat * tySz P e := by simp
      have hnew := h.newU (q := w.drawn) (e := e) hd (row := (Array.range (m.toNat * tySz P e)).map (z.cells[· % z.cells.size]!)) (sz := tySz P e) (n := n.toNat) (c := m.toNat) (g := fun _ => zeroElem P e) c4 (Nat.le_refl _) (by omega) (by rw [hrow]; exact Nat.le_refl _) (fun i hi => by rw [z4, c8]) (fun i j x hi hx => by
          obtain ⟨y, hy, hr⟩ := z5 w (forb A bl heap) U j x hx
          have hj : j < z.cells.size := (Array.getElem?_eq_some_iff.1 hy).1
          refine ⟨y, ?_, z3 y (by have := Array.mem_of_getElem? hy; simpa using this), hr⟩
          have := zeroCells_get z.cells m.toNat i j (by omega) hj
          simp only [Builtin.zeroCells] at this
          rw [z2, c8] at this
          rw [z2, c8, this]; exact hy)
      obtain ⟨U', ob', hrel⟩ := hnew
      refine ⟨_, _, U', ob', ?_, hrel⟩
      have hbytes : ¬ ((i.bytes : Int) * m > 2 ^ 48) := by
        have : ((m.toNat * i.bytes : Nat) : Int) ≤ 281474976710656 := by omega
        have e1 : ((m.toNat * i.bytes : Nat) : Int) = (i.bytes : Int) * m := by
          rw [Int.natCast_mul, Int.toNat_of_nonneg (by omega), Int.mul_comm]
        rw [e1] at this
        omega
      have hsz : (Go.sizeOf e).run P w = .ok (tySz P e) w := run_size' c4
      have hti : (typeInfo e).run P w = .ok i w := run_info hi
      have hm0 : ¬ m < 0 := by omega
      have hn0 : ¬ n < 0 := by omega
      have hnm : ¬ n > m := by omega
      simp only [Instr.makeSlice, Sem.run_bind, run_und ht (by simp), Result.andThen_ok, asInt, asIntOf, Sem.run_pure, hti, wn, wm, hsz, run_askRoom]
      have hcond : (decide (m < 0) || decide ((i.bytes : Int) * m > 2 ^ 48) || decide (n < 0) || decide (n > m)) = false := by
        have hb2 : (i.bytes : Int) * m ≤ 281474976710656 := by omega
        simp [hm0, hb2, hn0, hnm]
      simp only [hcond, Bool.false_eq_true, if_false, Sem.run_pure, Result.andThen_ok]
      by_cases hz0 : m.toNat * tySz P e = 0
      · have e0 : ∀ f : Nat → Value, (Array.range 0).map f = #[] := fun f => by simp
        simp [hsz, hz0, newRow, rowW]
        rw [e0, e0]
      · simp [hsz, hz0, z1, newRow, rowW]
  · simp at hs
theorem Rel.reread (h : Rel P A nt pend env heap bor tm w U bl ob) {s : Nat} {v : AV} (hv : Rep w (forb A bl heap) U bl v (tm.getD s undef)) (ho : OwnAt w (forb A bl heap) U A.B (fun p => ob (.env s p)) v (tm.getD s undef)) :
    Rel P A nt pend (env.set s v) heap bor tm w U bl ob := by
  refine { h with env := fun t => ?_ }
  rw [get_set]
  by_cases e : s = t
  · subst e; simp only [if_true]; exact ⟨hv, ho⟩
  · simp only [e, if_false]; exact h.env t
theorem fresh_sound (h : Rel P A nt pend env heap bor tm w U bl ob) {s sz : Nat} {g : Nat → AV} (hs : env.get s = .own (.vec sz 0 g)) : Rel P A nt pend (env.set s (.uni (.vec sz 0 g))) heap bor tm w U bl ob := by
  obtain ⟨h1, h2⟩ := h.env s
  rw [hs] at h1 h2
  refine h.reread (by generalize tm.getD s undef = x at h1; cases h1 with | own hv => cases hv with | vec hcap => exact .uni) (uni_nil ?_)
  obtain ⟨y, hy, hok⟩ := h2 [] _ rfl rfl
  simp only [vat, Option.some.injEq] at hy
  subst hy
  cases h1 with
  | own hv =>
    generalize tm.getD s undef = x at hv hok
    cases hv with
    | vec hcap =>
      rcases hok with hc | ⟨a, hn, e1, e2, e3, e4, e5, e6, hsz, c, el, fr, e7, e8, e9⟩
      · exact ⟨_, _, rfl, Nat.zero_le _, .inl hc⟩
      · rcases hn with hn | hn
        · omega
        · obtain ⟨ab, ao, as⟩ := a
          simp only at hn e2 e3 e4 e5 e6 e7 e8 e9
          subst hn e4 e1
          exact ⟨_, _, rfl, Nat.zero_le _, .inr ⟨ab, rfl, e2, e3, e5, by omega, hsz, c, el, fr, e7, by omega, fun o => e9 o (by omega), fun i hi => absurd hi (by omega), fun i j q hi => absurd hi (by omega)⟩⟩
theorem share_sound (h : Rel P A nt pend env heap bor tm w U bl ob) {s sz n : Nat} {g : Nat → AV} (hs : env.get s = .uni (.vec sz n g)) : ∃ U', Rel P A nt pend (env.set s (.own (.vec sz n g))) heap bor tm w U' bl ob := by
  obtain ⟨h1, h2⟩ := h.env s
  rw [hs] at h2
  obtain ⟨y, hy, ao, cap, hx, hncap, hok⟩ := h2 [] _ rfl rfl
  simp only [vat, Option.some.injEq] at hy
  subst hy
  have triv : n = 0 → cap = 0 → Rel P A nt pend (env.set s (.own (.vec sz n g))) heap bor tm w U bl ob := by
    intro hn hc
    subst hn
    refine h.reread ?_ (own_nil (by rw [hx]; exact .inl (by omega)))
    rw [hx]
    exact .own (.vec (by omega) (fun _ _ => undef) (fun h => absurd h (by omega)) (fun i hi => absurd hi (by omega)) (fun i j hi _ => absurd hi (by omega)) (fun i j c hi _ => absurd hi (by omega)))
  rcases hok with hc | ⟨b, e1, e2, e3, e4, e5, hsz, c, el, fr, e7, e8, e9, e10, e11⟩
  · exact ⟨U, triv (by omega) hc⟩
  · subst e1
    let U' : Nat → Nat := fun c => if c = b then n * sz else U c
    have hlt := lt_of_some e7
    have hw : Wrote w b (.cells c el fr) w := ⟨rfl, rfl, rfl, rfl, e7, fun _ _ => rfl, rfl⟩
    have grow : Grow0 w (forb A bl heap) U w (forb A bl heap) U' := by
      refine ⟨fun _ _ hf => .inl hf, fun d _ _ => ?_, fun d hd => ⟨hd, by by_cases ec : d = b; (· subst ec; simp only [U', if_true]; omega); (· simp only [U', if_neg ec]; exact Nat.le_refl _)⟩⟩
      by_cases ec : d = b
      · subst ec; exact ⟨by simp only [U', if_true]; omega, fun o _ => rfl⟩
      · exact ⟨by simp only [U', if_neg ec]; exact Nat.le_refl _, fun o _ => rfl⟩
    have hg := h.growIn (l := .env s []) e2 hlt e3 e4 hw (n' := n * sz) (by omega) (fun o _ => rfl) ⟨s, [], rfl⟩ s ⟨[], rfl⟩
    have hmul : n * sz ≤ cap * sz := Nat.mul_le_mul_right _ hncap
    have hrep : Rep w (forb A bl heap) U' bl (.vec sz n g) (.slice (some ⟨b, 0, none⟩) n cap) := by
      refine .vec hncap (fun i j => c.getD (i * sz + j) undef) (fun _ => ⟨hsz.1, ⟨b, 0, none⟩, rfl, rfl, e4, by simp [U'], fun i j hi hj => ?_⟩) e10 (fun i j hi hj => ?_) (fun i j x hi hx => ?_)
      · rw [cell_row e7, Nat.zero_add]
        have : i * sz + j < c.size := by have := index_mul (sz := sz) hi; omega
        simp [Array.getD, this]
      · obtain ⟨y, h1, h2, _⟩ := e11 i j _ hi (List.getElem?_eq_getElem (by rw [e10 i hi]; exact hj))
        have hl := (Array.getElem?_eq_some_iff.1 h1).1
        have hv := (Array.getElem?_eq_some_iff.1 h1).2
        have : c.getD (i * sz + j) undef = y := by rw [Array.getD, dif_pos hl]; exact hv
        rw [this]; exact h2
      · obtain ⟨y, h1, _, h3⟩ := e11 i j x hi hx
        have hl := (Array.getElem?_eq_some_iff.1 h1).1
        have hv := (Array.getElem?_eq_some_iff.1 h1).2
        have : c.getD (i * sz + j) undef = y := by rw [Array.getD, dif_pos hl]; exact hv
        rw [this]; exact h3.mono grow (BlLe.refl _)
    refine ⟨U', ?_⟩
    have hsets : ∀ t, ((env.bare s).set s (.own (.vec sz n g))).get t = (env.set s (.own (.vec sz n g))).get t := by
      intro t; rw [get_set, get_set, get_bare]
      by_cases e : s = t <;> simp [e]
    refine { hg with env := fun t => ?_, obinj := h.obinj, obok := h.obok, objs := fun id b' hid => hg.objs id b' hid }
    rw [get_set]
    by_cases e : s = t
    · subst e
      simp only [if_true]
      rw [hx]
      refine ⟨.own hrep, own_nil (.inr ⟨⟨b, 0, none⟩, .inr rfl, rfl, e2, e3, rfl, e4, by simp [U'], hsz, c, el, fr, e7, by simpa using e8, fun o _ => e9 o⟩)⟩
    · simp only [e, if_false]
      have := hg.env t
      rw [get_bare, if_neg e] at this
      have e' : ¬ t = s := fun q => e q.symm
      simpa [e'] using this
theorem get_dead_ne {heap : Heap} {id : Nat} {o : AObj} (h : heap.get id = o) (hn : o ≠ .dead) : id < heap.length := by
  rcases Nat.lt_or_ge id heap.length with hl | hl
  · exact hl
  · rw [heap_get_none _ _ hl] at h; exact absurd h.symm hn
theorem adopt_sound (h : Rel P A nt pend env heap bor tm w U bl ob) (hA : A.bl0.length ≤ heap.length) {s sz n : Nat} {g : Nat → AV} (hs : env.get s = .uni (.vec sz n g) ∨ ∃ m, env.get s = .uni (.wide sz n m g)) :
    ∃ bl' ob', Rel P A nt pend (env.set s (.row heap.length sz 0 n)) (heap ++ [.arr sz n g]) bor tm w U bl' ob' := by
  obtain ⟨ao, cap, hx, hncap, hok⟩ : ∃ ao cap, tm.getD s undef = .slice ao n cap ∧ n ≤ cap ∧ (n = 0 ∨ ∃ b, ao = some ⟨b, 0, none⟩ ∧ ob (.env s []) = some b ∧ A.B ≤ b ∧ ¬ forb A bl heap b ∧ U b = 0 ∧ 0 < sz ∧
      ∃ c e fr, w.heap[b]? = some (.cells c e fr) ∧ n * sz ≤ c.size ∧ (∀ o, o < c.size → w.frozen? ⟨b, o, none⟩ = false) ∧ (∀ i, i < n → (g i).cells.length = sz) ∧
        ∀ (i j : Nat) q, i < n → (g i).cells[j]? = some q → ∃ y, c[i * sz + j]? = some y ∧ y.oneCell' = true ∧ Rep w (forb A bl heap) U [] q y) := by
    obtain ⟨h1, h2⟩ := h.env s
    rcases hs with hs | ⟨m, hs⟩
    · rw [hs] at h2
      obtain ⟨y, hy, ao, cap, hx, hncap, hok⟩ := h2 [] _ rfl rfl
      simp only [vat, Option.some.injEq] at hy
      subst hy
      refine ⟨ao, cap, hx, hncap, ?_⟩
      rcases hok with hc | ⟨b, e1, e2, e3, e4, e5, hsz, c, el, fr, e7, e8, e9, rest⟩
      · exact .inl (by omega)
      · exact .inr ⟨b, e1, e2, e3, e4, e5, hsz.1, c, el, fr, e7, Nat.le_trans (Nat.mul_le_mul_right _ hncap) e8, fun o _ => e9 o, rest⟩
    · rw [hs] at h2
      obtain ⟨y, hy, ao, cap, hx, hncap, hok⟩ := h2 [] _ rfl rfl
      simp only [vat, Option.some.injEq] at hy
      subst hy
      exact ⟨ao, cap, hx, hncap, hok⟩
  have h0 := h.bareAt s
  have bare : n = 0 → ∃ bl' ob', Rel P A nt pend (env.set s (.row heap.length sz 0 n)) (heap ++ [.arr sz n g]) bor tm w U bl' ob' := by
    intro hn
    subst hn
    have h2 := h0.lay [.arr sz 0 g]
    refine ⟨_, (fun l => match l with | .env t p => if t = s then none else ob (.env t p) | l => ob l), { h2 with env := fun t => ?_ }⟩
    rw [get_set]
    by_cases e : s = t
    · subst e
      simp only [if_true]
      rw [hx]
      exact ⟨.row (Nat.zero_le _) (fun h => absurd h (by omega)), .bare (bare_of rfl)⟩
    · have := h2.env t
      rw [get_bare] at this
      simp only [e, if_false] at this ⊢
      exact this
  rcases hok with hc | ⟨b, e1, e2, e3, e4, e5, hsz, c, el, fr, e7, e8, e9, e10, e11⟩
  · exact bare hc
  rcases Nat.eq_zero_or_pos n with hn0 | hn0
  · exact bare hn0
  subst e1
  have hblt := lt_of_some e7
  have hnob : ∀ l, (match l with | Loc.env t p => if t = s then none else ob (.env t p) | l => ob l) ≠ some b := by
    intro l hl
    have key : ob l = some b ∧ ∀ p, l ≠ .env s p := by
      cases l with
      | env t p =>
        simp only at hl
        by_cases e : t = s
        · simp [e] at hl
        · simp only [e, if_false] at hl; exact ⟨hl, fun q hq => e (by injection hq)⟩
      | cell i j p => exact ⟨hl, fun q hq => by cases hq⟩
      | mapv i j p => exact ⟨hl, fun q hq => by cases hq⟩
    exact key.2 [] (h.obinj _ _ b key.1 e2)
  have hgl : ∀ (j c : Nat), (bl ++ [some b])[j]? = some (some c) ↔ bl[j]? = some (some c) ∨ (j = bl.length ∧ c = b) := by
    intro j c
    rw [List.getElem?_append]
    split
    · rename_i hlt
      constructor
      · exact .inl
      · rintro (h | ⟨h, _⟩)
        · exact h
        · omega
    · rename_i hge
      constructor
      · intro hh
        have := (List.getElem?_eq_some_iff.1 hh).1
        simp at this
        have e0 : j - bl.length = 0 := this
        rw [e0] at hh
        simp at hh
        exact .inr ⟨by omega, hh.symm⟩
      · rintro (h | ⟨rfl, rfl⟩)
        · rw [List.getElem?_eq_none (by omega)] at h; cases h
        · simp
  have hgh : ∀ j, j < heap.length → Heap.get (heap ++ [.arr sz n g]) j = heap.get j := fun j hj => by rw [heap_get_append, if_pos hj]
  have hgn : Heap.get (heap ++ [.arr sz n g]) heap.length = .arr sz n g := by rw [heap_get_append, if_neg (by omega)]; simp [Heap.get]
  have hle : BlLe bl (bl ++ [some b]) := fun j c hj => (hgl j c).2 (.inl hj)
  have hbl : ∀ (j c : Nat), bl[j]? = some (some c) → j < heap.length := fun j c hj => by rw [← h.len]; exact (List.getElem?_eq_some_iff.1 hj).1
  have hforb : ∀ c, forb A (bl ++ [some b]) (heap ++ [.arr sz n g]) c ↔ forb A bl heap c ∨ c = b := by
    intro c
    constructor
    · rintro (hf | ⟨j, hj, hd⟩)
      · exact .inl (.inl hf)
      · rcases (hgl j c).1 hj with hj' | ⟨_, rfl⟩
        · rw [hgh j (hbl j c hj')] at hd; exact .inl (.inr ⟨j, hj', hd⟩)
        · exact .inr rfl
    · rintro ((hf | ⟨j, hj, hd⟩) | rfl)
      · exact .inl hf
      · exact .inr ⟨j, (hgl j c).2 (.inl hj), by rw [hgh j (hbl j c hj)]; exact hd⟩
      · exact .inr ⟨bl.length, (hgl _ _).2 (.inr ⟨rfl, rfl⟩), by rw [h.len, hgn]; simp⟩
  have g0 : Grow0 w (forb A bl heap) U w (forb A (bl ++ [some b]) (heap ++ [.arr sz n g])) U := by
    refine ⟨fun c _ hf => ?_, fun c _ _ => ⟨Nat.le_refl _, fun _ _ => rfl⟩, fun _ hb => ⟨hb, Nat.le_refl _⟩⟩
    rcases (hforb c).1 hf with hf | rfl
    · exact .inl hf
    · exact .inr e5
  have kp : ∀ l c, (match l with | Loc.env t p => if t = s then none else ob (.env t p) | l => ob l) = some c → c < w.heap.size → ¬ forb A bl heap c → w.heap[c]? = w.heap[c]? ∧ U c = U c ∧ ¬ forb A (bl ++ [some b]) (heap ++ [.arr sz n g]) c := by
    intro l c hl _ hn
    refine ⟨rfl, rfl, fun hf => ?_⟩
    rcases (hforb c).1 hf with hf | rfl
    · exact hn hf
    · exact hnob l hl
  refine ⟨bl ++ [some b], _, { size := h0.size, env := fun t => ?_, len := by simp [h.len], objs := ?_, inj := ?_, base := ?_, obinj := h0.obinj, obok := fun l c hl => ⟨(h0.obok l c hl).1, (h0.obok l c hl).2.1, fun j hj => ?_⟩, since := ?_, f0 := h.f0, hB := h.hB, hG := h.hG, pend := ?_, fro := fun j hj => (by
    rw [heap_get_append] at hj
    split at hj
    · exact h.fro j hj
    · have := h.since.blen; have := h.len; omega) }⟩
  · rw [get_set]
    by_cases e : s = t
    · subst e
      simp only [if_true]
      rw [hx]
      exact ⟨.row hncap (fun _ => ⟨b, (hgl _ _).2 (.inr ⟨h.len.symm, rfl⟩), by simp⟩), .bare (bare_of rfl)⟩
    · have := h0.env t
      rw [get_bare] at this
      simp only [e, if_false] at this ⊢
      exact ⟨this.1.mono g0 hle, ownAt_keeps this.2 g0 (fun p c hc => kp (.env t p) c hc)⟩
  · intro j c1 hj
    rcases (hgl j c1).1 hj with hj' | ⟨rfl, rfl⟩
    · rw [hgh j (hbl j c1 hj')]
      refine obj_keeps (h0.objs j c1 hj') g0 hle rfl (fun _ => rfl) (fun _ _ _ _ _ _ => rfl) (fun d hd => ?_)
      rcases hd with ⟨i, p, hd⟩ | ⟨i, p, hd⟩
      · exact kp (.cell j i p) d hd
      · exact kp (.mapv j i p) d hd
    · rw [h.len, hgn]
      exact ⟨c, el, fr, e7, hsz, e8, e9, e10, fun i j x hi hx => let ⟨y, h1, h2, h3⟩ := e11 i j x hi hx; ⟨y, h1, h2, h3.mono g0 (BlLe.refl _)⟩⟩
  · intro i j c hi hj
    rcases (hgl i c).1 hi with hi' | ⟨rfl, rfl⟩ <;> rcases (hgl j c).1 hj with hj' | ⟨rfl, e⟩
    · exact h.inj i j c hi' hj'
    · subst e; exact absurd hi' ((h.obok _ _ e2).2.2 i)
    · exact absurd hj' ((h.obok _ _ e2).2.2 j)
    · rfl
  · intro j c hj
    rcases (hgl j c).1 hj with hj' | ⟨_, rfl⟩
    · exact h.base j c hj'
    · refine ⟨e3, hblt, fun hf => ?_, (h.obok _ _ e2).1⟩
      have := h.f0 _ hf; omega
  · rcases (hgl j c).1 hj with hj' | ⟨_, rfl⟩
    · exact (h0.obok l c hl).2.2 j hj'
    · exact hnob l hl
  · refine { below := h.since.below, g0 := h.since.g0.trans g0 h.since.below.size, ble := h.since.ble.trans hle, pnd := fun j hj => ?_, gown := h.since.gown, blen := (by simp; have := h.since.blen; omega), ub := h.since.ub }
    obtain ⟨p1, p2⟩ := h.since.pnd j hj
    have hl := (List.getElem?_eq_some_iff.1 p1).1
    exact ⟨by rw [List.getElem?_append_left hl]; exact p1, by rw [hgh j (by rw [← h.len]; exact hl)]; exact p2⟩
  · intro p hp
    obtain ⟨p1, p2, p3⟩ := h.pend p hp
    have hl := (List.getElem?_eq_some_iff.1 p1).1
    exact ⟨by rw [List.getElem?_append_left hl]; exact p1, by rw [hgh p.1 (by rw [← h.len]; exact hl)]; exact p2, p3⟩
theorem freeze_sound (h : Rel P A nt [] env heap bor tm w U bl ob) {s id sz lo n n' : Nat} {g : Nat → AV} (hs : env.get s = .row id sz lo n) (hg : heap.get id = .arr sz n' g) (hle : lo + n ≤ n') :
    ∃ U', Rel P A nt [] (env.set s (.vec sz n (fun j => g (lo + j)))) (heap.set id .dead) bor tm w U' bl ob := by
  have hidl : id < heap.length := get_dead_ne hg (by simp)
  have hget : ∀ j, (heap.set id .dead).get j = if id = j then .dead else heap.get j := by
    intro j; rw [heap_get_set]
    by_cases e : id = j
    · subst e; simp [hidl]
    · simp [e]
  let U' : Nat → Nat := fun c => if bl[id]? = some (some c) then max (U c) (n' * sz) else U c
  have hforb : ∀ c, forb A bl (heap.set id .dead) c → forb A bl heap c := by
    rintro c (hf | ⟨j, hj, hd⟩)
    · exact .inl hf
    · rw [hget] at hd
      split at hd
      · exact absurd rfl hd
      · exact .inr ⟨j, hj, hd⟩
  have hnid : ∀ c, bl[id]? = some (some c) → ¬ forb A bl (heap.set id .dead) c := by
    rintro c hc (hf | ⟨j, hj, hd⟩)
    · exact (h.base id c hc).2.2.1 hf
    · obtain rfl := h.inj id j c hc hj
      rw [hget, if_pos rfl] at hd
      exact hd rfl
  have hbF : ∀ c, bl[id]? = some (some c) → forb A bl heap c := fun c hc => .inr ⟨id, hc, by rw [hg]; simp⟩
  have g0 : Grow0 w (forb A bl heap) U w (forb A bl (heap.set id .dead)) U' := by
    refine ⟨fun c _ hf => .inl (hforb c hf), fun c _ hc => ⟨?_, fun _ _ => rfl⟩, fun c hc => ⟨hc, by by_cases e : bl[id]? = some (some c); (· simp only [U', if_pos e]; omega); (· simp only [U', if_neg e]; exact Nat.le_refl _)⟩⟩
    by_cases e : bl[id]? = some (some c)
    · exact absurd (hbF c e) hc
    · simp only [U', if_neg e]; exact Nat.le_refl _
  have kp : ∀ c, c < w.heap.size → ¬ forb A bl heap c → w.heap[c]? = w.heap[c]? ∧ U' c = U c ∧ ¬ forb A bl (heap.set id .dead) c := by
    intro c _ hn
    refine ⟨rfl, ?_, fun hf => hn (hforb c hf)⟩
    simp only [U']
    rw [if_neg (fun e => hn (hbF c e))]
  refine ⟨U', { size := h.size, env := fun t => ?_, len := by rw [heap_set_length]; exact h.len, objs := ?_, inj := h.inj, base := h.base, obinj := h.obinj, obok := h.obok, since := ?_, f0 := h.f0, hB := h.hB, hG := h.hG, pend := fun p hp => by simp at hp, fro := fun j hj => (by
    rw [hget] at hj
    by_cases e : id = j
    · rw [if_pos e] at hj; cases hj
    · rw [if_neg e] at hj; exact h.fro j hj) }⟩
  · rw [get_set]
    by_cases e : s = t
    · subst e
      simp only [if_true]
      have hr := (h.env s).1
      rw [hs] at hr
      generalize tm.getD s undef = x at hr
      cases hr with
      | @row _ _ _ _ _ ao cap hcap hz =>
        refine ⟨?_, .bare (bare_of rfl)⟩
        rcases Nat.eq_zero_or_pos n with hn | hn
        · subst hn
          exact .vec hcap (fun _ _ => undef) (fun h => absurd h (by omega)) (fun i hi => absurd hi (by omega)) (fun i j hi _ => absurd hi (by omega)) (fun i j c hi _ => absurd hi (by omega))
        · obtain ⟨b, hb, rfl⟩ := hz hn
          obtain ⟨c, el, fr, k1, k2, k3, k4, k5, k6⟩ := arr_obj h hb hg
          have hmul : (lo + n) * sz ≤ n' * sz := Nat.mul_le_mul_right _ hle
          have hsp : (lo + n) * sz = lo * sz + n * sz := Nat.add_mul _ _ _
          refine .vec hcap (fun i j => c.getD (lo * sz + i * sz + j) undef) (fun _ => ⟨k2, ⟨b, lo * sz, none⟩, rfl, rfl, hnid b hb, by simp only [U']; rw [if_pos hb]; omega, fun i j hi hj => ?_⟩) (fun i hi => k5 _ (by omega)) (fun i j hi hj => ?_) (fun i j x hi hx => ?_)
          · rw [cell_row k1]
            have : lo * sz + i * sz + j < c.size := by have := index_mul (sz := sz) hi; omega
            simp [Array.getD, this]
          · obtain ⟨y, h1, h2, _⟩ := k6 (lo + i) j _ (by omega) (List.getElem?_eq_getElem (by rw [k5 _ (by omega)]; exact hj))
            rw [Nat.add_mul] at h1
            have hl := (Array.getElem?_eq_some_iff.1 h1).1
            have hv := (Array.getElem?_eq_some_iff.1 h1).2
            have : c.getD (lo * sz + i * sz + j) undef = y := by rw [Array.getD, dif_pos hl]; exact hv
            rw [this]; exact h2
          · obtain ⟨y, h1, _, h3⟩ := k6 (lo + i) j x (by omega) hx
            rw [Nat.add_mul] at h1
            have hl := (Array.getElem?_eq_some_iff.1 h1).1
            have hv := (Array.getElem?_eq_some_iff.1 h1).2
            have : c.getD (lo * sz + i * sz + j) undef = y := by rw [Array.getD, dif_pos hl]; exact hv
            rw [this]; exact h3.mono g0 (BlLe.refl _)
    · simp only [e, if_false]
      exact ⟨(h.env t).1.mono g0 (BlLe.refl _), ownAt_keeps (h.env t).2 g0 (fun p c _ => kp c)⟩
  · intro j c hj
    rw [hget]
    by_cases e : id = j
    · rw [if_pos e]; trivial
    · rw [if_neg e]
      exact obj_keeps (h.objs j c hj) g0 (BlLe.refl _) rfl (fun _ => by simp only [U']; rw [if_neg (fun e2 => e (h.inj id j c e2 hj))]) (fun _ _ _ _ _ _ => rfl) (fun d _ => kp d)
  · refine { below := h.since.below, g0 := h.since.g0.trans g0 h.since.below.size, ble := h.since.ble, pnd := fun j hj => ?_, gown := fun c hc => ?_, blen := h.since.blen, ub := fun c hc => ?_ }
    · obtain ⟨p1, p2⟩ := h.since.pnd j hj
      refine ⟨p1, ?_⟩
      rw [hget]
      by_cases e : id = j
      · subst e
        rcases p2 with p2 | p2
        · right; rw [← p2, hg]; rfl
        · exact .inr p2
      · rw [if_neg e]; exact p2
    · obtain ⟨g1, g2⟩ := h.since.gown c hc
      refine ⟨g1, ?_⟩
      simp only [U']
      rw [if_neg (fun e => (h.base id c e).2.2.2 hc)]; exact g2
    · simp only [U']
      rw [if_neg (fun e => by have := (h.base id c e).1; omega)]
      exact h.since.ub c hc
theorem arr_killed (h : Rel P A nt [] env heap bor tm w U bl ob) {id sz n' : Nat} {g : Nat → AV} (hg : heap.get id = .arr sz n' g) :
    ∃ U', Rel P A nt [] env (heap.set id .dead) bor tm w U' bl ob ∧ (∀ c, bl[id]? = some (some c) → ¬ forb A bl (heap.set id .dead) c ∧ n' * sz ≤ U' c) ∧ Grow0 w (forb A bl heap) U w (forb A bl (heap.set id .dead)) U' := by
  have hidl : id < heap.length := get_dead_ne hg (by simp)
  have hget : ∀ j, (heap.set id .dead).get j = if id = j then .dead else heap.get j := by
    intro j; rw [heap_get_set]
    by_cases e : id = j
    · subst e; simp [hidl]
    · simp [e]
  let U' : Nat → Nat := fun c => if bl[id]? = some (some c) then max (U c) (n' * sz) else U c
  have hforb : ∀ c, forb A bl (heap.set id .dead) c → forb A bl heap c := by
    rintro c (hf | ⟨j, hj, hd⟩)
    · exact .inl hf
    · rw [hget] at hd
      split at hd
      · exact absurd rfl hd
      · exact .inr ⟨j, hj, hd⟩
  have hnid : ∀ c, bl[id]? = some (some c) → ¬ forb A bl (heap.set id .dead) c := by
    rintro c hc (hf | ⟨j, hj, hd⟩)
    · exact (h.base id c hc).2.2.1 hf
    · obtain rfl := h.inj id j c hc hj
      rw [hget, if_pos rfl] at hd
      exact hd rfl
  have hbF : ∀ c, bl[id]? = some (some c) → forb A bl heap c := fun c hc => .inr ⟨id, hc, by rw [hg]; simp⟩
  have g0 : Grow0 w (forb A bl heap) U w (forb A bl (heap.set id .dead)) U' := by
    refine ⟨fun c _ hf => .inl (hforb c hf), fun c _ hc => ⟨?_, fun _ _ => rfl⟩, fun c hc => ⟨hc, by by_cases e : bl[id]? = some (some c); (· simp only [U', if_pos e]; omega); (· simp only [U', if_neg e]; exact Nat.le_refl _)⟩⟩
    by_cases e : bl[id]? = some (some c)
    · exact absurd (hbF c e) hc
    · simp only [U', if_neg e]; exact Nat.le_refl _
  have kp : ∀ c, c < w.heap.size → ¬ forb A bl heap c → w.heap[c]? = w.heap[c]? ∧ U' c = U c ∧ ¬ forb A bl (heap.set id .dead) c := by
    intro c _ hn
    refine ⟨rfl, ?_, fun hf => hn (hforb c hf)⟩
    simp only [U']
    rw [if_neg (fun e => hn (hbF c e))]
  refine ⟨U', { size := h.size, env := fun t => ?_, len := by rw [heap_set_length]; exact h.len, objs := ?_, inj := h.inj, base := h.base, obinj := h.obinj, obok := h.obok, since := ?_, f0 := h.f0, hB := h.hB, hG := h.hG, pend := fun p hp => by simp at hp, fro := fun j hj => (by
    rw [hget] at hj
    by_cases e : id = j
    · rw [if_pos e] at hj; cases hj
    · rw [if_neg e] at hj; exact h.fro j hj) }, fun c hc => ⟨hnid c hc, by simp only [U']; rw [if_pos hc]; omega⟩, g0⟩
  · exact ⟨(h.env t).1.mono g0 (BlLe.refl _), ownAt_keeps (h.env t).2 g0 (fun p c _ => kp c)⟩
  · intro j c hj
    rw [hget]
    by_cases e : id = j
    · rw [if_pos e]; trivial
    · rw [if_neg e]
      exact obj_keeps (h.objs j c hj) g0 (BlLe.refl _) rfl (fun _ => by simp only [U']; rw [if_neg (fun e2 => e (h.inj id j c e2 hj))]) (fun _ _ _ _ _ _ => rfl) (fun d _ => kp d)
  · refine { below := h.since.below, g0 := h.since.g0.trans g0 h.since.below.size, ble := h.since.ble, pnd := fun j hj => ?_, gown := fun c hc => ?_, blen := h.since.blen, ub := fun c hc => ?_ }
    · obtain ⟨p1, p2⟩ := h.since.pnd j hj
      refine ⟨p1, ?_⟩
      rw [hget]
      by_cases e : id = j
      · subst e
        rcases p2 with p2 | p2
        · right; rw [← p2, hg]; rfl
        · exact .inr p2
      · rw [if_neg e]; exact p2
    · obtain ⟨g1, g2⟩ := h.since.gown c hc
      refine ⟨g1, ?_⟩
      simp only [U']
      rw [if_neg (fun e => (h.base id c e).2.2.2 hc)]; exact g2
    · simp only [U']
      rw [if_neg (fun e => by have := (h.base id c e).1; omega)]
      exact h.since.ub c hc
end
end Ax

namespace Ax
open Go Go.RowKit
def isRowO : AObj → Bool
  | .arr _ _ _ => true
  | .oarr _ _ _ => true
  | .cells _ => true
  | _ => false
def isRowB (bl : Blocks) (heap : Heap) (c : Nat) : Prop := ∃ id : Nat, bl[id]? = some (some c) ∧ isRowO (heap.get id) = true
def lentF (A : Amb) (bl : Blocks) (heap : Heap) (c : Nat) : Prop := forb A bl heap c ∧ ¬ isRowB bl heap c
open Classical in
noncomputable def lentU (w : World) (U : Nat → Nat) (bl : Blocks) (heap : Heap) (c : Nat) : Nat :=
  if isRowB bl heap c then max (U c) (match w.heap[c]? with | some (.cells cs _ _) => cs.size | _ => 0) else U c
section
variable {P : Program} {A : Amb} {nt : Nat} {pend : List (Nat × AObj)} {env : Env} {heap : Heap} {bor : Option (Nat × AV)} {tm : Array Value} {w : World} {U : Nat → Nat} {bl : Blocks} {ob : Loc → Option Nat}
theorem isRow_forb {c : Nat} (h : isRowB bl heap c) : forb A bl heap c := by
  obtain ⟨id, hid, hr⟩ := h
  exact .inr ⟨id, hid, fun e => by rw [e] at hr; cases hr⟩
theorem lent_grow : Grow0 w (forb A bl heap) U w (lentF A bl heap) (lentU w U bl heap) := by
  refine ⟨fun c _ hf => .inl hf.1, fun c _ hc => ⟨?_, fun _ _ => rfl⟩, fun c hc => ⟨hc, ?_⟩⟩
  · unfold lentU
    rw [if_neg (fun e => hc (isRow_forb e))]
    exact Nat.le_refl _
  · unfold lentU
    split
    · omega
    · exact Nat.le_refl _
theorem lentU_row {id b : Nat} (hid : bl[id]? = some (some b)) (hr : isRowO (heap.get id) = true) {c : Array Value} {e : TypeId} {fr : Nat × Nat} (hb : w.heap[b]? = some (.cells c e fr)) : c.size ≤ lentU w U bl heap b := by
  unfold lentU
  rw [if_pos ⟨id, hid, hr⟩, hb]
  exact Nat.le_max_right _ _
theorem lentF_row {id b : Nat} (hid : bl[id]? = some (some b)) (hr : isRowO (heap.get id) = true) : ¬ lentF A bl heap b := fun h => h.2 ⟨id, hid, hr⟩
theorem lendAV_gen (h : Rel P A nt pend env heap bor tm w U bl ob) {heapX : Heap} (hX : ∀ id, isRowO (heapX.get id) = true → heapX.get id = heap.get id) {F' : Nat → Prop} {U' : Nat → Nat} (g : Grow0 w (forb A bl heap) U w F' U')
    (hF : ∀ id b : Nat, bl[id]? = some (some b) → isRowO (heapX.get id) = true → ¬ F' b ∧ ∀ (c : Array Value) e fr, w.heap[b]? = some (.cells c e fr) → c.size ≤ U' b) {v : AV} {x : Value} (hv : Rep w (forb A bl heap) U bl v x) : Rep w F' U' bl (lendAV heapX v) x := by
  unfold lendAV
  split
  · rename_i id sz lo n
    split
    · rename_i sz' n' gg hg
      cases hc : (Nat.beq sz sz' && Nat.ble (lo + n) n') with
      | false => exact .undef
      | true =>
        simp only [cond_true]
        simp only [Bool.and_eq_true, beq_eq, ble_eq, decide_eq_true_eq] at hc
        obtain ⟨rfl, hle⟩ := hc
        cases hv with
        | @row _ _ _ _ _ ao cap hcap hz =>
          rcases Nat.eq_zero_or_pos n with hn | hn
          · subst hn
            exact .vec hcap (fun _ _ => undef) (fun h => absurd h (by omega)) (fun i hi => absurd hi (by omega)) (fun i j hi _ => absurd hi (by omega)) (fun i j c hi _ => absurd hi (by omega))
          · obtain ⟨b, hb, rfl⟩ := hz hn
            have hr : isRowO (heapX.get id) = true := by rw [hg]; rfl
            have hg' := (hX id hr).symm.trans hg
            obtain ⟨c, el, fr, k1, k2, k3, k4, k5, k6⟩ := arr_obj h hb hg'
            obtain ⟨f1, f2⟩ := hF id b hb hr
            have f3 := f2 _ _ _ k1
            have hmul : (lo + n) * sz ≤ n' * sz := Nat.mul_le_mul_right _ hle
            have hsp : (lo + n) * sz = lo * sz + n * sz := Nat.add_mul _ _ _
            have get : ∀ i j, i < n → j < sz → ∃ y, c[lo * sz + i * sz + j]? = some y ∧ c.getD (lo * sz + i * sz + j) undef = y := by
              intro i j hi hj
              have : lo * sz + i * sz + j < c.size := by have := index_mul (sz := sz) hi; omega
              exact ⟨c[lo * sz + i * sz + j], by simp [this], by simp [Array.getD, this]⟩
            refine .vec hcap (fun i j => c.getD (lo * sz + i * sz + j) undef) (fun _ => ⟨k2, ⟨b, lo * sz, none⟩, rfl, rfl, f1, by simp only; omega, fun i j hi hj => ?_⟩) (fun i hi => k5 _ (by omega)) (fun i j hi hj => ?_) (fun i j x hi hx => ?_)
            · rw [cell_row k1]
              obtain ⟨y, h1, h2⟩ := get i j hi hj
              rw [h2]; exact h1
            · obtain ⟨y, h1, h2, _⟩ := k6 (lo + i) j _ (by omega) (List.getElem?_eq_getElem (by rw [k5 _ (by omega)]; exact hj))
              obtain ⟨y', h3, h4⟩ := get i j hi hj
              rw [Nat.add_mul, h3] at h1
              rw [h4, Option.some.inj h1]; exact h2
            · obtain ⟨y, h1, _, h5⟩ := k6 (lo + i) j x (by omega) hx
              have hj : j < sz := by rw [← k5 (lo + i) (by omega)]; exact (List.getElem?_eq_some_iff.1 hx).1
              obtain ⟨y', h3, h4⟩ := get i j hi hj
              rw [Nat.add_mul, h3] at h1
              rw [h4, Option.some.inj h1]; exact h5.mono g (BlLe.refl _)
    · exact .undef
  · rename_i id sz n
    split
    · rename_i sz' n' gg hg
      cases hc : (Nat.beq sz sz' && Nat.beq n n') with
      | false => exact .undef
      | true =>
        simp only [cond_true]
        simp only [Bool.and_eq_true, beq_eq, decide_eq_true_eq] at hc
        obtain ⟨rfl, rfl⟩ := hc
        cases hv with
        | @brow _ _ _ _ ao cap hcap hz =>
          rcases Nat.eq_zero_or_pos n with hn | hn
          · subst hn
            exact .vec hcap (fun _ _ => undef) (fun h => absurd h (by omega)) (fun i hi => absurd hi (by omega)) (fun i j hi _ => absurd hi (by omega)) (fun i j c hi _ => absurd hi (by omega))
          · rcases hz with hz | ⟨b, hb, rfl, hbl, hcu⟩
            · omega
            have hr : isRowO (heapX.get id) = true := by rw [hg]; rfl
            have hg' := (hX id hr).symm.trans hg
            obtain ⟨c, el, fr, k1, k2, k3, ku, k4, k5, k6⟩ := obj_o h hb hg'
            obtain ⟨f1, f2⟩ := hF id b hb hr
            have f3 := f2 _ _ _ k1
            have get : ∀ i j, i < n → j < sz → ∃ y, c[i * sz + j]? = some y ∧ c.getD (i * sz + j) undef = y := by
              intro i j hi hj
              have : i * sz + j < c.size := by have := index_mul (sz := sz) hi; omega
              exact ⟨c[i * sz + j], by simp [this], by simp [Array.getD, this]⟩
            refine .vec hcap (fun i j => c.getD (i * sz + j) undef) (fun _ => ⟨k2, ⟨b, 0, none⟩, rfl, rfl, f1, by simp only; omega, fun i j hi hj => ?_⟩) (fun i hi => ?_) (fun i j hi hj => ?_) (fun i j x hi hx => ?_)
            · rw [cell_row k1, Nat.zero_add]
              obtain ⟨y, h1, h2⟩ := get i j hi hj
              rw [h2]; exact h1
            · obtain ⟨cs, q1, q2, _⟩ := strip1_cells (gg i)
              rw [q1, q2]; exact k5 i hi
            · obtain ⟨y, h1, h2, _⟩ := k6 i j _ hi (List.getElem?_eq_getElem (by rw [k5 _ hi]; exact hj))
              obtain ⟨y', h3, h4⟩ := get i j hi hj
              rw [h3] at h1
              rw [h4, Option.some.inj h1]; exact h2
            · obtain ⟨cs, q1, q2, q3⟩ := strip1_cells (gg i)
              rw [q1, q3] at hx
              obtain ⟨x0, hx0, rfl⟩ := Option.map_eq_some_iff.1 hx
              obtain ⟨y, h1, _, h5, _⟩ := k6 i j x0 hi hx0
              have hj : j < sz := by rw [← k5 i hi]; exact (List.getElem?_eq_some_iff.1 hx0).1
              obtain ⟨y', h3, h4⟩ := get i j hi hj
              rw [h3] at h1
              rw [h4, Option.some.inj h1]; exact (h5.stripC).mono g (BlLe.refl _)
    · exact .undef
  · rename_i id
    have key : ∀ (cs : List AV) (v : AV), heapX.get id = .cells cs → v.cells = AV.stripL cs → 0 < cs.length → AV.isDataL cs = true → Rep w F' U' bl (.cptr v) x := by
      intro cs v hg hvc hpos hd
      cases hv with
      | @ptr _ _ _ b hb =>
        have hr : isRowO (heapX.get id) = true := by rw [hg]; rfl
        have hobj := h.objs id b hb
        rw [(hX id hr).symm.trans hg] at hobj
        obtain ⟨c, e, fr, o1, o2, o3, o4⟩ := hobj
        obtain ⟨f1, f2⟩ := hF id b hb hr
        have f3 := f2 _ _ _ o1
        refine .cptr (fun j => c.getD j undef) ⟨rfl, f1, by simp only; rw [hvc, stripL_length]; omega, by rw [hvc, stripL_length]; exact hpos⟩ (fun j hj => ?_) (fun j q hq => ?_)
        · rw [hvc, stripL_length] at hj
          rw [cell_row o1, Nat.zero_add]
          have : j < c.size := by omega
          simp [Array.getD, this]
        · rw [hvc, stripL_get] at hq
          obtain ⟨q0, hq0, rfl⟩ := Option.map_eq_some_iff.1 hq
          have hl := (List.getElem?_eq_some_iff.1 hq0).1
          have hlc : j < c.size := by omega
          have := (o4 j q0 c[j] hq0 (by simp [hlc])).1
          have e1 : c.getD j undef = c[j] := by simp [Array.getD, hlc]
          rw [e1]
          exact (this.strip).mono g (BlLe.refl _)
    split
    · rename_i c hg
      cases hd : (c.isData && c.scal) with
      | false => exact .undef
      | true =>
        simp only [cond_true]
        rw [Bool.and_eq_true] at hd
        have hcc : c.cells = [c] := by
          cases c <;> first | rfl | simp [AV.scal] at hd
        refine key [c] c.strip hg ?_ (by simp) (by simp [AV.isDataL, hd.1])
        rw [strip_cells (by rw [hcc]; simp [hd.2]), hcc]
    · rename_i cs hne hg
      cases hd : (AV.isDataL cs && Nat.blt 1 cs.length) with
      | false => exact .undef
      | true =>
        simp only [cond_true]
        simp only [Bool.and_eq_true, blt_eq, decide_eq_true_eq] at hd
        exact key cs (.agg (AV.stripL cs)) hg rfl (by omega) hd.1
    · exact .undef
  · exact hv.mono g (BlLe.refl _)
theorem lendAV_rep (h : Rel P A nt pend env heap bor tm w U bl ob) {v : AV} {x : Value} (hv : Rep w (forb A bl heap) U bl v x) : Rep w (lentF A bl heap) (lentU w U bl heap) bl (lendAV heap v) x :=
  lendAV_gen h (fun _ _ => rfl) lent_grow (fun id b hid hr => ⟨lentF_row hid hr, fun c e fr hb => lentU_row hid hr hb⟩) hv
theorem lendL_rep (h : Rel P A nt pend env heap bor tm w U bl ob) : ∀ (args : List AV) (vs : List Value), RepL w (forb A bl heap) U bl args vs → RepL w (lentF A bl heap) (lentU w U bl heap) bl (lendL heap args) vs
  | [], vs, hv => ⟨hv.1, fun i x y hx => by simp [lendL] at hx⟩
  | v :: r, vs, hv => by
    obtain ⟨y, m, rfl, h1, h2⟩ := hv.head
    have ih := lendL_rep h r m h2
    refine RepL.cons ?_ ih
    cases v with
    | fn f first caps =>
      simp only
      cases h1 with
      | fn hn hm k1 k2 =>
        refine .fn hn (by simpa using hm) (fun i x y hx hy => (k1 i x y hx hy).mono lent_grow (BlLe.refl _)) (fun i x y hx hy => ?_)
        rw [List.getElem?_map] at hx
        obtain ⟨q, hq, rfl⟩ := Option.map_eq_some_iff.1 hx
        exact lendAV_rep h (k2 i q y hq hy)
    | _ => exact lendAV_rep h h1
theorem flat_any {v : AV} {x : Value} (hv : v.flatR = true) {F : Nat → Prop} {U : Nat → Nat} {bl : Blocks} (h : Rep w F U bl v x) (w' : World) (F' : Nat → Prop) (U' : Nat → Nat) (bl' : Blocks) : Rep w' F' U' bl' v x ∧ Bare v := by
  cases v <;> simp [AV.flatR] at hv
  · obtain rfl := rep_bool h; exact ⟨.bool, bare_of rfl⟩
  · obtain rfl := rep_int h; exact ⟨.int, bare_of rfl⟩
  · obtain rfl := rep_str h; exact ⟨.str, bare_of rfl⟩
theorem scal_any {v : AV} {x : Value} (hv : v.scalR = true) {F : Nat → Prop} {U : Nat → Nat} {bl : Blocks} (h : Rep w F U bl v x) (w' : World) (F' : Nat → Prop) (U' : Nat → Nat) (bl' : Blocks) : Rep w' F' U' bl' v x ∧ Bare v := by
  cases v with
  | tup l =>
    simp only [AV.scalR, List.all_eq_true] at hv
    cases h with
    | @tup _ _ vs hn hh =>
      refine ⟨.tup hn fun i a b ha hb => (flat_any (hv a (List.mem_of_getElem? ha)) (hh i a b ha hb) w' F' U' bl').1, fun p u hp => ?_⟩
      cases p with
      | nil => simp [AV.at] at hp; subst hp; rfl
      | cons i p =>
        simp only [AV.at] at hp
        split at hp
        · rename_i c hc
          have hl := (List.getElem?_eq_some_iff.1 hc).1
          exact (flat_any (hv c (List.mem_of_getElem? hc)) (hh i c (vs[i]'(by omega)) hc (by simp)) w' F' U' bl').2 p u hp
        · simp at hp
  | _ => refine flat_any ?_ h w' F' U' bl'; simpa [AV.scalR] using hv
theorem lent_lt (h : Rel P A nt pend env heap bor tm w U bl ob) : ∀ b, lentF A bl heap b → b < w.heap.size := by
  rintro b ⟨hf | ⟨id, hi, _⟩, _⟩
  · have := h.f0 b hf; have := h.hB; omega
  · exact (h.base id b hi).2.1
theorem call_lend (h : Rel P A nt pend env heap bor tm w U bl ob) {d : Option Nat} (hd : ∀ t, d = some t → t < nt) {f : FuncId} {args : List AV} {vs : Array Value} {Q : AV → Prop} (hc : CallOK P f (lendL heap args) Q)
    (ha : RepL w (forb A bl heap) U bl args vs.toList) (hdata : AV.isDataL (lendL heap args) = true) :
    Calls P f vs w fun e w' => ∃ r x, e = .returned x ∧ Q r ∧ (r.scalR = true → ∃ U' ob', Rel P A nt pend (setO env d r) heap bor (putO tm d x) w' U' bl ob') := by
  have hl := lendL_rep h args vs.toList ha
  refine (hc.2 w (lentF A bl heap) (lentU w U bl heap) vs (lent_lt h) ⟨hl.1, fun i x y hx hy => (hl.2 i x y hx hy).data (isDataL_get hdata i x hx)⟩).mono ?_
  rintro e w' ⟨r, x, U', own, rfl, hext, hrep, hown, hob, hq⟩
  refine ⟨r, x, rfl, hq, fun hs => ?_⟩
  have hext' : Ext w U w' (fun c => if c < w.heap.size then U c else U' c) := ⟨hext.os, hext.tape, hext.output, hext.size, fun b hb => ⟨(hext.block b hb).1, if_pos hb⟩, hext.drawn⟩
  have h' := h.ext hext'
  obtain ⟨r1, r2⟩ := scal_any hs hrep w' (forb A bl heap) (fun c => if c < w.heap.size then U c else U' c) bl
  obtain ⟨ob', h2⟩ := h'.put0 hd r1 (fun own => .bare r2)
  exact ⟨_, ob', h2⟩
structure SortWorld (w : World) (b : Nat) (w' : World) : Prop where
  os : w'.os = w.os
  tape : w'.tape = w.tape
  output : w'.output = w.output
  size : w.heap.size ≤ w'.heap.size
  other : ∀ k, k < w.heap.size → k ≠ b → w'.heap[k]? = w.heap[k]?
  drawn : w.drawn ≤ w'.drawn
def RowIs (w : World) (b sz n : Nat) (d : Nat → List Value) : Prop :=
  ∃ c e fr, w.heap[b]? = some (.cells c e fr) ∧ n * sz ≤ c.size ∧ (∀ o, o < c.size → w.frozen? ⟨b, o, none⟩ = false) ∧ ∀ i j, i < n → j < sz → c[i * sz + j]? = (d i)[j]?
def valOf (sz : Nat) (l : List Value) : Value := if sz = 1 then l.getD 0 undef else .agg l.toArray
structure SortPrim (P : Program) (f : FuncId) (sz : Nat) : Prop where
  pos : 0 < sz
  bodied : Bodied P f
  empty : ∀ (w : World) (ao : Option Addr) (cap : Nat) (fv : Value), Calls P f #[.slice ao 0 cap, fv] w fun e w' => e = .returned (.tuple #[]) ∧ SortWorld w w.heap.size w'
  full : ∀ (w : World) (b cap n : Nat) (g : FuncId) (cb : Array Value) (d : Nat → List Value) (c : Nat → Nat → Int), RowIs w b sz n d → 0 < n → n ≤ cap → n < 4611686018427387904 →
    (∀ i, i < n → (d i).length = sz ∧ ∀ v ∈ d i, v.oneCell' = true) → (∀ i, i < n → ¬ c i i < 0) → (∀ i j k, i < n → j < n → k < n → c i j < 0 → c j k < 0 → c i k < 0) → (∀ i j k, i < n → j < n → k < n → ¬ c i j < 0 → ¬ c j k < 0 → ¬ c i k < 0) → Bodied P g →
    (∀ w1, SortWorld w b w1 → ∀ i j, i < n → j < n → Calls P g (#[valOf sz (d i), valOf sz (d j)] ++ cb) w1 fun e w' => e = .returned (.int .i64 (c i j)) ∧ SortWorld w1 w1.heap.size w') →
    Calls P f #[.slice (some ⟨b, 0, none⟩) n cap, .func (.func g) #[] cb] w fun e w' => e = .returned (.tuple #[]) ∧ SortWorld w b w' ∧ ∃ σ : Nat → Nat, ((List.range n).map σ).Perm (List.range n) ∧ (∀ i j, i < j → j < n → ¬ c (σ j) (σ i) < 0) ∧ RowIs w' b sz n (fun i => d (σ i))
end
section
variable {P : Program} {A : Amb} {nt : Nat} {pend : List (Nat × AObj)} {env : Env} {heap : Heap} {bor : Option (Nat × AV)} {tm : Array Value} {w : World} {U : Nat → Nat} {bl : Blocks} {ob : Loc → Option Nat}
theorem sortWorld_refl (w : World) (b : Nat) : SortWorld w b w := ⟨rfl, rfl, rfl, Nat.le_refl _, fun _ _ _ => rfl, Nat.le_refl _⟩
theorem cells_agg {v : AV} (h : 2 ≤ v.cells.length) : v = .agg v.cells := by
  cases v <;> simp [AV.cells] at h ⊢
theorem one_cells {w : World} {F : Nat → Prop} {U : Nat → Nat} {bl : Blocks} {x : AV} {y : Value} (h : Rep w F U bl x y) (ho : y.oneCell' = true) : x.cells = [x] := by
  cases x with
  | agg cs => cases h; simp [Value.oneCell'] at ho
  | _ => rfl
theorem oneOf_rep {w : World} {F : Nat → Prop} {U : Nat → Nat} {a : AV} {sz : Nat} {l : List Value} (hs : a.cells.length = sz) (h0 : 0 < sz) (hl : l.length = sz) (ho : ∀ v ∈ l, v.oneCell' = true) (h : ∀ (j : Nat) x, a.cells[j]? = some x → ∃ y, l[j]? = some y ∧ Rep w F U [] x y) :
    Rep w F U [] (oneOf sz a) (valOf sz l) ∧ (oneOf sz a).cells = a.cells := by
  unfold oneOf valOf
  rw [beq_eq]
  by_cases h1 : sz = 1
  · subst h1
    simp only [decide_true, cond_true, if_true]
    obtain ⟨x, hx⟩ := List.length_eq_one_iff.1 hs
    obtain ⟨y, hy⟩ := List.length_eq_one_iff.1 hl
    rw [hx] at h
    simp only [hx]
    obtain ⟨y', h1, h2⟩ := h 0 x rfl
    subst hy
    simp at h1; subst h1
    exact ⟨h2, one_cells h2 (ho _ (by simp))⟩
  · rw [decide_eq_false h1]
    simp only [cond_false, if_neg h1]
    refine ⟨?_, trivial⟩
    rw [cells_agg (by omega : 2 ≤ a.cells.length)]
    refine .agg (by simp; omega) fun j x y hx hy => ?_
    obtain ⟨y', h1, h2⟩ := h j x hx
    simp at hy
    rw [h1] at hy; cases hy; exact h2
theorem sortWorld_ext {w w' : World} {U : Nat → Nat} (h : SortWorld w w.heap.size w') : Ext w U w' U :=
  ⟨h.os, h.tape, h.output, h.size, fun b hb => ⟨h.other b hb (by omega), rfl⟩, h.drawn⟩
theorem sort_calls {X : Rec Prop} (hcall : ∀ f args Q, X.call f args Q → CallOK P f args Q) (h : Rel P A nt pend env heap bor tm w U bl ob) {f : FuncId} {sz : Nat} (hf : SortPrim P f sz) {id n : Nat} {e : Nat → AV} (hg : heap.get id = .arr sz n e)
    {g : FuncId} {caps : List AV} {x y : Value} (hx : Rep w (forb A bl heap) U bl (.row id sz 0 n) x) (hy : Rep w (forb A bl heap) U bl (.fn g [] caps) y) (hdata : AV.isDataL (caps.map (lendAV (heap.set id .dead))) = true) {K : List AV → Prop}
    (hk : sortP ((List.range n).map fun i => oneOf sz (e i)) (fun a b Q => X.call g (a :: b :: caps.map (lendAV (heap.set id .dead))) Q) K) :
    Calls P f #[x, y] w fun e' w' => e' = .returned (.tuple #[]) ∧ ∃ l, K l ∧ ∃ U' ob', Rel P A nt pend env (heap.set id (.arr sz n (splice e 0 n (vlist .undef l)))) bor tm w' U' bl ob' := by
  obtain ⟨hlen, c, hc1, hc2, hc3⟩ := hk
  have hlen : n < 4611686018427387904 := by simpa using hlen
  have h0 := hf.pos
  cases hx with
  | @row _ _ _ _ _ ao cap hcap hz =>
  rcases Nat.eq_zero_or_pos n with hn | hn
  · subst hn
    refine (hf.empty w ao cap y).mono ?_
    rintro e' w' ⟨rfl, hw⟩
    refine ⟨rfl, [], hc3 [] (by simp) (by simp), U, ob, ?_⟩
    rw [splice_zero, ← hg, heap_set_get]
    exact h.ext (sortWorld_ext hw)
  obtain ⟨b, hb, rfl⟩ := hz hn
  rw [Nat.zero_mul]
  cases hy with
  | @fn _ _ _ _ vs us n1 n2 r1 r2 =>
  obtain rfl : vs = #[] := by simp at n1; exact (Array.size_eq_zero_iff.1 n1.symm)
  obtain ⟨cs, el, fr, k1, k2, k3, k4, k5, k6⟩ := arr_obj h hb hg
  have hidl : id < heap.length := get_dead_ne hg (by simp)
  have hgetX : ∀ j, (heap.set id .dead).get j = if id = j then .dead else heap.get j := by
    intro j; rw [heap_get_set]
    by_cases e : id = j
    · subst e; simp [hidl]
    · simp [e]
  let d : Nat → List Value := fun i => (List.range sz).map fun j => cs.getD (i * sz + j) undef
  have hd1 : ∀ i, (d i).length = sz := fun i => by simp [d]
  have hcell : ∀ i j, i < n → j < sz → ∃ y, cs[i * sz + j]? = some y ∧ (d i)[j]? = some y := by
    intro i j hi hj
    have hlt : i * sz + j < cs.size := by have := index_mul (sz := sz) hi; omega
    exact ⟨cs[i * sz + j], by simp [hlt], by simp [d, hj, Array.getD, hlt]⟩
  have hone : ∀ i, i < n → ∀ v ∈ d i, v.oneCell' = true := by
    intro i hi v hv
    obtain ⟨j, hj⟩ := List.getElem?_of_mem hv
    have hjl : j < sz := by have := (List.getElem?_eq_some_iff.1 hj).1; rw [hd1] at this; exact this
    obtain ⟨y, h1, h2⟩ := hcell i j hi hjl
    rw [h2] at hj; cases hj
    obtain ⟨y', q1, q2, _⟩ := k6 i j _ hi (List.getElem?_eq_getElem (by rw [k5 i hi]; exact hjl))
    rw [h1] at q1; cases q1; exact q2
  have hel : ∀ i, i < n → Rep w (forb A bl heap) U [] (oneOf sz (e i)) (valOf sz (d i)) ∧ (oneOf sz (e i)).cells = (e i).cells := by
    intro i hi
    refine oneOf_rep (k5 i hi) h0 (hd1 i) (hone i hi) fun j x hx => ?_
    obtain ⟨y, q1, _, q3⟩ := k6 i j x hi hx
    have hj : j < sz := by rw [← k5 i hi]; exact (List.getElem?_eq_some_iff.1 hx).1
    obtain ⟨y', h1, h2⟩ := hcell i j hi hj
    rw [h1] at q1; cases q1; exact ⟨_, h2, q3⟩
  have mem : ∀ i, i < n → oneOf sz (e i) ∈ (List.range n).map fun i => oneOf sz (e i) := fun i hi => List.mem_map.2 ⟨i, by simpa using hi, rfl⟩
  let F' : Nat → Prop := fun c => lentF A bl heap c ∨ c = b
  have hbF : forb A bl heap b := .inr ⟨id, hb, by rw [hg]; simp⟩
  have g1 : Grow0 w (forb A bl heap) U w F' (lentU w U bl heap) := by
    refine ⟨fun c _ hf => ?_, fun c hl hc => lent_grow.ext c hl hc, (lent_grow (A := A) (w := w) (U := U) (bl := bl) (heap := heap)).up⟩
    rcases hf with hf | rfl
    · exact .inl hf.1
    · exact .inl hbF
  have hcaps : ∀ (i : Nat) q v, (caps.map (lendAV (heap.set id .dead)))[i]? = some q → us[i]? = some v → Rep w F' (lentU w U bl heap) [] q v := by
    intro i q v hq hv
    have hqd := isDataL_get hdata i q hq
    rw [List.getElem?_map] at hq
    obtain ⟨q0, hq0, rfl⟩ := Option.map_eq_some_iff.1 hq
    refine (lendAV_gen h (heapX := heap.set id .dead) (fun j hj => ?_) g1 (fun j b' hj hr => ?_) (r2 i q0 v hq0 hv)).data hqd
    · rw [hgetX] at hj ⊢
      by_cases e : id = j
      · rw [if_pos e] at hj; cases hj
      · rw [if_neg e]
    · have hne : id ≠ j := fun e => by rw [hgetX, if_pos e] at hr; cases hr
      have hr' : isRowO (heap.get j) = true := by rw [hgetX, if_neg hne] at hr; exact hr
      refine ⟨?_, fun c e fr hb' => lentU_row hj hr' hb'⟩
      rintro (hf | rfl)
      · exact lentF_row hj hr' hf
      · exact hne (h.inj id j _ hb hj)
  have hbod : Bodied P g := (hcall _ _ _ (hc1 _ (mem 0 hn) _ (mem 0 hn))).1
  refine (hf.full w b cap n g us d (fun i j => c (oneOf sz (e i)) (oneOf sz (e j))) ⟨cs, el, fr, k1, k3, k4, fun i j hi hj => ?_⟩ hn hcap hlen (fun i hi => ⟨hd1 i, hone i hi⟩) (fun i _ => hc2.irrefl _) (fun i j k _ _ _ => hc2.trans _ _ _) (fun i j k _ _ _ => hc2.ntrans _ _ _) hbod (fun w1 hw1 i j hi hj => ?_)).mono ?_
  · obtain ⟨y, q1, q2⟩ := hcell i j hi hj
    rw [q1, q2]
  · have hco := hcall _ _ _ (hc1 _ (mem i hi) _ (mem j hj))
    have g2 : Grow0 w F' (lentU w U bl heap) w1 F' (lentU w U bl heap) := ⟨fun c _ hf => .inl hf, fun c hl hc => ⟨Nat.le_refl _, fun o _ => cell_block (hw1.other c hl (fun e => hc (.inr e))) o⟩, fun c hl => ⟨Nat.lt_of_lt_of_le hl hw1.size, Nat.le_refl _⟩⟩
    refine (hco.2 w1 F' (lentU w U bl heap) _ (fun c hc => ?_) ⟨?_, fun k q v hq hv => ?_⟩).mono ?_
    · rcases hc with hc | rfl
      · exact Nat.lt_of_lt_of_le (lent_lt h c hc) hw1.size
      · exact Nat.lt_of_lt_of_le (lt_of_some k1) hw1.size
    · simp [n2]
    · match k with
      | 0 => simp at hq hv; subst hq hv; exact (((hel i hi).1).mono g1 (BlLe.refl _)).mono g2 (BlLe.refl _)
      | 1 => simp at hq hv; subst hq hv; exact (((hel j hj).1).mono g1 (BlLe.refl _)).mono g2 (BlLe.refl _)
      | k + 2 => exact (hcaps k q v (by simpa using hq) (by simpa using hv)).mono g2 (BlLe.refl _)
    · rintro e' w' ⟨r, v, U', own, rfl, hext, hrep, _, _, rfl⟩
      obtain rfl := rep_int hrep
      exact ⟨rfl, hext.os, hext.tape, hext.output, hext.size, fun k hk _ => (hext.block k hk).1, hext.drawn⟩
  · rintro e' w' ⟨rfl, hw, σ, s1, s2, cs', el', fr', q1, q2, q3, q4⟩
    have hσ : ∀ i, i < n → σ i < n := by
      intro i hi
      have : σ i ∈ (List.range n).map σ := List.mem_map.2 ⟨i, by simpa using hi, rfl⟩
      simpa using s1.mem_iff.1 this
    refine ⟨rfl, (List.range n).map fun i => oneOf sz (e (σ i)), hc3 _ ?_ ?_, ?_⟩
    · have := s1.map fun i => oneOf sz (e i)
      simpa [List.map_map, Function.comp_def] using this
    · rw [List.pairwise_map]
      have : (List.range n).Pairwise (fun i j => i < j ∧ j < n) := by
        rw [List.pairwise_iff_getElem]
        intro i j hi hj hij
        simp at hi hj ⊢
        exact ⟨hij, hj⟩
      exact this.imp fun hij => s2 _ _ hij.1 hij.2
    · have hlt := lt_of_some k1
      let w1 : World := { w with heap := w.heap.setIfInBounds b (.cells cs' el' fr') }
      have hw1 : Wrote w b (.cells cs' el' fr') w1 := ⟨rfl, rfl, rfl, by simp [w1], by simp [w1, hlt], fun c hc => by show (w.heap.setIfInBounds b _)[c]? = _; rw [Array.getElem?_setIfInBounds, if_neg (fun e => hc e.symm)], rfl⟩
      have hext : Ext w1 U w' U := by
        refine ⟨hw.os, hw.tape, hw.output, by rw [hw1.size]; exact hw.size, fun k hk => ⟨?_, rfl⟩, hw.drawn⟩
        rw [hw1.size] at hk
        by_cases ek : k = b
        · subst ek; rw [hw1.here, q1]
        · rw [hw1.other k ek]; exact hw.other k hk ek
      have hgv : ∀ i, i < n → splice e 0 n (vlist .undef ((List.range n).map fun i => oneOf sz (e (σ i)))) i = oneOf sz (e (σ i)) := by
        intro i hi
        rw [splice_get, if_pos (by omega)]
        simp [vlist, hi]
      have hrel : Rel P A nt pend env (heap.set id (.arr sz n (splice e 0 n (vlist .undef ((List.range n).map fun i => oneOf sz (e (σ i))))))) bor tm w1 U bl ob := by
        refine h.write hb (by rw [hg]; simp) (.inr (by intro kt reg ents e; rw [hg] at e; cases e)) (by simp) (by simp [AObj.isO]) hw1 (bor' := bor) (fun F hF hmono howns => ?_) (fun l _ _ => rfl) h.obinj (fun l c hl => h.obok l c hl) (fun j hj => rfl)
        have hFr : ∀ bl2 v x, Rep w (forb A bl heap) U bl2 v x → Rep w F U bl2 v x := fun bl2 v x hr => hr.mono ⟨fun c _ hf => .inl ((hF c).1 hf), fun c _ hc => ⟨Nat.le_refl _, fun o _ => rfl⟩, fun _ hb => ⟨hb, Nat.le_refl _⟩⟩ (BlLe.refl _)
        refine ⟨cs', el', fr', hw1.here, h0, q2, fun o ho => ?_, fun i hi => ?_, fun i j x hi hx => ?_⟩
        · have := q3 o ho
          simp only [World.frozen?, hw1.here]
          simp only [World.frozen?, q1] at this
          exact this
        · rw [hgv i hi, (hel _ (hσ i hi)).2]; exact k5 _ (hσ i hi)
        · rw [hgv i hi, (hel _ (hσ i hi)).2] at hx
          obtain ⟨y, p1, p2, p3⟩ := k6 (σ i) j x (hσ i hi) hx
          have hj : j < sz := by rw [← k5 (σ i) (hσ i hi)]; exact (List.getElem?_eq_some_iff.1 hx).1
          obtain ⟨y', h1, h2⟩ := hcell (σ i) j (hσ i hi) hj
          rw [h1] at p1; cases p1
          exact ⟨_, by rw [q4 i j hi hj]; exact h2, p2, hmono _ _ _ (hFr _ _ _ p3)⟩
      exact ⟨U, ob, hrel.ext hext⟩
end
end Ax
