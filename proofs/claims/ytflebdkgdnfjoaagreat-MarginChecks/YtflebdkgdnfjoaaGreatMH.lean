import Derived.Test.YtflebdkgdnfjoaaGreatMF
import Derived.Test.YtflebdkgdnfjoaaGreatMG
set_option linter.unusedVariables false
set_option linter.unusedSimpArgs false
namespace Ax
open Go Go.RowKit
theorem get_scrub (id : Nat) : ∀ (env : Env) (t : Nat), (env.scrub id).get t = bif (env.get t).has id then .undef else env.get t
  | [], t => by simp [Env.scrub, Env.get, AV.has]
  | (s, v) :: r, t => by
    simp only [Env.scrub, Env.get]
    cases h : Nat.beq s t with
    | true => simp
    | false => simp only [cond_false]; exact get_scrub id r t
theorem scrub_has (id : Nat) (env : Env) (t : Nat) : ((env.scrub id).get t).has id = false := by
  rw [get_scrub]
  cases h : (env.get t).has id with
  | true => rfl
  | false => simpa using h
theorem hasL_get {id : Nat} : ∀ {l : List AV}, AV.hasL id l = false → ∀ (i : Nat) c, l[i]? = some c → c.has id = false
  | [], _, i, c, hc => by simp at hc
  | v :: r, h0, i, c, hc => by
    simp only [AV.hasL, Bool.or_eq_false_iff] at h0
    cases i with
    | zero => simp at hc; exact hc ▸ h0.1
    | succ i => exact hasL_get h0.2 i c (by simpa using hc)
theorem noRef_get {id : Nat} : ∀ {h : Heap}, noRef id h = true → ∀ (j : Nat) cs, h.get j = .cells cs → ∀ (i : Nat) c, cs[i]? = some c → c.has id = false
  | [], _, j, cs, hg => by simp [Heap.get] at hg
  | .cells l :: r, hn, j, cs, hg => by
    simp only [noRef, Bool.and_eq_true, Bool.not_eq_true'] at hn
    cases j with
    | zero => simp only [Heap.get, AObj.cells.injEq] at hg; subst hg; exact hasL_get hn.1
    | succ j => exact noRef_get hn.2 j cs (by simpa [Heap.get] using hg)
  | .arr a b c :: r, hn, j, cs, hg => by
    cases j with
    | zero => simp [Heap.get] at hg
    | succ j => exact noRef_get (by simpa [noRef] using hn) j cs (by simpa [Heap.get] using hg)
  | .oarr a b c :: r, hn, j, cs, hg => by
    cases j with
    | zero => simp [Heap.get] at hg
    | succ j => exact noRef_get (by simpa [noRef] using hn) j cs (by simpa [Heap.get] using hg)
  | .map a b c :: r, hn, j, cs, hg => by
    cases j with
    | zero => simp [Heap.get] at hg
    | succ j => exact noRef_get (by simpa [noRef] using hn) j cs (by simpa [Heap.get] using hg)
  | .iter a b c :: r, hn, j, cs, hg => by
    cases j with
    | zero => simp [Heap.get] at hg
    | succ j => exact noRef_get (by simpa [noRef] using hn) j cs (by simpa [Heap.get] using hg)
  | .dead :: r, hn, j, cs, hg => by
    cases j with
    | zero => simp [Heap.get] at hg
    | succ j => exact noRef_get (by simpa [noRef] using hn) j cs (by simpa [Heap.get] using hg)
theorem set_last : ∀ (h : Heap) (o o' : AObj), Heap.set (h ++ [o]) h.length o' = h ++ [o']
  | [], o, o' => rfl
  | x :: r, o, o' => by simp only [List.cons_append, List.length_cons, Heap.set, set_last r o o']
section
variable {P : Program} {A : Amb} {nt : Nat} {pend : List (Nat × AObj)} {env : Env} {heap : Heap} {bor : Option (Nat × AV)} {tm : Array Value} {w : World} {U : Nat → Nat} {bl : Blocks} {ob : Loc → Option Nat}
theorem Rel.scrubE (h : Rel P A nt pend env heap bor tm w U bl ob) (id : Nat) : Rel P A nt pend (env.scrub id) heap bor tm w U bl ob := by
  refine { h with env := fun t => ?_ }
  rw [get_scrub]
  cases (env.get t).has id with
  | true => exact ⟨.undef, .bare (bare_of rfl)⟩
  | false => exact h.env t
theorem obj_rebl {w : World} {F : Nat → Prop} {U : Nat → Nat} {bl bl' : Blocks} {B : Nat} {own ownM : Nat → List Nat → Option Nat} {bo : Option AV} {o : AObj} {b id : Nat} (hb : ∀ j b : Nat, j ≠ id → bl[j]? = some (some b) → bl'[j]? = some (some b))
    (h : ObjRep P w F U bl B own ownM bo o b) (hc : ∀ cs, o = .cells cs → ∀ (i : Nat) c, cs[i]? = some c → c.has id = false) (hi : ∀ q left cu, o = .iter (some q) left cu → q ≠ id) : ObjRep P w F U bl' B own ownM bo o b := by
  cases o with
  | cells cs =>
    obtain ⟨c, e, fr, h1, h2, h3, h4⟩ := h
    exact ⟨c, e, fr, h1, h2, h3, fun i x y hx hy => ⟨(h4 i x y hx hy).1.rebl hb (hc cs rfl i x hx), (h4 i x y hx hy).2⟩⟩
  | arr sz n g => exact h
  | oarr sz n g => exact h
  | map kt reg ents => exact h
  | iter q l cu =>
    cases q with
    | none => exact h
    | some q =>
      obtain ⟨bm, es, clock, seen, last, h1, h2⟩ := h
      exact ⟨bm, es, clock, seen, last, hb q bm (hi q l cu rfl) h1, h2⟩
  | dead => trivial
theorem Rel.rebind (h : Rel P A nt pend env heap bor tm w U bl ob) {id sz n n' : Nat} {g g' : Nat → AV} (hg : heap.get id = .oarr sz n g) (hno : ((∀ t, (env.get t).has id = false) ∧ noRef id heap = true) ∨ bl[id]? = some none) {row : Array Value} {e : TypeId} {q : Nat} (hq : w.drawn ≤ q) (hsz : 0 < sz) (hn : n' * sz ≤ row.size)
    (hl : ∀ i, i < n' → (g' i).cells.length = sz) (hr : ∀ (i j : Nat) x, i < n' → (g' i).cells[j]? = some x → ∃ y, row[i * sz + j]? = some y ∧ y.oneCell' = true ∧ Rep w (forb A bl heap) U [] x y ∧ OwnAt w (forb A bl heap) U A.B (fun p => ob (.cell id (i * sz + j) p)) x y) :
    Rel P A nt pend env (heap.set id (.oarr sz n' g')) bor tm (rowW { w with drawn := q } row e) (rowU w U row.size) (bl.set id (some w.heap.size)) ob := by
  have ext : Ext w U (rowW { w with drawn := q } row e) (rowU w U row.size) := (drew_ext w q U hq).trans (rowW_ext (w := { w with drawn := q }) _ e _)
  have hidl : id < heap.length := get_dead_ne hg (by simp)
  have hidb : id < bl.length := by rw [h.len]; exact hidl
  have hfro := h.fro id (by rw [hg]; rfl)
  have hget : ∀ j, (heap.set id (.oarr sz n' g')).get j = if id = j then .oarr sz n' g' else heap.get j := by
    intro j; rw [heap_get_set]
    by_cases e : id = j
    · subst e; simp [hidl]
    · simp [e]
  have hbl : ∀ (j b : Nat), (bl.set id (some w.heap.size))[j]? = some (some b) ↔ (j = id ∧ b = w.heap.size) ∨ (j ≠ id ∧ bl[j]? = some (some b)) := by
    intro j b
    rw [List.getElem?_set]
    by_cases e : id = j
    · subst e; simp [hidb]; exact ⟨fun h => h.symm, fun h => h.symm⟩
    · have e' : j ≠ id := fun h => e h.symm
      simp [e, e']
  have hbl1 : ∀ j b : Nat, j ≠ id → bl[j]? = some (some b) → (bl.set id (some w.heap.size))[j]? = some (some b) := fun j b hne hj => (hbl j b).2 (.inr ⟨hne, hj⟩)
  have tr : ∀ {F U' w'} {v : AV} {x : Value}, Rep w' F U' bl v x → (v.has id = false ∨ bl[id]? = some none) → Rep w' F U' (bl.set id (some w.heap.size)) v x := by
    intro F U' w' v x hv hc
    rcases hc with hc | hc
    · exact hv.rebl hbl1 hc
    · refine hv.mono (Grow0.refl _ _ _) (fun j b hj => (hbl j b).2 (.inr ⟨fun e => ?_, hj⟩))
      subst e; rw [hc] at hj; simp at hj
  have hforb : ∀ b, b < w.heap.size → forb A (bl.set id (some w.heap.size)) (heap.set id (.oarr sz n' g')) b → forb A bl heap b := by
    rintro b hb (hf | ⟨j, hj, hd⟩)
    · exact .inl hf
    · rcases (hbl j b).1 hj with ⟨_, rfl⟩ | ⟨hne, hj'⟩
      · omega
      · rw [hget, if_neg (fun e => hne e.symm)] at hd; exact .inr ⟨j, hj', hd⟩
  have gr : Grow0 w (forb A bl heap) U (rowW { w with drawn := q } row e) (forb A (bl.set id (some w.heap.size)) (heap.set id (.oarr sz n' g'))) (rowU w U row.size) :=
    ⟨fun b hb hf => .inl (hforb b hb hf), fun b hb _ => ⟨Nat.le_of_eq (ext.block b hb).2.symm, fun o _ => cell_block (ext.block b hb).1 o⟩, fun b hb => ⟨Nat.lt_of_lt_of_le hb ext.size, Nat.le_of_eq (ext.block b hb).2.symm⟩⟩
  have kp : ∀ c, c < w.heap.size → ¬ forb A bl heap c → (rowW { w with drawn := q } row e).heap[c]? = w.heap[c]? ∧ rowU w U row.size c = U c ∧ ¬ forb A (bl.set id (some w.heap.size)) (heap.set id (.oarr sz n' g')) c :=
    fun c hc hn => ⟨(ext.block c hc).1, (ext.block c hc).2, fun hf => hn (hforb c hc hf)⟩
  have hhere : (rowW { w with drawn := q } row e).heap[w.heap.size]? = some (.cells row e) := rowW_block (w := { w with drawn := q }) _ e
  have hsize : w.heap.size < (rowW { w with drawn := q } row e).heap.size := by simp [rowW]
  refine { size := h.size, env := fun t => ⟨tr ((h.env t).1.mono gr (BlLe.refl _)) (hno.imp (fun k => k.1 t) (fun k => k)), ownAt_keeps (h.env t).2 gr (fun p b _ => kp b)⟩, len := by rw [List.length_set, heap_set_length]; exact h.len, objs := ?_, inj := ?_, base := ?_, obinj := h.obinj, obok := fun l b hb => ⟨(h.obok l b hb).1, Nat.lt_of_lt_of_le (h.obok l b hb).2.1 ext.size, fun j hj => ?_⟩, since := ?_, f0 := h.f0, hB := Nat.le_trans h.hB ext.size, hG := fun b hb => Nat.lt_of_lt_of_le (h.hG b hb) ext.size, pend := ?_, fro := fun j hj => ?_ }
  · intro j b hj
    rw [hget]
    rcases (hbl j b).1 hj with ⟨rfl, rfl⟩ | ⟨hne, hj'⟩
    · rw [if_pos rfl]
      refine ⟨row, e, (0, 0), hhere, hsz, hn, by simp [rowU], fun o => ?_, hl, fun i j x hi hx => ?_⟩
      · simp only [World.frozen?]; rw [hhere]; simp
      · obtain ⟨y, h1, h2, h3, h4⟩ := hr i j x hi hx
        exact ⟨y, h1, h2, h3.mono gr (BlLe.refl _), ownAt_keeps h4 gr (fun p c _ => kp c)⟩
    · rw [if_neg (fun e => hne e.symm)]
      have hlt := (h.base j b hj').2.1
      have h1 := obj_keeps (h.objs j b hj') gr (BlLe.refl _) (ext.block b hlt).1 (fun _ => (ext.block b hlt).2) (fun _ _ bm _ _ hm => (ext.block bm (h.base _ bm hm).2.1).1) (fun c _ => kp c)
      rcases hno with hno | hno
      · refine obj_rebl hbl1 h1 (fun cs hcs => noRef_get hno.2 j cs hcs) (fun qq left cu hq2 e2 => ?_)
        subst e2
        have h2 := h.objs j b hj'
        rw [hq2] at h2
        obtain ⟨bm, es, clock, seen, last, q1, q2, _⟩ := h2
        have h3 := h.objs _ bm q1
        rw [hg] at h3
        obtain ⟨c, e, fr, q3, _⟩ := h3
        rw [q2] at q3; cases q3
      · exact obj_keeps h1 (Grow0.refl _ _ _) (fun j2 b2 hj2 => (hbl j2 b2).2 (.inr ⟨fun e => by subst e; rw [hno] at hj2; simp at hj2, hj2⟩)) rfl (fun _ => rfl) (fun _ _ _ _ _ _ => rfl) (fun c _ _ hn => ⟨rfl, rfl, hn⟩)
  · intro i j b hi hj
    rcases (hbl i b).1 hi with ⟨rfl, rfl⟩ | ⟨_, hi'⟩ <;> rcases (hbl j _).1 hj with ⟨rfl, e⟩ | ⟨_, hj'⟩
    · rfl
    · have := (h.base j _ hj').2.1; omega
    · have := (h.base i _ hi').2.1; omega
    · exact h.inj i j b hi' hj'
  · intro j b hj
    rcases (hbl j b).1 hj with ⟨rfl, rfl⟩ | ⟨_, hj'⟩
    · exact ⟨h.hB, hsize, fun hf => by have := h.f0 _ hf; have := h.hB; omega, fun hf => by have := h.hG _ hf; omega⟩
    · obtain ⟨b1, b2, b3⟩ := h.base j b hj'
      exact ⟨b1, Nat.lt_of_lt_of_le b2 ext.size, b3⟩
  · rcases (hbl j b).1 hj with ⟨_, e⟩ | ⟨_, hj'⟩
    · have := (h.obok l b hb).2.1; omega
    · exact (h.obok l b hb).2.2 j hj'
  · refine { below := h.since.below.trans ⟨ext.os, ext.tape, ext.output, ext.size, fun k hk => (ext.block k (Nat.lt_of_lt_of_le hk h.hB)).1, ext.drawn⟩, g0 := h.since.g0.trans gr h.since.below.size, ble := fun j b hj => ?_, pnd := fun j hj => ?_, gown := fun b hb => ?_, blen := by rw [List.length_set]; exact h.since.blen, ub := fun b hb => ?_ }
    · have := (List.getElem?_eq_some_iff.1 hj).1
      exact hbl1 j b (by omega) (h.since.ble j b hj)
    · have := (List.getElem?_eq_some_iff.1 hj).1
      obtain ⟨p1, p2⟩ := h.since.pnd j hj
      exact ⟨by rw [List.getElem?_set, if_neg (by omega)]; exact p1, by rw [hget, if_neg (by omega)]; exact p2⟩
    · obtain ⟨g1, g2⟩ := h.since.gown b hb
      have hlt := h.hG b hb
      exact ⟨(ext.block b hlt).1.trans g1, (ext.block b hlt).2.trans g2⟩
    · rw [(ext.block b (Nat.lt_of_lt_of_le hb h.hB)).2]; exact h.since.ub b hb
  · intro p hp
    obtain ⟨p1, p2, p3⟩ := h.pend p hp
    have hne : id ≠ p.1 := fun e => by rw [← e, hg] at p2; rw [← p2] at p3; cases p3
    exact ⟨by rw [List.getElem?_set, if_neg hne]; exact p1, by rw [hget, if_neg hne]; exact p2, p3⟩
  · rw [hget] at hj
    by_cases e : id = j
    · subst e; exact hfro
    · rw [if_neg e] at hj; exact h.fro j hj
theorem Rel.setNone (h : Rel P A nt pend env heap bor tm w U bl ob) {id : Nat} (hid : bl[id]? = some none) (hp0 : ∀ p ∈ pend, p.1 ≠ id) (hA : A.bl0.length ≤ id) (o : AObj) : Rel P A nt pend env (heap.set id o) bor tm w U bl ob := by
  have hget : ∀ j, j ≠ id → (heap.set id o).get j = heap.get j := by
    intro j hj; rw [heap_get_set, if_neg (fun e => hj e.1.symm)]
  have hne : ∀ j b : Nat, bl[j]? = some (some b) → j ≠ id := fun j b hj e => by subst e; rw [hid] at hj; simp at hj
  have hforb : ∀ c, forb A bl (heap.set id o) c ↔ forb A bl heap c := by
    intro c
    constructor
    · rintro (hf | ⟨j, hj, hd⟩)
      · exact .inl hf
      · rw [hget j (hne j c hj)] at hd; exact .inr ⟨j, hj, hd⟩
    · rintro (hf | ⟨j, hj, hd⟩)
      · exact .inl hf
      · exact .inr ⟨j, hj, by rw [hget j (hne j c hj)]; exact hd⟩
  have g : Grow0 w (forb A bl heap) U w (forb A bl (heap.set id o)) U := ⟨fun c _ hf => .inl ((hforb c).1 hf), fun c _ _ => ⟨Nat.le_refl _, fun _ _ => rfl⟩, fun _ hb => ⟨hb, Nat.le_refl _⟩⟩
  have kp : ∀ c, c < w.heap.size → ¬ forb A bl heap c → w.heap[c]? = w.heap[c]? ∧ U c = U c ∧ ¬ forb A bl (heap.set id o) c := fun c _ hn => ⟨rfl, rfl, fun hf => hn ((hforb c).1 hf)⟩
  refine { size := h.size, env := fun t => ⟨(h.env t).1.mono g (BlLe.refl _), ownAt_keeps (h.env t).2 g (fun p b _ => kp b)⟩, len := by rw [heap_set_length]; exact h.len, objs := ?_, inj := h.inj, base := h.base, obinj := h.obinj, obok := h.obok, since := ?_, f0 := h.f0, hB := h.hB, hG := h.hG, pend := ?_, fro := fun j hj => ?_ }
  · intro j b hj
    rw [hget j (hne j b hj)]
    exact obj_keeps (h.objs j b hj) g (BlLe.refl _) rfl (fun _ => rfl) (fun _ _ _ _ _ _ => rfl) (fun c _ => kp c)
  · refine { below := h.since.below, g0 := h.since.g0.trans g h.since.below.size, ble := h.since.ble, pnd := fun j hj => ?_, gown := h.since.gown, blen := h.since.blen, ub := h.since.ub }
    have := (List.getElem?_eq_some_iff.1 hj).1
    obtain ⟨p1, p2⟩ := h.since.pnd j hj
    exact ⟨p1, by rw [hget j (by omega)]; exact p2⟩
  · intro p hp
    obtain ⟨p1, p2, p3⟩ := h.pend p hp
    exact ⟨p1, by rw [hget p.1 (hp0 p hp)]; exact p2, p3⟩
  · by_cases e : j = id
    · subst e; exact hA
    · rw [hget j e] at hj; exact h.fro j hj
theorem Rel.notPend (h : Rel P A nt pend env heap bor tm w U bl ob) {id : Nat} (ho : (heap.get id).isO = true) : ∀ p ∈ pend, p.1 ≠ id := fun p hp e => by
  obtain ⟨_, p2, p3⟩ := h.pend p hp
  rw [e] at p2
  rw [← p2] at p3
  cases hh : heap.get id <;> rw [hh] at ho p3 <;> first | (simp [AObj.isArr] at p3; done) | (simp [AObj.isO] at ho; done)
theorem block_first {b n sz cap : Nat} {c : Array Value} {el : TypeId} {fr : Nat × Nat} (k1 : w.heap[b]? = some (.cells c el fr)) (hle : n * sz ≤ c.size) (w' : World) (hw' : w'.heap = w.heap) :
    (Builtin.firstCells sz n (.slice (some ⟨b, 0, none⟩) n cap)).run P w' = .ok ((List.range (n * sz)).map fun k => c.getD k undef).toArray w' := by
  have := run_loadCells (P := P) w' ⟨b, 0, none⟩ (n * sz) (fun k => c.getD k undef) (fun k hk => by
    rw [addr_add, cell_heap hw', cell_row k1, Nat.zero_add]
    have : k < c.size := by omega
    simp [Array.getD, this])
  simpa [Builtin.firstCells] using this
theorem appendO_sound (h : Rel P A nt pend env heap bor tm w U bl ob) {s id : Nat} {t u ty : TypeId} {x v : AV} {x' : Value} {heap' : Heap} {d : Option Nat} (hd : ∀ t, d = some t → t < nt)
    (ha : appendO P t u heap (env.get s) x = some (id, v, heap')) (hx : Rep w (forb A bl heap) U bl x x') :
    ∃ y w' U' bl' ob', (Builtin.append_ #[t, u] ty #[tm.getD s undef, x']).run P w = .ok y w' ∧ Rel P A nt pend (setO (env.scrub id) d v) heap' bor (putO tm d y) w' U' bl' ob' := by
  unfold appendO at ha
  split at ha
  · rename_i e id0 sz n ht hb
    split at ha
    · rename_i sz' n' g m g' hg hs
      cases hc : (isSliceT P u && (Nat.beq sz sz' && Nat.beq n n' && Nat.beq sz (tySz P e) && Nat.blt 0 sz && zeroFits P e && Nat.blt 0 (tyBy P e)) && noRef id0 heap) with
      | false => rw [hc] at ha; simp at ha
      | true =>
        rw [hc] at ha
        cases hr : roomOK (n + m) (tyBy P e) with
        | false => rw [hr] at ha; simp at ha
        | true =>
          rw [hr] at ha
          simp only [cond_true, Option.some.injEq, Prod.mk.injEq] at ha
          obtain ⟨rfl, rfl, rfl⟩ := ha
          simp only [Bool.and_eq_true, beq_eq, blt_eq, decide_eq_true_eq] at hc
          obtain ⟨⟨hu, ⟨⟨⟨⟨rfl, rfl⟩, rfl⟩, h0⟩, hz⟩, hby⟩, hnr⟩ := hc
          have hsrc := srcOf_sound hs hx h.objsOK h0
          have hbr := (h.env s).1
          rw [hb] at hbr
          obtain ⟨ao, cap, hval, hncap, hzz⟩ : ∃ ao cap, tm.getD s undef = .slice ao n cap ∧ n ≤ cap ∧ (cap = 0 ∨ ∃ b, bl[id0]? = some (some b) ∧ ao = some ⟨b, 0, none⟩ ∧ b < w.heap.size ∧ cap * tySz P e ≤ U b ∧ cap ≤ 9223372036854775807) := by
            generalize tm.getD s undef = q at hbr
            cases hbr with | brow hn hz => exact ⟨_, _, rfl, hn, hz⟩
          rw [hval]
          have hscr := h.scrubE id0
          have hio : (heap.get id0).isO = true := by rw [hg]; rfl
          obtain ⟨cs, k1, k2, k3, ko, k4, k5⟩ := hsrc
          have hl1 : ∀ i, i < n + m → (vapp (zeroElem P e) g n (fun j => (g' j).strip1) m i).cells.length = tySz P e → True := fun _ _ _ => trivial
          by_cases hmv : n + m ≤ cap
          · have hrun := append_stay (ty := ty) (base := ao) (n := n) ht hu h0 k1 (k2 w rfl) hmv
            rcases hzz with hcap | ⟨b, hbb, rfl, hblt, hcu⟩
            · obtain rfl : n = 0 := by omega
              obtain rfl : m = 0 := by omega
              have hcs : cs = [] := List.length_eq_zero_iff.1 (by rw [k3]; simp)
              subst hcs
              have hrun' : (Builtin.append_ #[t, u] ty #[.slice ao 0 cap, x']).run P w = .ok (.slice ao 0 cap) w := by
                rw [hrun]; cases ao <;> simp [storeCells]
              have hrel : Rel P A nt pend (env.scrub id0) (heap.set id0 (.oarr (tySz P e) (0 + 0) (vapp (zeroElem P e) g 0 (fun j => (g' j).strip1) 0))) bor tm w U bl ob := by
                have hlen : id0 < bl.length := by rw [h.len]; exact get_dead_ne hg (by simp)
                cases hbi : bl[id0]? with
                | none => rw [List.getElem?_eq_none_iff] at hbi; omega
                | some q =>
                  cases q with
                  | none => exact hscr.setNone hbi (h.notPend hio) (h.fro id0 hio) _
                  | some b =>
                    obtain ⟨c, el, fr, q1, q2, q3, q4, q5, q6, q7⟩ := obj_o h hbi hg
                    have hw : Wrote w b (.cells c el fr) w := ⟨rfl, rfl, rfl, rfl, q1, fun _ _ => rfl, rfl⟩
                    refine hscr.write hbi (by rw [hg]; simp) (.inr (by intro kt reg ents e; rw [hg] at e; cases e)) (by simp) (fun _ => h.fro id0 hio) hw (bor' := bor) (fun F hF hmono howns => ?_) (fun l _ _ => rfl) h.obinj (fun l c hl => h.obok l c hl) (fun j hj => rfl)
                    exact ⟨c, el, fr, q1, q2, by omega, q4, q5, fun i hi => by omega, fun i j x hi => by omega⟩
              cases d with
              | none => exact ⟨_, _, _, _, _, hrun', hrel⟩
              | some d => exact ⟨_, _, _, _, _, hrun', hrel.putG (hd d rfl) (fun _ => none) (.brow (by omega) (.inl hcap)) (.bare (bare_of rfl)) (fun p b hb => by simp at hb)⟩
            · obtain ⟨c, el, fr, q1, q2, q3, q4, q5, q6, q7⟩ := obj_o h hbb hg
              have hsp : (n + m) * tySz P e = n * tySz P e + m * tySz P e := Nat.add_mul _ _ _
              have hle : (n + m) * tySz P e ≤ cap * tySz P e := Nat.mul_le_mul_right _ hmv
              obtain ⟨w', c', r1, r2, r3, r4⟩ := storeCells_run (P := P) b (n * tySz P e) cs 0 w c el fr q1 (by omega) ko (fun o h1 h2 => q5 o)
              have hrun' : (Builtin.append_ #[t, u] ty #[.slice (some ⟨b, 0, none⟩) n cap, x']).run P w = .ok (.slice (some ⟨b, 0, none⟩) (n + m) cap) w' := by
                rw [hrun]; simp only [addr_add, Nat.zero_add, r1, Result.andThen_ok]
              have hrel : Rel P A nt pend (env.scrub id0) (heap.set id0 (.oarr (tySz P e) (n + m) (vapp (zeroElem P e) g n (fun j => (g' j).strip1) m))) bor tm w' U bl ob := by
                refine hscr.write hbb (by rw [hg]; simp) (.inr (by intro kt reg ents e; rw [hg] at e; cases e)) (by simp) (fun _ => h.fro id0 hio) r2 (bor' := bor) (fun F hF hmono howns => ?_) (fun l _ _ => rfl) h.obinj (fun l c hl => h.obok l c hl) (fun j hj => rfl)
                have hFr : ∀ bl2 v x, Rep w (forb A bl heap) U bl2 v x → Rep w F U bl2 v x := fun bl2 v x hr => hr.mono ⟨fun c _ hf => .inl ((hF c).1 hf), fun c _ hc => ⟨Nat.le_refl _, fun o _ => rfl⟩, fun _ hb => ⟨hb, Nat.le_refl _⟩⟩ (BlLe.refl _)
                have hFo : ∀ own v x, OwnAt w (forb A bl heap) U A.B own v x → OwnAt w F U A.B own v x := fun own v x ho => ownAt_keeps ho ⟨fun c _ hf => .inl ((hF c).1 hf), fun c _ hc => ⟨Nat.le_refl _, fun o _ => rfl⟩, fun _ hb => ⟨hb, Nat.le_refl _⟩⟩ (fun p c _ _ hn => ⟨rfl, rfl, fun hf => hn ((hF c).1 hf)⟩)
                refine ⟨c', el, fr, r2.here, q2, by rw [r3]; omega, by rw [r3]; exact q4, fun o => ?_, fun i hi => ?_, fun i j y hi hy => ?_⟩
                · have := q5 o
                  simp only [World.frozen?, r2.here]
                  simp only [World.frozen?, q1] at this
                  exact this
                · rw [vapp_get]; split
                  · exact q6 i ‹_›
                  · skip
                    obtain ⟨l, l1, l2, _⟩ := strip1_cells (g' (i - n))
                    rw [l1, l2]; exact k4 _ (by omega)
                · rw [vapp_get] at hy
                  split at hy
                  · rename_i hlt
                    obtain ⟨z, z1, z2, z3, z4⟩ := q7 i j y hlt hy
                    have hj : j < tySz P e := by rw [← q6 i hlt]; exact (List.getElem?_eq_some_iff.1 hy).1
                    have hmul := index_mul (sz := tySz P e) hlt
                    exact ⟨z, by rw [r4, if_neg (by omega)]; exact z1, z2, hmono _ _ _ (hFr _ _ _ z3), howns _ _ _ (fun p hh => (h.obok _ _ hh).2.2 id0 hbb) (hFo _ _ _ z4)⟩
                  · rename_i hge
                    obtain ⟨l, l1, l2, l3⟩ := strip1_cells (g' (i - n))
                    rw [l1, l3] at hy
                    obtain ⟨y0, hy0, rfl⟩ := Option.map_eq_some_iff.1 hy
                    obtain ⟨z, hz1, hz2⟩ := k5 (i - n) j y0 (by omega) hy0
                    have hzl := (List.getElem?_eq_some_iff.1 hz1).1
                    have e1 : i * tySz P e = n * tySz P e + (i - n) * tySz P e := by rw [← Nat.add_mul]; congr 1; omega
                    refine ⟨z, ?_, ko z (List.mem_of_getElem? hz1), hmono _ _ _ (hFr _ _ _ hz2.stripC), .bare (stripC_bare _)⟩
                    rw [r4, if_pos (by omega), ← hz1]; congr 1; omega
              have hU : cap * tySz P e ≤ U b ∧ cap ≤ 9223372036854775807 := hcu
              cases d with
              | none => exact ⟨_, _, _, _, _, hrun', hrel⟩
              | some d => exact ⟨_, _, _, _, _, hrun', hrel.putG (hd d rfl) (fun _ => none) (.brow hmv (.inr ⟨b, hbb, rfl, by rw [r2.size]; exact hblt, hU⟩)) (.bare (bare_of rfl)) (fun p b hb => by simp at hb)⟩
          · obtain ⟨i, z, hi, hiz, hzs⟩ := zeroFits_of hz
            obtain ⟨os, q2, q3, q5⟩ : ∃ os : List Value, (∀ w' : World, w'.heap = w.heap → (Builtin.firstCells (tySz P e) n (.slice ao n cap)).run P w' = .ok os.toArray w') ∧ os.length = n * tySz P e ∧
                ∀ (i j : Nat) x, i < n → (g i).cells[j]? = some x → ∃ y, os[i * tySz P e + j]? = some y ∧ y.oneCell' = true ∧ Rep w (forb A bl heap) U [] x y ∧ OwnAt w (forb A bl heap) U A.B (fun p => ob (.cell id0 (i * tySz P e + j) p)) x y := by
              rcases hzz with hcap | ⟨b, hbb, rfl, hblt, hcu⟩
              · obtain rfl : n = 0 := by omega
                refine ⟨[], fun w' hw' => ?_, by simp, fun i j x hi => by omega⟩
                cases ao with
                | none => simp [Builtin.firstCells]
                | some a => simp [Builtin.firstCells, loadCells, loadCellsFrom]
              · obtain ⟨c, el, fr, q1, q2, q3, q4, q5, q6, q7⟩ := obj_o h hbb hg
                refine ⟨_, block_first q1 q3, by simp, fun i j x hi hx => ?_⟩
                obtain ⟨y, y1, y2, y3, y4⟩ := q7 i j x hi hx
                have hj : j < tySz P e := by rw [← q6 i hi]; exact (List.getElem?_eq_some_iff.1 hx).1
                have hmul := index_mul (sz := tySz P e) hi
                have hlt := (Array.getElem?_eq_some_iff.1 y1).1
                have hval := (Array.getElem?_eq_some_iff.1 y1).2
                refine ⟨y, ?_, y2, y3, y4⟩
                rw [List.getElem?_map, List.getElem?_range (by omega)]
                simp [Array.getD, hlt, hval]
            have hgl : ∀ i, i < n → (g i).cells.length = tySz P e := by
              intro i hi
              rcases hzz with hcap | ⟨b, hbb, rfl, hblt, hcu⟩
              · omega
              · obtain ⟨c, el, fr, _, _, _, _, _, q6, _⟩ := obj_o h hbb hg
                exact q6 i hi
            obtain ⟨c, q, hc, hq, hrun⟩ := append_move (ty := ty) ht hu hi hiz h0 hby hr k1 k2 q2 hmv
            have hrow : (grownRow P e z os cs (c - (n + m))).size = c * tySz P e := by
              simp only [grownRow, Builtin.zeroCells, Array.size_append, List.size_toArray, Array.size_map, Array.size_range, q3, k3, hzs]
              have hc1 := hc.1
              rw [← Nat.add_mul, ← Nat.add_mul]; congr 1; omega
            have hle : (n + m) * tySz P e ≤ c * tySz P e := Nat.mul_le_mul_right _ hc.1
            have hsp : (n + m) * tySz P e = n * tySz P e + m * tySz P e := Nat.add_mul _ _ _
            have hrel := hscr.rebind hg (.inl ⟨scrub_has id0 env, hnr⟩) (row := grownRow P e z os cs (c - (n + m))) (e := e) (q := q) (n' := n + m) (g' := vapp (zeroElem P e) g n (fun j => (g' j).strip1) m) hq h0 (by rw [hrow]; exact hle) (fun i hi => by
                rw [vapp_get]; split
                · exact hgl i ‹_›
                · skip
                  obtain ⟨l, l1, l2, _⟩ := strip1_cells (g' (i - n))
                  rw [l1, l2]; exact k4 _ (by omega)) (fun i j y hi hy => by
                rw [vapp_get] at hy
                split at hy
                · rename_i hlt
                  obtain ⟨z2, z1, z3, z4, z5⟩ := q5 i j y hlt hy
                  have hl := (List.getElem?_eq_some_iff.1 z1).1
                  refine ⟨z2, ?_, z3, z4, z5⟩
                  unfold grownRow
                  rw [Array.getElem?_append_left (by simp; omega), Array.getElem?_append_left (by simpa using hl)]
                  simpa using z1
                · rename_i hge
                  obtain ⟨l, l1, l2, l3⟩ := strip1_cells (g' (i - n))
                  rw [l1, l3] at hy
                  obtain ⟨y0, hy0, rfl⟩ := Option.map_eq_some_iff.1 hy
                  obtain ⟨z2, hz1, hz2⟩ := k5 (i - n) j y0 (by omega) hy0
                  have hl := (List.getElem?_eq_some_iff.1 hz1).1
                  have e1 : i * tySz P e = n * tySz P e + (i - n) * tySz P e := by rw [← Nat.add_mul]; congr 1; omega
                  refine ⟨z2, ?_, ko z2 (List.mem_of_getElem? hz1), hz2.stripC, .bare (stripC_bare _)⟩
                  unfold grownRow
                  rw [Array.getElem?_append_left (by simp; omega), Array.getElem?_append_right (by simp; omega)]
                  simp only [List.getElem?_toArray, List.size_toArray, q3]
                  rw [← hz1]; congr 1; omega)
            have hidb : id0 < bl.length := by rw [h.len]; exact get_dead_ne hg (by simp)
            cases d with
            | none => exact ⟨_, _, _, _, _, hrun, hrel⟩
            | some d => exact ⟨_, _, _, _, _, hrun, hrel.putG (hd d rfl) (fun _ => none) (.brow hc.1 (.inr ⟨w.heap.size, by rw [List.getElem?_set, if_pos rfl, if_pos hidb], rfl, by simp [rowW], by simp [rowU, hrow], hc.2⟩)) (.bare (bare_of rfl)) (fun p b hb => by simp at hb)⟩
    · simp at ha
  · simp at ha
theorem makeArr_sound (h : Rel P A nt pend env heap bor tm w U bl ob) (hA : A.bl0.length ≤ heap.length) {t : TypeId} {l c z : AV} {l' c' : Value} {sz n0 : Nat} {d : Option Nat} (hd : ∀ t, d = some t → t < nt) (hs : makeArrAV P t l c = some (sz, n0, z)) (hl : Rep w (forb A bl heap) U bl l l') (hc' : Rep w (forb A bl heap) U bl c c') :
    ∃ r w' U' bl' ob', (Instr.makeSlice t l' c').run P w = .ok r w' ∧ Rel P A nt pend (setO env d (.brow heap.length sz n0)) (heap ++ [.oarr sz n0 fun _ => z]) bor (putO tm d r) w' U' bl' ob' := by
  unfold makeArrAV at hs
  split at hs
  · rename_i e n m ht
    obtain rfl := rep_int hl
    obtain rfl := rep_int hc'
    cases hc : (decide (0 < n ∧ n ≤ m ∧ m ≤ 1099511627776) && Nat.ble (m.toNat * tyBy P e) 281474976710656 && Nat.blt 0 (tySz P e) && hasZero P e && (zeroAV P e).isData && (zeroAV P e).cells.all AV.scal && Nat.beq (zeroAV P e).cells.length (tySz P e)) with
    | false => rw [hc] at hs; simp at hs
    | true =>
      rw [hc] at hs
      simp only [cond_true, Option.some.injEq, Prod.mk.injEq] at hs
      obtain ⟨rfl, rfl, rfl⟩ := hs
      simp only [Bool.and_eq_true, beq_eq, ble_eq, blt_eq, decide_eq_true_eq] at hc
      obtain ⟨⟨⟨⟨⟨⟨c1, c2⟩, c4⟩, c5⟩, c6⟩, c7⟩, c8⟩ := hc
      obtain ⟨z, hz⟩ := zero_all c5
      have z1 : ∀ w' : World, (zeroValue e).run P w' = .ok z w' := fun w' => (hz w' (fun _ => False) (fun _ => 0) [] 0).1
      obtain ⟨i, hi⟩ := info_size c4
      have hby : tyBy P e = i.bytes := by simp [tyBy, hi]
      rw [hby] at c2
      have wn : IntKind.i64.wrap n = n := wrap_i64 (by omega) (by omega)
      have wm : IntKind.i64.wrap m = m := wrap_i64 (by omega) (by omega)
      have hlay := h.lay [.oarr (tySz P e) 0 fun _ => .undef]
      have hgid : Heap.get (heap ++ [.oarr (tySz P e) 0 fun _ => .undef]) heap.length = .oarr (tySz P e) 0 fun _ => .undef := by rw [heap_get_append, if_neg (by omega)]; simp [Heap.get]
      have hnone : (bl ++ List.replicate ([AObj.oarr (tySz P e) 0 fun _ => .undef] : Heap).length none)[heap.length]? = some none := by rw [← h.len]; simp
      obtain ⟨r0, r1', r2'⟩ := hz w (forb A (bl ++ List.replicate ([AObj.oarr (tySz P e) 0 fun _ => .undef] : Heap).length none) (heap ++ [.oarr (tySz P e) 0 fun _ => .undef])) U [] A.B
      obtain ⟨q1, q2, q3⟩ := rep_cells r1' c7
      have hzs : z.cells.size = tySz P e := by rw [← c8, q1.1]; simp
      have hrow : ((Array.range (m.toNat * tySz P e)).map (z.cells[· % z.cells.size]!)).size = m.toNat * tySz P e := by simp
      have hle : n.toNat * tySz P e ≤ m.toNat * tySz P e := Nat.mul_le_mul_right _ (by omega)
      have hnt : ∀ l, zeroAV P e ≠ .tup l := by intro l e1; rw [e1] at c7; simp [AV.cells, AV.scal] at c7
      have hnew := hlay.rebind hgid (.inr hnone) (row := (Array.range (m.toNat * tySz P e)).map (z.cells[· % z.cells.size]!)) (e := e) (q := w.drawn) (n' := n.toNat) (g' := fun _ => zeroAV P e) (Nat.le_refl _) c4 (by rw [hrow]; exact hle) (fun i hi => c8) (fun i j x hi hx => by
          have hj : j < tySz P e := by rw [← c8]; exact (List.getElem?_eq_some_iff.1 hx).1
          obtain ⟨y, hy⟩ : ∃ y, z.cells[j]? = some y := ⟨z.cells[j]'(by omega), by simp [hzs, hj]⟩
          have hmul := index_mul (sz := tySz P e) hi
          refine ⟨y, ?_, q2 _ (by have := Array.mem_of_getElem? hy; simpa using this), q1.2 j x _ hx (by simpa using hy), fun p u hp hou => ?_⟩
          · have := zeroCells_get z.cells m.toNat i j (by omega) (by omega)
            simp only [Builtin.zeroCells] at this
            rw [hzs] at this
            rw [hzs, this]; exact hy
          · obtain ⟨q, hq, hok⟩ := r2' (fun p' => if p' = pth (zeroAV P e) j p then ob (.cell heap.length (i * tySz P e + j) p) else none) _ u (cells_at hx hnt p u hp) hou
            refine ⟨q, ?_, by simpa using hok⟩
            unfold AV.cells at hx
            unfold pth at hq
            split at hx
            · rename_i l hl
              rw [hl] at r1' hq
              simp only at hq
              cases r1' with
              | @agg _ _ vs hn hh =>
                simp only [vat] at hq
                have hz' : vs[j]? = some y := by simpa [Value.cells] using hy
                rw [hz'] at hq; exact hq
            · rename_i hna
              have hio : j = 0 := by have := (List.getElem?_eq_some_iff.1 hx).1; simp at this; exact this
              subst hio
              simp at hx; subst hx
              have hxc := (scal_rep r1' (by
                have hh := c7
                unfold AV.cells at hh
                split at hh
                · exact absurd (by assumption) (hna _)
                · simpa using hh)).1
              rw [hxc] at hy
              simp at hy; subst hy
              split at hq
              · exact absurd (by assumption) (hna _)
              · exact hq)
      have hidb : heap.length < (bl ++ List.replicate ([AObj.oarr (tySz P e) 0 fun _ => .undef] : Heap).length none).length := by simp [h.len]
      have hset : Heap.set (heap ++ [.oarr (tySz P e) 0 fun _ => .undef]) heap.length (.oarr (tySz P e) n.toNat fun _ => zeroAV P e) = heap ++ [.oarr (tySz P e) n.toNat fun _ => zeroAV P e] := by
        exact set_last _ _ _
      rw [hset] at hnew
      have hput := hnew.put0 hd (v := .brow heap.length (tySz P e) n.toNat) (x := .slice (some ⟨w.heap.size, 0, none⟩) n.toNat m.toNat) (.brow (by omega) (.inr ⟨w.heap.size, by rw [List.getElem?_set, if_pos rfl, if_pos hidb], rfl, by simp [rowW], by simp [rowU, hrow], by omega⟩)) (fun own => .bare (bare_of rfl))
      obtain ⟨ob', hput⟩ := hput
      refine ⟨_, _, _, _, ob', ?_, hput⟩
      have hbytes : ¬ ((i.bytes : Int) * m > 2 ^ 48) := by
        have : ((m.toNat * i.bytes : Nat) : Int) ≤ 281474976710656 := by omega
        have e1 : ((m.toNat * i.bytes : Nat) : Int) = (i.bytes : Int) * m := by
          rw [Int.natCast_mul, Int.toNat_of_nonneg (by omega), Int.mul_comm]
        rw [e1] at this
        omega
      have hsz : (Go.sizeOf e).run P w = .ok (tySz P e) w := run_size' c4
      have hti : (typeInfo e).run P w = .ok i w := run_info hi
      have hm0 : ¬ m < 0 := by omega
      have hn0 : ¬ n < 0 := by omega
      have hnm : ¬ n > m := by omega
      simp only [Instr.makeSlice, Sem.run_bind, run_und ht (by simp), Result.andThen_ok, asInt, asIntOf, Sem.run_pure, hti, wn, wm, hsz, run_askRoom]
      have hcond : (decide (m < 0) || decide ((i.bytes : Int) * m > 2 ^ 48) || decide (n < 0) || decide (n > m)) = false := by
        have hb2 : (i.bytes : Int) * m ≤ 281474976710656 := by omega
        simp [hm0, hb2, hn0, hnm]
      simp only [hcond, Bool.false_eq_true, if_false, Sem.run_pure, Result.andThen_ok]
      have hz0 : ¬ m.toNat * tySz P e = 0 := by
        intro e0
        rcases Nat.mul_eq_zero.1 e0 with e0 | e0 <;> omega
      simp [hsz, hz0, z1, newRow, rowW]
  · simp at hs
end
end Ax

namespace Ax
open Go Go.RowKit
theorem unnil_cases (v : AV) : v.unnil = v ∨ ∃ sz g, v = .nils sz g ∧ v.unnil = .own (.vec sz 0 g) := by
  cases v <;> first | exact .inl rfl | exact .inr ⟨_, _, rfl, rfl⟩
section
variable {P : Program} {A : Amb} {nt : Nat} {pend : List (Nat × AObj)} {env : Env} {heap : Heap} {bor : Option (Nat × AV)} {tm : Array Value} {w : World} {U : Nat → Nat} {bl : Blocks} {ob : Loc → Option Nat}
theorem takeO_sound (h : Rel P A nt pend env heap bor tm w U bl ob) {id sz n i0 off b : Nat} {g : Nat → AV} {t : TypeId} {v0 : AV} (hb : bl[id]? = some (some b)) (hg : heap.get id = .oarr sz n g) (hi0 : i0 < n) (hpart : partAV P t (g i0).cells off = some v0) (hna : tyAgg P t = false) (hsc : v0.scal = true) {d : Option Nat} (hd : ∀ t, d = some t → t < nt) :
    ∃ y, (Instr.loadAt t (.pointer (some ⟨b, i0 * sz + off, none⟩))).run P w = .ok y w ∧ ∃ ob', Rel P A nt pend (setO env d v0.unnil) (heap.set id (.oarr sz n (upd g i0 (setElem (g i0) off sz v0.strip)))) bor (putO tm d y) w U bl ob' := by
  obtain ⟨c, e, fr, o1, o2, o3, ou, o4, o5, o6⟩ := obj_o h hb hg
  unfold partAV at hpart
  rw [hna] at hpart
  simp only [cond_false] at hpart
  cases hk : ((P.underlying t).isSome && Nat.beq (tySz P t) 1) with
  | false => simp [hk] at hpart
  | true =>
    simp only [hk, cond_true] at hpart
    simp only [Bool.and_eq_true] at hk
    have hcs := (oneAV_some hpart).1
    have hol : off < sz := by rw [← o5 i0 hi0]; exact (List.getElem?_eq_some_iff.1 hcs).1
    have hmul := index_mul (sz := sz) hi0
    obtain ⟨K, hK⟩ : ∃ K, K = i0 * sz + off := ⟨_, rfl⟩
    obtain ⟨y, hy, hy1, r1, r2⟩ := o6 i0 off v0 hi0 hcs
    rw [← hK] at hy r2 ⊢
    have hrun : (Instr.loadAt t (.pointer (some ⟨b, K, none⟩))).run P w = .ok y w := by
      have hcell : w.cell? ⟨b, K, none⟩ = some y := by rw [cell_row o1]; exact hy
      simp [Instr.loadAt, Instr.sureAddr, loadVar, run_agg hk.1, hna, hcell]
    have hvc : v0.cells = [v0] := by
      unfold AV.cells
      split
      · simp [AV.scal] at hsc
      · rfl
    have hvs : v0.strip.cells = [v0.strip] := by
      rw [strip_cells (by rw [hvc]; simp [hsc]), hvc]; rfl
    have hse := setElem_cells (old := g i0) (v := v0.strip) (off := off) (sz := sz) (o5 _ hi0) (by rw [hvs]; simp; omega) (by rw [hvs]; simp)
    rw [hvs] at hse
    refine ⟨y, hrun, ?_⟩
    have hw : Wrote w b (.cells c e fr) w := ⟨rfl, rfl, rfl, rfl, o1, fun _ _ => rfl, rfl⟩
    let ob1 : Loc → Option Nat := fun l => match l with | .cell j i p => if j = id ∧ i = K then none else ob (.cell j i p) | l => ob l
    have hob1 : ∀ l c, ob1 l = some c → ob l = some c ∧ ∀ p, l ≠ .cell id K p := by
      intro l c hl
      cases l with
      | env t p => exact ⟨hl, fun p h => by cases h⟩
      | mapv j i p => exact ⟨hl, fun p h => by cases h⟩
      | cell j i p =>
        simp only [ob1] at hl
        by_cases e : j = id ∧ i = K
        · rw [if_pos e] at hl; cases hl
        · rw [if_neg e] at hl; exact ⟨hl, fun q hq => by injection hq with h1 h2; exact e ⟨h1, h2⟩⟩
    have hrel : Rel P A nt pend env (heap.set id (.oarr sz n (upd g i0 (setElem (g i0) off sz v0.strip)))) bor tm w U bl ob1 := by
      refine h.write hb (by rw [hg]; simp) (.inr (by intro kt reg ents e; rw [hg] at e; cases e)) (by simp) (fun _ => h.fro id (by rw [hg]; rfl)) hw (bor' := bor) (fun F hF hmono howns => ?_) (fun l hn1 hn2 => ?_) (fun l m c hl hm => h.obinj l m c (hob1 l c hl).1 (hob1 m c hm).1) (fun l c hl => h.obok l c (hob1 l c hl).1) (fun j hj => rfl)
      · have hFr : ∀ bl2 v x, Rep w (forb A bl heap) U bl2 v x → Rep w F U bl2 v x := fun bl2 v x hr => hr.mono ⟨fun c _ hf => .inl ((hF c).1 hf), fun c _ hc => ⟨Nat.le_refl _, fun o _ => rfl⟩, fun _ hb => ⟨hb, Nat.le_refl _⟩⟩ (BlLe.refl _)
        have hFo : ∀ own v x, OwnAt w (forb A bl heap) U A.B own v x → OwnAt w F U A.B own v x := fun own v x ho => ownAt_keeps ho ⟨fun c _ hf => .inl ((hF c).1 hf), fun c _ hc => ⟨Nat.le_refl _, fun o _ => rfl⟩, fun _ hb => ⟨hb, Nat.le_refl _⟩⟩ (fun p c _ _ hn => ⟨rfl, rfl, fun hf => hn ((hF c).1 hf)⟩)
        refine ⟨c, e, fr, o1, o2, o3, ou, o4, fun j hj => ?_, fun j k x hj hx => ?_⟩
        · rw [upd_get]; split
          · rename_i e1; subst e1; rw [hse, setRange_length]; exact o5 _ hi0
          · exact o5 j hj
        · have keep : ∀ (j k : Nat) x, j < n → (g j).cells[k]? = some x → j * sz + k ≠ K → ∃ z, c[j * sz + k]? = some z ∧ z.oneCell' = true ∧ Rep w F U [] x z ∧ OwnAt w F U A.B (fun p => ob1 (.cell id (j * sz + k) p)) x z := by
            intro j k x hj hx hne
            obtain ⟨z, z1, z2, z3, z4⟩ := o6 j k x hj hx
            refine ⟨z, z1, z2, hFr _ _ _ z3, ?_⟩
            have e2 : (fun p => ob1 (.cell id (j * sz + k) p)) = fun p => ob (.cell id (j * sz + k) p) := by
              funext p; simp only [ob1]; rw [if_neg (fun q => hne q.2)]
            rw [e2]; exact hFo _ _ _ z4
          rw [upd_get] at hx
          split at hx
          · rename_i e1; subst e1
            rw [hse, setRange_get] at hx
            split at hx
            · rename_i hin
              have hko : k = off := by have := hin.2.1; simp at this; omega
              subst hko
              simp at hx; subst hx
              exact ⟨y, by rw [← hK]; exact hy, hy1, hFr _ _ _ r1.strip, .bare (strip_bare _)⟩
            · rename_i hout
              have hk2 : k < sz := by rw [← o5 j hi0]; exact (List.getElem?_eq_some_iff.1 hx).1
              exact keep j k x hi0 hx (fun e2 => hout ⟨by omega, by simp; omega, by rw [o5 j hi0]; omega⟩)
          · rename_i e1
            have hk2 : k < sz := by rw [← o5 j hj]; exact (List.getElem?_eq_some_iff.1 hx).1
            refine keep j k x hj hx ?_
            rcases Nat.lt_trichotomy j i0 with hlt | rfl | hgt
            · have := index_mul (sz := sz) hlt; omega
            · exact absurd rfl e1
            · have := index_mul (sz := sz) hgt; omega
      · cases l with
        | env t p => rfl
        | mapv j i p => rfl
        | cell j i p =>
          simp only [ob1]
          rw [if_neg]
          rintro ⟨rfl, _⟩
          exact hn1 i p rfl
    cases d with
    | none => exact ⟨_, hrel⟩
    | some d =>
      have hfb : ∀ c, forb A bl (heap.set id (.oarr sz n (upd g i0 (setElem (g i0) off sz v0.strip)))) c → forb A bl heap c := by
        rintro c (hf | ⟨j, hj, hdd⟩)
        · exact .inl hf
        · refine .inr ⟨j, hj, ?_⟩
          rw [heap_get_set] at hdd
          by_cases e1 : id = j ∧ j < heap.length
          · rw [← e1.1, hg]; simp
          · rw [if_neg e1] at hdd; exact hdd
      have gr : Grow0 w (forb A bl heap) U w (forb A bl (heap.set id (.oarr sz n (upd g i0 (setElem (g i0) off sz v0.strip))))) U := ⟨fun c _ hf => .inl (hfb c hf), fun c _ _ => ⟨Nat.le_refl _, fun _ _ => rfl⟩, fun _ hb => ⟨hb, Nat.le_refl _⟩⟩
      rcases unnil_cases v0 with hu | ⟨s2, g2, hv0, hu⟩
      · rw [hu]
        refine ⟨_, hrel.putG (hd d rfl) (fun r => ob (.cell id K r)) ((r1.mono gr (BlLe.refl _)).ofNil) (ownAt_keeps r2 gr (fun r c _ _ hn => ⟨rfl, rfl, fun hf => hn (hfb c hf)⟩)) (fun r c hr => ⟨h.obok _ _ hr, fun r2 hr2 => ?_, fun l hl => ?_⟩)⟩
        · have := h.obinj _ _ c hr hr2
          injection this
        · obtain ⟨l1, l2⟩ := hob1 l c hl
          exact absurd (h.obinj _ _ c l1 hr) (l2 r)
      · rw [hu]
        subst hv0
        cases r1 with
        | nils =>
          exact ⟨_, hrel.putG (hd d rfl) (fun _ => none) (.own (.vec (Nat.le_refl _) (fun _ _ => undef) (fun h => absurd h (by omega)) (fun i hi => absurd hi (by omega)) (fun i j hi => absurd hi (by omega)) (fun i j c hi => absurd hi (by omega)))) (own_nil (.inl rfl)) (fun p b hb => by simp at hb)⟩
theorem lookTake_sound (h : Rel P A nt pend env heap bor tm w U bl ob) {t : TypeId} {m q v : AV} {m' q' : Value} {heap' : Heap} {d : Option Nat} (hd : ∀ t, d = some t → t < nt) (hs : lookTakeAV P t heap m q = some (v, heap'))
    (hm : Rep w (forb A bl heap) U bl m m') (hq : Rep w (forb A bl heap) U bl q q') :
    ∃ x, (Instr.lookup t m' q' false).run P w = .ok x w ∧ ∃ ob', Rel P A nt pend (setO env d v) heap' bor (putO tm d x) w U bl ob' := by
  unfold lookTakeAV at hs
  split at hs
  · rename_i kt e id ht
    split at hs
    · rename_i kt2 reg ents hg
      cases hc : (Nat.beq kt kt2 && keyOk P kt q && noIter id heap && hasZero P e) with
      | false => rw [hc] at hs; simp at hs
      | true =>
        rw [hc] at hs
        simp only [cond_true] at hs
        simp only [Bool.and_eq_true, beq_eq, decide_eq_true_eq] at hc
        obtain ⟨⟨⟨rfl, hqk⟩, hni⟩, hz⟩ := hc
        obtain ⟨⟨b1, hb1⟩, hqd⟩ := keyOk_of hqk
        cases hm with
        | @mapr _ _ b hb =>
          obtain ⟨es, clock, hmb, o1, o2, o3, o4, o5, o6⟩ := map_obj h hb hg
          have hfk := findKey_run (w := w) (F := forb A bl heap) (U := U) (bl := []) (hq.data hqd) hqk (ents := ents) (es := es.toList) (by simpa using o1.1) o3 (fun j p e hp he => (o1.2 j p e hp (by simpa using he)).1)
          have hck := checkKey_run (em := es.isEmpty) depth0 10000 (by decide) kt q q' b1 hb1 hq
          obtain ⟨z, hzz⟩ := zero_all hz
          have hz1 := (hzz w (forb A bl heap) U bl A.B).1
          cases hp : mpos P kt ents q with
          | none =>
            rw [hp] at hfk hs
            simp only [found] at hfk
            simp only [Option.some.injEq, Prod.mk.injEq] at hs
            obtain ⟨rfl, rfl⟩ := hs
            refine ⟨z, ?_, h.put0 hd (hzz w _ U bl A.B).2.1 (fun own => (hzz w _ U bl A.B).2.2 own)⟩
            simp [Instr.lookup, run_und ht (by simp), getObj_map hmb, hck, hfk, hz1]
          | some i =>
            rw [hp] at hfk hs
            obtain ⟨hi, p, hpi, hpe⟩ := mpos_lt hp
            rw [found_get o1.1 hi] at hfk
            simp only [Option.some.injEq, Prod.mk.injEq] at hs
            obtain ⟨rfl, rfl⟩ := hs
            rw [mval_get _ _ _ _ hpi]
            have hlt : i < es.size := by rw [← o1.1]; exact hi
            have hee : es[i]? = some es[i] := by simp [hlt]
            obtain ⟨hr1, hr2⟩ := o1.2 i p es[i] hpi hee
            have hmod2 : (es.modify i fun e => { e with val := es[i].val }) = es := by
              apply Array.ext_getElem?
              intro j
              rw [Array.getElem?_modify]
              by_cases e1 : i = j
              · subst e1; rw [if_pos rfl, hee]; simp only [Option.map_some]
              · rw [if_neg e1]
            refine ⟨es[i].val, ?_, ?_⟩
            · simp [Instr.lookup, run_und ht (by simp), getObj_map hmb, hck, hfk, hz1]
            · have hrel := map_put h hb hg hni hmb hlt (x := p.2.strip) (x' := es[i].val) hr2.strip (ov := fun _ => none) (.bare (strip_bare _)) (fun p b hh => by simp at hh) (fun p q b hh => by simp at hh) (fun p b l hh => by simp at hh)
              rw [hmod2, heap_same hmb] at hrel
              cases d with
              | none => exact ⟨_, hrel⟩
              | some d =>
                have hfb : ∀ c, forb A bl (heap.set id (.map kt reg (msetAt ents i p.2.strip))) c → forb A bl heap c := by
                  rintro c (hf | ⟨j, hj, hdd⟩)
                  · exact .inl hf
                  · refine .inr ⟨j, hj, ?_⟩
                    rw [heap_get_set] at hdd
                    by_cases e1 : id = j ∧ j < heap.length
                    · rw [← e1.1, hg]; simp
                    · rw [if_neg e1] at hdd; exact hdd
                have gr : Grow0 w (forb A bl heap) U w (forb A bl (heap.set id (.map kt reg (msetAt ents i p.2.strip)))) U := ⟨fun c _ hf => .inl (hfb c hf), fun c _ _ => ⟨Nat.le_refl _, fun _ _ => rfl⟩, fun _ hb => ⟨hb, Nat.le_refl _⟩⟩
                refine ⟨_, hrel.putG (hd d rfl) (fun r => ob (.mapv id i r)) ((hr2.mono gr (BlLe.refl _)).ofNil) (ownAt_keeps (o6 i p es[i] hpi hee) gr (fun r c _ _ hn => ⟨rfl, rfl, fun hf => hn (hfb c hf)⟩)) (fun r c hr => ⟨h.obok _ _ hr, fun r2 hr2 => ?_, fun l hl => ?_⟩)⟩
                · have := h.obinj _ _ c hr hr2
                  injection this
                · rcases mapOb_some hl with ⟨_, _, hh⟩ | ⟨hh, hne⟩
                  · simp at hh
                  · exact absurd (h.obinj _ _ c hh hr) (hne r)
    · simp at hs
  · simp at hs
theorem Rel.adoptOB (h0 : Rel P A nt pend env heap bor tm w U bl ob) {b sz : Nat} {g : Nat → AV} (e3 : A.B ≤ b) (e4 : ¬ forb A bl heap b) (e5 : U b = 0) (hG : ¬ A.G b) (hnb : ∀ id : Nat, bl[id]? ≠ some (some b)) (hnob : ∀ l, ob l ≠ some b) (hsz : 0 < sz)
    {c : Array Value} {el : TypeId} {fr : Nat × Nat} (e7 : w.heap[b]? = some (.cells c el fr)) (e9 : ∀ o, w.frozen? ⟨b, o, none⟩ = false) :
    Rel P A nt pend env (heap ++ [.oarr sz 0 g]) bor tm w (fun x => if x = b then c.size else U x) (bl ++ [some b]) ob := by
  have hblt := lt_of_some e7
  have hgl : ∀ (j c : Nat), (bl ++ [some b])[j]? = some (some c) ↔ bl[j]? = some (some c) ∨ (j = bl.length ∧ c = b) := by
    intro j c
    rw [List.getElem?_append]
    split
    · rename_i hlt
      constructor
      · exact .inl
      · rintro (h | ⟨h, _⟩)
        · exact h
        · omega
    · rename_i hge
      constructor
      · intro hh
        have := (List.getElem?_eq_some_iff.1 hh).1
        simp at this
        have e0 : j - bl.length = 0 := this
        rw [e0] at hh
        simp at hh
        exact .inr ⟨by omega, hh.symm⟩
      · rintro (h | ⟨rfl, rfl⟩)
        · rw [List.getElem?_eq_none (by omega)] at h; cases h
        · simp
  have hgh : ∀ j, j < heap.length → Heap.get (heap ++ [.oarr sz 0 g]) j = heap.get j := fun j hj => by rw [heap_get_append, if_pos hj]
  have hgn : Heap.get (heap ++ [.oarr sz 0 g]) heap.length = .oarr sz 0 g := by rw [heap_get_append, if_neg (by omega)]; simp [Heap.get]
  have hle : BlLe bl (bl ++ [some b]) := fun j c hj => (hgl j c).2 (.inl hj)
  have hbl : ∀ (j c : Nat), bl[j]? = some (some c) → j < heap.length := fun j c hj => by rw [← h0.len]; exact (List.getElem?_eq_some_iff.1 hj).1
  have hforb : ∀ c, forb A (bl ++ [some b]) (heap ++ [.oarr sz 0 g]) c ↔ forb A bl heap c ∨ c = b := by
    intro c
    constructor
    · rintro (hf | ⟨j, hj, hd⟩)
      · exact .inl (.inl hf)
      · rcases (hgl j c).1 hj with hj' | ⟨_, rfl⟩
        · rw [hgh j (hbl j c hj')] at hd; exact .inl (.inr ⟨j, hj', hd⟩)
        · exact .inr rfl
    · rintro ((hf | ⟨j, hj, hd⟩) | rfl)
      · exact .inl hf
      · exact .inr ⟨j, (hgl j c).2 (.inl hj), by rw [hgh j (hbl j c hj)]; exact hd⟩
      · exact .inr ⟨bl.length, (hgl _ _).2 (.inr ⟨rfl, rfl⟩), by rw [h0.len, hgn]; simp⟩
  have hU : ∀ c', c' ≠ b → (if c' = b then c.size else U c') = U c' := fun c' hc => if_neg hc
  have g0 : Grow0 w (forb A bl heap) U w (forb A (bl ++ [some b]) (heap ++ [.oarr sz 0 g])) (fun x => if x = b then c.size else U x) := by
    have hup : ∀ c', U c' ≤ (if c' = b then c.size else U c') := by
      intro c'
      by_cases e : c' = b
      · rw [if_pos e, e, e5]; exact Nat.zero_le _
      · rw [if_neg e]; exact Nat.le_refl _
    refine ⟨fun c _ hf => ?_, fun c _ _ => ⟨hup c, fun _ _ => rfl⟩, fun c hc => ⟨hc, hup c⟩⟩
    rcases (hforb c).1 hf with hf | rfl
    · exact .inl hf
    · exact .inr e5
  have kp : ∀ l c', ob l = some c' → c' < w.heap.size → ¬ forb A bl heap c' → w.heap[c']? = w.heap[c']? ∧ (if c' = b then c.size else U c') = U c' ∧ ¬ forb A (bl ++ [some b]) (heap ++ [.oarr sz 0 g]) c' := by
    intro l c' hl _ hn
    refine ⟨rfl, hU c' (fun e => hnob l (e ▸ hl)), fun hf => ?_⟩
    rcases (hforb c').1 hf with hf | rfl
    · exact hn hf
    · exact hnob l hl
  refine { size := h0.size, env := fun t => ?_, len := by simp [h0.len], objs := ?_, inj := ?_, base := ?_, obinj := h0.obinj, obok := fun l c hl => ⟨(h0.obok l c hl).1, (h0.obok l c hl).2.1, fun j hj => ?_⟩, since := ?_, f0 := h0.f0, hB := h0.hB, hG := h0.hG, pend := ?_, fro := fun j hj => ?_ }
  · have := h0.env t
    exact ⟨this.1.mono g0 hle, ownAt_keeps this.2 g0 (fun p c hc => kp (.env t p) c hc)⟩
  · intro j c1 hj
    rcases (hgl j c1).1 hj with hj' | ⟨rfl, rfl⟩
    · rw [hgh j (hbl j c1 hj')]
      refine obj_keeps (h0.objs j c1 hj') g0 hle rfl (fun _ => hU c1 (fun e => hnb j (e ▸ hj'))) (fun _ _ _ _ _ _ => rfl) (fun d hd => ?_)
      rcases hd with ⟨i, p, hd⟩ | ⟨i, p, hd⟩
      · exact kp (.cell j i p) d hd
      · exact kp (.mapv j i p) d hd
    · rw [h0.len, hgn]
      exact ⟨c, el, fr, e7, hsz, by omega, by simp, e9, fun i hi => by omega, fun i j x hi => by omega⟩
  · intro i j c hi hj
    rcases (hgl i c).1 hi with hi' | ⟨rfl, rfl⟩ <;> rcases (hgl j c).1 hj with hj' | ⟨rfl, e⟩
    · exact h0.inj i j c hi' hj'
    · subst e; exact absurd hi' (hnb i)
    · exact absurd hj' (hnb j)
    · rfl
  · intro j c hj
    rcases (hgl j c).1 hj with hj' | ⟨_, rfl⟩
    · exact h0.base j c hj'
    · refine ⟨e3, hblt, fun hf => ?_, hG⟩
      have := h0.f0 _ hf; omega
  · rcases (hgl j c).1 hj with hj' | ⟨_, rfl⟩
    · exact (h0.obok l c hl).2.2 j hj'
    · exact hnob l hl
  · refine { below := h0.since.below, g0 := h0.since.g0.trans g0 h0.since.below.size, ble := h0.since.ble.trans hle, pnd := fun j hj => ?_, gown := fun c' hc' => ⟨(h0.since.gown c' hc').1, (hU c' (fun e => hG (e ▸ hc'))).trans (h0.since.gown c' hc').2⟩, blen := (by simp; have := h0.since.blen; omega), ub := fun c' hc' => (hU c' (by omega)).trans (h0.since.ub c' hc') }
    obtain ⟨p1, p2⟩ := h0.since.pnd j hj
    have hl := (List.getElem?_eq_some_iff.1 p1).1
    exact ⟨by rw [List.getElem?_append_left hl]; exact p1, by rw [hgh j (by rw [← h0.len]; exact hl)]; exact p2⟩
  · intro p hp
    obtain ⟨p1, p2, p3⟩ := h0.pend p hp
    have hl := (List.getElem?_eq_some_iff.1 p1).1
    exact ⟨by rw [List.getElem?_append_left hl]; exact p1, by rw [hgh p.1 (by rw [← h0.len]; exact hl)]; exact p2, p3⟩
  · rw [heap_get_append] at hj
    split at hj
    · exact h0.fro j hj
    · have := h0.since.blen; have := h0.len; omega
theorem adoptO_sound (h : Rel P A nt pend env heap bor tm w U bl ob) {s sz : Nat} {g : Nat → AV} (hs : env.get s = .own (.vec sz 0 g)) (hsz : 0 < sz) :
    ∃ U' bl' ob', Rel P A nt pend (env.set s (.brow heap.length sz 0)) (heap ++ [.oarr sz 0 g]) bor tm w U' bl' ob' := by
  obtain ⟨h1, h2⟩ := h.env s
  rw [hs] at h1 h2
  obtain ⟨y, hy, hok⟩ := h2 [] _ rfl rfl
  simp only [vat, Option.some.injEq] at hy
  subst hy
  obtain ⟨ao, cap, hx⟩ : ∃ ao cap, tm.getD s undef = .slice ao 0 cap := by
    generalize tm.getD s undef = q at h1
    cases h1 with | own hv => cases hv with | vec hcap => exact ⟨_, _, rfl⟩
  have h0 := h.bareAt s
  have fin : ∀ {U' bl' ob'}, Rel P A nt pend (env.bare s) (heap ++ [.oarr sz 0 g]) bor tm w U' bl' ob' → (cap = 0 ∨ ∃ b, bl'[heap.length]? = some (some b) ∧ ao = some ⟨b, 0, none⟩ ∧ b < w.heap.size ∧ cap * sz ≤ U' b ∧ cap ≤ 9223372036854775807) → ∃ U' bl' ob', Rel P A nt pend (env.set s (.brow heap.length sz 0)) (heap ++ [.oarr sz 0 g]) bor tm w U' bl' ob' := by
    intro U' bl' ob' h2 hz
    refine ⟨U', bl', ob', { h2 with env := fun t => ?_ }⟩
    rw [get_set]
    by_cases e : s = t
    · subst e
      simp only [if_true]
      rw [hx]
      exact ⟨.brow (Nat.zero_le _) hz, .bare (bare_of rfl)⟩
    · have := h2.env t
      rw [get_bare] at this
      simp only [e, if_false] at this ⊢
      exact this
  rw [hx] at hok
  rcases hok with hc | ⟨a, hn, e1, e2, e3, e4, e5, e6, hcM, c, el, fr, e7, e8, e9⟩
  · exact fin (h0.lay [.oarr sz 0 g]) (.inl hc)
  · obtain ⟨ab, aoff, as⟩ := a
    simp only at e2 e3 e4 e5 e6 e7 e8 e9 hn
    subst e4
    obtain rfl : aoff = 0 := by rcases hn with h | h; exact absurd h (by omega); exact h
    have hnob : ∀ l, (match l with | Loc.env t p => if t = s then none else ob (.env t p) | l => ob l) ≠ some ab := by
      intro l hl
      have key : ob l = some ab ∧ ∀ p, l ≠ .env s p := by
        cases l with
        | env t p =>
          simp only at hl
          by_cases e : t = s
          · simp [e] at hl
          · simp only [e, if_false] at hl; exact ⟨hl, fun q hq => e (by injection hq)⟩
        | cell i j p => exact ⟨hl, fun q hq => by cases hq⟩
        | mapv i j p => exact ⟨hl, fun q hq => by cases hq⟩
      exact key.2 [] (h.obinj _ _ ab key.1 e2)
    have h3 := h0.adoptOB (g := g) e3 e5 (by simpa using e6) (h.obok _ _ e2).1 (h.obok _ _ e2).2.2 hnob hsz e7 (fun o => e9 o (by omega))
    exact fin h3 (.inr ⟨ab, by rw [← h.len]; simp, e1, lt_of_some e7, by simp; omega, hcM.2⟩)
theorem cellsV_cells {cs : List AV} (hs : cs.all AV.scal = true) (h0 : 0 < cs.length) : (cellsV cs).cells = AV.stripL cs := by
  unfold cellsV
  split
  · rename_i c
    simp only [List.all_cons, List.all_nil, Bool.and_true] at hs
    have hcc : c.cells = [c] := by
      unfold AV.cells
      split
      · simp [AV.scal] at hs
      · rfl
    rw [strip_cells (by rw [hcc]; simp [hs]), hcc]
  · rfl
theorem Rel.opened (h : Rel P A nt [] env heap bor tm w U bl ob) {id b : Nat} (hb : bl[id]? = some (some b)) (hnd : heap.get id ≠ .dead) (k : Nat) :
    Rel P A nt [] env (heap.set id .dead) bor tm w (fun c => if c = b then max (U c) k else U c) bl ob ∧ ¬ forb A bl (heap.set id .dead) b ∧ Grow0 w (forb A bl heap) U w (forb A bl (heap.set id .dead)) (fun c => if c = b then max (U c) k else U c) := by
  have hidl : id < heap.length := by rw [← h.len]; exact (List.getElem?_eq_some_iff.1 hb).1
  have hget : ∀ j, (heap.set id .dead).get j = if id = j then .dead else heap.get j := by
    intro j; rw [heap_get_set]
    by_cases e : id = j
    · subst e; simp [hidl]
    · simp [e]
  have hforb : ∀ c, forb A bl (heap.set id .dead) c → forb A bl heap c := by
    rintro c (hf | ⟨j, hj, hd⟩)
    · exact .inl hf
    · rw [hget] at hd
      split at hd
      · exact absurd rfl hd
      · exact .inr ⟨j, hj, hd⟩
  have hnF : ¬ forb A bl (heap.set id .dead) b := by
    rintro (hf | ⟨j, hj, hd⟩)
    · exact (h.base id b hb).2.2.1 hf
    · obtain rfl := h.inj id j b hb hj
      rw [hget, if_pos rfl] at hd
      exact hd rfl
  have hbF : forb A bl heap b := .inr ⟨id, hb, hnd⟩
  have hU : ∀ c, c ≠ b → (if c = b then max (U c) k else U c) = U c := fun c hc => if_neg hc
  have hup : ∀ c, U c ≤ (if c = b then max (U c) k else U c) := by
    intro c
    split
    · omega
    · exact Nat.le_refl _
  have g0 : Grow0 w (forb A bl heap) U w (forb A bl (heap.set id .dead)) (fun c => if c = b then max (U c) k else U c) :=
    ⟨fun c _ hf => .inl (hforb c hf), fun c _ _ => ⟨hup c, fun _ _ => rfl⟩, fun c hc => ⟨hc, hup c⟩⟩
  have kp : ∀ c, c < w.heap.size → ¬ forb A bl heap c → w.heap[c]? = w.heap[c]? ∧ (if c = b then max (U c) k else U c) = U c ∧ ¬ forb A bl (heap.set id .dead) c := fun c _ hn => ⟨rfl, hU c (fun e => hn (e ▸ hbF)), fun hf => hn (hforb c hf)⟩
  refine ⟨{ size := h.size, env := fun t => ⟨(h.env t).1.mono g0 (BlLe.refl _), ownAt_keeps (h.env t).2 g0 (fun p c _ => kp c)⟩, len := by rw [heap_set_length]; exact h.len, objs := ?_, inj := h.inj, base := h.base, obinj := h.obinj, obok := h.obok, since := ?_, f0 := h.f0, hB := h.hB, hG := h.hG, pend := fun p hp => by simp at hp, fro := fun j hj => ?_ }, hnF, g0⟩
  · intro j c hj
    rw [hget]
    by_cases e : id = j
    · rw [if_pos e]; trivial
    · rw [if_neg e]
      exact obj_keeps (h.objs j c hj) g0 (BlLe.refl _) rfl (fun _ => hU c (fun e2 => e (h.inj id j b hb (e2 ▸ hj)))) (fun _ _ _ _ _ _ => rfl) (fun d _ => kp d)
  · refine { below := h.since.below, g0 := h.since.g0.trans g0 h.since.below.size, ble := h.since.ble, pnd := fun j hj => ?_, gown := fun c hc => ⟨(h.since.gown c hc).1, (hU c (fun e => (h.base id b hb).2.2.2 (e ▸ hc))).trans (h.since.gown c hc).2⟩, blen := h.since.blen, ub := fun c hc => (hU c (fun e => by have := (h.base id b hb).1; omega)).trans (h.since.ub c hc) }
    obtain ⟨p1, p2⟩ := h.since.pnd j hj
    refine ⟨p1, ?_⟩
    rw [hget, if_neg (fun e => by subst e; rw [hb] at p1; simp at p1)]
    exact p2
  · rw [hget] at hj
    by_cases e : id = j
    · rw [if_pos e] at hj; cases hj
    · rw [if_neg e] at hj; exact h.fro j hj
theorem shutC_sound (h : Rel P A nt [] env heap bor tm w U bl ob) {s id : Nat} {f : FuncId} {first : List AV} {cs : List AV} (hs : env.get s = .fn f first [.ptr id 0]) (hg : heap.get id = .cells cs) (hdt : AV.isDataL cs = true) (hsc : cs.all AV.scal = true) (h0 : 0 < cs.length) :
    ∃ U', Rel P A nt [] (env.set s (.fn f first [.cptr (cellsV cs)])) (heap.set id .dead) bor tm w U' bl ob := by
  have hr := (h.env s).1
  rw [hs] at hr
  generalize hx : tm.getD s undef = x at hr
  cases hr with
  | @fn _ _ _ _ vs us n1 n2 r1 r2 =>
    have hu0 : us[0]? = some (us[0]'(by rw [← n2]; simp)) := by simp
    have hp := r2 0 _ _ rfl hu0
    generalize us[0]'(by rw [← n2]; simp) = p at hu0 hp
    cases hp with
    | @ptr _ _ _ b hb =>
      have hobj := h.objs id b hb
      rw [hg] at hobj
      obtain ⟨c, e, fr, o1, o2, o3, o4⟩ := hobj
      obtain ⟨h1, hnF, g0⟩ := h.opened hb (by rw [hg]; simp) c.size
      have hcc := cellsV_cells hsc h0
      refine ⟨_, h1.reread ?_ (.bare (bare_of rfl))⟩
      rw [hx]
      refine .fn n1 n2 (fun i x y hx hy => (r1 i x y hx hy).mono g0 (BlLe.refl _)) (fun i x y hx hy => ?_)
      cases i with
      | zero =>
        simp only [List.getElem?_cons_zero, Option.some.injEq] at hx
        rw [hu0] at hy
        simp only [Option.some.injEq] at hy
        subst hx hy
        refine .cptr (fun j => c.getD j undef) ⟨rfl, hnF, by rw [hcc, stripL_length]; simp; omega, by rw [hcc, stripL_length]; exact h0⟩ (fun j hj => ?_) (fun j q hq => ?_)
        · rw [hcc, stripL_length] at hj
          rw [cell_row o1, Nat.zero_add]
          have : j < c.size := by omega
          simp [Array.getD, this]
        · rw [hcc, stripL_get] at hq
          obtain ⟨q0, hq0, rfl⟩ := Option.map_eq_some_iff.1 hq
          have hl := (List.getElem?_eq_some_iff.1 hq0).1
          have hlc : j < c.size := by omega
          have := (o4 j q0 c[j] hq0 (by simp [hlc])).1
          have e1 : c.getD j undef = c[j] := by simp [Array.getD, hlc]
          rw [e1]
          exact (this.strip).mono g0 (BlLe.refl _)
      | succ i => simp at hx
theorem shutP_sound (h : Rel P A nt [] env heap bor tm w U bl ob) {s id : Nat} {cs : List AV} (hs : env.get s = .ptr id 0) (hg : heap.get id = .cells cs) (hdt : AV.isDataL cs = true) (hsc : cs.all AV.scal = true) (h0 : 0 < cs.length) :
    ∃ U', Rel P A nt [] (env.set s (.cptr (cellsV cs))) (heap.set id .dead) bor tm w U' bl ob := by
  have hr := (h.env s).1
  rw [hs] at hr
  generalize hx : tm.getD s undef = x at hr
  cases hr with
  | @ptr _ _ _ b hb =>
    have hobj := h.objs id b hb
    rw [hg] at hobj
    obtain ⟨c, e, fr, o1, o2, o3, o4⟩ := hobj
    obtain ⟨h1, hnF, g0⟩ := h.opened hb (by rw [hg]; simp) c.size
    have hcc := cellsV_cells hsc h0
    refine ⟨_, h1.reread ?_ (.bare (bare_of rfl))⟩
    rw [hx]
    refine .cptr (fun j => c.getD j undef) ⟨rfl, hnF, by rw [hcc, stripL_length]; simp; omega, by rw [hcc, stripL_length]; exact h0⟩ (fun j hj => ?_) (fun j q hq => ?_)
    · rw [hcc, stripL_length] at hj
      rw [cell_row o1, Nat.zero_add]
      have : j < c.size := by omega
      simp [Array.getD, this]
    · rw [hcc, stripL_get] at hq
      obtain ⟨q0, hq0, rfl⟩ := Option.map_eq_some_iff.1 hq
      have hl := (List.getElem?_eq_some_iff.1 hq0).1
      have hlc : j < c.size := by omega
      have := (o4 j q0 c[j] hq0 (by simp [hlc])).1
      have e1 : c.getD j undef = c[j] := by simp [Array.getD, hlc]
      rw [e1]
      exact (this.strip).mono g0 (BlLe.refl _)
theorem freezeO_sound (h : Rel P A nt [] env heap bor tm w U bl ob) {s id sz n : Nat} {g : Nat → AV} (hs : env.get s = .brow id sz n) (hg : heap.get id = .oarr sz n g) :
    Rel P A nt [] (env.set s (.vec sz n (fun j => (g j).strip1))) (heap.set id .dead) bor tm w U bl ob := by
  have hio : (heap.get id).isO = true := by rw [hg]; rfl
  have hlen : id < bl.length := by rw [h.len]; exact get_dead_ne hg (by simp)
  have hidl : id < heap.length := get_dead_ne hg (by simp)
  have hr := (h.env s).1
  rw [hs] at hr
  have nilc : ∀ {F : Nat → Prop} {ao : Option Addr} {cap : Nat}, Rep w F U bl (.vec sz 0 (fun j => (g j).strip1)) (.slice ao 0 cap) := fun {F ao cap} => .vec (Nat.zero_le _) (fun _ _ => undef) (fun h => absurd h (by omega)) (fun i hi => absurd hi (by omega)) (fun i j hi => absurd hi (by omega)) (fun i j c hi => absurd hi (by omega))
  obtain ⟨ao, cap, hval, hncap, hzz⟩ : ∃ ao cap, tm.getD s undef = .slice ao n cap ∧ n ≤ cap ∧ (cap = 0 ∨ ∃ b, bl[id]? = some (some b) ∧ ao = some ⟨b, 0, none⟩ ∧ b < w.heap.size ∧ cap * sz ≤ U b ∧ cap ≤ 9223372036854775807) := by
    generalize tm.getD s undef = q at hr
    cases hr with | brow hn hz => exact ⟨_, _, rfl, hn, hz⟩
  cases hbi : bl[id]? with
  | none => rw [List.getElem?_eq_none_iff] at hbi; omega
  | some q =>
    cases q with
    | none =>
      have h1 := h.setNone hbi (h.notPend hio) (h.fro id hio) .dead
      refine h1.reread ?_ (.bare (bare_of rfl))
      rw [hval]
      obtain rfl : n = 0 := by
        rcases hzz with hc | ⟨b, hb, _⟩
        · omega
        · rw [hbi] at hb; simp at hb
      exact nilc
    | some b =>
      have h1 := h.kill hbi
      refine h1.reread ?_ (.bare (bare_of rfl))
      rw [hval]
      rcases Nat.eq_zero_or_pos n with hn | hn
      · subst hn; exact nilc
      · rcases hzz with hc | ⟨b', hb', rfl, hblt, hcu⟩
        · omega
        obtain rfl : b = b' := by rw [hbi] at hb'; simpa using hb'
        obtain ⟨c, el, fr, k1, k2, k3, ku, k4, k5, k6⟩ := obj_o h hbi hg
        have hget : ∀ j, (heap.set id .dead).get j = if id = j then .dead else heap.get j := by
          intro j; rw [heap_get_set]
          by_cases e : id = j
          · subst e; simp [hidl]
          · simp [e]
        have hnF : ¬ forb A bl (heap.set id .dead) b := by
          rintro (hf | ⟨j, hj, hd⟩)
          · exact (h.base id b hbi).2.2.1 hf
          · obtain rfl := h.inj id j b hbi hj
            rw [hget, if_pos rfl] at hd
            exact hd rfl
        have gr : Grow0 w (forb A bl heap) U w (forb A bl (heap.set id .dead)) U := by
          refine ⟨fun c _ hf => ?_, fun c _ _ => ⟨Nat.le_refl _, fun _ _ => rfl⟩, fun _ hb => ⟨hb, Nat.le_refl _⟩⟩
          rcases hf with hf | ⟨j, hj, hd⟩
          · exact .inl (.inl hf)
          · rw [hget] at hd
            split at hd
            · exact absurd rfl hd
            · exact .inl (.inr ⟨j, hj, hd⟩)
        have get : ∀ i j, i < n → j < sz → ∃ y, c[i * sz + j]? = some y ∧ c.getD (i * sz + j) undef = y := by
          intro i j hi hj
          have : i * sz + j < c.size := by have := index_mul (sz := sz) hi; omega
          exact ⟨c[i * sz + j], by simp [this], by simp [Array.getD, this]⟩
        refine .vec hncap (fun i j => c.getD (i * sz + j) undef) (fun _ => ⟨k2, ⟨b, 0, none⟩, rfl, rfl, hnF, by simp only; omega, fun i j hi hj => ?_⟩) (fun i hi => ?_) (fun i j hi hj => ?_) (fun i j x hi hx => ?_)
        · rw [cell_row k1, Nat.zero_add]
          obtain ⟨y, h1, h2⟩ := get i j hi hj
          rw [h2]; exact h1
        · obtain ⟨cs, q1, q2, _⟩ := strip1_cells (g i)
          rw [q1, q2]; exact k5 i hi
        · obtain ⟨y, h1, h2, _⟩ := k6 i j _ hi (List.getElem?_eq_getElem (by rw [k5 _ hi]; exact hj))
          obtain ⟨y', h3, h4⟩ := get i j hi hj
          rw [h3] at h1
          rw [h4, Option.some.inj h1]; exact h2
        · obtain ⟨cs, q1, q2, q3⟩ := strip1_cells (g i)
          rw [q1, q3] at hx
          obtain ⟨x0, hx0, rfl⟩ := Option.map_eq_some_iff.1 hx
          obtain ⟨y, h1, _, h5, _⟩ := k6 i j x0 hi hx0
          have hj : j < sz := by rw [← k5 i hi]; exact (List.getElem?_eq_some_iff.1 hx0).1
          obtain ⟨y', h3, h4⟩ := get i j hi hj
          rw [h3] at h1
          rw [h4, Option.some.inj h1]; exact (h5.stripC).mono gr (BlLe.refl _)
end
end Ax
