import Derived.Test.YtflebdkgdnfjoaaMC
/- Steps of the state that turn memory: a new object, an object written, a row grown. -/
set_option linter.unusedVariables false
set_option linter.unusedSimpArgs false
namespace Ax
open Go Go.RowKit

theorem heap_set_length : ∀ (h : Heap) (i : Nat) (o : AObj), (h.set i o).length = h.length
  | [], _, _ => rfl
  | _ :: r, 0, _ => rfl
  | x :: r, n + 1, o => by simp only [Heap.set, List.length_cons, heap_set_length r n o]
theorem heap_get_set : ∀ (h : Heap) (i j : Nat) (o : AObj), (h.set i o).get j = if i = j ∧ j < h.length then o else h.get j
  | [], i, j, o => by simp [Heap.set, Heap.get]
  | x :: r, 0, 0, o => by simp [Heap.set, Heap.get]
  | x :: r, 0, j + 1, o => by simp [Heap.set, Heap.get]
  | x :: r, i + 1, 0, o => by simp [Heap.set, Heap.get]
  | x :: r, i + 1, j + 1, o => by simp only [Heap.set, Heap.get, heap_get_set r i j o, List.length_cons, Nat.add_right_cancel_iff, Nat.add_lt_add_iff_right]
theorem heap_get_append : ∀ (h g : Heap) (j : Nat), Heap.get (h ++ g) j = if j < h.length then h.get j else g.get (j - h.length)
  | [], g, j => by simp
  | x :: r, g, 0 => by simp [Heap.get]
  | x :: r, g, j + 1 => by simp only [List.cons_append, Heap.get, heap_get_append r g j, List.length_cons, Nat.add_lt_add_iff_right, Nat.add_sub_add_right]
theorem heap_get_none : ∀ (h : Heap) (j : Nat), h.length ≤ j → h.get j = .dead
  | [], j, _ => by cases j <;> rfl
  | x :: r, 0, h => by simp at h
  | x :: r, j + 1, h => by simp only [Heap.get]; exact heap_get_none r j (by simpa using h)

/-- A block that is written anew; all others stand. -/
structure Wrote (w : World) (b : Nat) (o : Obj) (w' : World) : Prop where
  os : w'.os = w.os
  tape : w'.tape = w.tape
  output : w'.output = w.output
  size : w'.heap.size = w.heap.size
  here : w'.heap[b]? = some o
  other : ∀ c, c ≠ b → w'.heap[c]? = w.heap[c]?
  drawn : w'.drawn = w.drawn

/-- Cells stored one by one. -/
theorem storeCells_run {P : Program} (b off : Nat) : ∀ (vs : List Value) (i : Nat) (w : World) (c : Array Value) (e : TypeId) (fr : Nat × Nat), w.heap[b]? = some (.cells c e fr) →
    off + i + vs.length ≤ c.size → (∀ v ∈ vs, v.oneCell' = true) → (∀ o, off + i ≤ o → o < off + i + vs.length → w.frozen? ⟨b, o, none⟩ = false) →
    ∃ w' c', (storeCells ⟨b, off, none⟩ vs i).run P w = .ok () w' ∧ Wrote w b (.cells c' e fr) w' ∧ c'.size = c.size ∧ ∀ j, c'[j]? = if off + i ≤ j ∧ j < off + i + vs.length then vs[j - (off + i)]? else c[j]?
  | [], i, w, c, e, fr, hb, hl, ho, hf => ⟨w, c, rfl, ⟨rfl, rfl, rfl, rfl, hb, fun _ _ => rfl, rfl⟩, rfl, fun j => by simp; intro h1 h2; omega⟩
  | v :: vs, i, w, c, e, fr, hb, hl, ho, hf => by
    simp only [List.length_cons] at hl hf
    have hone := ho v (by simp)
    have hlt : off + i < c.size := by omega
    have hcell : w.cell? ⟨b, off + i, none⟩ = some (c[off + i]) := by rw [cell_row hb]; simp [hlt]
    have hfr := hf (off + i) (by omega) (by omega)
    have hbs : b < w.heap.size := lt_of_some hb
    have hw1 : (w.setCell ⟨b, off + i, none⟩ v).heap[b]? = some (.cells (c.setIfInBounds (off + i) v) e fr) := by
      simp only [World.setCell, Array.getElem?_modify]
      rw [if_pos trivial, hb]; rfl
    have hoth : ∀ k, k ≠ b → (w.setCell ⟨b, off + i, none⟩ v).heap[k]? = w.heap[k]? := fun k hk => by
      simp only [World.setCell, Array.getElem?_modify]; rw [if_neg (fun h => hk h.symm)]
    have hfz : ∀ o, (w.setCell ⟨b, off + i, none⟩ v).frozen? ⟨b, o, none⟩ = w.frozen? ⟨b, o, none⟩ := by
      intro o; simp only [World.frozen?, hw1, hb]
    obtain ⟨w', c', r1, r2, r3, r4⟩ := storeCells_run (P := P) b off vs (i + 1) (w.setCell ⟨b, off + i, none⟩ v) _ e fr hw1 (by simp; omega) (fun u hu => ho u (by simp [hu])) (fun o h1 h2 => by
      rw [hfz]; exact hf o (by omega) (by omega))
    refine ⟨w', c', ?_, ⟨r2.os, r2.tape, r2.output, r2.size.trans (by simp [World.setCell]), r2.here, fun k hk => (r2.other k hk).trans (hoth k hk), r2.drawn⟩, by rw [r3]; simp, fun j => ?_⟩
    · simp only [storeCells, Sem.run_bind, addr_add]
      rw [run_store P w _ v .plain hone, hcell]
      simp only [hfr, Bool.false_eq_true, if_false, Result.andThen_ok]
      exact r1
    · rw [r4]
      simp only [List.length_cons]
      by_cases h1 : off + (i + 1) ≤ j ∧ j < off + (i + 1) + vs.length
      · rw [if_pos h1, if_pos (by omega)]
        have : j - (off + i) = (j - (off + (i + 1))) + 1 := by omega
        rw [this]; simp
      · rw [if_neg h1, Array.getElem?_setIfInBounds]
        by_cases h2 : off + i = j
        · subst h2; rw [if_pos rfl, if_pos (by omega)]; simp [hlt]
        · rw [if_neg h2, if_neg (by omega)]

section
variable {P : Program} {A : Amb} {nt : Nat} {pend : List (Nat × AObj)} {env : Env} {heap : Heap} {bor : Option (Nat × AV)} {tm : Array Value} {w : World} {U : Nat → Nat} {bl : Blocks} {ob : Loc → Option Nat}

theorem Rel.notF (h : Rel P A nt pend env heap bor tm w U bl ob) {b : Nat} (hb : w.heap.size ≤ b) : ¬ forb A bl heap b := by
  rintro (hf | ⟨id, hi, _⟩)
  · have := h.f0 b hf; have := h.hB; omega
  · have := (h.base id b hi).2.1; omega

theorem Rel.objsOK (h : Rel P A nt pend env heap bor tm w U bl ob) : ObjsOK P w (forb A bl heap) U bl A.B heap := fun id b hb => ⟨_, _, _, h.objs id b hb⟩

/-- An own block is none that is written as an object. -/
theorem own_keeps {w w' : World} {F F' : Nat → Prop} {U U' : Nat → Nat} {B : Nat} {own : Option Nat} {v : AV} {x : Value} (h : OwnOK w F U B own v x) (g : Grow0 w F U w' F' U')
    (hk : ∀ b, own = some b → b < w.heap.size → ¬ F b → w'.heap[b]? = w.heap[b]? ∧ U' b = U b ∧ ¬ F' b) : OwnOK w' F' U' B own v x := by
  unfold OwnOK at *
  split at h
  · rename_i sz n gg ao len cap
    rcases h with h | ⟨a, hn, e1, e2, e3, e4, e5, e6, hsz, c, el, fr, e7, e8, e9⟩
    · exact .inl h
    · obtain ⟨b1, b2, b3⟩ := hk _ e2 (lt_of_some e7) e5
      exact .inr ⟨a, hn, e1, e2, e3, e4, b3, b2.trans e6, hsz, c, el, fr, b1.trans e7, e8, fun o h1 h2 => (frozen_block b1 o).trans (e9 o h1 h2)⟩
  · obtain ⟨ao, cap, hx, hc, h⟩ := h
    refine ⟨ao, cap, hx, hc, ?_⟩
    rcases h with h | ⟨b, e1, e2, e3, e4, e5, hsz, c, el, fr, e7, e8, e9, e10, e11⟩
    · exact .inl h
    · obtain ⟨b1, b2, b3⟩ := hk _ e2 (lt_of_some e7) e4
      exact .inr ⟨b, e1, e2, e3, b3, b2.trans e5, hsz, c, el, fr, b1.trans e7, e8, fun o h1 => (frozen_block b1 o).trans (e9 o h1), e10, fun i j q hi hq => let ⟨y, h1, h2, h3⟩ := e11 i j q hi hq; ⟨y, h1, h2, h3.mono g (BlLe.refl _)⟩⟩
  · obtain ⟨ao, cap, hx, hc, h⟩ := h
    refine ⟨ao, cap, hx, hc, ?_⟩
    rcases h with h | ⟨b, e1, e2, e3, e4, e5, hsz, c, el, fr, e7, e8, e9, e10, e11⟩
    · exact .inl h
    · obtain ⟨b1, b2, b3⟩ := hk _ e2 (lt_of_some e7) e4
      exact .inr ⟨b, e1, e2, e3, b3, b2.trans e5, hsz, c, el, fr, b1.trans e7, e8, fun o h1 => (frozen_block b1 o).trans (e9 o h1), e10, fun i j q hi hq => let ⟨y, h1, h2, h3⟩ := e11 i j q hi hq; ⟨y, h1, h2, h3.mono g (BlLe.refl _)⟩⟩
  · trivial
theorem ownAt_keeps {w w' : World} {F F' : Nat → Prop} {U U' : Nat → Nat} {B : Nat} {own : List Nat → Option Nat} {v : AV} {x : Value} (h : OwnAt w F U B own v x) (g : Grow0 w F U w' F' U')
    (hk : ∀ p b, own p = some b → b < w.heap.size → ¬ F b → w'.heap[b]? = w.heap[b]? ∧ U' b = U b ∧ ¬ F' b) : OwnAt w' F' U' B own v x :=
  fun p u hp ho => let ⟨y, h1, h2⟩ := h p u hp ho; ⟨y, h1, own_keeps h2 g (hk p)⟩

theorem obj_keeps {w w' : World} {F F' : Nat → Prop} {U U' : Nat → Nat} {bl bl' : Blocks} {B : Nat} {own : Nat → List Nat → Option Nat} {ownM : Nat → List Nat → Option Nat} {bor : Option AV} {o : AObj} {b : Nat}
    (h : ObjRep P w F U bl B own ownM bor o b) (g : Grow0 w F U w' F' U') (hbl : BlLe bl bl') (hb : w'.heap[b]? = w.heap[b]?) (hmi : ∀ id left bm, o = .iter (some id) left → bl[id]? = some (some bm) → w'.heap[bm]? = w.heap[bm]?)
    (hk : ∀ c, ((∃ i p, own i p = some c) ∨ ∃ i p, ownM i p = some c) → c < w.heap.size → ¬ F c → w'.heap[c]? = w.heap[c]? ∧ U' c = U c ∧ ¬ F' c) : ObjRep P w' F' U' bl' B own ownM bor o b := by
  cases o with
  | cells cs =>
    obtain ⟨c, el, fr, h1, h2, h3, h4⟩ := h
    exact ⟨c, el, fr, hb.trans h1, h2, fun o ho => (frozen_block hb o).trans (h3 o ho), fun i x y hx hy => ⟨(h4 i x y hx hy).1.mono g hbl, ownAt_keeps (h4 i x y hx hy).2 g (fun p c hc => hk c (.inl ⟨i, p, hc⟩))⟩⟩
  | arr sz n gg =>
    obtain ⟨c, el, fr, h1, h2, h3, h4, h5, h6⟩ := h
    exact ⟨c, el, fr, hb.trans h1, h2, h3, fun o ho => (frozen_block hb o).trans (h4 o ho), h5, fun i j x hi hx =>
      let ⟨y, hy, h1, hr⟩ := h6 i j x hi hx; ⟨y, hy, h1, hr.mono g (BlLe.refl _)⟩⟩
  | map kt ow ents =>
    obtain ⟨es, clock, h1, h2, h3, h4, h5, h6, h7⟩ := h
    exact ⟨es, clock, hb.trans h1, ⟨h2.1, fun i p q hp hq => ⟨((h2.2 i p q hp hq).1).mono g (BlLe.refl _), ((h2.2 i p q hp hq).2).mono g (BlLe.refl _)⟩⟩, h3, h4, h5, h6,
      fun i p q hp hq => ownAt_keeps (h7 i p q hp hq) g (fun p' c hc => hk c (.inr ⟨i, p', hc⟩))⟩
  | iter o l =>
    cases o with
    | none => obtain ⟨h0, s, q, r, h1⟩ := h; exact ⟨h0, s, q, r, hb.trans h1⟩
    | some id =>
      obtain ⟨bm, es, clock, seen, last, h1, h2, h3, h4, h5, h6⟩ := h
      exact ⟨bm, es, clock, seen, last, hbl _ _ h1, (hmi id l bm rfl h1).trans h2, hb.trans h3, h4, h5,
        ⟨h6.1, fun i p q hp hq => ⟨((h6.2 i p q hp hq).1).mono g (BlLe.refl _), ((h6.2 i p q hp hq).2).mono g (BlLe.refl _)⟩⟩⟩
  | dead => trivial

/-- A new block for an object that waits for one (or stands at the end): the object's own statement is the caller's. -/
theorem Rel.adopt (h : Rel P A nt pend env heap bor tm w U bl ob) {id : Nat} (hid : bl[id]? = some none) {o : Obj} {w' : World} (hw : w' = { w with heap := w.heap.push o })
    (hobj : ObjRep P w' (forb A (bl.set id (some w.heap.size)) heap) U (bl.set id (some w.heap.size)) A.B (fun i p => ob (.cell id i p)) (fun i p => ob (.mapv id i p)) (borAt bor id) (heap.get id) w.heap.size)
    (hA : A.bl0[id]? ≠ some none) :
    Rel P A nt (pend.filter fun p => p.1 != id) env heap bor tm w' U (bl.set id (some w.heap.size)) ob := by
  subst hw
  have hlt : id < bl.length := (List.getElem?_eq_some_iff.1 hid).1
  have hget : ∀ (j b : Nat), (bl.set id (some w.heap.size))[j]? = some (some b) ↔ (j = id ∧ b = w.heap.size) ∨ (j ≠ id ∧ bl[j]? = some (some b)) := by
    intro j b
    rw [List.getElem?_set]
    by_cases e : id = j
    · subst e; simp [hlt]; exact ⟨fun h => h.symm, fun h => h.symm⟩
    · have e' : j ≠ id := fun h => e h.symm
      simp [e, e']
  have hle : BlLe bl (bl.set id (some w.heap.size)) := fun j b hj => (hget j b).2 (.inr ⟨fun e => by subst e; rw [hid] at hj; simp at hj, hj⟩)
  have hblk : ∀ b, b < w.heap.size → (w.heap.push o)[b]? = w.heap[b]? := fun b hb => by rw [Array.getElem?_push, if_neg (by omega)]
  have hforb : ∀ b, b < w.heap.size → forb A (bl.set id (some w.heap.size)) heap b → forb A bl heap b := by
    rintro b hb (hf | ⟨j, hj, hd⟩)
    · exact .inl hf
    · rcases (hget j b).1 hj with ⟨_, rfl⟩ | ⟨_, hj'⟩
      · omega
      · exact .inr ⟨j, hj', hd⟩
  have g : Grow0 w (forb A bl heap) U { w with heap := w.heap.push o } (forb A (bl.set id (some w.heap.size)) heap) U :=
    ⟨fun b hb hf => .inl (hforb b hb hf), fun b hb _ => ⟨Nat.le_refl _, fun o _ => cell_block (hblk b hb) o⟩⟩
  have kp : ∀ b, b < w.heap.size → ¬ forb A bl heap b → (w.heap.push o)[b]? = w.heap[b]? ∧ U b = U b ∧ ¬ forb A (bl.set id (some w.heap.size)) heap b :=
    fun b hb hn => ⟨hblk b hb, rfl, fun hf => hn (hforb b hb hf)⟩
  have hsz : ({ w with heap := w.heap.push o } : World).heap.size = w.heap.size + 1 := by simp
  refine { size := h.size, env := fun t => ⟨(h.env t).1.mono g hle, ownAt_keeps (h.env t).2 g (fun p b _ => kp b)⟩, len := (by rw [List.length_set]; exact h.len), objs := ?_, inj := ?_, base := ?_, obinj := h.obinj, obok := fun l b hb => ⟨(h.obok l b hb).1, (by rw [hsz]; have := (h.obok l b hb).2.1; omega), fun j hj => (by
    rcases (hget j b).1 hj with ⟨_, e⟩ | ⟨_, hj'⟩
    · have := (h.obok l b hb).2.1; omega
    · exact (h.obok l b hb).2.2 j hj')⟩, since := ?_, f0 := h.f0, hB := (by rw [hsz]; have := h.hB; omega), hG := fun b hb => (by rw [hsz]; have := h.hG b hb; omega), pend := ?_ }
  · intro j b hj
    rcases (hget j b).1 hj with ⟨rfl, rfl⟩ | ⟨_, hj'⟩
    · exact hobj
    · exact obj_keeps (h.objs j b hj') g hle (hblk b (h.base j b hj').2.1) (fun _ _ bm _ hm => hblk bm (h.base _ bm hm).2.1) (fun c _ => kp c)
  · intro i j b hi hj
    rcases (hget i b).1 hi with ⟨rfl, rfl⟩ | ⟨_, hi'⟩ <;> rcases (hget j _).1 hj with ⟨rfl, e⟩ | ⟨_, hj'⟩
    · rfl
    · have := (h.base j _ hj').2.1; omega
    · have := (h.base i _ hi').2.1; omega
    · exact h.inj i j b hi' hj'
  · intro j b hj
    rcases (hget j b).1 hj with ⟨rfl, rfl⟩ | ⟨_, hj'⟩
    · exact ⟨h.hB, by rw [hsz]; omega, fun hf => by have := h.f0 _ hf; have := h.hB; omega, fun hf => by have := h.hG _ hf; omega⟩
    · obtain ⟨b1, b2, b3⟩ := h.base j b hj'
      exact ⟨b1, by rw [hsz]; omega, b3⟩
  · refine { below := h.since.below.trans ⟨rfl, rfl, rfl, by rw [hsz]; omega, fun k hk => hblk k (by have := h.hB; omega), Nat.le_refl _⟩, g0 := h.since.g0.trans g h.since.below.size, ble := h.since.ble.trans hle, pnd := ?_, gown := ?_, blen := (by rw [List.length_set]; exact h.since.blen), ub := h.since.ub }
    · intro j hj
      have hne : id ≠ j := fun e => by subst e; exact hA hj
      rw [List.getElem?_set, if_neg hne]
      exact h.since.pnd j hj
    · intro b hb
      obtain ⟨g1, g2⟩ := h.since.gown b hb
      exact ⟨(hblk b (h.hG b hb)).trans g1, g2⟩
  · intro p hp
    obtain ⟨hp1, hp2⟩ := List.mem_filter.1 hp
    obtain ⟨q1, q2⟩ := h.pend p hp1
    refine ⟨?_, q2⟩
    rw [List.getElem?_set, if_neg (fun e => by subst e; simp at hp2)]
    exact q1

theorem noIter_get : ∀ {h : Heap} {id j : Nat} {left : List (AV × AV)}, noIter id h = true → h.get j ≠ .iter (some id) left
  | [], id, j, left, _, hg => by simp [Heap.get] at hg
  | o :: r, id, 0, left, hn, hg => by
    simp only [Heap.get] at hg
    subst hg
    simp [noIter] at hn
  | o :: r, id, j + 1, left, hn, hg => by
    refine noIter_get (h := r) (j := j) (left := left) ?_ (by simpa [Heap.get] using hg)
    unfold noIter at hn
    split at hn
    · rename_i h1; cases h1
    · rename_i h1; cases h1; simp at hn; exact hn.2
    · rename_i h1; cases h1; exact hn

/-- An object is written anew. -/
theorem Rel.write (h : Rel P A nt pend env heap bor tm w U bl ob) {id b : Nat} (hid : bl[id]? = some (some b)) (hnd : heap.get id ≠ .dead) (hni : noIter id heap = true ∨ ∀ kt reg ents, heap.get id ≠ .map kt reg ents) {o : AObj} (hod : o ≠ .dead) {o' : Obj} {w' : World} (hw : Wrote w b o' w') {ob' : Loc → Option Nat} {bor' : Option (Nat × AV)}
    (hobj : ∀ F, (∀ c, F c ↔ forb A bl heap c) → (∀ bl2 v x, Rep w F U bl2 v x → Rep w' F U bl2 v x) → (∀ own v x, (∀ p, own p ≠ some b) → OwnAt w F U A.B own v x → OwnAt w' F U A.B own v x) →
      ObjRep P w' F U bl A.B (fun i p => ob' (.cell id i p)) (fun i p => ob' (.mapv id i p)) (borAt bor' id) o b)
    (hob : ∀ l, (∀ i p, l ≠ .cell id i p) → (∀ i p, l ≠ .mapv id i p) → ob' l = ob l)
    (hobinj : ∀ l m c, ob' l = some c → ob' m = some c → l = m) (hobok : ∀ l c, ob' l = some c → ¬ A.G c ∧ c < w.heap.size ∧ ∀ id : Nat, bl[id]? ≠ some (some c)) (hbor : ∀ j, j ≠ id → borAt bor' j = borAt bor j) :
    Rel P A nt pend env (heap.set id o) bor' tm w' U bl ob' := by
  have hidl : id < heap.length := by rw [← h.len]; exact (List.getElem?_eq_some_iff.1 hid).1
  have hget : ∀ j, (heap.set id o).get j = if id = j then o else heap.get j := by
    intro j; rw [heap_get_set]
    by_cases e : id = j
    · subst e; simp [hidl]
    · simp [e]
  have hforb : ∀ c, forb A bl (heap.set id o) c ↔ forb A bl heap c := by
    intro c
    constructor
    · rintro (hf | ⟨j, hj, hd⟩)
      · exact .inl hf
      · rw [hget] at hd
        by_cases e : id = j
        · subst e; exact .inr ⟨id, hj, hnd⟩
        · rw [if_neg e] at hd; exact .inr ⟨j, hj, hd⟩
    · rintro (hf | ⟨j, hj, hd⟩)
      · exact .inl hf
      · refine .inr ⟨j, hj, ?_⟩
        rw [hget]
        by_cases e : id = j
        · rw [if_pos e]; exact hod
        · rw [if_neg e]; exact hd
  have hbF : forb A bl heap b := .inr ⟨id, hid, hnd⟩
  have hblk : ∀ c, ¬ forb A bl heap c → w'.heap[c]? = w.heap[c]? := fun c hc => hw.other c (fun e => by subst e; exact hc hbF)
  have g : Grow0 w (forb A bl heap) U w' (forb A bl (heap.set id o)) U :=
    ⟨fun c _ hf => .inl ((hforb c).1 hf), fun c _ hc => ⟨Nat.le_refl _, fun o _ => cell_block (hblk c hc) o⟩⟩
  have kp : ∀ c, c < w.heap.size → ¬ forb A bl heap c → w'.heap[c]? = w.heap[c]? ∧ U c = U c ∧ ¬ forb A bl (heap.set id o) c :=
    fun c _ hn => ⟨hblk c hn, rfl, fun hf => hn ((hforb c).1 hf)⟩
  refine { size := h.size, env := fun t => ?_, len := (by rw [heap_set_length]; exact h.len), objs := ?_, inj := h.inj, base := ?_, obinj := hobinj, obok := fun l c hc => ⟨(hobok l c hc).1, (by rw [hw.size]; exact (hobok l c hc).2.1), (hobok l c hc).2.2⟩, since := ?_, f0 := h.f0, hB := (by rw [hw.size]; exact h.hB), hG := fun c hc => (by rw [hw.size]; exact h.hG c hc), pend := ?_ }
  · have e : (fun p => ob' (.env t p)) = fun p => ob (.env t p) := funext fun p => hob _ (fun i p h => by cases h) (fun i p h => by cases h)
    rw [e]
    exact ⟨(h.env t).1.mono g (BlLe.refl _), ownAt_keeps (h.env t).2 g (fun p c _ => kp c)⟩
  · intro j c hj
    rw [hget]
    by_cases e : id = j
    · subst e
      obtain rfl : b = c := by rw [hid] at hj; simpa using hj
      rw [if_pos rfl]
      have g' : Grow0 w (forb A bl (heap.set id o)) U w' (forb A bl (heap.set id o)) U := ⟨fun c _ hf => .inl hf, fun c _ hc => ⟨Nat.le_refl _, fun o _ => cell_block (hblk c (fun hf => hc ((hforb c).2 hf))) o⟩⟩
      exact hobj (forb A bl (heap.set id o)) hforb (fun bl2 v x hv => hv.mono g' (BlLe.refl _)) (fun own v x hn ho => ownAt_keeps ho g' (fun p c hc hlt hF => ⟨hw.other c (fun e => by subst e; exact hn p hc), rfl, hF⟩))
    · rw [if_neg e]
      have e1 : (fun i p => ob' (.cell j i p)) = fun i p => ob (.cell j i p) := funext fun i => funext fun p => hob _ (fun i' p' h => by injection h with h1; exact e h1.symm) (fun i' p' h => by cases h)
      have e2 : (fun i p => ob' (.mapv j i p)) = fun i p => ob (.mapv j i p) := funext fun i => funext fun p => hob _ (fun i' p' h => by cases h) (fun i' p' h => by injection h with h1; exact e h1.symm)
      rw [e1, e2, hbor j (fun e' => e e'.symm)]
      have hcb : c ≠ b := fun e' => e (h.inj id j b hid (e' ▸ hj))
      refine obj_keeps (h.objs j c hj) g (BlLe.refl _) (hw.other c hcb) (fun id' left bm hit hm => hw.other bm (fun e' => ?_)) (fun c _ => kp c)
      obtain rfl : id' = id := h.inj id' id b (e' ▸ hm) hid
      rcases hni with hni | hni
      · exact noIter_get hni hit
      · have h1 := h.objs j c hj
        rw [hit] at h1
        obtain ⟨bm', es, clock, seen, last, k1, k2, _⟩ := h1
        rw [hid] at k1
        obtain rfl : b = bm' := by simpa using k1
        have h2 := h.objs id' b hid
        cases ho : heap.get id' with
        | cells cs => rw [ho] at h2; obtain ⟨c, e, fr, q1, _⟩ := h2; rw [k2] at q1; cases q1
        | arr sz n g => rw [ho] at h2; obtain ⟨c, e, fr, q1, _⟩ := h2; rw [k2] at q1; cases q1
        | map kt reg ents => exact hni _ _ _ ho
        | iter q l =>
          rw [ho] at h2
          cases q with
          | none => obtain ⟨_, _, _, _, q1⟩ := h2; rw [k2] at q1; cases q1
          | some q => obtain ⟨_, _, _, _, _, _, _, q1, _⟩ := h2; rw [k2] at q1; cases q1
        | dead => exact hnd ho
  · intro j c hj
    obtain ⟨b1, b2, b3⟩ := h.base j c hj
    exact ⟨b1, by rw [hw.size]; exact b2, b3⟩
  · have hbB := (h.base id b hid).1
    have hbG := (h.base id b hid).2.2.2
    refine { below := h.since.below.trans ⟨hw.os, hw.tape, hw.output, Nat.le_of_eq hw.size.symm, fun k hk => hw.other k (by omega), Nat.le_of_eq hw.drawn.symm⟩, g0 := h.since.g0.trans g h.since.below.size, ble := h.since.ble, pnd := ?_, gown := ?_, blen := h.since.blen, ub := h.since.ub }
    · intro j hj
      obtain ⟨p1, p2⟩ := h.since.pnd j hj
      refine ⟨p1, ?_⟩
      rw [hget, if_neg (fun e => by subst e; rw [hid] at p1; simp at p1)]
      exact p2
    · intro c hc
      obtain ⟨g1, g2⟩ := h.since.gown c hc
      exact ⟨(hw.other c (fun e => by subst e; exact hbG hc)).trans g1, g2⟩
  · intro p hp
    obtain ⟨q1, q2⟩ := h.pend p hp
    refine ⟨q1, ?_⟩
    rw [hget, if_neg (fun e => by subst e; rw [hid] at q1; simp at q1)]
    exact q2
end
end Ax

/- Objects that wait; slots and objects forgotten; a row grown in its own room. -/
set_option linter.unusedVariables false
set_option linter.unusedSimpArgs false
namespace Ax
open Go Go.RowKit

def waits : Nat → Heap → List (Nat × AObj)
  | _, [] => []
  | n, o :: r => (n, o) :: waits (n + 1) r
theorem waits_mem : ∀ (os : Heap) (n : Nat) p, p ∈ waits n os → n ≤ p.1 ∧ os.get (p.1 - n) = p.2 ∧ p.1 < n + os.length
  | [], n, p, h => by simp [waits] at h
  | o :: r, n, p, h => by
    simp only [waits, List.mem_cons] at h
    rcases h with rfl | h
    · exact ⟨Nat.le_refl _, by simp [Heap.get], by simp⟩
    · obtain ⟨h1, h2, h3⟩ := waits_mem r (n + 1) p h
      refine ⟨by omega, ?_, by simp only [List.length_cons]; omega⟩
      have : p.1 - n = (p.1 - (n + 1)) + 1 := by omega
      rw [this]; simp only [Heap.get]; exact h2

theorem waits_in : ∀ (os : Heap) (n : Nat) p, p ∈ waits n os → p.2 ∈ os
  | [], n, p, h => by simp [waits] at h
  | o :: r, n, p, h => by
    simp only [waits, List.mem_cons] at h
    rcases h with rfl | h
    · simp
    · exact List.mem_cons_of_mem _ (waits_in r (n + 1) p h)

section
variable {P : Program} {A : Amb} {nt : Nat} {pend : List (Nat × AObj)} {env : Env} {heap : Heap} {bor : Option (Nat × AV)} {tm : Array Value} {w : World} {U : Nat → Nat} {bl : Blocks} {ob : Loc → Option Nat}

/-- Objects that wait for their blocks are laid behind. -/
theorem Rel.lay (h : Rel P A nt pend env heap bor tm w U bl ob) (os : Heap) :
    Rel P A nt pend env (heap ++ os) bor tm w U (bl ++ List.replicate os.length none) ob := by
  have hget : ∀ (j b : Nat), (bl ++ List.replicate os.length none)[j]? = some (some b) ↔ bl[j]? = some (some b) := by
    intro j b
    by_cases hj : j < bl.length
    · rw [List.getElem?_append_left hj]
    · rw [List.getElem?_append_right (by omega), List.getElem?_eq_none (l := bl) (by omega), List.getElem?_replicate]
      split <;> simp
  have hgh : ∀ (j b : Nat), bl[j]? = some (some b) → Heap.get (heap ++ os) j = heap.get j := by
    intro j b hj
    rw [heap_get_append, if_pos (by rw [← h.len]; exact (List.getElem?_eq_some_iff.1 hj).1)]
  have hle : BlLe bl (bl ++ List.replicate os.length none) := fun j b hj => (hget j b).2 hj
  have hforb : ∀ c, forb A (bl ++ List.replicate os.length none) (heap ++ os) c ↔ forb A bl heap c := by
    intro c
    constructor
    · rintro (hf | ⟨j, hj, hd⟩)
      · exact .inl hf
      · rw [hget] at hj; rw [hgh j c hj] at hd; exact .inr ⟨j, hj, hd⟩
    · rintro (hf | ⟨j, hj, hd⟩)
      · exact .inl hf
      · exact .inr ⟨j, (hget j c).2 hj, by rw [hgh j c hj]; exact hd⟩
  have g : Grow0 w (forb A bl heap) U w (forb A (bl ++ List.replicate os.length none) (heap ++ os)) U := ⟨fun b _ hf => .inl ((hforb b).1 hf), fun b _ _ => ⟨Nat.le_refl _, fun _ _ => rfl⟩⟩
  have kp : ∀ b, b < w.heap.size → ¬ forb A bl heap b → w.heap[b]? = w.heap[b]? ∧ U b = U b ∧ ¬ forb A (bl ++ List.replicate os.length none) (heap ++ os) b := fun b _ hn => ⟨rfl, rfl, fun hf => hn ((hforb b).1 hf)⟩
  refine { size := h.size, env := fun t => ⟨(h.env t).1.mono g hle, ownAt_keeps (h.env t).2 g (fun p b _ => kp b)⟩, len := (by simp [h.len]), objs := ?_, inj := ?_, base := ?_, obinj := h.obinj, obok := fun l b hb => ⟨(h.obok l b hb).1, (h.obok l b hb).2.1, fun j hj => (h.obok l b hb).2.2 j ((hget j b).1 hj)⟩, since := ?_, f0 := h.f0, hB := h.hB, hG := h.hG, pend := ?_ }
  · intro j b hj
    rw [hget] at hj
    rw [hgh j b hj]
    exact obj_keeps (h.objs j b hj) g hle rfl (fun _ _ _ _ _ => rfl) (fun c _ => kp c)
  · intro i j b hi hj; rw [hget] at hi hj; exact h.inj i j b hi hj
  · intro j b hj; rw [hget] at hj; exact h.base j b hj
  · refine { below := h.since.below, g0 := h.since.g0.trans g h.since.below.size, ble := h.since.ble.trans hle, pnd := ?_, gown := h.since.gown, blen := (by rw [List.length_append]; have := h.since.blen; omega), ub := h.since.ub }
    intro j hj
    obtain ⟨p1, p2⟩ := h.since.pnd j hj
    have hlt := (List.getElem?_eq_some_iff.1 p1).1
    exact ⟨by rw [List.getElem?_append_left hlt]; exact p1, by rw [heap_get_append, if_pos (by rw [← h.len]; exact hlt)]; exact p2⟩
  · intro p hp
    obtain ⟨p1, p2, p3⟩ := h.pend p hp
    have hlt := (List.getElem?_eq_some_iff.1 p1).1
    exact ⟨by rw [List.getElem?_append_left hlt]; exact p1, by rw [heap_get_append, if_pos (by rw [← h.len]; exact hlt)]; exact p2, p3⟩
theorem Rel.hoist (h : Rel P A nt pend env heap bor tm w U bl ob) (os : Heap) (hos : ∀ o ∈ os, o.isArr = false) :
    Rel P A nt (pend ++ waits heap.length os) env (heap ++ os) bor tm w U (bl ++ List.replicate os.length none) ob := by
  refine { h.lay os with pend := fun p hp => ?_ }
  rcases List.mem_append.1 hp with hp | hp
  · exact (h.lay os).pend p hp
  · obtain ⟨q1, q2, q3⟩ := waits_mem os heap.length p hp
    refine ⟨?_, by rw [heap_get_append, if_neg (by omega)]; exact q2, hos _ (waits_in os heap.length p hp)⟩
    rw [List.getElem?_append_right (by rw [h.len]; exact q1), List.getElem?_replicate, if_pos (by rw [h.len]; omega)]

theorem Rel.unpend (h : Rel P A nt pend env heap bor tm w U bl ob) {pend' : List (Nat × AObj)} (hp : ∀ p ∈ pend', p ∈ pend) : Rel P A nt pend' env heap bor tm w U bl ob :=
  { h with pend := fun p hp' => h.pend p (hp p hp') }

/-- A draw of the world's. -/
theorem drew_ext (w : World) (n : Nat) (U : Nat → Nat) (hn : w.drawn ≤ n) : Ext w U { w with drawn := n } U := ⟨rfl, rfl, rfl, Nat.le_refl _, fun _ _ => ⟨rfl, rfl⟩, hn⟩

/-! ### a row grown in its own room -/
theorem Rel.growIn (h : Rel P A nt pend env heap bor tm w U bl ob) {l : Loc} {b n' : Nat} (hl : ob l = some b) (hlt : b < w.heap.size) (hbB : A.B ≤ b) (hbF : ¬ forb A bl heap b) {o' : Obj} {w' : World} (hw : Wrote w b o' w')
    (hn : U b ≤ n') (hold : ∀ o, o < U b → w'.cell? ⟨b, o, none⟩ = w.cell? ⟨b, o, none⟩) (hlenv : ∃ s p, l = .env s p) :
    ∀ s, (∃ p, l = .env s p) → Rel P A nt pend (env.bare s) heap bor tm w' (fun c => if c = b then n' else U c) bl (fun m => match m with | .env t p => if t = s then none else ob (.env t p) | m => ob m) := by
  rintro s ⟨p0, rfl⟩
  have hblk : ∀ c, c ≠ b → w'.heap[c]? = w.heap[c]? := hw.other
  have g : Grow0 w (forb A bl heap) U w' (forb A bl heap) (fun c => if c = b then n' else U c) := by
    refine ⟨fun _ _ hf => .inl hf, fun c _ _ => ?_⟩
    by_cases e : c = b
    · subst e; simp only [if_true]; exact ⟨hn, hold⟩
    · simp only [if_neg e]; exact ⟨Nat.le_refl _, fun o _ => cell_block (hblk c e) o⟩
  have kp : ∀ m c, ob m = some c → m ≠ .env s p0 → c < w.heap.size → ¬ forb A bl heap c → w'.heap[c]? = w.heap[c]? ∧ (if c = b then n' else U c) = U c ∧ ¬ forb A bl heap c := by
    intro m c hm hne _ hf
    have hcb : c ≠ b := fun e => hne (h.obinj _ _ b (e ▸ hm) hl)
    exact ⟨hblk c hcb, if_neg hcb, hf⟩
  refine { size := h.size, env := fun t => ?_, len := h.len, objs := ?_, inj := h.inj, base := ?_, obinj := ?_, obok := ?_, since := ?_, f0 := h.f0, hB := (by rw [hw.size]; exact h.hB), hG := fun c hc => (by rw [hw.size]; exact h.hG c hc), pend := h.pend }
  · rw [get_bare]
    by_cases e : s = t
    · subst e; simp only [if_true]; exact ⟨(h.env s).1.strip.mono g (BlLe.refl _), .bare (strip_bare _)⟩
    · have e' : ¬ t = s := fun q => e q.symm
      simp only [e, e', if_false]
      exact ⟨(h.env t).1.mono g (BlLe.refl _), ownAt_keeps (h.env t).2 g (fun p c hc => kp _ c hc (fun hh => by injection hh with h1; exact e' h1))⟩
  · intro j c hj
    by_cases hdead : heap.get j = .dead
    · rw [hdead]; trivial
    refine obj_keeps (h.objs j c hj) g (BlLe.refl _) (hblk c (fun e => ?_)) (fun id _ bm _ hm => hblk bm (fun e => (h.obok _ b hl).2.2 id (e ▸ hm))) (fun d hd => ?_)
    · subst e
      exact hbF (.inr ⟨j, hj, hdead⟩)
    · rcases hd with ⟨i, p, hd⟩ | ⟨i, p, hd⟩
      · exact kp _ d hd (by simp)
      · exact kp _ d hd (by simp)
  · intro j c hj
    obtain ⟨b1, b2, b3⟩ := h.base j c hj
    exact ⟨b1, by rw [hw.size]; exact b2, b3⟩
  · intro l m c hl' hm'
    refine h.obinj l m c ?_ ?_
    · cases l <;> simp only at hl' <;> first | exact hl' | (split at hl' <;> first | exact hl' | simp at hl')
    · cases m <;> simp only at hm' <;> first | exact hm' | (split at hm' <;> first | exact hm' | simp at hm')
  · intro l c hl'
    have key : ob l = some c := by
      cases l <;> simp only at hl' <;> first | exact hl' | (split at hl' <;> first | exact hl' | simp at hl')
    exact ⟨(h.obok l c key).1, (by rw [hw.size]; exact (h.obok l c key).2.1), (h.obok l c key).2.2⟩
  · refine { below := h.since.below.trans ⟨hw.os, hw.tape, hw.output, Nat.le_of_eq hw.size.symm, fun k hk => hblk k (by omega), Nat.le_of_eq hw.drawn.symm⟩, g0 := h.since.g0.trans g h.since.below.size, ble := h.since.ble, pnd := h.since.pnd, gown := fun c hc => ?_, blen := h.since.blen, ub := fun c hc => ?_ }
    · obtain ⟨g1, g2⟩ := h.since.gown c hc
      have hcb : c ≠ b := fun e => (h.obok _ b hl).1 (e ▸ hc)
      exact ⟨(hblk c hcb).trans g1, by rw [if_neg hcb]; exact g2⟩
    · rw [if_neg (by omega)]; exact h.since.ub c hc
end
end Ax

/- append. -/
set_option linter.unusedVariables false
set_option linter.unusedSimpArgs false
namespace Ax
open Go Go.RowKit

theorem growBy_le (newLen : Nat) : ∀ (r c : Nat), c < newLen → Builtin.growBy newLen r c ≤ newLen + (newLen + 768) / 4
  | 0, c, h => by simp only [Builtin.growBy]; omega
  | r + 1, c, h => by
    simp only [Builtin.growBy]
    split
    · omega
    · by_cases h2 : c + (c + 768) / 4 < newLen
      · exact growBy_le newLen r _ h2
      · cases r with
        | zero => simp only [Builtin.growBy]; omega
        | succ r => simp only [Builtin.growBy]; rw [if_pos (by omega)]; omega
theorem nextcap_le (n c : Nat) (h : c < n) : Builtin.nextslicecap n c ≤ n + (n + 768) / 4 + 512 := by
  unfold Builtin.nextslicecap
  split
  · omega
  · split
    · omega
    · have := growBy_le n 4 c h; omega

section
variable {P : Program} {w : World} {F : Nat → Prop} {U : Nat → Nat} {bl : Blocks} {B : Nat}

/-- The source of an append: its cells in a row. -/
def SrcRep (P : Program) (w : World) (F : Nat → Prop) (U : Nat → Nat) (sz m : Nat) (g : Nat → AV) (x : Value) : Prop :=
  ∃ cs : List Value, (Builtin.lenOf x).run P w = .ok m w ∧ (∀ w' : World, w'.heap = w.heap → (Builtin.firstCells sz m x).run P w' = .ok cs.toArray w') ∧ cs.length = m * sz ∧ (∀ y ∈ cs, y.oneCell' = true) ∧
    (∀ i, i < m → (g i).cells.length = sz) ∧ ∀ (i j : Nat) c, i < m → (g i).cells[j]? = some c → ∃ y, cs[i * sz + j]? = some y ∧ Rep w F U [] c y

theorem cell_heap {w w' : World} (h : w'.heap = w.heap) (a : Addr) : w'.cell? a = w.cell? a := by simp [World.cell?, h]

theorem divmod_cell {sz i j : Nat} (hj : j < sz) : (i * sz + j) / sz = i ∧ (i * sz + j) % sz = j := by
  have h0 : 0 < sz := by omega
  constructor
  · rw [Nat.add_comm, Nat.add_mul_div_right _ _ h0, Nat.div_eq_of_lt hj]; omega
  · rw [Nat.add_comm, Nat.add_mul_mod_self_right, Nat.mod_eq_of_lt hj]

theorem vec_src {sz n cap : Nat} {g : Nat → AV} {ao : Option Addr} (h : Rep w F U bl (.vec sz n g) (.slice ao n cap)) (h0 : 0 < sz) : SrcRep P w F U sz n g (.slice ao n cap) := by
  cases h with
  | vec hcap vals hz hs hone hh =>
    refine ⟨(List.range (n * sz)).map fun k => vals (k / sz) (k % sz), rfl, fun w' hw' => ?_, by simp, fun y hy => (by
        obtain ⟨k, hk, rfl⟩ := List.mem_map.1 hy
        exact hone _ _ ((Nat.div_lt_iff_lt_mul h0).2 (by simpa using hk)) (Nat.mod_lt _ h0)), hs, fun i j c hi hc => ?_⟩
    · cases Nat.eq_zero_or_pos n with
      | inl hn =>
        subst hn
        cases ao with
        | none => simp [Builtin.firstCells]
        | some a => simp [Builtin.firstCells, loadCells, loadCellsFrom]
      | inr hn =>
        obtain ⟨_, a, e1, e2, e3, e4, e5⟩ := hz hn
        subst e1
        obtain ⟨ab, ao, as⟩ := a
        simp only at e2; subst e2
        have := run_loadCells (P := P) w' ⟨ab, ao, none⟩ (n * sz) (fun k => vals (k / sz) (k % sz)) (fun k hk => by
          rw [addr_add, cell_heap hw']
          have h1 : k / sz < n := (Nat.div_lt_iff_lt_mul h0).2 hk
          have h2 := e5 (k / sz) (k % sz) h1 (Nat.mod_lt _ h0)
          simp only at h2
          rw [← h2]
          congr 2
          have := Nat.div_add_mod k sz
          rw [Nat.mul_comm] at this; omega)
        simpa [Builtin.firstCells] using this
    · have hj : j < sz := by rw [← hs i hi]; exact (List.getElem?_eq_some_iff.1 hc).1
      obtain ⟨d1, d2⟩ := divmod_cell (i := i) hj
      refine ⟨vals i j, ?_, hh i j c hi hc⟩
      have hlt : i * sz + j < n * sz := by have := index_mul (sz := sz) hi; omega
      simp [hlt, d1, d2]

theorem srcOf_sound {e : TypeId} {h : Heap} {x : AV} {m : Nat} {g : Nat → AV} {x' : Value} (hs : srcOf P e h x = some (m, g)) (hx : Rep w F U bl x x') (ho : ObjsOK P w F U bl B h) (h0 : 0 < tySz P e) :
    SrcRep P w F U (tySz P e) m g x' := by
  have vcase : ∀ sz n g0, Rep w F U bl (.vec sz n g0) x' → (bif Nat.beq sz (tySz P e) then some (n, g0) else none) = some (m, g) → SrcRep P w F U (tySz P e) m g x' := by
    intro sz n g0 hr hh
    rw [beq_eq] at hh
    by_cases hz : sz = tySz P e
    · simp [hz] at hh
      obtain ⟨rfl, rfl⟩ := hh
      rw [hz] at hr
      have hr' := hr
      cases hr' with
      | vec => exact vec_src hr h0
    · simp [hz] at hh
  unfold srcOf at hs
  split at hs
  · exact vcase _ _ _ hx hs
  · cases hx with | own hx => exact vcase _ _ _ hx hs
  · simp at hs
    obtain ⟨rfl, rfl⟩ := hs
    cases hx with
    | rvec hcap vals hz hh1 hh2 =>
      rename_i ao cap
      refine ⟨[], rfl, fun w' hw' => ?_, by simp, fun y hy => by simp at hy, fun i hi => absurd hi (by omega), fun i j c hi => absurd hi (by omega)⟩
      cases ao with
      | none => simp [Builtin.firstCells]
      | some a => simp [Builtin.firstCells, loadCells, loadCellsFrom]
  · rename_i id sz lo n
    split at hs
    · rename_i sz' n' g0 hg
      cases hc : (Nat.beq sz sz' && Nat.beq sz (tySz P e) && Nat.ble (lo + n) n') with
      | false => simp [hc] at hs
      | true =>
        simp [hc] at hs
        obtain ⟨rfl, rfl⟩ := hs
        simp only [Bool.and_eq_true, beq_eq, ble_eq, decide_eq_true_eq] at hc
        obtain ⟨⟨c1, c2⟩, c3⟩ := hc
        subst c1
        cases hx with
        | @row _ _ _ _ _ ao cap hcap hz =>
          rcases Nat.eq_zero_or_pos n with hn | hn
          · subst hn
            refine ⟨[], rfl, fun w' hw' => ?_, by simp, fun y hy => by simp at hy, fun i hi => absurd hi (by omega), fun i j c hi => absurd hi (by omega)⟩
            cases ao with
            | none => simp [Builtin.firstCells]
            | some a => simp [Builtin.firstCells, loadCells, loadCellsFrom]
          obtain ⟨b, hb, rfl⟩ := hz hn
          obtain ⟨o1, o2, o3, hobj⟩ := ho id b hb
          rw [hg] at hobj
          obtain ⟨c, el, fr, k1, k2, k3, k4, k5, k6⟩ := hobj
          have hle : (lo + n) * sz ≤ n' * sz := Nat.mul_le_mul_right _ c3
          have hsp : (lo + n) * sz = lo * sz + n * sz := Nat.add_mul _ _ _
          refine ⟨(List.range (n * sz)).map fun k => c.getD (lo * sz + k) undef, rfl, fun w' hw' => ?_, by simp [← c2], fun y hy => ?_, fun i hi => by rw [← c2]; exact k5 _ (by omega), fun i j x hi hx => ?_⟩
          · have := run_loadCells (P := P) w' ⟨b, lo * sz, none⟩ (n * sz) (fun k => c.getD (lo * sz + k) undef) (fun k hk => by
              rw [addr_add, cell_heap hw', cell_row k1]
              have : lo * sz + k < c.size := by omega
              simp [Array.getD, this])
            rw [← c2]
            simpa [Builtin.firstCells] using this
          · obtain ⟨k, hk, rfl⟩ := List.mem_map.1 hy
            have hk' : k < n * sz := by simpa using hk
            have hq : k / sz < n := (Nat.div_lt_iff_lt_mul (by omega)).2 hk'
            have hmod := Nat.mod_lt k k2
            obtain ⟨y, hy, h1, _⟩ := k6 (lo + k / sz) (k % sz) _ (by omega) (List.getElem?_eq_getElem (by rw [k5 _ (by omega)]; exact hmod))
            have hkk : k / sz * sz + k % sz = k := by have := Nat.div_add_mod k sz; rw [Nat.mul_comm] at this; exact this
            rw [Nat.add_mul, Nat.add_assoc, hkk] at hy
            have hl := (Array.getElem?_eq_some_iff.1 hy).1
            have hv := (Array.getElem?_eq_some_iff.1 hy).2
            have hgd : c.getD (lo * sz + k) undef = y := by rw [Array.getD, dif_pos hl]; exact hv
            rw [hgd]; exact h1
          · obtain ⟨y, hy, _, hr⟩ := k6 (lo + i) j x (by omega) hx
            have hj : j < sz := by rw [← k5 (lo + i) (by omega)]; exact (List.getElem?_eq_some_iff.1 hx).1
            have hlt : i * sz + j < n * sz := by have := index_mul (sz := sz) hi; omega
            refine ⟨y, ?_, hr⟩
            rw [← c2]
            rw [Nat.add_mul] at hy
            have hlt2 := (Array.getElem?_eq_some_iff.1 hy).1
            have hval := (Array.getElem?_eq_some_iff.1 hy).2
            simp only [List.getElem?_map, List.getElem?_range hlt, Option.map_some, Option.some.injEq]
            have e1 : lo * sz + (i * sz + j) = lo * sz + i * sz + j := by omega
            rw [e1]
            simp [Array.getD, hlt2, hval]
    · simp at hs
  · simp at hs

/-- Elements put behind elements, cell by cell. -/
theorem vapp_get {z : AV} {g g' : Nat → AV} {n m i : Nat} : vapp z g n g' m i = if i < n then g i else if i < n + m then g' (i - n) else z := by
  unfold vapp
  rw [blt_eq, blt_eq]
  by_cases h1 : i < n
  · simp [h1]
  · by_cases h2 : i < n + m <;> simp [h1, h2]

theorem run_matches_int {u : TypeId} (h : isSliceT P u = true) : ((underlying u >>= fun d => (pure (d matches .int _) : Sem Bool)).run P w) = .ok false w := by
  unfold isSliceT at h
  cases hd : tyD P u <;> simp [hd] at h
  simp [run_und hd (by simp)]

theorem slice_of {u : TypeId} (h : isSliceT P u = true) : ∃ d, tyD P u = .slice d := by
  unfold isSliceT at h
  cases hd : tyD P u <;> simp [hd] at h
  exact ⟨_, rfl⟩

theorem append_stay {t u e : TypeId} {ty : TypeId} {base : Option Addr} {n cap m : Nat} {x' : Value} {cs : List Value} (ht : tyD P t = .slice e) (hu : isSliceT P u = true)
    (h0 : 0 < tySz P e) (hl : (Builtin.lenOf x').run P w = .ok m w) (hc : (Builtin.firstCells (tySz P e) m x').run P w = .ok cs.toArray w) (hle : n + m ≤ cap) :
    (Builtin.append_ #[t, u] ty #[.slice base n cap, x']).run P w =
      (match base with | some a => (storeCells (a.add (n * tySz P e)) cs).run P w | none => .ok () w).andThen fun _ w' => .ok (.slice base (n + m) cap) w' := by
  obtain ⟨d, hd⟩ := slice_of hu
  unfold Builtin.append_
  simp only [List.getElem?_toArray, List.getElem?_cons_zero, List.getElem?_cons_succ, Sem.run_bind, run_und ht (by simp), run_und hd (by simp), Result.andThen_ok, run_size' h0, Sem.run_pure,
    Bool.false_eq_true, if_false, hl, hle, if_true, Bool.not_false, hc]
  cases base with
  | none => simp only [Sem.run_pure, Result.andThen_ok]
  | some a => simp only [Sem.run_bind]; rfl

/-- The row that append makes. -/
def grownRow (P : Program) (e : TypeId) (z : Value) (old new : List Value) (r : Nat) : Array Value := old.toArray ++ new.toArray ++ Builtin.zeroCells z.cells r

theorem append_move {t u e : TypeId} {ty : TypeId} {i : TypeInfo} {z : Value} {base : Option Addr} {n cap m : Nat} {x' : Value} {cs os : List Value} (ht : tyD P t = .slice e) (hu : isSliceT P u = true)
    (hi : P.info? e = some i) (hz : i.zero = some z) (h0 : 0 < tySz P e) (hb : 0 < tyBy P e) (hr : roomOK (n + m) (tyBy P e) = true) (hl : (Builtin.lenOf x').run P w = .ok m w)
    (hc : ∀ w' : World, w'.heap = w.heap → (Builtin.firstCells (tySz P e) m x').run P w' = .ok cs.toArray w')
    (hos : ∀ w' : World, w'.heap = w.heap → (Builtin.firstCells (tySz P e) n (.slice base n cap)).run P w' = .ok os.toArray w') (hle : ¬ n + m ≤ cap) :
    ∃ c q, n + m ≤ c ∧ w.drawn ≤ q ∧ (Builtin.append_ #[t, u] ty #[.slice base n cap, x']).run P w =
      .ok (.slice (some ⟨w.heap.size, 0, none⟩) (n + m) c) (rowW { w with drawn := q } (grownRow P e z os cs (c - (n + m))) e) := by
  obtain ⟨d, hd⟩ := slice_of hu
  have hby : tyBy P e = i.bytes := by simp [tyBy, hi]
  simp only [roomOK, Bool.and_eq_true, ble_eq, decide_eq_true_eq] at hr
  have hnext : ¬ (Builtin.nextslicecap (n + m) cap * i.bytes > 2 ^ 48) := by
    have := Nat.mul_le_mul_right i.bytes (nextcap_le (n + m) cap (by omega))
    rw [hby] at hr
    omega
  refine ⟨(Question.appendCap (n + m) cap e).cut (w.tape w.drawn (.appendCap (n + m) cap e)), w.drawn + 1, Nat.le_add_right _ _, Nat.le_succ _, ?_⟩
  unfold Builtin.append_
  have hti : ∀ w' : World, (typeInfo e).run P w' = .ok i w' := fun w' => by simp [typeInfo, hi]
  have hzr : ∀ w' : World, (zeroValue e).run P w' = .ok z w' := fun w' => by simp [zeroValue, typeInfo, hi, hz]
  have hb' : ¬ (((n + m : Nat) : Int) > IntKind.i64.max ∧ (False ∨ i.bytes = 0)) := by rw [hby] at hb; intro hh; rcases hh.2 with h | h; exact h; omega
  have hch : (choose (.appendCap (n + m) cap e)).run P w = .ok ((Question.appendCap (n + m) cap e).cut (w.tape w.drawn (.appendCap (n + m) cap e))) { w with drawn := w.drawn + 1 } := by
    rw [run_choose]; simp [Question.forced]
  simp only [List.getElem?_toArray, List.getElem?_cons_zero, List.getElem?_cons_succ, Sem.run_bind, run_und ht (by simp), run_und hd (by simp), Result.andThen_ok, run_size' h0, Sem.run_pure,
    Bool.false_eq_true, if_false, hl, if_neg hle, if_true, Bool.not_false, hti, if_neg hb', if_neg hnext, hch, run_askRoom, hos { w with drawn := w.drawn + 1 } rfl, hc { w with drawn := w.drawn + 1 } rfl, hzr]
  simp [newRow, rowW, grownRow]
  exact ⟨rfl, rfl, rfl⟩
end
end Ax

/- append beside the state. -/
set_option linter.unusedVariables false
set_option linter.unusedSimpArgs false
namespace Ax
open Go Go.RowKit

section
variable {P : Program} {w : World} {F : Nat → Prop} {U : Nat → Nat} {bl : Blocks} {B : Nat}

theorem zeroFits_of {e : TypeId} (h : zeroFits P e = true) : ∃ i z, P.info? e = some i ∧ i.zero = some z ∧ z.cells.size = tySz P e := by
  unfold zeroFits at h
  cases hi : P.info? e with
  | none => simp [hi] at h
  | some i =>
    cases hz : i.zero with
    | none => simp [hi, hz] at h
    | some z => simp [hi, hz] at h; exact ⟨i, z, rfl, hz, by rw [h]; simp [tySz, hi]⟩

/-- The elements of a row made of two rows. -/
theorem two_rows {sz n m : Nat} {g g' : Nat → AV} {z : AV} {os cs : List Value} (rest : Array Value)
    (ho : os.length = n * sz) (hc : cs.length = m * sz)
    (h1 : ∀ (i j : Nat) c, i < n → (g i).cells[j]? = some c → ∃ y, os[i * sz + j]? = some y ∧ Rep w F U [] c y)
    (h2 : ∀ (i j : Nat) c, i < m → (g' i).cells[j]? = some c → ∃ y, cs[i * sz + j]? = some y ∧ Rep w F U [] c y)
    (s1 : ∀ i, i < n → (g i).cells.length = sz) (s2 : ∀ i, i < m → (g' i).cells.length = sz) :
    (∀ i, i < n + m → (vapp z g n g' m i).cells.length = sz) ∧
    ∀ (i j : Nat) c, i < n + m → (vapp z g n g' m i).cells[j]? = some c → ∃ y, (os.toArray ++ cs.toArray ++ rest)[i * sz + j]? = some y ∧ Rep w F U [] c y := by
  refine ⟨fun i hi => ?_, fun i j c hi hj => ?_⟩
  · rw [vapp_get]; split
    · exact s1 i ‹_›
    · exact s2 _ (by omega)
  · rw [vapp_get] at hj
    split at hj
    · rename_i hlt
      obtain ⟨y, hy, hr⟩ := h1 i j c hlt hj
      refine ⟨y, ?_, hr⟩
      have hl := (List.getElem?_eq_some_iff.1 hy).1
      rw [Array.getElem?_append_left (by simp; omega), Array.getElem?_append_left (by simpa using hl)]
      simpa using hy
    · rename_i hge
      obtain ⟨y, hy, hr⟩ := h2 (i - n) j c (by omega) hj
      refine ⟨y, ?_, hr⟩
      have hl := (List.getElem?_eq_some_iff.1 hy).1
      have e1 : i * sz = n * sz + (i - n) * sz := by rw [← Nat.add_mul]; congr 1; omega
      rw [Array.getElem?_append_left (by simp; omega), Array.getElem?_append_right (by simp; omega)]
      simp only [List.getElem?_toArray, List.size_toArray, ho]
      rw [← hy]; congr 1; omega
end

section
variable {P : Program} {A : Amb} {nt : Nat} {pend : List (Nat × AObj)} {env : Env} {heap : Heap} {bor : Option (Nat × AV)} {tm : Array Value} {w : World} {U : Nat → Nat} {bl : Blocks} {ob : Loc → Option Nat}

theorem own_nil {F : Nat → Prop} {B : Nat} {own : List Nat → Option Nat} {sz n : Nat} {g : Nat → AV} {x : Value} (h : OwnOK w F U B (own []) (.own (.vec sz n g)) x) : OwnAt w F U B own (.own (.vec sz n g)) x := by
  intro p u hp _
  cases p with
  | nil => simp [AV.at] at hp; subst hp; exact ⟨x, by cases x <;> rfl, h⟩
  | cons i p => simp [AV.at] at hp

/-- A new row behind, for a slice that is appended to. -/
theorem app_new (h : Rel P A nt pend env heap bor tm w U bl ob) {e : TypeId} {z : Value} {n m c q : Nat} {g g' : Nat → AV} {zE : AV} {os cs : List Value} {d : Option Nat} (hd : ∀ t, d = some t → t < nt)
    (h0 : 0 < tySz P e) (hnm : 0 < n + m) (hq : w.drawn ≤ q) (hzs : z.cells.size = tySz P e) (hc : n + m ≤ c) (ho : os.length = n * tySz P e) (hcs : cs.length = m * tySz P e)
    (h1 : ∀ (i j : Nat) x, i < n → (g i).cells[j]? = some x → ∃ y, os[i * tySz P e + j]? = some y ∧ Rep w (forb A bl heap) U [] x y)
    (h2 : ∀ (i j : Nat) x, i < m → (g' i).cells[j]? = some x → ∃ y, cs[i * tySz P e + j]? = some y ∧ Rep w (forb A bl heap) U [] x y)
    (s1 : ∀ i, i < n → (g i).cells.length = tySz P e) (s2 : ∀ i, i < m → (g' i).cells.length = tySz P e) (o1 : ∀ y ∈ os, y.oneCell' = true) (o2 : ∀ y ∈ cs, y.oneCell' = true) :
    ∃ U' ob', Rel P A nt pend (setO env d (.own (.vec (tySz P e) (n + m) (vapp zE g n g' m)))) heap bor (putO tm d (.slice (some ⟨w.heap.size, 0, none⟩) (n + m) c))
      (rowW { w with drawn := q } (grownRow P e z os cs (c - (n + m))) e) U' bl ob' := by
  have hrow : (grownRow P e z os cs (c - (n + m))).size = c * tySz P e := by
    simp only [grownRow, Builtin.zeroCells, Array.size_append, List.size_toArray, Array.size_map, Array.size_range, ho, hcs, hzs]
    rw [← Nat.add_mul, ← Nat.add_mul]; congr 1; omega
  have ext : Ext w U (rowW { w with drawn := q } (grownRow P e z os cs (c - (n + m))) e) (rowU w U ((n + m) * tySz P e)) :=
    (drew_ext w q U hq).trans (rowW_ext (w := { w with drawn := q }) _ e _)
  have h' := h.ext ext
  obtain ⟨t1, t2⟩ := two_rows (z := zE) (rest := Builtin.zeroCells z.cells (c - (n + m))) ho hcs h1 h2 s1 s2
  have hnF : ¬ forb A bl heap w.heap.size := h.notF (Nat.le_refl _)
  have hle : (n + m) * tySz P e ≤ c * tySz P e := Nat.mul_le_mul_right _ hc
  have hcell : ∀ o, (rowW { w with drawn := q } (grownRow P e z os cs (c - (n + m))) e).cell? ⟨w.heap.size, o, none⟩ = (grownRow P e z os cs (c - (n + m)))[o]? :=
    fun o => rowW_cell (w := { w with drawn := q }) _ e o
  have hrep : Rep (rowW { w with drawn := q } (grownRow P e z os cs (c - (n + m))) e) (forb A bl heap) (rowU w U ((n + m) * tySz P e)) bl (.vec (tySz P e) (n + m) (vapp zE g n g' m)) (.slice (some ⟨w.heap.size, 0, none⟩) (n + m) c) := by
    refine .vec hc (fun i j => (grownRow P e z os cs (c - (n + m))).getD (i * tySz P e + j) undef) (fun _ => ⟨h0, ⟨w.heap.size, 0, none⟩, rfl, rfl, hnF, by simp [rowU], fun i j hi hj => ?_⟩) t1 (fun i j hi hj => ?_) (fun i j x hi hx => ?_)
    · rw [Nat.zero_add, hcell]
      have : i * tySz P e + j < (grownRow P e z os cs (c - (n + m))).size := by rw [hrow]; have := index_mul (sz := tySz P e) hi; omega
      simp [Array.getD, this]
    · have hlt : i * tySz P e + j < (n + m) * tySz P e := by have := index_mul (sz := tySz P e) hi; omega
      rw [Nat.add_mul] at hlt
      have hl : i * tySz P e + j < (grownRow P e z os cs (c - (n + m))).size := by rw [hrow]; rw [Nat.add_mul] at hle; omega
      rw [Array.getD, dif_pos hl]
      have : (grownRow P e z os cs (c - (n + m)))[i * tySz P e + j] ∈ os ++ cs := by
        simp only [grownRow]
        rw [Array.getElem_append_left (by simp; omega)]
        have hm := List.getElem_mem (l := os ++ cs) (n := i * tySz P e + j) (by simp; omega)
        simp
      rcases List.mem_append.1 this with h | h
      · exact o1 _ h
      · exact o2 _ h
    · obtain ⟨y, hy, hr⟩ := t2 i j x hi hx
      have hl := (Array.getElem?_eq_some_iff.1 hy).1
      have hv := (Array.getElem?_eq_some_iff.1 hy).2
      have : (grownRow P e z os cs (c - (n + m))).getD (i * tySz P e + j) undef = y := by
        unfold grownRow; rw [Array.getD]; rw [dif_pos hl]; exact hv
      rw [this]
      exact hr.mono (ext.grow _) (BlLe.refl _)
  cases d with
  | none => exact ⟨_, _, h'⟩
  | some d =>
    refine ⟨_, _, h'.putG (hd d rfl) (fun p => if p = [] then some w.heap.size else none) (.own hrep) (own_nil (.inr ⟨⟨w.heap.size, 0, none⟩, .inr rfl, rfl, rfl, h.hB, rfl, hnF, by simp [rowU], h0, _, e, (0, 0), rowW_block (w := { w with drawn := q }) _ e, by rw [hrow]; simp, fun o _ _ => ?_⟩)) (fun p b hb => ?_)⟩
    · simp only [World.frozen?]
      rw [show (rowW { w with drawn := q } (grownRow P e z os cs (c - (n + m))) e).heap[w.heap.size]? = some (.cells (grownRow P e z os cs (c - (n + m))) e) from rowW_block (w := { w with drawn := q }) _ e]
      simp
    · by_cases hp : p = []
      · simp only [hp, if_true, Option.some.injEq] at hb
        subst hb
        refine ⟨⟨fun hg => by have := h.hG _ hg; omega, by simp [rowW], fun id hid => by have := (h.base id _ hid).2.1; omega⟩, fun q' hq => ?_, fun l hl => ?_⟩
        · by_cases hq' : q' = []
          · rw [hp, hq']
          · simp [hq'] at hq
        · exact absurd (h.obok l _ hl).2.1 (Nat.lt_irrefl _)
      · simp [hp] at hb
end
end Ax

/- Slices whose block is their holder's: append; shared, made objects, frozen. -/
set_option linter.unusedVariables false
set_option linter.unusedSimpArgs false
namespace Ax
open Go Go.RowKit

section
variable {P : Program} {w : World} {F : Nat → Prop} {U : Nat → Nat} {bl : Blocks} {B : Nat}

/-- A block's cells as the source of an append. -/
theorem block_src {sz n cap b lo : Nat} {g : Nat → AV} {c : Array Value} {el : TypeId} {fr : Nat × Nat} (k1 : w.heap[b]? = some (.cells c el fr)) (h0 : 0 < sz) (hle : lo + n * sz ≤ c.size) (k5 : ∀ i, i < n → (g i).cells.length = sz)
    (k6 : ∀ (i j : Nat) x, i < n → (g i).cells[j]? = some x → ∃ y, c[lo + i * sz + j]? = some y ∧ y.oneCell' = true ∧ Rep w F U [] x y) : SrcRep P w F U sz n g (.slice (some ⟨b, lo, none⟩) n cap) := by
  refine ⟨(List.range (n * sz)).map fun k => c.getD (lo + k) undef, rfl, fun w' hw' => ?_, by simp, fun y hy => ?_, k5, fun i j x hi hx => ?_⟩
  · have := run_loadCells (P := P) w' ⟨b, lo, none⟩ (n * sz) (fun k => c.getD (lo + k) undef) (fun k hk => by
      rw [addr_add, cell_heap hw', cell_row k1]
      have : lo + k < c.size := by omega
      simp [Array.getD, this])
    simpa [Builtin.firstCells] using this
  · obtain ⟨k, hk, rfl⟩ := List.mem_map.1 hy
    have hk' : k < n * sz := by simpa using hk
    have hq : k / sz < n := (Nat.div_lt_iff_lt_mul h0).2 hk'
    have hmod := Nat.mod_lt k h0
    obtain ⟨y, hy, h1, _⟩ := k6 (k / sz) (k % sz) _ hq (List.getElem?_eq_getElem (by rw [k5 _ hq]; exact hmod))
    have hkk : k / sz * sz + k % sz = k := by have := Nat.div_add_mod k sz; rw [Nat.mul_comm] at this; exact this
    rw [Nat.add_assoc, hkk] at hy
    have hl := (Array.getElem?_eq_some_iff.1 hy).1
    have hv := (Array.getElem?_eq_some_iff.1 hy).2
    have hgd : c.getD (lo + k) undef = y := by rw [Array.getD, dif_pos hl]; exact hv
    rw [hgd]; exact h1
  · obtain ⟨y, hy, _, hr⟩ := k6 i j x hi hx
    have hj : j < sz := by rw [← k5 i hi]; exact (List.getElem?_eq_some_iff.1 hx).1
    have hlt : i * sz + j < n * sz := by have := index_mul (sz := sz) hi; omega
    refine ⟨y, ?_, hr⟩
    have hlt2 := (Array.getElem?_eq_some_iff.1 hy).1
    have hval := (Array.getElem?_eq_some_iff.1 hy).2
    simp only [List.getElem?_map, List.getElem?_range hlt, Option.map_some, Option.some.injEq]
    rw [← Nat.add_assoc]
    simp [Array.getD, hlt2, hval]

theorem empty_src {sz cap : Nat} {g : Nat → AV} {ao : Option Addr} : SrcRep P w F U sz 0 g (.slice ao 0 cap) := by
  refine ⟨[], rfl, fun w' hw' => ?_, by simp, fun y hy => by simp at hy, fun i hi => absurd hi (by omega), fun i j c hi => absurd hi (by omega)⟩
  cases ao with
  | none => simp [Builtin.firstCells]
  | some a => simp [Builtin.firstCells, loadCells, loadCellsFrom]

theorem uni_nil {own : List Nat → Option Nat} {sz n : Nat} {g : Nat → AV} {x : Value} (h : OwnOK w F U B (own []) (.uni (.vec sz n g)) x) : OwnAt w F U B own (.uni (.vec sz n g)) x := by
  intro p u hp _
  cases p with
  | nil => simp [AV.at] at hp; subst hp; exact ⟨x, by cases x <;> rfl, h⟩
  | cons i p => simp [AV.at] at hp
end

section
variable {P : Program} {A : Amb} {nt : Nat} {pend : List (Nat × AObj)} {env : Env} {heap : Heap} {bor : Option (Nat × AV)} {tm : Array Value} {w : World} {U : Nat → Nat} {bl : Blocks} {ob : Loc → Option Nat}

/-- A new block that is the slot's alone. -/
theorem Rel.newU (h : Rel P A nt pend env heap bor tm w U bl ob) {d : Option Nat} (hd : ∀ t, d = some t → t < nt) {row : Array Value} {e : TypeId} {sz n c q : Nat} {g : Nat → AV} (h0 : 0 < sz) (hq : w.drawn ≤ q) (hc : n ≤ c) (hrow : c * sz ≤ row.size)
    (hs : ∀ i, i < n → (g i).cells.length = sz) (hr : ∀ (i j : Nat) x, i < n → (g i).cells[j]? = some x → ∃ y, row[i * sz + j]? = some y ∧ y.oneCell' = true ∧ Rep w (forb A bl heap) U [] x y) :
    ∃ U' ob', Rel P A nt pend (setO env d (.uni (.vec sz n g))) heap bor (putO tm d (.slice (some ⟨w.heap.size, 0, none⟩) n c)) (rowW { w with drawn := q } row e) U' bl ob' := by
  have ext : Ext w U (rowW { w with drawn := q } row e) (rowU w U 0) := (drew_ext w q U hq).trans (rowW_ext (w := { w with drawn := q }) _ e _)
  have h' := h.ext ext
  have hnF : ¬ forb A bl heap w.heap.size := h.notF (Nat.le_refl _)
  have hhere : (rowW { w with drawn := q } row e).heap[w.heap.size]? = some (.cells row e) := rowW_block (w := { w with drawn := q }) _ e
  cases d with
  | none => exact ⟨_, _, h'⟩
  | some d =>
    refine ⟨_, _, h'.putG (hd d rfl) (fun p => if p = [] then some w.heap.size else none) .uni (uni_nil ⟨_, c, rfl, hc, .inr ⟨w.heap.size, rfl, rfl, h.hB, hnF, by simp [rowU], h0, row, e, (0, 0), hhere, hrow, fun o _ => ?_, hs, fun i j x hi hx => ?_⟩⟩) (fun p b hb => ?_)⟩
    · simp only [World.frozen?]; rw [hhere]; simp
    · obtain ⟨y, h1, h2, h3⟩ := hr i j x hi hx
      exact ⟨y, h1, h2, h3.mono (ext.grow _) (BlLe.refl _)⟩
    · by_cases hp : p = []
      · simp only [hp, if_true, Option.some.injEq] at hb
        subst hb
        refine ⟨⟨fun hg => by have := h.hG _ hg; omega, by simp [rowW], fun id hid => by have := (h.base id _ hid).2.1; omega⟩, fun q' hq => ?_, fun l hl => ?_⟩
        · by_cases hq' : q' = []
          · rw [hp, hq']
          · simp [hq'] at hq
        · exact absurd (h.obok l _ hl).2.1 (Nat.lt_irrefl _)
      · simp [hp] at hb

theorem app_newU (h : Rel P A nt pend env heap bor tm w U bl ob) {e : TypeId} {z : Value} {n m c q : Nat} {g g' : Nat → AV} {zE : AV} {os cs : List Value} {d : Option Nat} (hd : ∀ t, d = some t → t < nt)
    (h0 : 0 < tySz P e) (hq : w.drawn ≤ q) (hzs : z.cells.size = tySz P e) (hc : n + m ≤ c) (ho : os.length = n * tySz P e) (hcs : cs.length = m * tySz P e)
    (h1 : ∀ (i j : Nat) x, i < n → (g i).cells[j]? = some x → ∃ y, os[i * tySz P e + j]? = some y ∧ Rep w (forb A bl heap) U [] x y)
    (h2 : ∀ (i j : Nat) x, i < m → (g' i).cells[j]? = some x → ∃ y, cs[i * tySz P e + j]? = some y ∧ Rep w (forb A bl heap) U [] x y)
    (s1 : ∀ i, i < n → (g i).cells.length = tySz P e) (s2 : ∀ i, i < m → (g' i).cells.length = tySz P e) (o1 : ∀ y ∈ os, y.oneCell' = true) (o2 : ∀ y ∈ cs, y.oneCell' = true) :
    ∃ U' ob', Rel P A nt pend (setO env d (.uni (.vec (tySz P e) (n + m) (vapp zE g n g' m)))) heap bor (putO tm d (.slice (some ⟨w.heap.size, 0, none⟩) (n + m) c))
      (rowW { w with drawn := q } (grownRow P e z os cs (c - (n + m))) e) U' bl ob' := by
  have hrow : (grownRow P e z os cs (c - (n + m))).size = c * tySz P e := by
    simp only [grownRow, Builtin.zeroCells, Array.size_append, List.size_toArray, Array.size_map, Array.size_range, ho, hcs, hzs]
    rw [← Nat.add_mul, ← Nat.add_mul]; congr 1; omega
  obtain ⟨t1, t2⟩ := two_rows (z := zE) (rest := Builtin.zeroCells z.cells (c - (n + m))) ho hcs h1 h2 s1 s2
  have hle : (n + m) * tySz P e ≤ c * tySz P e := Nat.mul_le_mul_right _ hc
  refine h.newU hd h0 hq hc (by rw [hrow]; exact Nat.le_refl _) t1 fun i j x hi hx => ?_
  obtain ⟨y, hy, hr⟩ := t2 i j x hi hx
  refine ⟨y, hy, ?_, hr⟩
  have hj : j < tySz P e := by rw [← t1 i hi]; exact (List.getElem?_eq_some_iff.1 hx).1
  have hlt : i * tySz P e + j < (n + m) * tySz P e := by have := index_mul (sz := tySz P e) hi; omega
  rw [Nat.add_mul] at hlt
  rw [Array.getElem?_append_left (by simp; omega)] at hy
  have hm : y ∈ os ++ cs := by
    have := Array.mem_of_getElem? hy
    simpa using this
  rcases List.mem_append.1 hm with h | h
  · exact o1 _ h
  · exact o2 _ h

theorem append_soundU (h : Rel P A nt pend env heap bor tm w U bl ob) {s : Nat} {t u ty e : TypeId} {n m : Nat} {g g' : Nat → AV} {x' : Value} {d : Option Nat} (hd : ∀ t, d = some t → t < nt)
    (hu : isSliceT P u = true) (ht : tyD P t = .slice e) (h0 : 0 < tySz P e) (hz : zeroFits P e = true) (hb : 0 < tyBy P e) (hr : roomOK (n + m) (tyBy P e) = true)
    (hbase : env.get s = .uni (.vec (tySz P e) n g)) (hsrc : SrcRep P w (forb A bl heap) U (tySz P e) m g' x') :
    ∃ y w' U' ob', (Builtin.append_ #[t, u] ty #[tm.getD s undef, x']).run P w = .ok y w' ∧ Rel P A nt pend (setO (env.bare s) d (.uni (.vec (tySz P e) (n + m) (vapp (zeroElem P e) g n g' m)))) heap bor (putO tm d y) w' U' bl ob' := by
  obtain ⟨henv, hown⟩ := h.env s
  rw [hbase] at hown
  obtain ⟨y0, hy0, ao, cap, hval, hncap, hok⟩ := hown [] _ rfl rfl
  simp only [vat, Option.some.injEq] at hy0
  subst hy0
  rw [hval]
  have hbare := h.bareAt s
  have hos : SrcRep P w (forb A bl heap) U (tySz P e) n g (.slice ao n cap) := by
    rcases hok with hcap | ⟨b, e1, e2, e3, e4, e5, hsz, c, el, fr, e7, e8, e9, e10, e11⟩
    · obtain rfl : n = 0 := by omega
      exact empty_src
    · subst e1
      have hle : n * tySz P e ≤ cap * tySz P e := Nat.mul_le_mul_right _ hncap
      exact block_src e7 hsz (by omega) e10 (fun i j x hi hx => by rw [Nat.zero_add]; exact e11 i j x hi hx)
  obtain ⟨cs, k1, k2, k3, ko, k4, k5⟩ := hsrc
  by_cases hmv : n + m ≤ cap
  · have hrun := append_stay (ty := ty) (base := ao) (n := n) ht hu h0 k1 (k2 w rfl) hmv
    rcases hok with hcap | ⟨b, e1, e2, e3, e4, e5, hsz, c, el, fr, e7, e8, e9, e10, e11⟩
    · obtain rfl : n = 0 := by omega
      obtain rfl : m = 0 := by omega
      have hcs : cs = [] := List.length_eq_zero_iff.1 (by rw [k3]; simp)
      subst hcs
      have hrun' : (Builtin.append_ #[t, u] ty #[.slice ao 0 cap, x']).run P w = .ok (.slice ao 0 cap) w := by
        rw [hrun]; cases ao <;> simp [storeCells]
      cases d with
      | none => exact ⟨_, _, _, _, hrun', hbare⟩
      | some d => exact ⟨_, _, _, _, hrun', hbare.putG (hd d rfl) (fun _ => none) .uni (uni_nil ⟨ao, cap, rfl, by omega, .inl hcap⟩) (fun p b hb => by simp at hb)⟩
    · subst e1
      have hsp : (n + m) * tySz P e = n * tySz P e + m * tySz P e := Nat.add_mul _ _ _
      have hle : (n + m) * tySz P e ≤ cap * tySz P e := Nat.mul_le_mul_right _ hmv
      obtain ⟨w', c', r1, r2, r3, r4⟩ := storeCells_run (P := P) b (n * tySz P e) cs 0 w c el fr e7 (by omega) ko (fun o h1 h2 => e9 o (by omega))
      have hrun' : (Builtin.append_ #[t, u] ty #[.slice (some ⟨b, 0, none⟩) n cap, x']).run P w = .ok (.slice (some ⟨b, 0, none⟩) (n + m) cap) w' := by
        rw [hrun]; simp only [addr_add, Nat.zero_add, r1, Result.andThen_ok]
      have hg := h.growIn (l := .env s []) e2 (lt_of_some e7) e3 e4 r2 (n' := 0) (by omega) (fun o ho => by omega) ⟨s, [], rfl⟩ s ⟨[], rfl⟩
      have grow : Grow0 w (forb A bl heap) U w' (forb A bl heap) (fun c => if c = b then 0 else U c) := by
        refine ⟨fun _ _ hf => .inl hf, fun c _ _ => ?_⟩
        by_cases ec : c = b
        · subst ec; simp only [if_true]; exact ⟨by omega, fun o ho => by omega⟩
        · simp only [if_neg ec]; exact ⟨Nat.le_refl _, fun o _ => cell_block (r2.other c ec) o⟩
      cases d with
      | none => exact ⟨_, _, _, _, hrun', hg⟩
      | some d =>
        refine ⟨_, _, _, _, hrun', hg.putG (hd d rfl) (fun p => if p = [] then some b else none) .uni (uni_nil ⟨_, cap, rfl, hmv, .inr ⟨b, rfl, rfl, e3, e4, by simp, hsz, c', el, fr, r2.here, by rw [r3]; exact e8, fun o ho => ?_, fun i hi => ?_, fun i j x hi hx => ?_⟩⟩) (fun p b' hb => ?_)⟩
        · have := e9 o (by rw [← r3]; exact ho)
          simp only [World.frozen?, r2.here]
          simp only [World.frozen?, e7] at this
          exact this
        · rw [vapp_get]; split
          · exact e10 i ‹_›
          · exact k4 _ (by omega)
        · rw [vapp_get] at hx
          split at hx
          · rename_i hlt
            obtain ⟨y, hy, hy1, hyr⟩ := e11 i j x hlt hx
            have hj : j < tySz P e := by rw [← e10 i hlt]; exact (List.getElem?_eq_some_iff.1 hx).1
            have hmul := index_mul (sz := tySz P e) hlt
            exact ⟨y, by rw [r4, if_neg (by omega)]; exact hy, hy1, hyr.mono grow (BlLe.refl _)⟩
          · rename_i hge
            obtain ⟨y, hy, hyr⟩ := k5 (i - n) j x (by omega) hx
            have hyl := (List.getElem?_eq_some_iff.1 hy).1
            have e1 : i * tySz P e = n * tySz P e + (i - n) * tySz P e := by rw [← Nat.add_mul]; congr 1; omega
            refine ⟨y, ?_, ko y (List.mem_of_getElem? hy), hyr.mono grow (BlLe.refl _)⟩
            rw [r4, if_pos (by omega), ← hy]; congr 1; omega
        · by_cases hp : p = []
          · simp only [hp, if_true, Option.some.injEq] at hb
            subst hb
            refine ⟨⟨(h.obok _ _ e2).1, by rw [r2.size]; exact lt_of_some e7, (h.obok _ _ e2).2.2⟩, fun q' hq => ?_, fun l hl => ?_⟩
            · by_cases hq' : q' = []
              · rw [hp, hq']
              · simp [hq'] at hq
            · exfalso
              cases l with
              | env t q =>
                simp only at hl
                by_cases et : t = s
                · simp [et] at hl
                · simp only [et, if_false] at hl
                  have := h.obinj _ _ _ hl e2
                  injection this with h1; exact et h1
              | cell id i q => exact absurd (h.obinj _ _ _ hl e2) (by simp)
              | mapv id i q => exact absurd (h.obinj _ _ _ hl e2) (by simp)
          · simp [hp] at hb
  · obtain ⟨i, z, hi, hiz, hzs⟩ := zeroFits_of hz
    obtain ⟨os, q1, q2, q3, qo, q4, q5⟩ := hos
    obtain ⟨c, q, hc, hq, hrun⟩ := append_move (ty := ty) ht hu hi hiz h0 hb hr k1 k2 q2 hmv
    obtain ⟨U', ob', hrel⟩ := app_newU (q := q) (d := d) (zE := zeroElem P e) hbare hd h0 hq hzs hc q3 k3 q5 k5 q4 k4 qo ko
    exact ⟨_, _, U', ob', hrun, hrel⟩
end
end Ax

/- append beside the state: all ways. -/
set_option linter.unusedVariables false
set_option linter.unusedSimpArgs false
namespace Ax
open Go Go.RowKit

section
variable {P : Program} {A : Amb} {nt : Nat} {pend : List (Nat × AObj)} {env : Env} {heap : Heap} {bor : Option (Nat × AV)} {tm : Array Value} {w : World} {U : Nat → Nat} {bl : Blocks} {ob : Loc → Option Nat}

theorem appendAV_of {t u : TypeId} {b x v : AV} (h : appendAV P t u heap b x = some v) : ∃ e n g m g' c, isSliceT P u = true ∧ tyD P t = .slice e ∧ (c = AV.own ∨ c = AV.uni) ∧ b = c (.vec (tySz P e) n g) ∧ srcOf P e heap x = some (m, g') ∧
    0 < tySz P e ∧ zeroFits P e = true ∧ 0 < tyBy P e ∧ roomOK (n + m) (tyBy P e) = true ∧ v = c (.vec (tySz P e) (n + m) (vapp (zeroElem P e) g n g' m)) := by
  unfold appendAV at h
  cases hu : isSliceT P u with
  | false => simp [hu] at h
  | true =>
    simp only [hu, Bool.not_true, cond_false] at h
    have key : ∀ (c : AV → AV) e sz n g m g', (c = AV.own ∨ c = AV.uni) → tyD P t = .slice e → b = c (.vec sz n g) → srcOf P e heap x = some (m, g') →
        (bif Nat.beq sz (tySz P e) && Nat.blt 0 sz && zeroFits P e && Nat.blt 0 (tyBy P e) then
        bif roomOK (n + m) (tyBy P e) then some (c (.vec sz (n + m) (vapp (zeroElem P e) g n g' m))) else none
      else none) = some v → ∃ e n g m g' c, true = true ∧ tyD P t = .slice e ∧ (c = AV.own ∨ c = AV.uni) ∧ b = c (.vec (tySz P e) n g) ∧ srcOf P e heap x = some (m, g') ∧
        0 < tySz P e ∧ zeroFits P e = true ∧ 0 < tyBy P e ∧ roomOK (n + m) (tyBy P e) = true ∧ v = c (.vec (tySz P e) (n + m) (vapp (zeroElem P e) g n g' m)) := by
      intro c e sz n g m g' hcc ht hb hs h
      cases hc : (Nat.beq sz (tySz P e) && Nat.blt 0 sz && zeroFits P e && Nat.blt 0 (tyBy P e)) with
      | false => simp [hc] at h
      | true =>
        simp only [hc, cond_true] at h
        simp only [Bool.and_eq_true, beq_eq, blt_eq, decide_eq_true_eq] at hc
        obtain ⟨⟨⟨c1, c2⟩, c3⟩, c4⟩ := hc
        cases hr : roomOK (n + m) (tyBy P e) with
        | false => simp [hr] at h
        | true =>
          simp [hr] at h
          subst c1
          exact ⟨e, n, g, m, g', c, rfl, ht, hcc, hb, hs, c2, c3, c4, hr, h.symm⟩
    split at h
    · rename_i e ht
      split at h
      · rename_i sz n g m g' hs
        exact key AV.own e sz n g m g' (.inl rfl) ht rfl hs h
      · rename_i sz n g m g' hs
        exact key AV.uni e sz n g m g' (.inr rfl) ht rfl hs h
      · simp at h
    · simp at h

/-- The base is nil in the text, or its slot stands bare beside. -/
theorem append_gen (h : Rel P A nt pend env heap bor tm w U bl ob) {e t u ty : TypeId} {n m cap : Nat} {g g' : Nat → AV} {ao : Option Addr} {x' : Value} {d : Option Nat} (hd : ∀ t, d = some t → t < nt)
    (hu : isSliceT P u = true) (ht : tyD P t = .slice e) (h0 : 0 < tySz P e) (hz : zeroFits P e = true) (hb : 0 < tyBy P e) (hr : roomOK (n + m) (tyBy P e) = true)
    (hbase : Rep w (forb A bl heap) U bl (.vec (tySz P e) n g) (.slice ao n cap)) (hsrc : SrcRep P w (forb A bl heap) U (tySz P e) m g' x') (hmv : ¬ n + m ≤ cap) :
    ∃ y w' U' ob', (Builtin.append_ #[t, u] ty #[.slice ao n cap, x']).run P w = .ok y w' ∧ Rel P A nt pend (setO env d (.own (.vec (tySz P e) (n + m) (vapp (zeroElem P e) g n g' m)))) heap bor (putO tm d y) w' U' bl ob' := by
  obtain ⟨i, z, hi, hiz, hzs⟩ := zeroFits_of hz
  obtain ⟨cs, k1, k2, k3, ko, k4, k5⟩ := hsrc
  obtain ⟨os, q1, q2, q3, qo, q4, q5⟩ := vec_src (P := P) hbase h0
  obtain ⟨c, q, hc, hq, hrun⟩ := append_move (ty := ty) ht hu hi hiz h0 hb hr k1 k2 q2 hmv
  obtain ⟨U', ob', hrel⟩ := app_new (q := q) (d := d) (zE := zeroElem P e) h hd h0 (by omega) hq hzs hc q3 k3 q5 k5 q4 k4 qo ko
  exact ⟨_, _, U', ob', hrun, hrel⟩

theorem append_sound (h : Rel P A nt pend env heap bor tm w U bl ob) {s : Nat} {t u ty : TypeId} {x v : AV} {x' : Value} {d : Option Nat} (hd : ∀ t, d = some t → t < nt)
    (ha : appendAV P t u heap (env.get s) x = some v) (hx : Rep w (forb A bl heap) U bl x x') :
    ∃ y w' U' ob', (Builtin.append_ #[t, u] ty #[tm.getD s undef, x']).run P w = .ok y w' ∧ Rel P A nt pend (setO (env.bare s) d v) heap bor (putO tm d y) w' U' bl ob' := by
  obtain ⟨e, n, g, m, g', c, hu, ht, hcc, hbv, hs, h0, hz, hb, hr, rfl⟩ := appendAV_of ha
  have hsrc := srcOf_sound hs hx h.objsOK h0
  rcases hcc with rfl | rfl
  case inr => exact append_soundU h hd hu ht h0 hz hb hr hbv hsrc
  obtain ⟨henv, hown⟩ := h.env s
  rw [hbv] at henv hown
  obtain ⟨y0, hy0, hok⟩ := hown [] _ rfl rfl
  simp only [vat, Option.some.injEq] at hy0
  subst hy0
  cases henv with
  | own hvec =>
    obtain ⟨ao, cap, hncap, hval⟩ : ∃ ao cap, n ≤ cap ∧ tm.getD s undef = .slice ao n cap := by
      generalize tm.getD s undef = q at hvec
      cases hvec with | vec hcap => exact ⟨_, _, hcap, rfl⟩
    rw [hval] at hvec hok ⊢
    have hbare := h.bareAt s
    by_cases hmv : n + m ≤ cap
    · -- the room serves
      obtain ⟨cs, k1, k2, k3, ko, k4, k5⟩ := hsrc
      have hrun := append_stay (ty := ty) (base := ao) (n := n) ht hu h0 k1 (k2 w rfl) hmv
      rcases hok with hcap | ⟨a, hn0, e1, e2, e3, e4, e5, e6, hsz, c, el, fr, e7, e8, e9⟩
      · -- nothing is appended
        have hm : m = 0 := by omega
        subst hm
        have hcs : cs = [] := List.length_eq_zero_iff.1 (by rw [k3]; simp)
        subst hcs
        have hrun' : (Builtin.append_ #[t, u] ty #[.slice ao n cap, x']).run P w = .ok (.slice ao n cap) w := by
          rw [hrun]; cases ao <;> simp [storeCells]
        have hrep : Rep w (forb A bl heap) U bl (.vec (tySz P e) (n + 0) (vapp (zeroElem P e) g n g' 0)) (.slice ao n cap) := by
          cases hvec with
          | vec hc vals z1 z2 zo z3 =>
            refine .vec hc vals z1 (fun i hi => ?_) (fun i j hi hj => zo i j (by omega) hj) (fun i j c hi hc => ?_)
            · rw [vapp_get, if_pos (by omega)]; exact z2 i (by omega)
            · rw [vapp_get, if_pos (by omega)] at hc; exact z3 i j c (by omega) hc
        cases d with
        | none => exact ⟨_, _, _, _, hrun', hbare⟩
        | some d => exact ⟨_, _, _, _, hrun', hbare.putG (hd d rfl) (fun _ => none) (.own hrep) (own_nil (.inl hcap)) (fun p b hb => by simp at hb)⟩
      · -- into the room
        subst e1
        obtain ⟨ab, aoff, as⟩ := a
        simp only at e2 e3 e4 e5 e6 e7 e8 e9
        subst e4
        have hsp : (n + m) * tySz P e = n * tySz P e + m * tySz P e := Nat.add_mul _ _ _
        have hle : (n + m) * tySz P e ≤ cap * tySz P e := Nat.mul_le_mul_right _ hmv
        obtain ⟨w', c', r1, r2, r3, r4⟩ := storeCells_run (P := P) ab (aoff + n * tySz P e) cs 0 w c el fr e7 (by omega) ko (fun o h1 h2 => e9 o (by omega) (by omega))
        have hrun' : (Builtin.append_ #[t, u] ty #[.slice (some ⟨ab, aoff, none⟩) n cap, x']).run P w = .ok (.slice (some ⟨ab, aoff, none⟩) (n + m) cap) w' := by
          rw [hrun]; simp only [addr_add, r1, Result.andThen_ok]
        have hold : ∀ o, o < U ab → w'.cell? ⟨ab, o, none⟩ = w.cell? ⟨ab, o, none⟩ := by
          intro o ho; rw [cell_row r2.here, cell_row e7, r4, if_neg (by omega)]
        have hg := h.growIn (l := .env s []) e2 (lt_of_some e7) e3 e5 r2 (n' := aoff + (n + m) * tySz P e) (by omega) hold ⟨s, [], rfl⟩ s ⟨[], rfl⟩
        have grow : Grow0 w (forb A bl heap) U w' (forb A bl heap) (fun c => if c = ab then aoff + (n + m) * tySz P e else U c) := by
          refine ⟨fun _ _ hf => .inl hf, fun c _ _ => ?_⟩
          by_cases ec : c = ab
          · subst ec; simp only [if_true]; exact ⟨by omega, hold⟩
          · simp only [if_neg ec]; exact ⟨Nat.le_refl _, fun o _ => cell_block (r2.other c ec) o⟩
        have hrep : Rep w' (forb A bl heap) (fun c => if c = ab then aoff + (n + m) * tySz P e else U c) bl (.vec (tySz P e) (n + m) (vapp (zeroElem P e) g n g' m)) (.slice (some ⟨ab, aoff, none⟩) (n + m) cap) := by
          cases hvec with
          | vec hc vals z1 z2 zo z3 =>
            refine .vec hmv (fun i j => c'.getD (aoff + i * tySz P e + j) undef) (fun _ => ⟨h0, ⟨ab, aoff, none⟩, rfl, rfl, e5, by simp, fun i j hi hj => ?_⟩) (fun i hi => ?_) (fun i j hi hj => ?_) (fun i j x hi hx => ?_)
            · simp only
              rw [cell_row r2.here]
              have : aoff + i * tySz P e + j < c'.size := by rw [r3]; have := index_mul (sz := tySz P e) hi; omega
              simp [Array.getD, this]
            · rw [vapp_get]; split
              · exact z2 i ‹_›
              · exact k4 _ (by omega)
            · have hmul := index_mul (sz := tySz P e) hi
              have hcl : aoff + i * tySz P e + j < c'.size := by rw [r3]; omega
              rw [Array.getD, dif_pos hcl]
              show (c'[aoff + i * tySz P e + j]).oneCell' = true
              have hcv : c'[aoff + i * tySz P e + j]? = some (c'[aoff + i * tySz P e + j]) := by simp [hcl]
              rw [r4] at hcv
              split at hcv
              · rename_i hin; exact ko _ (List.mem_of_getElem? hcv)
              · rename_i hout
                have hlt : i < n := by
                  rcases Nat.lt_or_ge i n with h | h
                  · exact h
                  · exfalso; have : n * tySz P e ≤ i * tySz P e := Nat.mul_le_mul_right _ h; omega
                obtain ⟨_, a', f1, f2, f3, f4, f5⟩ := z1 (by omega)
                obtain rfl : (⟨ab, aoff, none⟩ : Addr) = a' := by simpa using f1
                have hv2 := f5 i j hlt hj
                simp only at hv2
                rw [cell_row e7, hcv] at hv2
                rw [Option.some.inj hv2]; exact zo i j hlt hj
            · rw [vapp_get] at hx
              split at hx
              · rename_i hlt
                obtain ⟨_, a', f1, f2, f3, f4, f5⟩ := z1 (by omega)
                obtain rfl : (⟨ab, aoff, none⟩ : Addr) = a' := by simpa using f1
                have hj : j < tySz P e := by rw [← z2 i hlt]; exact (List.getElem?_eq_some_iff.1 hx).1
                have hcv := f5 i j hlt hj
                simp only at hcv
                rw [cell_row e7] at hcv
                have hmul := index_mul (sz := tySz P e) hlt
                have : c'[aoff + i * tySz P e + j]? = some (vals i j) := by rw [r4, if_neg (by omega)]; exact hcv
                have hl := (Array.getElem?_eq_some_iff.1 this).1
                have hv := (Array.getElem?_eq_some_iff.1 this).2
                have e : c'.getD (aoff + i * tySz P e + j) undef = vals i j := by rw [Array.getD, dif_pos hl]; exact hv
                rw [e]
                exact (z3 i j x hlt hx).mono grow (BlLe.refl _)
              · rename_i hge
                obtain ⟨y, hy, hrr⟩ := k5 (i - n) j x (by omega) hx
                have hyl := (List.getElem?_eq_some_iff.1 hy).1
                have e1 : i * tySz P e = n * tySz P e + (i - n) * tySz P e := by rw [← Nat.add_mul]; congr 1; omega
                have : c'[aoff + i * tySz P e + j]? = some y := by
                  rw [r4, if_pos (by omega), ← hy]; congr 1; omega
                have hl := (Array.getElem?_eq_some_iff.1 this).1
                have hv := (Array.getElem?_eq_some_iff.1 this).2
                have e : c'.getD (aoff + i * tySz P e + j) undef = y := by rw [Array.getD, dif_pos hl]; exact hv
                rw [e]
                exact hrr.mono grow (BlLe.refl _)
        cases d with
        | none => exact ⟨_, _, _, _, hrun', hg⟩
        | some d =>
          refine ⟨_, _, _, _, hrun', hg.putG (hd d rfl) (fun p => if p = [] then some ab else none) (.own hrep) (own_nil (.inr ⟨⟨ab, aoff, none⟩, by rcases hn0 with h | h; exact .inl (by omega); exact .inr h, rfl, rfl, e3, rfl, e5, by simp, hsz, c', el, fr, r2.here, by rw [r3]; exact e8, fun o h1 h2 => ?_⟩)) (fun p b hb => ?_)⟩
          · have := e9 o (by simp only at h1; omega) (by rw [← r3]; exact h2)
            simp only [World.frozen?, r2.here] 
            simp only [World.frozen?, e7] at this
            exact this
          · by_cases hp : p = []
            · simp only [hp, if_true, Option.some.injEq] at hb
              subst hb
              refine ⟨⟨(h.obok _ _ e2).1, by rw [r2.size]; exact lt_of_some e7, (h.obok _ _ e2).2.2⟩, fun q' hq => ?_, fun l hl => ?_⟩
              · by_cases hq' : q' = []
                · rw [hp, hq']
                · simp [hq'] at hq
              · exfalso
                cases l with
                | env t q =>
                  simp only at hl
                  by_cases et : t = s
                  · simp [et] at hl
                  · simp only [et, if_false] at hl
                    have := h.obinj _ _ _ hl e2
                    injection this with h1; exact et h1
                | cell id i q => exact absurd (h.obinj _ _ _ hl e2) (by simp)
                | mapv id i q => exact absurd (h.obinj _ _ _ hl e2) (by simp)
            · simp [hp] at hb
    · obtain ⟨y, w', U', ob', r1, r2⟩ := append_gen (ty := ty) hbare hd hu ht h0 hz hb hr hvec hsrc hmv
      exact ⟨y, w', U', ob', r1, r2⟩
end
end Ax
