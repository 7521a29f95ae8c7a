import Derived.Test.YtflebdkgdnfjoaaMB
import Derived.Laws.BytesString
import Derived.Laws.Cells
/- The plain operations, continued: structs built, slices built; all together. -/
set_option linter.unusedVariables false
set_option linter.unusedSimpArgs false
namespace Ax
open Go Go.RowKit

section
variable {P : Program} {w : World} {F : Nat → Prop} {U : Nat → Nat} {bl : Blocks} {B : Nat}

theorem setRange_get : ∀ (r cs : List AV) (off i : Nat), (setRange cs off r)[i]? = if off ≤ i ∧ i < off + r.length ∧ i < cs.length then r[i - off]? else cs[i]?
  | [], cs, off, i => by simp [setRange]; intro h1 h2 _; omega
  | v :: r, cs, off, i => by
    simp only [setRange]
    rw [setRange_get r (cs.set off v) (off + 1) i, List.length_set, List.getElem?_set, List.length_cons]
    by_cases h1 : off = i
    · subst h1
      rw [if_neg (by omega)]
      by_cases h2 : off < cs.length
      · simp [h2]
      · simp [h2]
    · by_cases h2 : off + 1 ≤ i ∧ i < off + 1 + r.length ∧ i < cs.length
      · rw [if_pos h2, if_pos (by omega)]
        have : i - off = (i - (off + 1)) + 1 := by omega
        rw [this]; simp
      · rw [if_neg h2, if_neg h1, if_neg (by omega)]
theorem setRange_length : ∀ (r cs : List AV) (off : Nat), (setRange cs off r).length = cs.length
  | [], cs, off => rfl
  | v :: r, cs, off => by simp only [setRange]; rw [setRange_length r]; simp

theorem zipIdx_fold (off : Nat) : ∀ (l : List Value) (k : Nat) (cs : Array Value) (i : Nat),
    ((l.zipIdx k).foldl (fun cs (x : Value × Nat) => cs.setIfInBounds (off + x.2) x.1) cs)[i]? = if off + k ≤ i ∧ i < off + k + l.length ∧ i < cs.size then l[i - (off + k)]? else cs[i]?
  | [], k, cs, i => by simp; intro h1 h2 _; omega
  | v :: l, k, cs, i => by
    simp only [List.zipIdx_cons, List.foldl_cons]
    rw [zipIdx_fold off l (k + 1), Array.size_setIfInBounds, Array.getElem?_setIfInBounds, List.length_cons]
    by_cases h1 : off + k = i
    · subst h1
      rw [if_neg (by omega)]
      by_cases h2 : off + k < cs.size
      · simp [h2]
      · simp [h2, Array.getElem?_eq_none (Nat.le_of_not_lt h2)]
    · by_cases h2 : off + (k + 1) ≤ i ∧ i < off + (k + 1) + l.length ∧ i < cs.size
      · rw [if_pos h2, if_pos (by omega)]
        have : i - (off + k) = (i - (off + (k + 1))) + 1 := by omega
        rw [this]; simp
      · rw [if_neg h2, if_neg h1, if_neg (by omega)]


theorem scal_rep {v : AV} {x : Value} (h : Rep w F U bl v x) (hs : v.scal = true) : x.cells = #[x] ∧ x.oneCell' = true := by
  cases h with
  | own h =>
    rename_i u
    cases u <;> simp [AV.scal] at hs
    cases h with
    | vec => exact ⟨rfl, rfl⟩
  | _ => first | (simp [AV.scal] at hs; done) | exact ⟨rfl, rfl⟩

/-- The cells of a value, beside the model's. -/
theorem rep_cells {v : AV} {x : Value} (h : Rep w F U bl v x) (hs : v.cells.all AV.scal = true) : RepL w F U bl v.cells x.cells.toList ∧ (∀ y ∈ x.cells.toList, y.oneCell' = true) ∧ (∀ cs, v = .agg cs ↔ v = .agg cs ∧ ∃ l, x = .agg l) := by
  have gen : ∀ {l : List AV} {m : List Value}, RepL w F U bl l m → l.all AV.scal = true → ∀ y ∈ m, y.oneCell' = true := by
    intro l m hl ha y hy
    obtain ⟨i, hi⟩ := List.mem_iff_getElem?.1 hy
    have hlt : i < l.length := by rw [hl.1]; exact (List.getElem?_eq_some_iff.1 hi).1
    exact (scal_rep (hl.2 i l[i] y (List.getElem?_eq_getElem hlt) hi) (List.all_eq_true.1 ha _ (List.getElem_mem hlt))).2
  unfold AV.cells at hs ⊢
  split at hs
  · rename_i cs
    cases h with
    | @agg _ _ vs hn hh =>
      have hr : RepL w F U bl cs (Value.agg vs).cells.toList := ⟨by simpa [Value.cells] using hn, fun i a b ha hb => hh i a b ha (by simpa [Value.cells] using hb)⟩
      exact ⟨hr, gen hr hs, fun cs' => ⟨fun e => ⟨e, vs, rfl⟩, fun e => e.1⟩⟩
  · rename_i hn
    have h1 : v.scal = true := by simpa using hs
    have hx := scal_rep h h1
    rw [hx.1]
    exact ⟨RepL.cons h RepL.nil, by simp [hx.2], fun cs => ⟨fun e => absurd e (hn cs), fun e => e.1⟩⟩

theorem fill_cells (off : Nat) (v : Value) (cells : Array Value) : (v.cells.zipIdx.foldl (fun cs (x : Value × Nat) => cs.setIfInBounds (off + x.2) x.1) cells) =
    ((v.cells.toList.zipIdx 0).foldl (fun cs (x : Value × Nat) => cs.setIfInBounds (off + x.2) x.1) cells) := by
  rw [← Array.foldl_toList]; simp

/-- Cells written over cells. -/
theorem RepL.over {cs l : List AV} {vs : Array Value} {m : List Value} (h : RepL w F U bl cs vs.toList) (k : RepL w F U bl l m) (off : Nat) :
    RepL w F U bl (setRange cs off l) ((m.zipIdx 0).foldl (fun cs (x : Value × Nat) => cs.setIfInBounds (off + x.2) x.1) vs).toList := by
  have hsz : ∀ (l : List (Value × Nat)) (c : Array Value), (l.foldl (fun cs (x : Value × Nat) => cs.setIfInBounds (off + x.2) x.1) c).size = c.size := by
    intro l; induction l with
    | nil => intro c; rfl
    | cons p l ih => intro c; simp only [List.foldl_cons]; rw [ih]; simp
  have hl1 : (setRange cs off l).length = cs.length := setRange_length _ _ _
  have hl2 := hsz (m.zipIdx 0) vs
  refine ⟨by rw [hl1, h.1]; simp only [Array.length_toList]; exact hl2.symm, fun i x y hx hy => ?_⟩
  rw [setRange_get] at hx
  rw [Array.getElem?_toList, zipIdx_fold] at hy
  have hlen : cs.length = vs.size := by simpa using h.1
  by_cases hc : off ≤ i ∧ i < off + l.length ∧ i < cs.length
  · rw [if_pos hc] at hx
    rw [if_pos (by rw [← k.1]; omega)] at hy
    exact k.2 _ x y hx hy
  · rw [if_neg hc] at hx
    rw [if_neg (by rw [← k.1]; omega)] at hy
    exact h.2 i x y hx (by simpa using hy)

theorem fill_sound {place : Nat → Option (Nat × TypeId)} {place' : Nat → Option (Nat × Nat)} (hp : ∀ i off t, place i = some (off, t) → place' i = some (off, tySz P t)) :
    ∀ (ps : List (Nat × AV)) (qs : List (Nat × Value)) (cs r : List AV) (vs : Array Value), fillParts P place cs ps = some r → RepL w F U bl cs vs.toList →
      ps.length = qs.length → (∀ (i : Nat) p q, ps[i]? = some p → qs[i]? = some q → p.1 = q.1 ∧ Rep w F U bl p.2 q.2) →
      ∃ us, Instr.fill place' vs qs = some us ∧ RepL w F U bl r us.toList
  | [], [], cs, r, vs, h, hr, _, _ => by simp [fillParts] at h; subst h; exact ⟨vs, rfl, hr⟩
  | [], _ :: _, cs, r, vs, h, hr, hl, _ => by simp at hl
  | _ :: _, [], cs, r, vs, h, hr, hl, _ => by simp at hl
  | (i, v) :: ps, (i', v') :: qs, cs, r, vs, h, hr, hl, hq => by
    obtain ⟨rfl, hv⟩ : i = i' ∧ Rep w F U bl v v' := hq 0 _ _ rfl rfl
    simp only [fillParts] at h
    split at h
    · rename_i off t hpl
      rw [beq_eq, ble_eq] at h
      by_cases hc : v.cells.length = tySz P t ∧ off + v.cells.length ≤ cs.length ∧ v.cells.all AV.scal = true
      · obtain ⟨c1, c2, c3⟩ := hc
        have c2' : off + tySz P t ≤ cs.length := by omega
        simp only [c1, c2', c3, decide_true, Bool.and_self, cond_true] at h
        obtain ⟨k1, k2, _⟩ := rep_cells hv c3
        obtain ⟨us, hus, hru⟩ := fill_sound hp ps qs _ r _ h (hr.over k1 off) (by simpa using hl) (fun j p q hj hk => hq (j + 1) p q (by simpa using hj) (by simpa using hk))
        refine ⟨us, ?_, hru⟩
        have e1 : v'.cells.size = tySz P t := by rw [← c1, k1.1]; simp
        have e2 : cs.length = vs.size := by simpa using hr.1
        simp only [Instr.fill, hp i off t hpl]
        rw [if_neg (by simp only [e1, ne_eq, not_true_eq_false, decide_false, Bool.false_or, decide_eq_true_eq]; omega)]
        rw [← hus]
        congr 1
        exact fill_cells off v' vs
      · have : (decide (v.cells.length = tySz P t) && decide (off + v.cells.length ≤ cs.length) && v.cells.all AV.scal) = false := by
          rw [Bool.eq_false_iff]; intro he; simp only [Bool.and_eq_true, decide_eq_true_eq] at he; exact hc ⟨he.1.1, he.1.2, he.2⟩
        simp [this] at h
    · simp at h

theorem mapM_fields (w : World) : ∀ (fs : List Field), (fs.all fun f => (P.info? f.type).isSome) = true →
    (fs.mapM (m := Sem) fun f => do pure (f.offset, ← Go.sizeOf f.type)).run P w = .ok (fs.map fun f => (f.offset, tySz P f.type)) w
  | [], _ => rfl
  | f :: fs, h => by
    simp only [List.all_cons, Bool.and_eq_true] at h
    obtain ⟨i, hi⟩ := Option.isSome_iff_exists.1 h.1
    have hs : (Go.sizeOf f.type).run P w = .ok (tySz P f.type) w := by simp [Go.sizeOf, typeInfo, hi, tySz]
    rw [List.mapM_cons]
    simp only [Sem.run_bind, hs, Result.andThen_ok, Sem.run_pure, mapM_fields w fs h.2, List.map_cons]

theorem zeroAV_run {t : TypeId} {i : TypeInfo} {z : Value} (hi : P.info? t = some i) (hz : i.zero = some z) : (zeroValue t).run P w = .ok z w ∧ Rep w F U bl (zeroAV P t) z ∧ ∀ own, OwnAt w F U B own (zeroAV P t) z := by
  have h := ofConst_rep (w := w) (F := F) (U := U) (bl := bl) (B := B) (P := P) t z
  refine ⟨by simp [zeroValue, typeInfo, hi, hz], ?_⟩
  unfold zeroAV; rw [hi]; simp only [hz]; exact h

theorem build_sound {t : TypeId} {ps : List (Nat × AV)} {qs : Array (Nat × Value)} {r : List AV} (hb : buildOk P t = true) (h : fillParts P (placeOf P t) (zeroAV P t).strip.cells ps = some r)
    (hl : ps.length = qs.toList.length) (hq : ∀ (i : Nat) p q, ps[i]? = some p → qs.toList[i]? = some q → p.1 = q.1 ∧ Rep w F U bl p.2 q.2) (hz : (zeroAV P t).strip.cells.all AV.scal = true) :
    ∃ x, (Instr.build t qs).run P w = .ok x w ∧ Rep w F U bl (.agg r) x := by
  have hzr : ∃ i z, P.info? t = some i ∧ i.zero = some z := by
    unfold zeroAV at hz
    split at hz
    · rename_i i hi
      split at hz
      · rename_i z hz'; exact ⟨i, z, hi, hz'⟩
      · simp [AV.strip, AV.cells, AV.scal] at hz
    · simp [AV.strip, AV.cells, AV.scal] at hz
  obtain ⟨i, z, hi, hiz⟩ := hzr
  obtain ⟨z1, z2, _⟩ := zeroAV_run (w := w) (F := F) (U := U) (bl := bl) (B := 0) hi hiz
  obtain ⟨k1, k2, _⟩ := rep_cells z2.strip hz
  unfold buildOk at hb
  split at hb
  · rename_i fs ht
    have hp : ∀ i off u, placeOf P t i = some (off, u) → ((fs.map fun f => (f.offset, tySz P f.type))[i]? : Option (Nat × Nat)) = some (off, tySz P u) := by
      intro i off u hh
      unfold placeOf at hh
      rw [ht] at hh
      simp only at hh
      obtain ⟨f, hf, he⟩ := Option.map_eq_some_iff.1 hh
      simp at he
      simp [hf, he.1, he.2]
    obtain ⟨us, hus, hru⟩ := fill_sound hp ps qs.toList _ r z.cells h k1 hl hq
    refine ⟨.agg us, ?_, .agg (by simpa using hru.1) fun i a b ha hb => hru.2 i a b ha (by simpa using hb)⟩
    unfold Instr.build
    simp only [Sem.run_bind, z1, Result.andThen_ok, run_und ht (by simp)]
    have hm : ((fs.mapM fun f => do pure (f.offset, ← Go.sizeOf f.type) : Sem (Array (Nat × Nat)))).run P w = .ok (fs.map fun f => (f.offset, tySz P f.type)) w := by
      rw [Array.mapM_eq_mapM_toList, Sem.run_map, mapM_fields w fs.toList hb]
      simp only [Result.andThen_ok]
      congr 1
      apply Array.ext'; simp
    simp only [hm, Result.andThen_ok, hus, Sem.run_pure]
  · rename_i n e ht
    obtain ⟨ei, hei⟩ := Option.isSome_iff_exists.1 hb
    have hp : ∀ i off u, placeOf P t i = some (off, u) → (fun i => (some (i * tySz P e, tySz P e) : Option (Nat × Nat))) i = some (off, tySz P u) := by
      intro i off u hh
      unfold placeOf at hh
      rw [ht] at hh
      simp only [Option.some.injEq, Prod.mk.injEq] at hh
      obtain ⟨rfl, rfl⟩ := hh
      rfl
    obtain ⟨us, hus, hru⟩ := fill_sound hp ps qs.toList _ r z.cells h k1 hl hq
    refine ⟨.agg us, ?_, .agg (by simpa using hru.1) fun i a b ha hb => hru.2 i a b ha (by simpa using hb)⟩
    have hs : (Go.sizeOf e).run P w = .ok (tySz P e) w := by simp [Go.sizeOf, typeInfo, hei, tySz]
    unfold Instr.build
    simp only [Sem.run_bind, z1, Result.andThen_ok, run_und ht (by simp), hs, hus, Sem.run_pure]
  · simp at hb
end
end Ax

/- Slices made of their elements; all plain operations together. -/
set_option linter.unusedVariables false
set_option linter.unusedSimpArgs false
namespace Ax
open Go Go.RowKit

def number : Nat → List Value → List (Nat × Value)
  | _, [] => []
  | k, v :: r => (k, v) :: number (k + 1) r

theorem fill_rows (sz : Nat) : ∀ (vs : List Value) (k : Nat) (cells : Array Value), (∀ v ∈ vs, v.cells.size = sz) → (k + vs.length) * sz ≤ cells.size →
    ∃ us, Instr.fill (fun i => some (i * sz, sz)) cells (number k vs) = some us ∧ us.size = cells.size ∧
      (∀ (m : Nat) v, vs[m]? = some v → ∀ j, j < sz → us[(k + m) * sz + j]? = v.cells[j]?) ∧ (∀ i, i < k * sz → us[i]? = cells[i]?)
  | [], k, cells, _, _ => ⟨cells, rfl, rfl, fun m v h => by simp at h, fun i _ => rfl⟩
  | v :: vs, k, cells, hs, hl => by
    have hsv : v.cells.size = sz := hs v (by simp)
    have hb : k * sz + sz + vs.length * sz ≤ cells.size := by
      simp only [List.length_cons] at hl
      have : (k + (vs.length + 1)) * sz = k * sz + sz + vs.length * sz := by rw [Nat.add_mul, Nat.add_mul, Nat.one_mul]; omega
      omega
    have hsz : ∀ (l : List (Value × Nat)) (c : Array Value), (l.foldl (fun cs (x : Value × Nat) => cs.setIfInBounds (k * sz + x.2) x.1) c).size = c.size := by
      intro l; induction l with
      | nil => intro c; rfl
      | cons p l ih => intro c; simp only [List.foldl_cons]; rw [ih]; simp
    have hnext : (k + 1 + vs.length) * sz ≤ ((v.cells.toList.zipIdx 0).foldl (fun cs (x : Value × Nat) => cs.setIfInBounds (k * sz + x.2) x.1) cells).size := by
      rw [hsz]; rw [Nat.add_mul, Nat.add_mul, Nat.one_mul]; omega
    obtain ⟨us, h1, h2, h3, h4⟩ := fill_rows sz vs (k + 1) _ (fun u hu => hs u (by simp [hu])) hnext
    refine ⟨us, ?_, by rw [h2, hsz], fun m u hm j hj => ?_, fun i hi => ?_⟩
    · simp only [number, Instr.fill]
      rw [if_neg (by simp only [hsv, ne_eq, not_true_eq_false, decide_false, Bool.false_or, decide_eq_true_eq]; omega)]
      rw [← h1]
      congr 1
      exact fill_cells (k * sz) v cells
    · cases m with
      | zero =>
        simp at hm; subst hm
        rw [Nat.add_zero, h4 _ (by rw [Nat.add_mul, Nat.one_mul]; omega), zipIdx_fold, Array.length_toList, hsv]
        rw [if_pos (by omega)]
        simp
      | succ m =>
        have := h3 m u (by simpa using hm) j hj
        rw [← this, show k + (m + 1) = k + 1 + m from by omega]
    · rw [h4 i (by rw [Nat.add_mul, Nat.one_mul]; omega), zipIdx_fold, if_neg (by omega)]

section
variable {P : Program} {w : World} {F : Nat → Prop} {U : Nat → Nat} {bl : Blocks} {B : Nat}

/-- A new row. -/
def rowW (w : World) (c : Array Value) (e : TypeId) : World := { w with heap := w.heap.push (.cells c e) }
def rowU (w : World) (U : Nat → Nat) (n : Nat) (b : Nat) : Nat := if b = w.heap.size then n else U b
theorem rowW_ext (c : Array Value) (e : TypeId) (n : Nat) : Ext w U (rowW w c e) (rowU w U n) :=
  ⟨rfl, rfl, rfl, by simp [rowW], fun b hb => ⟨by show (w.heap.push _)[b]? = _; rw [Array.getElem?_push, if_neg (by omega)], by unfold rowU; rw [if_neg (by omega)]⟩, Nat.le_refl _⟩
theorem rowW_block (c : Array Value) (e : TypeId) : (rowW w c e).heap[w.heap.size]? = some (.cells c e) := by show (w.heap.push _)[w.heap.size]? = _; rw [Array.getElem?_push, if_pos rfl]
theorem rowW_cell (c : Array Value) (e : TypeId) (o : Nat) : (rowW w c e).cell? ⟨w.heap.size, o, none⟩ = c[o]? := cell_row (rowW_block c e) o

theorem allShape_get {e : TypeId} : ∀ {l : List AV}, allShape P e l = true → ∀ (i : Nat) v, l[i]? = some v → sameShape P e v = true
  | [], _, i, v, h => by simp at h
  | u :: r, ha, i, v, h => by
    simp only [allShape, Bool.and_eq_true] at ha
    cases i with
    | zero => simp at h; subst h; exact ha.1
    | succ i => exact allShape_get ha.2 i v (by simpa using h)
theorem sameShape_of {e : TypeId} {v : AV} (h : sameShape P e v = true) : v.cells.length = tySz P e ∧ v.cells.all AV.scal = true := by
  unfold sameShape at h
  simp only [Bool.and_eq_true, beq_eq, decide_eq_true_eq] at h
  exact h.1
theorem partVals_get : ∀ (ps : List (Nat × AV)) (i : Nat), (partVals ps)[i]? = (ps[i]?).map (·.2)
  | [], i => by simp [partVals]
  | (_, v) :: r, i => by cases i <;> simp [partVals, partVals_get r]
theorem partVals_length : ∀ (ps : List (Nat × AV)), (partVals ps).length = ps.length
  | [] => rfl
  | (_, v) :: r => by simp [partVals, partVals_length r]

theorem inOrder_number : ∀ (ps : List (Nat × AV)) (qs : List (Nat × Value)) (k : Nat), inOrder k ps = true → ps.length = qs.length →
    (∀ (i : Nat) p q, ps[i]? = some p → qs[i]? = some q → p.1 = q.1 ∧ Rep w F U bl p.2 q.2) → qs = number k (qs.map (·.2))
  | [], [], k, _, _, _ => rfl
  | [], _ :: _, k, _, h, _ => by simp at h
  | _ :: _, [], k, _, h, _ => by simp at h
  | (i, v) :: ps, (j, x) :: qs, k, ho, hl, hq => by
    simp only [inOrder, Bool.and_eq_true, beq_eq, decide_eq_true_eq] at ho
    obtain ⟨e1, _⟩ : i = j ∧ Rep w F U bl v x := hq 0 _ _ rfl rfl
    simp only [List.map_cons, number]
    congr 1
    · simp only [Prod.mk.injEq, and_true]; omega
    · exact inOrder_number ps qs (k + 1) ho.2 (by simpa using hl) (fun m p q hp hq' => hq (m + 1) p q (by simpa using hp) (by simpa using hq'))

/-- What an operation gives: a value, memory that only grew. -/
def Gives (P : Program) (w : World) (F : Nat → Prop) (U : Nat → Nat) (bl : Blocks) (B : Nat) (s : Sem Value) (v : AV) : Prop :=
  ∃ x w' U', s.run P w = .ok x w' ∧ Ext w U w' U' ∧ Rep w' F U' bl v x ∧ ∀ own, OwnAt w' F U' B own v x
theorem Gives.plain {s : Sem Value} {v : AV} {x : Value} (h : s.run P w = .ok x w) (hv : Rep w F U bl v x) (hb : Bare v) : Gives P w F U bl B s v :=
  ⟨x, w, U, h, Ext.refl w U, hv, fun _ => .bare hb⟩

theorem buildSlice_sound {t : TypeId} {len : Nat} {ps : List (Nat × AV)} {qs : Array (Nat × Value)} {v : AV} (h : buildSliceAV P t len ps = some v) (hF : ¬ F w.heap.size)
    (hl : ps.length = qs.toList.length) (hq : ∀ (i : Nat) p q, ps[i]? = some p → qs.toList[i]? = some q → p.1 = q.1 ∧ Rep w F U bl p.2 q.2) :
    Gives P w F U bl B (Instr.buildSlice t len qs) v := by
  unfold buildSliceAV at h
  cases hc : (inOrder 0 ps && Nat.beq ps.length len && allShape P (elemOfT P t) (partVals ps) && Nat.ble (len * tySz P (elemOfT P t)) 16777216 && Nat.blt 0 (tySz P (elemOfT P t))
      && hasZero P (elemOfT P t) && isSliceT P t) with
  | false => rw [hc] at h; simp at h
  | true =>
    rw [hc] at h
    simp only [cond_true] at h
    simp only [Bool.and_eq_true, beq_eq, ble_eq, blt_eq, decide_eq_true_eq] at hc
    obtain ⟨⟨⟨⟨⟨⟨c1, c2⟩, c3⟩, c4⟩, c5⟩, c6⟩, c7⟩ := hc
    obtain ⟨e, ht⟩ : ∃ e, tyD P t = .slice e := by unfold isSliceT at c7; cases hd : tyD P t <;> simp [hd] at c7; exact ⟨_, rfl⟩
    have he : elemOfT P t = e := by unfold elemOfT; rw [ht]
    rw [he] at h c3 c4 c5 c6
    obtain ⟨i, hi⟩ := info_size c5
    unfold hasZero at c6
    rw [hi] at c6
    simp only at c6
    obtain ⟨z, hz⟩ := Option.isSome_iff_exists.1 c6
    have hzr := (zeroAV_run (w := w) (F := F) (U := U) (bl := bl) (B := 0) hi hz).1
    -- the elements
    have hvals : ∀ (m : Nat) p q, ps[m]? = some p → qs.toList[m]? = some q → RepL w F U bl p.2.cells q.2.cells.toList ∧ q.2.cells.size = tySz P e ∧ ∀ y ∈ q.2.cells.toList, y.oneCell' = true := by
      intro m p q hp hq'
      obtain ⟨s1, s2⟩ := sameShape_of (allShape_get c3 m p.2 (by rw [partVals_get, hp]; rfl))
      obtain ⟨k1, k2, _⟩ := rep_cells (hq m p q hp hq').2 s2
      exact ⟨k1, by have := k1.1; rw [s1] at this; simp at this; exact this.symm, k2⟩
    have hnum := inOrder_number ps qs.toList 0 c1 hl hq
    have hlen : (qs.toList.map (·.2)).length = len := by rw [List.length_map, ← hl, c2]
    have hzero : ((Array.range (len * tySz P e)).map (z.cells[· % z.cells.size]!)).size = len * tySz P e := by simp
    obtain ⟨us, h1, h2, h3, _⟩ := fill_rows (tySz P e) (qs.toList.map (·.2)) 0 ((Array.range (len * tySz P e)).map (z.cells[· % z.cells.size]!)) (fun u hu => by
      obtain ⟨q, hq', rfl⟩ := List.mem_map.1 hu
      obtain ⟨m, hm⟩ := List.mem_iff_getElem?.1 hq'
      have hlt : m < ps.length := by rw [hl]; exact (List.getElem?_eq_some_iff.1 hm).1
      exact (hvals m ps[m] q (List.getElem?_eq_getElem hlt) hm).2.1) (by rw [hlen, hzero]; simp)
    rw [← hnum] at h1
    have run : (Instr.buildSlice t len qs).run P w = .ok (.slice (some ⟨w.heap.size, 0, none⟩) len len) (rowW w us e) := by
      unfold Instr.buildSlice
      simp only [Sem.run_bind, run_und ht (by simp), Result.andThen_ok, run_size' c5]
      rw [if_neg (by omega)]
      by_cases h0 : len * tySz P e = 0
      · have hl0 : len = 0 := by rcases Nat.mul_eq_zero.1 h0 with h | h <;> omega
        subst hl0
        have hqn : qs.toList = [] := List.length_eq_zero_iff.1 (by rw [← hl, c2])
        have hus : us = #[] := by apply Array.eq_empty_of_size_eq_zero; rw [h2, hzero]; simp
        subst hus
        simp only [Nat.zero_mul, if_true, Sem.run_bind, Sem.run_pure, Result.andThen_ok, hqn, Instr.fill]
        have hr0 : (Array.range 0 : Array Nat) = #[] := rfl
        simp [newRow, rowW, hr0]
      · rw [if_neg h0]
        simp only [Sem.run_bind, hzr, Result.andThen_ok, Sem.run_pure]
        rw [h1]
        simp [newRow, rowW]
    -- a cell of an element
    have hcell : ∀ (m j : Nat) c, m < len → (∃ u, (partVals ps)[m]? = some u ∧ u.cells[j]? = some c) → ∃ y, us[m * tySz P e + j]? = some y ∧ y.oneCell' = true ∧ Rep w F U bl c y := by
      rintro m j c hm ⟨u, hu, hj⟩
      rw [partVals_get] at hu
      obtain ⟨p, hp, rfl⟩ := Option.map_eq_some_iff.1 hu
      have hlt : m < qs.toList.length := by rw [← hl, c2]; exact hm
      obtain ⟨k1, k2, k3⟩ := hvals m p qs.toList[m] hp (List.getElem?_eq_getElem hlt)
      have hjs : j < tySz P e := by
        have := (List.getElem?_eq_some_iff.1 hj).1
        rw [k1.1, Array.length_toList, k2] at this; exact this
      have := h3 m qs.toList[m].2 (by simp [List.getElem?_eq_getElem hlt]) j hjs
      rw [Nat.zero_add] at this
      have hy : qs.toList[m].2.cells[j]? = some (qs.toList[m].2.cells[j]'(by rw [k2]; exact hjs)) := by simp [k2, hjs]
      rw [hy] at this
      exact ⟨_, this, k3 _ (by simp), k1.2 j c _ hj (by simp)⟩
    have hext : Ext w U (rowW w us e) (rowU w U (len * tySz P e)) := rowW_ext us e _
    have hval : ∀ (m : Nat), m < len → ∃ u, (partVals ps)[m]? = some u ∧ sameShape P e u = true := by
      intro m hm
      have : m < (partVals ps).length := by rw [partVals_length, c2]; exact hm
      exact ⟨_, List.getElem?_eq_getElem this, allShape_get c3 m _ (List.getElem?_eq_getElem this)⟩
    cases hdata : AV.isDataL (partVals ps) with
    | true =>
      simp only [hdata, cond_true, Option.some.injEq] at h
      subst h
      refine ⟨_, _, _, run, hext, .own (.vec (Nat.le_refl _) (fun m j => us.getD (m * tySz P e + j) undef) (fun hp => ⟨c5, ⟨w.heap.size, 0, none⟩, rfl, rfl, hF, by simp [rowU], fun m j hm hj => ?_⟩)
        (fun m hm => ?_) (fun m j hm hj => ?_) (fun m j c hm hc => ?_)), fun own p u hp => ?_⟩
      · rw [Nat.zero_add, rowW_cell]
        have : m * tySz P e + j < us.size := by rw [h2, hzero]; have := index_mul (sz := tySz P e) hm; omega
        simp [Array.getD, this]
      · obtain ⟨u, hu, hs⟩ := hval m hm
        simp only [vlist, List.getD, hu, Option.getD_some]
        exact (sameShape_of hs).1
      · obtain ⟨u, hu, hs⟩ := hval m hm
        obtain ⟨y, hy, h1, _⟩ := hcell m j _ hm ⟨u, hu, List.getElem?_eq_getElem (by rw [(sameShape_of hs).1]; exact hj)⟩
        have hl := (Array.getElem?_eq_some_iff.1 hy).1
        have hv := (Array.getElem?_eq_some_iff.1 hy).2
        have : us.getD (m * tySz P e + j) undef = y := by rw [Array.getD, dif_pos hl]; exact hv
        rw [this]; exact h1
      · obtain ⟨u, hu, hs⟩ := hval m hm
        simp only [vlist, List.getD, hu, Option.getD_some] at hc
        obtain ⟨y, hy, _, hr⟩ := hcell m j c hm ⟨u, hu, hc⟩
        have hud : u.isData = true := isDataL_get hdata m u hu
        have : us.getD (m * tySz P e + j) undef = y := by
          have hlt := (Array.getElem?_eq_some_iff.1 hy).1
          have := (Array.getElem?_eq_some_iff.1 hy).2
          simp [Array.getD, hlt, this]
        rw [this]
        exact (hr.data (cells_data hud j c hc)).mono (hext.grow F) (BlLe.refl _)
      · cases p with
        | nil => simp [AV.at] at hp; subst hp; exact fun _ => ⟨_, rfl, .inl rfl⟩
        | cons i p => simp [AV.at] at hp
    | false =>
      cases hagg : tyAgg P e with
      | true => simp [hdata, hagg] at h
      | false =>
        simp only [hdata, hagg, cond_false, Bool.not_false, cond_true, Option.some.injEq] at h
        subst h
        have hlen' : (partVals ps).length = len := by rw [partVals_length, c2]
        have hcells : ∀ v ∈ partVals ps, v.cells = [v] := by
          intro v hv
          obtain ⟨m, hm⟩ := List.mem_iff_getElem?.1 hv
          have hs := allShape_get c3 m v hm
          unfold sameShape at hs
          unfold AV.cells
          split
          · simp only [Bool.and_eq_true] at hs; rw [hagg] at hs; simp at hs
          · rfl
        by_cases hn0 : len = 0
        · have hnil : partVals ps = [] := List.length_eq_zero_iff.1 (by rw [hlen', hn0])
          rw [hnil]
          subst hn0
          exact ⟨_, _, _, run, hext, .rvec (Nat.le_refl _) (fun _ => undef) (fun h => absurd h (by simp)) (fun v hv => by simp at hv) (fun i c hc => by simp at hc), fun _ => .bare (bare_ptr trivial)⟩
        · have hs1 : tySz P e = 1 := by
            obtain ⟨u, hu, hs⟩ := hval 0 (by omega)
            have := (sameShape_of hs).1
            rw [hcells u (List.mem_of_getElem? hu)] at this
            simpa using this.symm
          refine ⟨_, _, _, run, hext, ?_, fun _ => .bare (bare_ptr trivial)⟩
          have hg := hext.grow F
          rw [← hlen'] at hg ⊢
          refine .rvec (Nat.le_refl _) (fun m => us.getD m undef) (fun hp => ⟨⟨w.heap.size, 0, none⟩, rfl, rfl, hF, by simp [rowU, hlen', hs1], fun m hm => ?_⟩) hcells (fun m c hm => ?_)
          · rw [Nat.zero_add, rowW_cell]
            have : m < us.size := by rw [h2, hzero, hs1]; omega
            simp [Array.getD, this]
          · obtain ⟨y, hy, _, hr⟩ := hcell m 0 c (by rw [← hlen']; exact (List.getElem?_eq_some_iff.1 hm).1) ⟨c, hm, by rw [hcells c (List.mem_of_getElem? hm)]; rfl⟩
            rw [hs1, Nat.mul_one, Nat.add_zero] at hy
            have : us.getD m undef = y := by
              have hlt := (Array.getElem?_eq_some_iff.1 hy).1
              have := (Array.getElem?_eq_some_iff.1 hy).2
              simp [Array.getD, hlt, this]
            rw [this]
            exact hr.mono hg (BlLe.refl _)
end
end Ax

/- Maps: keys compared, found. -/
set_option linter.unusedVariables false
set_option linter.unusedSimpArgs false
namespace Ax
open Go Go.RowKit

section
variable {P : Program} {w : World} {F : Nat → Prop} {U : Nat → Nat} {bl : Blocks}

theorem eqFs_conf {E : TypeId → AV → AV → Option Bool} (hE : ∀ t x y bx b', E t x x = some bx → E t y y = some b' → ∃ b, E t x y = some b) {xs ys : List AV} : ∀ (fs : List Field) bx b', eqFsWith P E xs xs fs = some bx → eqFsWith P E ys ys fs = some b' → ∃ b, eqFsWith P E xs ys fs = some b
  | [], bx, b', h, k => ⟨true, rfl⟩
  | f :: r, bx, b', h, k => by
    simp only [eqFsWith] at h k ⊢
    cases hn : (f.name == "_") with
    | true => simp [hn] at h
    | false =>
      simp only [hn, cond_false] at h k ⊢
      cases h1 : partAV P f.type xs f.offset with
      | none => simp [h1] at h
      | some a =>
        cases k1 : partAV P f.type ys f.offset with
        | none => simp [k1] at k
        | some c =>
          simp only [h1, k1] at h k ⊢
          cases h3 : E f.type a a with
          | none => simp [h3] at h
          | some e =>
            cases k3 : E f.type c c with
            | none => simp [k3] at k
            | some e' =>
              simp only [h3, k3] at h k
              obtain ⟨d, hd, _⟩ := Option.map_eq_some_iff.1 h
              obtain ⟨d', hd', _⟩ := Option.map_eq_some_iff.1 k
              obtain ⟨b, hb⟩ := hE _ _ _ _ _ h3 k3
              obtain ⟨b2, hb2⟩ := eqFs_conf hE r d d' hd hd'
              simp only [hb, hb2]; exact ⟨_, rfl⟩

/-- Two values of a type that can be compared with themselves can be compared with each other. -/
theorem eqT_conf : ∀ (d : Nat) t x y bx b', eqT P d t x x = some bx → eqT P d t y y = some b' → ∃ b, eqT P d t x y = some b
  | 0, t, x, y, bx, b', h, _ => by simp [eqT] at h
  | d + 1, t, x, y, bx, b', h, k => by
    unfold eqT at h k ⊢
    split at h
    · rename_i _ k0 ka na kb nb ht he
      injection he with e1 e2
      subst e1 e2
      rw [ht] at k ⊢
      cases y <;> simp only [reduceCtorEq] at k
      rename_i ky ny
      cases hk : decide (ka = k0) with
      | false => simp [hk] at h
      | true =>
        cases hk' : decide (ky = k0) with
        | false => simp [hk'] at k
        | true => simp [hk, hk']
    · rename_i _ a a' ht he
      rw [ht] at k ⊢
      cases y <;> simp only [reduceCtorEq] at k
      exact ⟨_, rfl⟩
    · rename_i _ a a' ht he
      rw [ht] at k ⊢
      cases y <;> simp only [reduceCtorEq] at k
      exact ⟨_, rfl⟩
    · rename_i _ fs xs xs' ht he
      injection he with e1
      subst e1
      rw [ht] at k ⊢
      cases y <;> simp only [reduceCtorEq] at k
      rename_i ys
      cases hst : P.stoodInHeld t with
      | true => simp [hst] at h
      | false =>
        simp only [hst, cond_false] at h k ⊢
        exact eqFs_conf (fun t x y bx b' => eqT_conf d t x y bx b') _ _ _ h k
    · simp at h

theorem eqFs_mem {E : TypeId → AV → AV → Option Bool} {xs : List AV} : ∀ {fs : List Field} {b : Bool}, eqFsWith P E xs xs fs = some b → ∀ f ∈ fs, f.name ≠ "_" ∧ ∃ a c, partAV P f.type xs f.offset = some a ∧ E f.type a a = some c
  | [], b, _, f, hf => by simp at hf
  | g :: r, b, h, f, hf => by
    simp only [eqFsWith] at h
    cases hn : (g.name == "_") with
    | true => simp [hn] at h
    | false =>
      simp only [hn, cond_false] at h
      cases h1 : partAV P g.type xs g.offset with
      | none => simp [h1] at h
      | some a =>
        simp only [h1] at h
        cases h3 : E g.type a a with
        | none => simp [h3] at h
        | some e =>
          simp only [h3] at h
          obtain ⟨d, hd, _⟩ := Option.map_eq_some_iff.1 h
          rcases List.mem_cons.1 hf with rfl | hf
          · exact ⟨by simpa using hn, a, e, h1, h3⟩
          · exact eqFs_mem hd f hf
theorem forIn_ok {α : Type} {g : α → PUnit → Sem (ForInStep PUnit)} : ∀ (l : List α), (∀ x ∈ l, (g x ⟨⟩).run P w = .ok (.yield ⟨⟩) w) → (forIn l PUnit.unit g : Sem PUnit).run P w = .ok ⟨⟩ w
  | [], _ => by simp
  | x :: r, h => by
    simp only [List.forIn_cons, Sem.run_bind, h x (by simp), Result.andThen_ok]
    exact forIn_ok r fun y hy => h y (by simp [hy])

/-- A key that may be one. -/
theorem checkKey_run {em : Bool} : ∀ (d n : Nat), d ≤ n → ∀ t x x' b, eqT P d t x x = some b → Rep w F U bl x x' → (Instr.checkKey em n t x').run P w = .ok () w
  | 0, _, _ => fun t x x' b h _ => by simp [eqT] at h
  | d + 1, 0, hd => absurd hd (by omega)
  | d + 1, n + 1, hd => fun t x x' b h hx => by
    unfold eqT at h
    split at h
    · rename_i _ k0 ka na kb nb ht he
      obtain rfl := rep_int hx
      simp [Instr.checkKey, run_und ht (by simp)]
    · rename_i _ a a' ht he
      obtain rfl := rep_bool hx
      simp [Instr.checkKey, run_und ht (by simp)]
    · rename_i _ a a' ht he
      obtain rfl := rep_str hx
      simp [Instr.checkKey, run_und ht (by simp)]
    · rename_i _ fs xs xs' ht he
      injection he with e1
      subst e1
      cases hst : P.stoodInHeld t with
      | true => simp [hst] at h
      | false =>
        simp only [hst, cond_false] at h
        cases hx with
        | agg hn1 h1 =>
          simp only [Instr.checkKey, Sem.run_bind, run_und ht (by simp), Result.andThen_ok]
          rw [← Array.forIn_toList, forIn_ok _ (fun f hf => ?_)]
          · simp
          · obtain ⟨hne, a, c, ha, hc⟩ := eqFs_mem h f hf
            obtain ⟨a', ra, pa⟩ := part_sound ha (cellsRep_arr hn1 h1)
            simp [hne, ra, checkKey_run d n (by omega) _ _ _ _ hc pa]
    · simp at h

/-- Keys that agree in the model's way. -/
theorem key_equal {kt : TypeId} {q k : AV} {q' k' : Value} {b : Bool} (h : eqT P depth0 kt q k = some b) (hq : Rep w F U bl q q') (hk : Rep w F U bl k k') : (Op.equal kt q' k').run P w = .ok b w := by
  simp only [Op.equal, Op.maxDepth]; exact eqT_sound depth0 10000 (by decide) _ _ _ _ _ _ h hq hk

theorem keyOk_of {kt : TypeId} {q : AV} (h : keyOk P kt q = true) : (∃ b, eqT P depth0 kt q q = some b) ∧ q.isData = true := by
  unfold keyOk at h
  rw [Bool.and_eq_true, Bool.and_eq_true] at h
  exact ⟨Option.isSome_iff_exists.1 h.1, h.2.1⟩
theorem keyOk_shape {kt : TypeId} {q : AV} (h : keyOk P kt q = true) : keyShape P kt q = true := by
  unfold keyOk at h
  rw [Bool.and_eq_true, Bool.and_eq_true] at h
  exact h.2.2
theorem eqKey_of {kt : TypeId} {q k : AV} (hq : keyOk P kt q = true) (hk : keyOk P kt k = true) : eqT P depth0 kt q k = some (eqKey P kt q k) := by
  obtain ⟨⟨b1, h1⟩, _⟩ := keyOk_of hq
  obtain ⟨⟨b2, h2⟩, _⟩ := keyOk_of hk
  obtain ⟨b, hb⟩ := eqT_conf depth0 kt q k b1 b2 h1 h2
  rw [eqKey, hb]; rfl

/-- What 'mpos' finds is what the model finds. -/
def found (es : List MapEntry) (i : Nat) : Option Nat → Option (Nat × Value)
  | none => none
  | some j => (es[j]?).map fun e => (i + j, e.val)
theorem found_cons (e : MapEntry) (es : List MapEntry) (i : Nat) (r : Option Nat) : found (e :: es) i (r.map (· + 1)) = found es (i + 1) r := by
  cases r with
  | none => rfl
  | some j => simp only [Option.map_some, found, List.getElem?_cons_succ]; congr 1; funext e; congr 1; omega

theorem findAsking_run {kt : TypeId} {q : AV} {q' : Value} (hq : Rep w F U bl q q') (hqk : keyOk P kt q = true) : ∀ (ents : List (AV × AV)) (es : List MapEntry) (i : Nat), ents.length = es.length → (∀ p ∈ ents, keyOk P kt p.1 = true) →
    (∀ (j : Nat) p e, ents[j]? = some p → es[j]? = some e → Rep w F U bl p.1 e.key) → (Instr.findAsking kt q' es i).run P w = .ok (found es i (mpos P kt ents q)) w
  | [], [], i, _, _, _ => by simp [Instr.findAsking, mpos, found]
  | [], e :: es, i, h, _, _ => by simp at h
  | p :: ents, [], i, h, _, _ => by simp at h
  | (k, v) :: ents, e :: es, i, h, hk, hr => by
    have h1 := key_equal (eqKey_of hqk (hk (k, v) (by simp))) hq (hr 0 (k, v) e rfl rfl)
    have ih := findAsking_run hq hqk ents es (i + 1) (by simpa using h) (fun p hp => hk p (by simp [hp])) (fun j p e hp he => hr (j + 1) p e (by simpa using hp) (by simpa using he))
    simp only [Instr.findAsking, Sem.run_bind, h1, Result.andThen_ok, mpos]
    cases eqKey P kt q k with
    | true => simp [found]
    | false => simp only [Bool.false_eq_true, if_false, cond_false]; rw [ih, found_cons]

theorem sameNow_of {kt : TypeId} {q k : AV} {q' k' : Value} (hqk : keyOk P kt q = true) (hkk : keyOk P kt k = true) (hq : Rep w F U bl q q') (hk : Rep w F U bl k k') :
    Instr.sameNow (tyD P kt) q' k' = some (eqKey P kt q k) ∨ ((∃ fs, tyD P kt = .struct fs) ∧ Instr.sameNow (tyD P kt) q' k' = none) := by
  have h := eqKey_of hqk hkk
  revert h
  generalize eqKey P kt q k = b
  intro h
  replace h : eqT P (11 + 1) kt q k = some b := h
  unfold eqT at h
  split at h
  · rename_i k0 ka na kb nb ht
    obtain rfl := rep_int hq
    obtain rfl := rep_int hk
    rw [ht]
    left
    cases hk : decide (ka = k0) with
    | false => simp [hk] at h
    | true =>
      cases hk' : decide (kb = k0) with
      | false => simp [hk, hk'] at h
      | true =>
        simp only [hk, hk', Bool.and_true, cond_true, Option.some.injEq] at h
        simp only [decide_eq_true_eq] at hk hk'
        subst hk hk' h
        simp only [Instr.sameNow, if_true]; rfl
  · rename_i a a' ht
    obtain rfl := rep_bool hq
    obtain rfl := rep_bool hk
    rw [ht]; left
    simp only [Instr.sameNow]; exact h
  · rename_i a a' ht
    obtain rfl := rep_str hq
    obtain rfl := rep_str hk
    rw [ht]; left
    simp only [Instr.sameNow]
    rw [← h]; congr 1
    rw [Bool.eq_iff_iff, decide_eq_true_iff]
    obtain ⟨x⟩ := a
    obtain ⟨y⟩ := a'
    show (x == y) = true ↔ _
    simp
  · rename_i fs xs ys ht
    right
    cases hq; cases hk
    rw [ht]
    exact ⟨⟨_, rfl⟩, rfl⟩
  · simp at h

theorem findNow_run {kt : TypeId} {q : AV} {q' : Value} (hq : Rep w F U bl q q') (hqk : keyOk P kt q = true) : ∀ (ents : List (AV × AV)) (es : List MapEntry) (i : Nat), ents.length = es.length → (∀ p ∈ ents, keyOk P kt p.1 = true) →
    (∀ (j : Nat) p e, ents[j]? = some p → es[j]? = some e → Rep w F U bl p.1 e.key) → Instr.findNow (tyD P kt) q' es i = some (found es i (mpos P kt ents q)) ∨ Instr.findNow (tyD P kt) q' es i = none
  | [], [], i, _, _, _ => .inl rfl
  | [], e :: es, i, h, _, _ => by simp at h
  | p :: ents, [], i, h, _, _ => by simp at h
  | (k, v) :: ents, e :: es, i, h, hk, hr => by
    have ih := findNow_run hq hqk ents es (i + 1) (by simpa using h) (fun p hp => hk p (by simp [hp])) (fun j p e hp he => hr (j + 1) p e (by simpa using hp) (by simpa using he))
    simp only [Instr.findNow, mpos]
    rcases sameNow_of hqk (hk (k, v) (by simp)) hq (hr 0 (k, v) e rfl rfl) with h1 | ⟨_, h1⟩
    · rw [h1]
      cases eqKey P kt q k with
      | true => left; simp [found]
      | false => simp only [cond_false, found_cons]; exact ih
    · rw [h1]; exact .inr rfl

theorem findKey_run {kt : TypeId} {q : AV} {q' : Value} (hq : Rep w F U bl q q') (hqk : keyOk P kt q = true) {ents : List (AV × AV)} {es : List MapEntry} (hl : ents.length = es.length) (hk : ∀ p ∈ ents, keyOk P kt p.1 = true)
    (hr : ∀ (j : Nat) p e, ents[j]? = some p → es[j]? = some e → Rep w F U bl p.1 e.key) : (Instr.findKey kt q' es).run P w = .ok (found es 0 (mpos P kt ents q)) w := by
  have hu : ∃ d, tyD P kt = d ∧ d ≠ .invalid := by
    refine ⟨_, rfl, fun h => ?_⟩
    obtain ⟨⟨b, hb⟩, _⟩ := keyOk_of hqk
    have hb : eqT P (11 + 1) kt q q = some b := hb
    unfold eqT at hb
    rw [h] at hb
    simp at hb
  obtain ⟨d, hd, hne⟩ := hu
  simp only [Instr.findKey, Sem.run_bind, run_und hd hne, Result.andThen_ok]
  rw [← hd]
  rcases findNow_run hq hqk ents es 0 hl hk hr with h | h
  · rw [h]; simp
  · rw [h]; exact findAsking_run hq hqk ents es 0 hl hk hr

theorem eqT_scalar {d : Nat} {t : TypeId} (ht : scalarT P t = true) {x y : AV} (h : eqT P d t x y = some true) : x = y ∧ ∀ a b : Value, Rep w F U bl x a → Rep w F U bl x b → a = b ∧ ∀ n, Instr.sameBits (n + 1) a b = true := by
  cases d with
  | zero => simp [eqT] at h
  | succ d =>
    unfold eqT at h
    split at h
    · rename_i k0 ka na kb nb ht
      cases hk : decide (ka = k0) with
      | false => simp [hk] at h
      | true =>
        cases hk' : decide (kb = k0) with
        | false => simp [hk, hk'] at h
        | true =>
          simp [hk, hk'] at h
          simp only [decide_eq_true_eq] at hk hk'
          subst hk hk' h
          exact ⟨rfl, fun a b ha hb => by obtain rfl := rep_int ha; obtain rfl := rep_int hb; exact ⟨rfl, fun n => by simp [Instr.sameBits]⟩⟩
    · simp at h; subst h
      exact ⟨rfl, fun a b ha hb => by obtain rfl := rep_bool ha; obtain rfl := rep_bool hb; exact ⟨rfl, fun n => by simp [Instr.sameBits]⟩⟩
    · simp at h; subst h
      exact ⟨rfl, fun a b ha hb => by
        obtain rfl := rep_str ha; obtain rfl := rep_str hb
        refine ⟨rfl, fun n => ?_⟩
        simp only [Instr.sameBits]
        rename_i s _
        obtain ⟨s⟩ := s
        show (s == s) = true
        simp⟩
    · rename_i ht'; simp [scalarT, ht'] at ht
    · simp at h

theorem scalar_part {t : TypeId} (ht : scalarT P t = true) {cs : List AV} {off : Nat} {a : AV} (h : partAV P t cs off = some a) : cs[off]? = some a := by
  have hn : tyAgg P t = false := by
    unfold scalarT at ht; unfold tyAgg
    generalize tyD P t = d at *
    cases d <;> simp at ht ⊢
  unfold partAV at h
  rw [hn] at h
  simp only [cond_false] at h
  cases hc : ((P.underlying t).isSome && Nat.beq (tySz P t) 1) with
  | true => rw [hc] at h; exact (oneAV_some h).1
  | false => rw [hc] at h; simp at h

theorem eqFs_flat {d : Nat} {xs ys : List AV} : ∀ (fs : List Field) (i : Nat), flatFields P i fs = true → eqFsWith P (eqT P d) xs ys fs = some true → ∀ j, i ≤ j → j < i + fs.length → ∃ a, xs[j]? = some a ∧ ys[j]? = some a ∧
    ∀ u v : Value, Rep w F U bl a u → Rep w F U bl a v → u = v ∧ ∀ n, Instr.sameBits (n + 1) u v = true
  | [], i, _, _, j, h1, h2 => by simp at h2; omega
  | f :: r, i, hf, h, j, h1, h2 => by
    simp only [flatFields, Bool.and_eq_true, beq_eq, decide_eq_true_eq] at hf
    obtain ⟨⟨f1, f2⟩, f3⟩ := hf
    simp only [eqFsWith] at h
    cases hn : (f.name == "_") with
    | true => simp [hn] at h
    | false =>
      simp only [hn, cond_false] at h
      cases p1 : partAV P f.type xs f.offset with
      | none => simp [p1] at h
      | some a =>
        cases p2 : partAV P f.type ys f.offset with
        | none => simp [p1, p2] at h
        | some c =>
          simp only [p1, p2] at h
          cases h3 : eqT P d f.type a c with
          | none => simp [h3] at h
          | some e =>
            simp only [h3] at h
            obtain ⟨e2, he2, he3⟩ := Option.map_eq_some_iff.1 h
            rw [Bool.and_eq_true] at he3
            obtain ⟨rfl, rfl⟩ := he3
            rcases Nat.eq_or_lt_of_le h1 with h1 | h1
            · subst h1
              obtain ⟨rfl, hu⟩ := eqT_scalar (w := w) (F := F) (U := U) (bl := bl) f2 h3
              refine ⟨a, ?_, ?_, hu⟩
              · rw [← f1]; exact scalar_part f2 p1
              · rw [← f1]; exact scalar_part f2 p2
            · exact eqFs_flat r (i + 1) f3 he2 j (by omega) (by simp at h2; omega)

/-- Keys that agree are one, and what they stand for too. -/
theorem eqKey_eq {kt : TypeId} {q k : AV} (hq : keyOk P kt q = true) (hk : keyOk P kt k = true) (h : eqKey P kt q k = true) : q = k ∧ ∀ u v : Value, Rep w F U bl q u → Rep w F U bl q v → u = v ∧ Instr.sameBits 10000 u v = true := by
  have he := eqKey_of hq hk
  rw [h] at he
  by_cases hs : scalarT P kt = true
  · obtain ⟨rfl, hu⟩ := eqT_scalar (w := w) (F := F) (U := U) (bl := bl) hs he
    exact ⟨rfl, fun u v h1 h2 => ⟨(hu u v h1 h2).1, (hu u v h1 h2).2 9999⟩⟩
  · have s1 := keyOk_shape hq
    have s2 := keyOk_shape hk
    unfold keyShape at s1 s2
    unfold scalarT at hs
    replace he : eqT P (11 + 1) kt q k = some true := he
    unfold eqT at he
    cases ht : tyD P kt with
    | struct fs =>
      rw [ht] at s1 s2 he
      cases q <;> simp only [reduceCtorEq, Bool.false_eq_true] at s1
      cases k <;> simp only [reduceCtorEq, Bool.false_eq_true] at s2
      rename_i xs ys
      simp only [Bool.and_eq_true, beq_eq, decide_eq_true_eq] at s1 s2
      cases hst : P.stoodInHeld kt with
      | true => simp [hst] at he
      | false =>
        simp only [hst, cond_false] at he
        have key := eqFs_flat (w := w) (F := F) (U := U) (bl := bl) fs.toList 0 s1.1 he
        have hxy : xs = ys := by
          apply List.ext_getElem?
          intro j
          by_cases hj : j < fs.toList.length
          · obtain ⟨a, h1, h2, _⟩ := key j (Nat.zero_le _) (by omega)
            rw [h1, h2]
          · rw [List.getElem?_eq_none (by omega), List.getElem?_eq_none (by omega)]
        subst hxy
        refine ⟨rfl, fun u v hu hv => ?_⟩
        cases hu with
        | @agg _ _ us n1 r1 =>
          cases hv with
          | @agg _ _ vs n2 r2 =>
            have hcell : ∀ j (h1 : j < us.size) (h2 : j < vs.size), us[j] = vs[j] ∧ Instr.sameBits 9999 us[j] vs[j] = true := by
              intro j h1 h2
              obtain ⟨a, e1, _, e3⟩ := key j (Nat.zero_le _) (by omega)
              have := e3 us[j] vs[j] (r1 j a _ e1 (by simp [h1])) (r2 j a _ e1 (by simp [h2]))
              exact ⟨this.1, this.2 9998⟩
            have huv : us = vs := by
              apply Array.ext
              · omega
              · intro j h1 h2; exact (hcell j h1 h2).1
            subst huv
            refine ⟨rfl, ?_⟩
            simp only [Instr.sameBits, Bool.and_eq_true, beq_self_eq_true, true_and, List.all_eq_true]
            rintro ⟨x, y⟩ hxy
            obtain ⟨j, hj⟩ := List.getElem?_of_mem hxy
            have hjl := (List.getElem?_eq_some_iff.1 hj).1
            simp at hjl
            rw [List.getElem?_zip_eq_some] at hj
            obtain ⟨j1, j2⟩ := hj
            have := (hcell j hjl hjl).2
            simp [hjl] at j1 j2
            rw [j1] at this
            rw [← j2, j1]; exact this
    | _ => rw [ht] at s1 hs; first | exact absurd rfl hs | (cases q <;> simp at s1)

theorem mpos_lt {kt : TypeId} {q : AV} : ∀ {ents : List (AV × AV)} {i : Nat}, mpos P kt ents q = some i → i < ents.length ∧ ∃ p, ents[i]? = some p ∧ eqKey P kt q p.1 = true
  | [], i, h => by simp [mpos] at h
  | (k, v) :: r, i, h => by
    simp only [mpos] at h
    cases he : eqKey P kt q k with
    | true => simp [he] at h; subst h; exact ⟨by simp, (k, v), rfl, he⟩
    | false =>
      simp only [he, cond_false] at h
      obtain ⟨j, hj, rfl⟩ := Option.map_eq_some_iff.1 h
      obtain ⟨h1, p, h2, h3⟩ := mpos_lt hj
      exact ⟨by simp; omega, p, by simpa using h2, h3⟩
theorem mpos_none {kt : TypeId} {q : AV} : ∀ {ents : List (AV × AV)}, mpos P kt ents q = none → ∀ p ∈ ents, eqKey P kt q p.1 = false
  | [], _, p, hp => by simp at hp
  | (k, v) :: r, h, p, hp => by
    simp only [mpos] at h
    cases he : eqKey P kt q k with
    | true => simp [he] at h
    | false =>
      simp only [he, cond_false, Option.map_eq_none_iff] at h
      rcases List.mem_cons.1 hp with rfl | hp
      · exact he
      · exact mpos_none h p hp
theorem mval_get (z : AV) : ∀ (ents : List (AV × AV)) (i : Nat) p, ents[i]? = some p → mval z ents i = p.2
  | [], i, p, h => by simp at h
  | (k, v) :: r, 0, p, h => by simp at h; subst h; rfl
  | (k, v) :: r, i + 1, p, h => by simp only [mval]; exact mval_get z r i p (by simpa using h)
theorem msetAt_length : ∀ (ents : List (AV × AV)) (i : Nat) (x : AV), (msetAt ents i x).length = ents.length
  | [], i, x => rfl
  | (k, v) :: r, 0, x => rfl
  | p :: r, i + 1, x => by simp [msetAt, msetAt_length r i x]
theorem msetAt_get : ∀ (ents : List (AV × AV)) (i : Nat) (x : AV) (j : Nat), (msetAt ents i x)[j]? = if i = j then (ents[j]?).map fun p => (p.1, x) else ents[j]?
  | [], i, x, j => by simp [msetAt]
  | (k, v) :: r, 0, x, 0 => by simp [msetAt]
  | (k, v) :: r, 0, x, j + 1 => by simp [msetAt]
  | p :: r, i + 1, x, 0 => by simp [msetAt]
  | p :: r, i + 1, x, j + 1 => by simp [msetAt, msetAt_get r i x j]

theorem zeroElem_run {e : TypeId} (h : hasZero P e = true) : ∃ z, (zeroValue e).run P w = .ok z w ∧ Rep w F U bl (zeroAV P e) z ∧ ∀ B own, OwnAt w F U B own (zeroAV P e) z := by
  unfold hasZero at h
  cases hi : P.info? e with
  | none => simp [hi] at h
  | some i =>
    simp only [hi] at h
    obtain ⟨z, hz⟩ := Option.isSome_iff_exists.1 h
    exact ⟨z, (zeroAV_run (B := 0) (F := F) (U := U) (bl := bl) hi hz).1, (zeroAV_run (B := 0) hi hz).2.1, fun B => (zeroAV_run (B := B) (w := w) (F := F) (U := U) (bl := bl) hi hz).2.2⟩

theorem zero_all {e : TypeId} (h : hasZero P e = true) : ∃ z, ∀ (w : World) (F : Nat → Prop) (U : Nat → Nat) (bl : Blocks) (B : Nat), (zeroValue e).run P w = .ok z w ∧ Rep w F U bl (zeroAV P e) z ∧ ∀ own, OwnAt w F U B own (zeroAV P e) z := by
  unfold hasZero at h
  cases hi : P.info? e with
  | none => simp [hi] at h
  | some i =>
    simp only [hi] at h
    obtain ⟨z, hz⟩ := Option.isSome_iff_exists.1 h
    exact ⟨z, fun w F U bl B => zeroAV_run hi hz⟩

mutual
theorem strip_data (v : AV) (h : v.isData = true) : v.strip.isData = true := by
  cases v with
  | own v => simp only [AV.strip]; exact strip_data v (by simpa [AV.isData] using h)
  | agg cs => simp only [AV.strip, AV.isData] at h ⊢; exact stripL_data cs h
  | tup cs => simp only [AV.strip, AV.isData] at h ⊢; exact stripL_data cs h
  | fn f a b => simp only [AV.strip, AV.isData, Bool.and_eq_true] at h ⊢; exact ⟨stripL_data a h.1, stripL_data b h.2⟩
  | uni v => rfl
  | _ => first | exact h | rfl
theorem stripL_data (l : List AV) (h : AV.isDataL l = true) : AV.isDataL (AV.stripL l) = true := by
  cases l with
  | nil => rfl
  | cons v r => simp only [AV.stripL, AV.isDataL, Bool.and_eq_true] at h ⊢; exact ⟨strip_data v h.1, stripL_data r h.2⟩
end

theorem getObj_map {b : Nat} {es : Array MapEntry} {clock : Nat} (h : w.heap[b]? = some (.map es clock)) : (getObj b).run P w = .ok (.map es clock) w := by
  simp only [getObj, Sem.run, h]

/-- A map's object, opened. -/
theorem map_open {h : Heap} {B : Nat} {id b : Nat} {kt : TypeId} {reg : Bool} {ents : List (AV × AV)} (ho : ObjsOK P w F U bl B h) (hb : bl[id]? = some (some b)) (hg : h.get id = .map kt reg ents) :
    ∃ es clock, w.heap[b]? = some (.map es clock) ∧ EntRep w F U ents es ∧ (∀ p ∈ ents, keyOk P kt p.1 = true) := by
  obtain ⟨own, ownM, bor, hobj⟩ := ho id b hb
  rw [hg] at hobj
  obtain ⟨es, clock, h1, h2, h3, h4, _⟩ := hobj
  exact ⟨es, clock, h1, h2, h4⟩

theorem found_get {ents : List (AV × AV)} {es : Array MapEntry} (hl : ents.length = es.size) {i : Nat} (hi : i < ents.length) : found es.toList 0 (some i) = some (i, (es[i]'(by omega)).val) := by
  have hlt : i < es.size := by omega
  simp [found, hlt]

theorem lookAV_sound {t kt e : TypeId} {h : Heap} {m q v : AV} {m' q' : Value} {ok : Bool} {B : Nat} (ht : tyD P t = .map kt e) (hl : lookAV P t h m q ok = some v) (hm : Rep w F U bl m m') (hq : Rep w F U bl q q') (ho : ObjsOK P w F U bl B h) :
    ∃ r, (Instr.lookup t m' q' ok).run P w = .ok r w ∧ Rep w F U bl v r ∧ Bare v := by
  unfold lookAV at hl
  have hbt : ∀ x : AV, Bare x → ∀ b : Bool, Bare (.tup [x, .bool b]) := by
    intro x hx b p u hp
    cases p with
    | nil => simp [AV.at] at hp; subst hp; rfl
    | cons i p =>
      simp only [AV.at] at hp
      match i with
      | 0 => exact hx p u (by simpa using hp)
      | 1 => exact bare_of rfl p u (by simpa using hp)
      | i + 2 => simp at hp
  have hrt : ∀ x y, Rep w F U bl x y → ∀ b : Bool, Rep w F U bl (.tup [x, .bool b]) (.tuple #[y, .bool b]) := by
    intro x y hr b
    refine .tup rfl fun i a c ha hc => ?_
    match i with
    | 0 => simp at ha hc; subst ha hc; exact hr
    | 1 => simp at ha hc; subst ha hc; exact .bool
    | i + 2 => simp at ha
  split at hl
  · rename_i kt' e' ht'
    rw [ht] at ht'; cases ht'
    cases hc : (keyOk P kt q && hasZero P e) with
    | false => rw [hc] at hl; simp at hl
    | true =>
      rw [hc] at hl
      simp only [cond_true, Option.some.injEq] at hl
      rw [Bool.and_eq_true] at hc
      obtain ⟨z, hz, hzr, _⟩ := zeroElem_run (w := w) (F := F) (U := U) (bl := bl) hc.2
      obtain ⟨⟨b1, hb1⟩, _⟩ := keyOk_of hc.1
      cases hm
      have hfk := findKey_run (w := w) (F := F) (U := U) (bl := bl) hq hc.1 (ents := []) (es := []) rfl (fun p hp => by simp at hp) (fun j p e hp => by simp at hp)
      refine ⟨if ok then .tuple #[z, .bool false] else z, ?_, ?_⟩
      · simp only [Instr.lookup, Sem.run_bind, run_und ht (by simp), Result.andThen_ok, Sem.run_pure, checkKey_run depth0 10000 (by decide) kt q q' b1 hb1 hq]
        simp only [mpos, found] at hfk
        simp [hfk, hz]
      · subst hl
        cases ok
        · exact ⟨hzr.strip, strip_bare _⟩
        · exact ⟨hrt _ _ hzr.strip _, hbt _ (strip_bare _) _⟩
  · rename_i kt' e' id ht'
    rw [ht] at ht'; cases ht'
    split at hl
    · rename_i kt2 reg ents hg
      cases hc : (Nat.beq kt kt2 && keyOk P kt q && hasZero P e) with
      | false => rw [hc] at hl; simp at hl
      | true =>
        rw [hc] at hl
        simp only [cond_true] at hl
        simp only [Bool.and_eq_true, beq_eq, decide_eq_true_eq] at hc
        obtain ⟨⟨rfl, hqk⟩, hzz⟩ := hc
        obtain ⟨z, hz, hzr, _⟩ := zeroElem_run (w := w) (F := F) (U := U) (bl := bl) hzz
        obtain ⟨⟨b1, hb1⟩, hqd⟩ := keyOk_of hqk
        cases hm with
        | @mapr _ _ b hb =>
          obtain ⟨es, clock, h1, h2, h4⟩ := map_open ho hb hg
          have hfk := findKey_run (w := w) (F := F) (U := U) (bl := []) (hq.data hqd) hqk (ents := ents) (es := es.toList) (by simpa using h2.1) h4 (fun j p e hp he => (h2.2 j p e hp (by simpa using he)).1)
          have hck := checkKey_run (em := es.isEmpty) depth0 10000 (by decide) kt q q' b1 hb1 hq
          cases hp : mpos P kt ents q with
          | none =>
            rw [hp] at hfk hl
            simp only [found] at hfk
            simp only [Option.some.injEq] at hl
            refine ⟨if ok then .tuple #[z, .bool false] else z, ?_, ?_⟩
            · simp [Instr.lookup, run_und ht (by simp), getObj_map h1, hck, hfk, hz]
            · subst hl
              cases ok
              · exact ⟨hzr.strip, strip_bare _⟩
              · exact ⟨hrt _ _ hzr.strip _, hbt _ (strip_bare _) _⟩
          | some i =>
            rw [hp] at hfk hl
            obtain ⟨hi, p, hpi, _⟩ := mpos_lt hp
            rw [found_get h2.1 hi] at hfk
            simp only [Option.some.injEq] at hl
            have hlt : i < es.size := by rw [← h2.1]; exact hi
            have hr := ((h2.2 i p es[i] hpi (by simp [hlt])).2).ofNil (bl := bl)
            rw [mval_get _ _ _ _ hpi] at hl
            refine ⟨if ok then .tuple #[es[i].val, .bool true] else es[i].val, ?_, ?_⟩
            · simp [Instr.lookup, run_und ht (by simp), getObj_map h1, hck, hfk]
            · subst hl
              cases ok
              · exact ⟨hr.strip, strip_bare _⟩
              · exact ⟨hrt _ _ hr.strip _, hbt _ (strip_bare _) _⟩
    · simp at hl
  · simp at hl
end
end Ax

/- All plain operations together. -/
set_option linter.unusedVariables false
set_option linter.unusedSimpArgs false
namespace Ax
open Go Go.RowKit

section
variable {P : Program} {w : World} {F : Nat → Prop} {U : Nat → Nat} {bl : Blocks} {B : Nat}

theorem convAV_sound {s d : TypeId} {x v : AV} {x' : Value} (h : convAV P s d x = some v) (hx : Rep w F U bl x x') (hs : (P.underlying s).isSome = true) : ∃ r, (Go.convert s d x').run P w = .ok r w ∧ Rep w F U bl v r ∧ Flat v := by
  obtain ⟨ds, hds⟩ := Option.isSome_iff_exists.1 hs
  have hus : (underlying s).run P w = .ok ds w := run_underlying hds w
  unfold convAV at h
  split at h
  · rename_i k kn n hd
    obtain rfl := rep_int hx
    simp at h; subst h
    refine ⟨.int k (k.wrap n), ?_, .int, trivial⟩
    unfold Go.convert
    simp only [Sem.run_bind, hus, run_und hd (by simp), Result.andThen_ok]
    cases ds <;> rfl
  · rename_i sb hd
    obtain rfl := rep_str hx
    simp at h; subst h
    refine ⟨.string sb, ?_, .str, trivial⟩
    unfold Go.convert
    simp only [Sem.run_bind, hus, run_und hd (by simp), Result.andThen_ok]
    cases ds <;> rfl
  · rename_i e sz n g hsl hd
    split at h
    · rename_i he
      cases hc : (Nat.beq sz 1 && (List.range n).all fun i => isByte (g i)) with
      | false => rw [hc] at h; simp at h
      | true =>
        rw [hc] at h
        simp only [cond_true, Option.some.injEq] at h
        subst h
        simp only [Bool.and_eq_true, beq_eq, decide_eq_true_eq] at hc
        obtain ⟨rfl, hall⟩ := hc
        have hus := und_of (P := P) hsl (by simp)
        have hue := und_of (P := P) he (by simp)
        have hud := und_of (P := P) hd (by simp)
        cases hx with
        | @vec _ _ _ _ ao cap hcap vals hz hsz ho hr =>
          refine ⟨.string (bytesV n g), ?_, .str, trivial⟩
          rw [run_convert_bytes_string w s d e _ n cap hus hue hud]
          rcases Nat.eq_zero_or_pos n with hn | hn
          · subst hn
            cases ao with
            | none => simp [Conv.bytesToString]; rfl
            | some a => simp [Conv.bytesToString, loadCells, loadCellsFrom]; rfl
          · obtain ⟨_, a, rfl, k1, k2, k3, k4⟩ := hz hn
            have hv : ∀ i, i < n → vals i 0 = .int .u8 (byteV (g i)) := fun i hi => by
              have hb : isByte (g i) = true := List.all_eq_true.1 hall i (List.mem_range.2 hi)
              have hr0 := hr i 0
              generalize g i = v at hb hr0
              cases v with
              | int k m =>
                cases k <;> simp [isByte] at hb
                exact rep_int (hr0 _ hi rfl)
              | _ => simp [isByte] at hb
            refine run_bytesToString w a n cap ((List.range n).map fun i => byteV (g i)) ?_
            rw [run_loadCells w a n (fun i => .int .u8 (byteV (g i))) (fun j hj => ?_)]
            · simp [List.map_map, Function.comp_def]
            · have := k4 j 0 hj (by omega)
              rw [hv j hj] at this
              obtain ⟨ab, ao, as⟩ := a
              simp only at k1
              subst k1
              have hplain : (⟨ab, ao, none⟩ : Addr).add j = ⟨ab, ao + j, none⟩ := by unfold Addr.add; split <;> simp_all
              rw [hplain]
              simpa using this
    · simp at h
  · simp at h

/-- What an operation gives, as the machine's next thing. -/
def GivesN (P : Program) (w : World) (F : Nat → Prop) (U : Nat → Nat) (bl : Blocks) (B : Nat) (s : Sem Next) (v : AV) : Prop :=
  ∃ x w' U', s.run P w = .ok (.value x) w' ∧ Ext w U w' U' ∧ Rep w' F U' bl v x ∧ ∀ own, OwnAt w' F U' B own v x
theorem Gives.next {s : Sem Value} {v : AV} (h : Gives P w F U bl B s v) : GivesN P w F U bl B (do pure (.value (← s))) v := by
  obtain ⟨x, w', U', h1, h2⟩ := h
  exact ⟨x, w', U', by simp [h1], h2⟩
theorem gives_strip {s : Sem Value} {v : AV} {x : Value} (h : s.run P w = .ok x w) (hv : Rep w F U bl v x) : Gives P w F U bl B s v.strip := Gives.plain h hv.strip (strip_bare v)

theorem partsOf_rep {env : Env} {a : Act} (hE : ∀ t, Rep w F U bl (env.get t) (a.tmps.getD t undef)) (t : TypeId) : ∀ (ps : List (Nat × Operand)),
    (partsOf P t env ps).length = (ps.map fun (i, x) => (i, a.eval x)).length ∧ ∀ (i : Nat) p q, (partsOf P t env ps)[i]? = some p → (ps.map fun (i, x) => (i, a.eval x))[i]? = some q → p.1 = q.1 ∧ Rep w F U bl p.2 q.2
  | [] => ⟨rfl, fun i p q h => by simp [partsOf] at h⟩
  | (j, x) :: r => by
    obtain ⟨h1, h2⟩ := partsOf_rep hE t r
    refine ⟨by simp [partsOf, h1], fun i p q hp hq => ?_⟩
    cases i with
    | zero => simp [partsOf] at hp hq; subst hp; subst hq; exact ⟨rfl, (evo_rep hE _ x).strip⟩
    | succ i => exact h2 i p q (by simpa [partsOf] using hp) (by simpa using hq)
theorem elemParts_rep {env : Env} {a : Act} (hE : ∀ t, Rep w F U bl (env.get t) (a.tmps.getD t undef)) (e : TypeId) : ∀ (ps : List (Nat × Operand)),
    (elemParts P e env ps).length = (ps.map fun (i, x) => (i, a.eval x)).length ∧ ∀ (i : Nat) p q, (elemParts P e env ps)[i]? = some p → (ps.map fun (i, x) => (i, a.eval x))[i]? = some q → p.1 = q.1 ∧ Rep w F U bl p.2 q.2
  | [] => ⟨rfl, fun i p q h => by simp [elemParts] at h⟩
  | (j, x) :: r => by
    obtain ⟨h1, h2⟩ := elemParts_rep hE e r
    refine ⟨by simp [elemParts, h1], fun i p q hp hq => ?_⟩
    cases i with
    | zero => simp [elemParts] at hp hq; subst hp; subst hq; exact ⟨rfl, (evo_rep hE _ x).strip⟩
    | succ i => exact h2 i p q (by simpa [elemParts] using hp) (by simpa using hq)

theorem parts_map (a : Act) (ps : Array (Nat × Operand)) : (ps.map fun (i, x) => (i, a.eval x)).toList = ps.toList.map fun (i, x) => (i, a.eval x) := by simp

theorem opt_rep {env : Env} {a : Act} (hE : ∀ t, Rep w F U bl (env.get t) (a.tmps.getD t undef)) (t : TypeId) (x : Option Operand) : OptRep w F U bl (x.map (evo P t env)) (x.map a.eval) := by
  cases x with
  | none => trivial
  | some x => exact evo_rep hE t x

set_option maxHeartbeats 4000000 in
theorem evalOp_sound {o : Oper} {env : Env} {heap : Heap} {v : AV} {a : Act} (h : evalOp P o env heap = some v) (hE : ∀ t, Rep w F U bl (env.get t) (a.tmps.getD t undef))
    (ho : ObjsOK P w F U bl B heap) (hF : ¬ F w.heap.size) : GivesN P w F U bl B (execOp a.eval o) v := by
  unfold evalOp at h
  unfold execOp
  split at h
  · -- pick
    rename_i c x y hop
    rw [hop]
    split at h
    · rename_i b hb
      simp at h; subst h
      have hc : a.eval c = .bool b := by have := evo_rep (P := P) hE 0 c; rw [hb] at this; exact rep_bool this
      obtain ⟨p1, p2⟩ := pick_rep (b := b) (evo_rep (P := P) hE o.type x).strip (evo_rep (P := P) hE o.type y).strip (strip_bare _) (strip_bare _)
      exact ⟨_, w, U, by simp [hc, asBool], Ext.refl w U, p1, fun _ => .bare p2⟩
    · simp at h
  · -- build
    rename_i t parts hop
    rw [hop]
    cases hb : (buildOk P t && (zeroAV P t).strip.cells.all AV.scal) with
    | false => rw [hb] at h; simp at h
    | true =>
      rw [hb] at h
      simp only [cond_true] at h
      simp only [Bool.and_eq_true] at hb
      split at h
      · rename_i cs hf
        simp only [Option.some.injEq] at h; subst h
        obtain ⟨q1, q2⟩ := partsOf_rep (P := P) hE t parts.toList
        obtain ⟨x, hx, hr⟩ := build_sound (w := w) (F := F) (U := U) (bl := bl) (qs := parts.map fun (i, x) => (i, a.eval x)) hb.1 hf (by rw [parts_map]; exact q1) (by rw [parts_map]; exact q2) hb.2
        exact (gives_strip hx hr).next
      · simp at h
  · -- buildSlice
    rename_i t len parts hop
    rw [hop]
    obtain ⟨q1, q2⟩ := elemParts_rep (P := P) hE (elemOfT P t) parts.toList
    exact (buildSlice_sound (qs := parts.map fun (i, x) => (i, a.eval x)) h hF (by rw [parts_map]; exact q1) (by rw [parts_map]; exact q2)).next
  · -- binOp
    rename_i op t x y yt hop
    rw [hop]
    obtain ⟨r, hr, hv, hf⟩ := binAV_sound (ox := x) (oy := y) h (evo_rep (P := P) hE t x).strip (evo_rep (P := P) hE yt y).strip
    exact (Gives.plain hr hv hf.bare).next
  · -- unOp
    rename_i op t x hop
    rw [hop]
    obtain ⟨r, hr, hv, hf⟩ := unAV_sound h (evo_rep (P := P) hE t x)
    exact (Gives.plain hr hv hf.bare).next
  · -- convert
    rename_i s d x hop
    rw [hop]
    cases hs : (P.underlying s).isSome with
    | false => rw [hs] at h; simp at h
    | true =>
      rw [hs] at h
      simp only [cond_true] at h
      obtain ⟨r, hr, hv, hf⟩ := convAV_sound h (evo_rep (P := P) hE s x).strip hs
      exact (Gives.plain hr hv hf.bare).next
  · -- nilCheck
    rename_i x hop
    rw [hop]
    have hx := evo_rep (P := P) hE 0 x
    split at h <;> first | (simp at h; done) | skip
    all_goals rename_i hh; rw [hh] at hx; simp only [Option.some.injEq] at h; subst h; obtain ⟨x', hx'⟩ : ∃ x', a.eval x = x' := ⟨_, rfl⟩; rw [hx'] at hx
    · cases hx with | ptr hb => exact ⟨_, w, U, by simp [hx'], Ext.refl w U, .ptr hb, fun _ => .bare (bare_ptr trivial)⟩
    · cases hx with | eptr hb => exact ⟨_, w, U, by simp [hx'], Ext.refl w U, .eptr hb, fun _ => .bare (bare_ptr trivial)⟩
    · cases hx with | cptr vals hp hc hh => exact ⟨_, w, U, by simp [hx'], Ext.refl w U, .cptr vals hp hc hh, fun _ => .bare (bare_ptr trivial)⟩
    · cases hx with | fn hn hm h1 h2 => exact ⟨_, w, U, by simp [hx'], Ext.refl w U, .fn hn hm h1 h2, fun _ => .bare (bare_ptr trivial)⟩
  · -- fieldAddr
    rename_i t x f hop
    rw [hop]
    obtain ⟨r, hr, hv, hb⟩ := fieldAddr_sound h (evo_rep (P := P) hE 0 x)
    exact (Gives.plain hr hv hb).next
  · -- field
    rename_i t x f hop
    rw [hop]
    have hx := (evo_rep (P := P) hE t x).strip
    split at h
    · rename_i cs u off hh hf
      obtain ⟨v0, hv0, rfl⟩ := Option.map_eq_some_iff.1 h
      rw [hh] at hx
      obtain ⟨x', hx'⟩ : ∃ x', a.eval x = x' := ⟨_, rfl⟩
      rw [hx'] at hx
      show GivesN P w F U bl B (do pure (.value (← Instr.field t (a.eval x) f))) _
      rw [hx']
      cases hx with
      | agg hn hq =>
        obtain ⟨r, hr, hv⟩ := field_sound hf hv0 (cellsRep_arr hn hq)
        exact (gives_strip hr hv).next
    · simp at h
  · -- indexAddr
    rename_i t x i hop
    rw [hop]
    split at h
    · rename_i n hn
      have hi := evo_rep (P := P) hE 0 i
      unfold intNat at hn
      split at hn
      · rename_i k m hh
        simp at hn; subst hn
        rw [hh] at hi
        have hi' := rep_int hi
        obtain ⟨r, hr, hv, hb⟩ := indexAddr_sound (k := k) h (evo_rep (P := P) hE t x)
        rw [← hi'] at hr
        exact (Gives.plain hr hv hb).next
      · simp at hn
    · simp at h
  · -- index
    rename_i t x i hop
    rw [hop]
    split at h
    · rename_i n hn
      obtain ⟨v0, hv0, rfl⟩ := Option.map_eq_some_iff.1 h
      have hi := evo_rep (P := P) hE 0 i
      unfold intNat at hn
      split at hn
      · rename_i k m hh
        simp at hn; subst hn
        rw [hh] at hi
        have hi' := rep_int hi
        obtain ⟨r, hr, hv⟩ := index_sound (k := k) hv0 (evo_rep (P := P) hE t x).strip
        rw [← hi'] at hr
        exact (gives_strip hr hv).next
      · simp at hn
    · simp at h
  · -- load
    rename_i t p hop
    rw [hop]
    obtain ⟨v0, hv0, rfl⟩ := Option.map_eq_some_iff.1 h
    obtain ⟨r, hr, hv⟩ := loadAV_sound hv0 (evo_rep (P := P) hE 0 p) ho
    exact (gives_strip hr hv).next
  · -- extract
    rename_i x i hop
    rw [hop]
    split at h
    · rename_i vs hh
      obtain ⟨v0, hv0, rfl⟩ := Option.map_eq_some_iff.1 h
      have hx := evo_rep (P := P) hE 0 x
      rw [hh] at hx
      obtain ⟨x', hx'⟩ : ∃ x', a.eval x = x' := ⟨_, rfl⟩
      rw [hx'] at hx
      show GivesN P w F U bl B (do pure (.value (← Instr.extract (a.eval x) i))) _
      rw [hx']
      cases hx with
      | tup hn hq =>
        rename_i us
        have hlt : i < us.size := by rw [← hn]; exact (List.getElem?_eq_some_iff.1 hv0).1
        exact (gives_strip (s := Instr.extract (.tuple us) i) (x := us[i]) (by simp [Instr.extract, hlt]) (hq i v0 us[i] hv0 (by simp [hlt]))).next
    · simp at h
  · -- makeFunc
    rename_i f first caps hop
    rw [hop]
    simp only [Option.some.injEq] at h; subst h
    have e1 := evoL_rep (P := P) hE [] first.toList
    have e2 := evoL_rep (P := P) hE [] caps.toList
    refine (Gives.plain (x := .func (.func f) (first.map a.eval) (caps.map a.eval)) (by simp [Instr.makeFunc]) (.fn ?_ ?_ ?_ ?_) (bare_ptr trivial)).next
    · have := e1.1; simpa using this
    · have := e2.1; simpa using this
    · intro i x y hx hy; exact e1.2 i x y hx (by simpa using hy)
    · intro i x y hx hy; exact e2.2 i x y hx (by simpa using hy)
  · -- lookup
    rename_i t m k ok hop
    rw [hop]
    split at h
    · rename_i kt e ht
      obtain ⟨r, hr, hv⟩ := lookAV_sound ht h (evo_rep (P := P) hE t m).strip (evo_rep (P := P) hE kt k).strip ho
      exact Gives.next ⟨r, w, U, hr, Ext.refl w U, hv.1, fun _ => .bare hv.2⟩
    · simp at h
  · -- slice
    rename_i t x lo hi mx hop
    rw [hop]
    obtain ⟨r, hr, hv, hown⟩ := sliceAV_sound (B := B) h (evo_rep (P := P) hE t x) (opt_rep hE 3 lo) (opt_rep hE 3 hi) (opt_rep hE 3 mx)
    exact Gives.next ⟨r, w, U, hr, Ext.refl w U, hv, hown⟩
  · -- len
    rename_i args argTypes hop
    rw [hop]
    split at h
    · rename_i x t hx ht
      have hargs : args = #[x] := by apply Array.ext'; simpa using hx
      have htys : argTypes = #[t] := by apply Array.ext'; simpa using ht
      subst hargs; subst htys
      obtain ⟨r, hr, hv, hf⟩ := lenAV_sound (args := #[]) h (evo_rep (P := P) hE t x) ho o.type
      refine ⟨r, w, U, ?_, Ext.refl w U, hv, fun _ => .bare hf.bare⟩
      simp only [resolve, Sem.run_bind, Sem.run_pure, Result.andThen_ok, invoke, builtin]
      simp [hr]
    · simp at h
  · -- min
    rename_i args argTypes hop
    rw [hop]
    split at h
    · rename_i x y r hl
      have hL := evoL_rep (P := P) hE [] args.toList
      rw [hl] at hL
      obtain ⟨x', r', he, hx, hr⟩ := hL.head
      have he' : (args.map a.eval).toList = x' :: r' := by simpa using he
      obtain ⟨q, hq, pq, fq⟩ := foldAV_sound (P := P) (w := w) (F := F) (U := U) (bl := bl) (f := min2) (g := Builtin.min2) (fun _ _ _ _ _ h1 h2 h3 => min2_sound h1 h2 h3) (y :: r) r' x v x' h hx hr (fun e => by simp at e)
      refine ⟨q, w, U, ?_, Ext.refl w U, pq, fun _ => .bare fq.bare⟩
      simp only [resolve, Sem.run_bind, Sem.run_pure, Result.andThen_ok, invoke, builtin]
      simp only [Builtin.min_, he', Sem.run_bind, hq, Result.andThen_ok, Sem.run_pure]
    · simp at h
  · -- max
    rename_i args argTypes hop
    rw [hop]
    split at h
    · rename_i x y r hl
      have hL := evoL_rep (P := P) hE [] args.toList
      rw [hl] at hL
      obtain ⟨x', r', he, hx, hr⟩ := hL.head
      have he' : (args.map a.eval).toList = x' :: r' := by simpa using he
      obtain ⟨q, hq, pq, fq⟩ := foldAV_sound (P := P) (w := w) (F := F) (U := U) (bl := bl) (f := max2) (g := Builtin.max2) (fun _ _ _ _ _ h1 h2 h3 => max2_sound h1 h2 h3) (y :: r) r' x v x' h hx hr (fun e => by simp at e)
      refine ⟨q, w, U, ?_, Ext.refl w U, pq, fun _ => .bare fq.bare⟩
      simp only [resolve, Sem.run_bind, Sem.run_pure, Result.andThen_ok, invoke, builtin]
      simp only [Builtin.max_, he', Sem.run_bind, hq, Result.andThen_ok, Sem.run_pure]
    · simp at h
  · simp at h
end
end Ax
