import Derived.Test.YtflebdkgdnfjoaaGreatMF
import Derived.Shelf.SlSortCmp.WholeK
import Derived.Shelf.SlSortCmp.NoneTotal
import Derived.Shelf.SlSortCmp.Whole1
import Derived.Test.YtflebdkgdnfjoaaGreatMI
import Derived.Shelf.Spec.SlicesInsertGrow
set_option linter.unusedVariables false
set_option linter.unusedSimpArgs false
namespace Ax
open Go Go.RowKit Go.Sort Go.Shelf Go.Lib Go.Proofs
theorem grown_eq {w w' : World} (h : SortWorld w w.heap.size w') : ∃ q os', w' = grow (w.drewN q) os' := by
  refine ⟨w'.drawn - w.drawn, w'.heap.extract w.heap.size w'.heap.size, ?_⟩
  obtain ⟨h1, h2, h3, h4, h5, h6⟩ := h
  cases w with | mk heap tape drawn os output =>
  cases w' with | mk heap' tape' drawn' os' output' =>
  simp only [grow, World.drewN] at *
  subst h1; subst h2; subst h3
  have e1 : drawn + (drawn' - drawn) = drawn' := by omega
  have e2 : heap' = heap ++ heap'.extract heap.size heap'.size := by
    apply Array.ext_getElem?
    intro k
    by_cases hk : k < heap.size
    · rw [Array.getElem?_append_left hk]; exact h5 k hk (by omega)
    · rw [Array.getElem?_append_right (by omega)]
      simp only [Array.getElem?_extract]
      by_cases hk2 : k < heap'.size
      · rw [if_pos (by omega), show heap.size + (k - heap.size) = k by omega]
      · rw [if_neg (by omega)]; exact Array.getElem?_eq_none (by omega)
  rw [e1, ← e2]
theorem mapBlock_other (w : World) (blk : Nat) (f : Array Value → Array Value) {k : Nat} (h : k ≠ blk) : (mapBlock w blk f).heap[k]? = w.heap[k]? := by
  simp only [mapBlock, Array.getElem?_modify, if_neg (Ne.symm h)]
theorem sortWorldK_is {α : Type} [Inhabited α] (enc : α → List Value) (k : Nat) (w : World) (b m : Nat) (dk : Array α) (os : Array Obj) : SortWorld w b (sortWorldK enc k w b 0 m dk os) := by
  unfold sortWorldK putRowK putRow
  refine ⟨rfl, rfl, rfl, ?_, fun i hi hne => ?_, ?_⟩
  · rw [size_grow]; simp [mapBlock, Sort.ahead]
  · rw [heap_grow_old _ _ (by simpa [mapBlock, Sort.ahead] using hi), mapBlock_other _ _ _ hne]
    rfl
  · show w.drawn ≤ w.drawn + m
    omega
theorem sortPrim_of {P : Program} {ρ : Ren} (L : SlLaysF0.n6 P ρ) (hN : NameOK P) {k : Nat} (hk : 2 ≤ k) (aE : ∀ w, (isAgg (ρ.t 24)).run P w = .ok true w) (zE : ∀ w, (Go.sizeOf (ρ.t 24)).run P w = .ok k w) (hb : Bodied P (ρ.f 6)) : SortPrim P (ρ.f 6) k where
  pos := by omega
  bodied := hb
  empty w ao cap fv := (AnyF.slices_SortFunc_none L ao cap fv w).mono fun e w' ⟨h1, h2⟩ => ⟨h1, by rw [h2]; exact sortWorld_refl w _⟩
  full := by
    intro w b cap n g cb d c hrow h0 hcap hlt hd hirr htr hntr hbod hcmp
    haveI : Inhabited (Fin n) := ⟨⟨0, h0⟩⟩
    obtain ⟨cs, el, fr, k1, k2, k3, k4⟩ := hrow
    have hvalOf : ∀ l : List Value, valOf k l = .agg l.toArray := fun l => by simp [valOf, show k ≠ 1 by omega]
    let D : Array (Fin n) := Array.ofFn id
    have hD : D.size = n := by simp [D]
    have hDi : ∀ (i : Nat) (hi : i < n), D[i]! = ⟨i, hi⟩ := fun i hi => by
      rw [getElem!_pos D i (by rw [hD]; exact hi)]; simp [D]
    have hblk : b < w.heap.size := (Array.getElem?_eq_some_iff.1 k1).1
    have eg : ∀ (args : Array Value) (w : World), (callFunc g args).run P w = .ok (.enter g args) w := by
      obtain ⟨fn, f1, f2⟩ := hbod
      cases hc : fn.body with
      | none => rw [hc] at f2; simp at f2
      | some cc => exact enters_of f1 (hN _ _ f1 f2) hc
    have hdm : ∀ (t : Nat), t < n * k → t / k < n ∧ t % k < k ∧ t / k * k + t % k = t := fun t ht => by
      have h1 : t / k < n := by rw [Nat.div_lt_iff_lt_mul (by omega)]; exact ht
      have h2 := Nat.mod_lt t (show 0 < k by omega)
      have h3 := Nat.div_add_mod t k
      rw [Nat.mul_comm] at h3
      exact ⟨h1, h2, h3⟩
    have hH : HoldsK (fun i : Fin n => d i) k w b 0 D := by
      intro t ht
      rw [size_flatK, hD] at ht
      obtain ⟨a1, a2, a3⟩ := hdm t ht
      rw [get_flatK _ _ _ _ (by rw [hD]; exact ht), hDi _ a1, Nat.zero_add]
      have ht' : t < cs.size := by omega
      refine ⟨?_, k3 t ht'⟩
      have := k4 _ _ a1 a2
      rw [a3] at this
      have hj : t % k < (d (t / k)).length := by rw [(hd _ a1).1]; exact a2
      simp only [World.cell?, k1, id]
      rw [if_neg (by simp), this, List.getElem?_eq_getElem hj, getElem!_pos (d (t / k)) (t % k) hj]
    have hcmp' : ∀ w1, SortWorld w b w1 → ∀ i j, i < n → j < n → Calls P g (#[.agg (d i).toArray, .agg (d j).toArray] ++ cb) w1 fun e w' => e = .returned (.int .i64 (c i j)) ∧ SortWorld w1 w1.heap.size w' := fun w1 h1 i j hi hj => by
      have := hcmp w1 h1 i j hi hj
      rw [hvalOf, hvalOf] at this
      exact this
    have hcon := AnyQ.slices_SortFunc L k aE zE (fun i : Fin n => d i) (fun i => (hd i i.2).1) (fun i => (hd i i.2).2) (fun x y : Fin n => c x y) ⟨fun x => by simpa [ltOf] using hirr x x.2, fun x y z => by simpa [ltOf] using htr x y z x.2 y.2 z.2, fun x y z => by
      simp only [ltOf, decide_eq_false_iff_not]; exact hntr x y z x.2 y.2 z.2⟩ g cb b 0 cap D w eg (fun m os dk hs x y => (hcmp' _ (sortWorldK_is _ k w b m dk os) x y x.2 y.2).mono fun e w' ⟨h1, h2⟩ => ⟨h1, grown_eq h2⟩) hH hblk (by rw [hD]; exact hlt)
    rw [hD] at hcon
    refine hcon.mono ?_
    rintro e w' ⟨rfl, d', m, os, hp, hs, rfl⟩
    refine ⟨rfl, sortWorldK_is _ k w b m d' os, fun i => (d'[i]!).val, ?_, ?_, ?_⟩
    · obtain ⟨p1, _, p3⟩ := hp
      rw [hD] at p1
      have q := p3.map (fun i : Fin n => i.val)
      have e1 : (D.extract 0 n).toList.map (fun i : Fin n => i.val) = List.range n := by
        apply List.ext_getElem?
        intro i
        by_cases hi : i < n
        · simp [D, hi]
        · simp [D, hi]
      have e2 : (d'.extract 0 n).toList.map (fun i : Fin n => i.val) = (List.range n).map fun i => (d'[i]!).val := by
        apply List.ext_getElem?
        intro i
        by_cases hi : i < n
        · have : i < d'.size := by omega
          simp [hi, this]
        · simp [hi]; omega
      rw [e1, e2] at q
      exact q
    · intro i j hij hj
      have := hs i j (Nat.zero_le _) hij hj
      simpa [ltOf] using this
    · have p1 : d'.size = n := by rw [hp.1, hD]
      refine ⟨putCells id 0 (flatK (fun i : Fin n => d i) k d') cs, el, fr, ?_, by simpa [putCells] using k2, fun o ho => ?_, fun i j hi hj => ?_⟩
      · unfold sortWorldK putRowK putRow
        rw [heap_grow_old _ _ (by simpa [mapBlock, Sort.ahead] using hblk)]
        simp [mapBlock, Sort.ahead, Array.getElem?_modify, k1, onCells]
      · have := k3 o (by simpa [putCells] using ho)
        unfold sortWorldK putRowK
        rw [frozen?_grow _ _ _ (by simpa [putRow, mapBlock, Sort.ahead] using hblk), frozen?_putRow, frozen?_ahead]
        exact this
      · have hpos : i * k + j < n * k := by
          have : (i + 1) * k ≤ n * k := Nat.mul_le_mul_right _ hi
          rw [Nat.add_mul, Nat.one_mul] at this
          omega
        have e1 : (i * k + j) / k = i := by rw [Nat.mul_comm, Nat.mul_add_div (by omega), Nat.div_eq_of_lt hj]; omega
        have e2 : (i * k + j) % k = j := by rw [Nat.mul_comm, Nat.mul_add_mod, Nat.mod_eq_of_lt hj]
        have hl : (d (d'[i]!).val).length = k := (hd _ (d'[i]!).2).1
        have hlt' : i * k + j < cs.size := by omega
        have hg := get_flatK (fun i : Fin n => d i) k d' (i * k + j) (by rw [p1]; exact hpos)
        rw [e1, e2] at hg
        simp only [putCells, Array.getElem?_mapIdx, Array.getElem?_eq_getElem hlt', Option.map_some, size_flatK, p1, Nat.zero_le, true_and, Nat.zero_add, if_pos hpos, Nat.sub_zero, id, hg]
        rw [getElem!_pos _ j (by rw [hl]; exact hj), List.getElem?_eq_getElem (by rw [hl]; exact hj)]
end Ax

namespace Ax
open Go Go.RowKit Go.Sort Go.Shelf Go.Lib Go.Proofs
theorem sortWorld_is {α : Type} [Inhabited α] (enc : α → Value) (w : World) (b m : Nat) (dk : Array α) (os : Array Obj) : SortWorld w b (sortWorld enc w b 0 m dk os) := by
  unfold sortWorld putRow
  refine ⟨rfl, rfl, rfl, ?_, fun i hi hne => ?_, ?_⟩
  · rw [size_grow]; simp [mapBlock, Sort.ahead]
  · rw [heap_grow_old _ _ (by simpa [mapBlock, Sort.ahead] using hi), mapBlock_other _ _ _ hne]
    rfl
  · show w.drawn ≤ w.drawn + m
    omega
theorem sortPrim1_of {P : Program} {ρ : Ren} (L : SlLaysF.n6 P ρ) (L0 : SlLaysF0.n6 P ρ) (hN : NameOK P) (hb : Bodied P (ρ.f 6)) : SortPrim P (ρ.f 6) 1 where
  pos := by omega
  bodied := hb
  empty w ao cap fv := (AnyF.slices_SortFunc_none L0 ao cap fv w).mono fun e w' ⟨h1, h2⟩ => ⟨h1, by rw [h2]; exact sortWorld_refl w _⟩
  full := by
    intro w b cap n g cb d c hrow h0 hcap hlt hd hirr htr hntr hbod hcmp
    haveI : Inhabited (Fin n) := ⟨⟨0, h0⟩⟩
    obtain ⟨cs, el, fr, k1, k2, k3, k4⟩ := hrow
    have hv : ∀ i, i < n → ∃ v, d i = [v] ∧ v.oneCell' = true := fun i hi => by
      obtain ⟨h1, h2⟩ := hd i hi
      obtain ⟨v, hv⟩ := List.length_eq_one_iff.1 h1
      exact ⟨v, hv, h2 v (by rw [hv]; exact List.mem_singleton.2 rfl)⟩
    let enc : Fin n → Value := fun i => (d i).headD undef
    have henc : ∀ i : Fin n, d i = [enc i] := fun i => by
      obtain ⟨v, hv, _⟩ := hv i i.2
      simp only [enc, hv, List.headD_cons]
    have h1c : OneCell enc := fun i => by
      obtain ⟨v, hv, h1⟩ := hv i i.2
      simp only [enc, hv, List.headD_cons]; exact h1
    have hvalOf : ∀ i : Fin n, valOf 1 (d i) = enc i := fun i => by rw [henc i]; rfl
    let D : Array (Fin n) := Array.ofFn id
    have hD : D.size = n := by simp [D]
    have hDi : ∀ (i : Nat) (hi : i < n), D[i]! = ⟨i, hi⟩ := fun i hi => by
      rw [getElem!_pos D i (by rw [hD]; exact hi)]; simp [D]
    have hblk : b < w.heap.size := (Array.getElem?_eq_some_iff.1 k1).1
    have eg : ∀ (args : Array Value) (w : World), (callFunc g args).run P w = .ok (.enter g args) w := by
      obtain ⟨fn, f1, f2⟩ := hbod
      cases hc : fn.body with
      | none => rw [hc] at f2; simp at f2
      | some cc => exact enters_of f1 (hN _ _ f1 f2) hc
    have hH : Holds enc w b 0 D := by
      intro t ht
      rw [hD] at ht
      rw [hDi _ ht, Nat.zero_add]
      have ht' : t < cs.size := by omega
      refine ⟨?_, k3 t ht'⟩
      have := k4 t 0 ht (by omega)
      rw [henc ⟨t, ht⟩] at this
      simp only [World.cell?, k1]
      rw [if_neg (by simp)]
      simpa using this
    have hcmp' : ∀ w1, SortWorld w b w1 → ∀ i j : Fin n, Calls P g (#[enc i, enc j] ++ cb) w1 fun e w' => e = .returned (.int .i64 (c i j)) ∧ SortWorld w1 w1.heap.size w' := fun w1 h1 i j => by
      have := hcmp w1 h1 i j i.2 j.2
      rw [hvalOf, hvalOf] at this
      exact this
    have hcon := Any.slices_SortFunc L enc h1c (fun x y : Fin n => c x y) ⟨fun x => by simpa [ltOf] using hirr x x.2, fun x y z => by simpa [ltOf] using htr x y z x.2 y.2 z.2, fun x y z => by
      simp only [ltOf, decide_eq_false_iff_not]; exact hntr x y z x.2 y.2 z.2⟩ g cb b 0 cap D w eg (fun m os dk hs x y => (hcmp' _ (sortWorld_is _ w b m dk os) x y).mono fun e w' ⟨h1, h2⟩ => ⟨h1, grown_eq h2⟩) hH hblk (by rw [hD]; exact hlt)
    rw [hD] at hcon
    refine hcon.mono ?_
    rintro e w' ⟨rfl, d', m, os, hp, hs, rfl⟩
    refine ⟨rfl, sortWorld_is _ w b m d' os, fun i => (d'[i]!).val, ?_, ?_, ?_⟩
    · obtain ⟨p1, _, p3⟩ := hp
      rw [hD] at p1
      have q := p3.map (fun i : Fin n => i.val)
      have e1 : (D.extract 0 n).toList.map (fun i : Fin n => i.val) = List.range n := by
        apply List.ext_getElem?
        intro i
        by_cases hi : i < n
        · simp [D, hi]
        · simp [D, hi]
      have e2 : (d'.extract 0 n).toList.map (fun i : Fin n => i.val) = (List.range n).map fun i => (d'[i]!).val := by
        apply List.ext_getElem?
        intro i
        by_cases hi : i < n
        · have : i < d'.size := by omega
          simp [hi, this]
        · simp [hi]; omega
      rw [e1, e2] at q
      exact q
    · intro i j hij hj
      have := hs i j (Nat.zero_le _) hij hj
      simpa [ltOf] using this
    · have p1 : d'.size = n := by rw [hp.1, hD]
      refine ⟨putCells enc 0 d' cs, el, fr, ?_, by simpa [putCells] using k2, fun o ho => ?_, fun i j hi hj => ?_⟩
      · unfold sortWorld putRow
        rw [heap_grow_old _ _ (by simpa [mapBlock, Sort.ahead] using hblk)]
        simp [mapBlock, Sort.ahead, Array.getElem?_modify, k1, onCells]
      · have := k3 o (by simpa [putCells] using ho)
        unfold sortWorld
        rw [frozen?_grow _ _ _ (by simpa [putRow, mapBlock, Sort.ahead] using hblk), frozen?_putRow, frozen?_ahead]
        exact this
      · obtain rfl : j = 0 := by omega
        have hlt' : i < cs.size := by omega
        have hi' : i < d'.size := by omega
        show (putCells enc 0 d' cs)[i * 1 + 0]? = (d (d'[i]!).val)[0]?
        rw [henc (d'[i]!)]
        simp only [putCells, Nat.mul_one, Nat.add_zero, Array.getElem?_mapIdx, Array.getElem?_eq_getElem hlt', Option.map_some, Nat.zero_le, true_and, Nat.zero_add, if_pos hi', Nat.sub_zero, List.getElem?_cons_zero]
end Ax

namespace Ax
open Go Go.RowKit Go.Proofs Go.Shelf
theorem setCells_wrote (b : Nat) : ∀ (vs : List Value) (o : Nat) (w : World) (c : Array Value) (e : TypeId) (fr : Nat × Nat), w.heap[b]? = some (.cells c e fr) →
    ∃ c', Wrote w b (.cells c' e fr) (w.setCells b o vs) ∧ c'.size = c.size ∧ ∀ j : Nat, j < c.size → c'[j]? = if o ≤ j ∧ j < o + vs.length then vs[j - o]? else c[j]?
  | [], o, w, c, e, fr, hb => ⟨c, ⟨rfl, rfl, rfl, rfl, hb, fun _ _ => rfl, rfl⟩, rfl, fun j _ => by rw [if_neg (by intro h; simp at h; omega)]⟩
  | v :: vs, o, w, c, e, fr, hb => by
    have hw1 : (w.setCell ⟨b, o, none⟩ v).heap[b]? = some (.cells (c.setIfInBounds o v) e fr) := by
      simp only [World.setCell, Array.getElem?_modify]
      rw [if_pos trivial, hb]; rfl
    have hoth : ∀ k, k ≠ b → (w.setCell ⟨b, o, none⟩ v).heap[k]? = w.heap[k]? := fun k hk => by
      simp only [World.setCell, Array.getElem?_modify]; rw [if_neg (fun h => hk h.symm)]
    obtain ⟨c', r2, r3, r4⟩ := setCells_wrote b vs (o + 1) (w.setCell ⟨b, o, none⟩ v) _ e fr hw1
    refine ⟨c', ⟨r2.os, r2.tape, r2.output, r2.size.trans (by simp [World.setCell]), r2.here, fun k hk => (r2.other k hk).trans (hoth k hk), r2.drawn⟩, by rw [r3]; simp, fun j hj => ?_⟩
    rw [r4 j (by simpa using hj), Array.getElem?_setIfInBounds]
    simp only [List.length_cons]
    by_cases h1 : o = j
    · subst h1
      rw [if_neg (by omega), if_pos rfl, if_pos hj, if_pos (by omega), Nat.sub_self]; rfl
    · rw [if_neg h1]
      by_cases h2 : o + 1 ≤ j ∧ j < o + 1 + vs.length
      · rw [if_pos h2, if_pos (by omega), show j - o = (j - (o + 1)) + 1 by omega]; rfl
      · rw [if_neg h2, if_neg (by omega)]
theorem sortWorld_wrote {w : World} {b : Nat} {o : Obj} {w' : World} (h : Wrote w b o w') : SortWorld w b w' :=
  ⟨h.os, h.tape, h.output, Nat.le_of_eq h.size.symm, fun k _ hk => h.other k hk, Nat.le_of_eq h.drawn.symm⟩
theorem SortWorld.trans {a b c : World} {k : Nat} (h : SortWorld a k b) (h' : SortWorld b k c) : SortWorld a k c :=
  ⟨h'.os.trans h.os, h'.tape.trans h.tape, h'.output.trans h.output, Nat.le_trans h.size h'.size, fun i hi hne => (h'.other i (Nat.lt_of_lt_of_le hi h.size) hne).trans (h.other i hi hne), Nat.le_trans h.drawn h'.drawn⟩
theorem sortWorld_drew (w : World) (b : Nat) : SortWorld w b w.drew := ⟨rfl, rfl, rfl, Nat.le_refl _, fun _ _ _ => rfl, Nat.le_succ _⟩
theorem sortWorld_alloc (w : World) (o : Obj) : SortWorld w w.heap.size (w.alloc o) := ⟨rfl, rfl, rfl, by show w.heap.size ≤ (w.heap.push o).size; rw [Array.size_push]; omega, fun k hk _ => by show (w.heap.push o)[k]? = _; rw [Array.getElem?_push, if_neg (by omega)], Nat.le_refl _⟩
theorem insPrim_of {P : Program} {ρ : Ren} (L : Lays2.n21 P ρ) (hb : Bodied P (ρ.f 21)) : InsPrim P (ρ.f 21) where
  bodied := hb
  stay := by
    intro w b n cap i vb vc c cv el ev fr fv x q1 v1 hne hkn hnb hst hcs hcM q5 v5 hy0 hy1 hone
    have hat : ∀ j, j < n → ((List.range n).map fun k => c.getD k undef)[j]? = c[j]? := by
      intro j hj
      have hlt : j < c.size := by omega
      rw [List.getElem?_map, List.getElem?_range hj]
      simp [Array.getD, hlt]
    have hcl : ((List.range n).map fun k => c.getD k undef).length = n := by simp
    have hbl : b < w.heap.size := lt_of_some q1
    have hcell : ∀ j : Nat, w.cell? ⟨b, j, none⟩ = c[j]? := fun j => cell_row q1 j
    have hv : ∀ (j : Nat) v, ([x] : List Value)[j]? = some v → w.cell? ⟨vb, 0 + j, none⟩ = some v := by
      intro j v hj
      cases j with
      | zero => simp at hj; subst hj; rw [Nat.zero_add, cell_row v1, hy0]
      | succ j => simp at hj
    by_cases hin : i = n
    · subst hin
      refine (Any2.slices_Insert_int_end_room L b 0 i cap vb 0 1 vc [x] w (by omega) hst hcM rfl (fun j hj => ?_) (fun j hj => q5 _) hv (by simpa using hy1)).mono ?_
      · rw [hcell]
        have : 0 + i + j < c.size := by omega
        rw [Array.getElem?_eq_getElem this]; rfl
      rintro e w' ⟨rfl, rfl⟩
      obtain ⟨c', r1, r2, r3⟩ := setCells_wrote b [x] (0 + i) w c el fr q1
      refine ⟨rfl, sortWorld_wrote r1, c', r1.here, r2, fun j hj => ?_⟩
      rw [r3 j (by omega)]
      by_cases h1 : j < i
      · rw [if_neg (by omega), if_pos h1]
      · obtain rfl : j = i := by omega
        rw [if_pos (by simp), if_neg h1, if_pos rfl, Nat.zero_add, Nat.sub_self]; rfl
    · have hlt : i < n := by omega
      refine (Any2.slices_Insert_int_shift L b 0 n cap i vb 0 1 vc ((List.range n).map fun k => c.getD k undef) [x] w hlt (by omega) hst hcM hne hcl rfl (fun j v hj => ?_) (fun j hj => ?_) (fun j hj => q5 _) hv (fun v hv => ?_) (by simpa using hy1) ev el cv.size c.size
        (by simp [World.shape?, v1]) (by simp [World.shape?, q1]) (by omega) (v5 _) (v5 _)).mono ?_
      · have hl := (List.getElem?_eq_some_iff.1 hj).1
        rw [Nat.zero_add, hcell, ← hat j (by simpa using hl)]; exact hj
      · rw [hcell]
        have : 0 + j < c.size := by omega
        rw [Array.getElem?_eq_getElem this]; rfl
      · obtain ⟨j, hj⟩ := List.getElem?_of_mem hv
        have hl : j < n := by simpa using (List.getElem?_eq_some_iff.1 hj).1
        rw [hat j hl] at hj
        exact hone j v hl hj
      rintro e w' ⟨rfl, rfl⟩
      obtain ⟨c1, r1, r2, r3⟩ := setCells_wrote b (((List.range n).map fun k => c.getD k undef).drop i) (0 + (i + 1)) w.drew c el fr q1
      obtain ⟨c2, s1, s2, s3⟩ := setCells_wrote b [x] (0 + i) _ c1 el fr r1.here
      refine ⟨rfl, ((sortWorld_drew w b).trans (sortWorld_wrote r1)).trans (sortWorld_wrote s1), c2, s1.here, s2.trans r2, fun j hj => ?_⟩
      rw [s3 j (by omega)]
      simp only [List.length_singleton]
      by_cases h1 : j < i
      · rw [if_neg (by omega), if_pos h1, r3 j (by omega), if_neg (by omega)]
      · rw [if_neg h1]
        by_cases h2 : j = i
        · subst h2
          rw [if_pos (by omega), if_pos rfl, Nat.zero_add, Nat.sub_self]; rfl
        · rw [if_neg (by omega), if_neg h2, r3 j (by omega), if_pos (by rw [List.length_drop, hcl]; omega), List.getElem?_drop, ← hat (j - 1) (by omega)]
          congr 1; omega
  grow := by
    intro w ao n cap i vb vc cs cv ev fv x hcl hsrc v1 hkn hnb hnc hroom hy0 hy1 hone
    have hv : ∀ (j : Nat) v, ([x] : List Value)[j]? = some v → w.cell? ⟨vb, 0 + j, none⟩ = some v := by
      intro j v hj
      cases j with
      | zero => simp at hj; subst hj; rw [Nat.zero_add, cell_row v1, hy0]
      | succ j => simp at hj
    have hG1 : n + 1 ≤ grownCap w (n + 1) cap (ρ.t 3) := by unfold grownCap; simp only [Question.cut]; omega
    have hG2 : grownCap w (n + 1) cap (ρ.t 3) ≤ 9223372036854775807 := by
      unfold grownCap; simp only [Question.cut]
      have := Nat.mod_lt (w.tape w.drawn (.appendCap (n + 1) cap (ρ.t 3))) (y := 2 ^ 63 - (n + 1)) (by omega)
      omega
    have hzc : ∀ k, (Builtin.zeroCells (Value.int .i64 0).cells k).size = k := fun k => by
      have : (Value.int .i64 0).cells.size = 1 := rfl
      simp [Builtin.zeroCells, this]
    have hsrc' : ∀ a, ao = some a → ∀ (j : Nat) v, cs[j]? = some v → w.cell? (a.add j) = some v := by
      intro a ha j v hj
      have hl := (List.getElem?_eq_some_iff.1 hj).1
      rcases hsrc with h0 | ⟨b, c, el, fr, rfl, hb, hc⟩
      · omega
      · cases ha
        rw [Addr.add_lit, Nat.zero_add, cell_row hb]
        exact hc j v hj
    by_cases hin : i = n
    · subst hin
      refine (Any2.slices_Insert_int_end_grow L ao i cap vb 0 1 vc cs [x] w (by omega) hnc hroom (by omega) hcl rfl (fun h => ?_) hsrc' hv (by simpa using hy1)).mono ?_
      · rcases hsrc with h0 | ⟨b, c, el, fr, e1, _⟩
        · exact h0
        · rw [h] at e1; cases e1
      rintro e w' ⟨rfl, rfl⟩
      refine ⟨(sortWorld_drew w _).trans (sortWorld_alloc w.drew _), _, _, _, rfl, hG1, hG2, by show (w.heap.push _)[w.heap.size]? = _; rw [Array.getElem?_push, if_pos rfl], ?_, fun j hj => ?_⟩
      · simp only [Array.size_append, hzc, List.size_toArray, List.length_append, hcl, List.length_singleton]; omega
      · rw [Array.getElem?_append_left (by simp; omega), List.getElem?_toArray]
        by_cases h1 : j < i
        · rw [if_pos h1, List.getElem?_append_left (by omega)]
        · obtain rfl : j = i := by omega
          rw [if_neg h1, if_pos rfl, List.getElem?_append_right (by omega), hcl, Nat.sub_self]; rfl
    · have hlt : i < n := by omega
      rcases hsrc with h0 | ⟨b, c, el, fr, rfl, hb, hc⟩
      · omega
      refine (Any2.slices_Insert_int_grow L b 0 n cap i vb 0 1 vc cs [x] w hlt (by omega) hnc hroom (by omega) hcl rfl (fun j v hj => ?_) hv hone (by simpa using hy1)).mono ?_
      · rw [Nat.zero_add, cell_row hb]; exact hc j v hj
      rintro e w' ⟨rfl, rfl⟩
      obtain ⟨row0, hrow0⟩ : ∃ r, r = (cs.take i).toArray ++ Builtin.zeroCells (Value.int .i64 0).cells (n + 1 - i) ++ Builtin.zeroCells (Value.int .i64 0).cells (grownCap w (n + 1) cap (ρ.t 3) - (n + 1)) := ⟨_, rfl⟩
      rw [← hrow0]
      have hs0 : row0.size = grownCap w (n + 1) cap (ρ.t 3) := by
        rw [hrow0]
        simp only [Array.size_append, hzc, List.size_toArray, List.length_take, hcl]; omega
      have htk : ∀ j : Nat, j < i → row0[j]? = cs[j]? := by
        intro j hj
        rw [hrow0, Array.getElem?_append_left (by simp [hzc]; omega), Array.getElem?_append_left (by simp; omega), List.getElem?_toArray, List.getElem?_take_of_lt hj]
      have a1 : (w.alloc (.cells row0 (ρ.t 3))).drew.heap[w.heap.size]? = some (.cells row0 (ρ.t 3) (0, 0)) := by show (w.heap.push _)[w.heap.size]? = _; rw [Array.getElem?_push, if_pos rfl]
      obtain ⟨c1, r1, r2, r3⟩ := setCells_wrote w.heap.size [x] i _ row0 _ _ a1
      have a2 : ((w.alloc (.cells row0 (ρ.t 3))).drew.setCells w.heap.size i [x]).drew.heap[w.heap.size]? = some (.cells c1 (ρ.t 3) (0, 0)) := r1.here
      obtain ⟨c2, s1, s2, s3⟩ := setCells_wrote w.heap.size (cs.drop i) (i + 1) _ c1 _ _ a2
      have b1 := ((sortWorld_alloc w (.cells row0 (ρ.t 3))).trans (sortWorld_drew _ _)).trans (sortWorld_wrote r1)
      have b2 := (b1.trans (sortWorld_drew _ _)).trans (sortWorld_wrote s1)
      refine ⟨b2, _, c2, _, rfl, hG1, hG2, s1.here, by rw [s2, r2, hs0], fun j hj => ?_⟩
      rw [s3 j (by omega)]
      by_cases h1 : j < i
      · rw [if_neg (by omega), if_pos h1, r3 j (by omega), if_neg (by omega), htk j h1]
      · rw [if_neg h1]
        by_cases h2 : j = i
        · subst h2
          rw [if_neg (by omega), if_pos rfl, r3 j (by omega), if_pos (by simp), Nat.sub_self]; rfl
        · rw [if_pos (by rw [List.length_drop, hcl]; omega), if_neg h2, List.getElem?_drop]
          congr 1; omega
end Ax
