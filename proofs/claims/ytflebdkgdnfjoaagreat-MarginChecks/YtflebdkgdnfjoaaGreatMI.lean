import Derived.Test.YtflebdkgdnfjoaaGreatMH
import Derived.Test.YtflebdkgdnfjoaaGreatMD
import Derived.Test.YtflebdkgdnfjoaaGreatMF
import Derived.Test.YtflebdkgdnfjoaaGreatMG
set_option linter.unusedVariables false
set_option linter.unusedSimpArgs false
namespace Ax
open Go Go.RowKit
structure InsPrim (P : Program) (f : FuncId) : Prop where
  bodied : Bodied P f
  stay : ∀ (w : World) (b n cap i vb vc : Nat) (c cv : Array Value) (el ev : TypeId) (fr fv : Nat × Nat) (x : Value), w.heap[b]? = some (.cells c el fr) → w.heap[vb]? = some (.cells cv ev fv) → vb ≠ b → i ≤ n → n < 2000000000 → n + 1 ≤ cap → cap ≤ c.size → cap ≤ 9223372036854775807 →
    (∀ o, w.frozen? ⟨b, o, none⟩ = false) → (∀ o, w.frozen? ⟨vb, o, none⟩ = false) → cv[0]? = some x → x.oneCell' = true → (∀ (j : Nat) y, j < n → c[j]? = some y → y.oneCell' = true) →
    Calls P f #[.slice (some ⟨b, 0, none⟩) n cap, .int .i64 i, .slice (some ⟨vb, 0, none⟩) 1 vc] w fun e w' => e = .returned (.slice (some ⟨b, 0, none⟩) (n + 1) cap) ∧ SortWorld w b w' ∧
      ∃ c', w'.heap[b]? = some (.cells c' el fr) ∧ c'.size = c.size ∧ ∀ j : Nat, j < n + 1 → c'[j]? = if j < i then c[j]? else if j = i then some x else c[j - 1]?
  grow : ∀ (w : World) (ao : Option Addr) (n cap i vb vc : Nat) (cs : List Value) (cv : Array Value) (ev : TypeId) (fv : Nat × Nat) (x : Value), cs.length = n → (n = 0 ∨ ∃ b c el fr, ao = some ⟨b, 0, none⟩ ∧ w.heap[b]? = some (.cells c el fr) ∧ ∀ (j : Nat) v, cs[j]? = some v → c[j]? = some v) →
    w.heap[vb]? = some (.cells cv ev fv) → i ≤ n → n < 2000000000 → n ≤ cap → cap < n + 1 → cv[0]? = some x → x.oneCell' = true → (∀ v ∈ cs, v.oneCell' = true) →
    Calls P f #[.slice ao n cap, .int .i64 i, .slice (some ⟨vb, 0, none⟩) 1 vc] w fun e w' => SortWorld w w.heap.size w' ∧
      ∃ cap' row el, e = .returned (.slice (some ⟨w.heap.size, 0, none⟩) (n + 1) cap') ∧ n + 1 ≤ cap' ∧ cap' ≤ 9223372036854775807 ∧ w'.heap[w.heap.size]? = some (.cells row el) ∧ row.size = cap' ∧ ∀ j : Nat, j < n + 1 → row[j]? = if j < i then cs[j]? else if j = i then some x else cs[j - 1]?
section
variable {P : Program} {A : Amb} {nt : Nat} {pend : List (Nat × AObj)} {env : Env} {heap : Heap} {bor : Option (Nat × AV)} {tm : Array Value} {w : World} {U : Nat → Nat} {bl : Blocks} {ob : Loc → Option Nat}
theorem insertO_of {b i x v : AV} {id : Nat} {heap' : Heap} (h : insertO heap b i x = some (id, v, heap')) : ∃ n id2 g g2 k, b = .brow id 1 n ∧ i = .int .i64 ((k : Nat) : Int) ∧ x = .brow id2 1 1 ∧ heap.get id = .oarr 1 n g ∧ heap.get id2 = .oarr 1 1 g2 ∧ id ≠ id2 ∧ noRef id heap = true ∧ k ≤ n ∧ n < 2000000000 ∧
    v = .brow id 1 (n + 1) ∧ heap' = heap.set id (.oarr 1 (n + 1) (insV g k (g2 0).strip1)) := by
  unfold insertO at h
  split at h
  · rename_i id0 sz n i0 id2 sz2 m
    split at h
    · rename_i sz' n' g sz2' m' g2 hg hg2
      cases hc : ((Nat.beq sz 1 && Nat.beq sz' 1 && Nat.beq sz2 1 && Nat.beq sz2' 1 && Nat.beq n n' && Nat.beq m 1 && Nat.beq m' 1 && !Nat.beq id0 id2) && noRef id0 heap) with
      | false => rw [hc] at h; simp at h
      | true =>
        rw [hc] at h
        cases hr : (inRange i0 (n + 1) && Nat.blt n 2000000000) with
        | false => rw [hr] at h; simp at h
        | true =>
          rw [hr] at h
          simp only [cond_true, Option.some.injEq, Prod.mk.injEq] at h
          obtain ⟨rfl, rfl, rfl⟩ := h
          simp only [Bool.and_eq_true, beq_eq, blt_eq, decide_eq_true_eq, inRange, Bool.not_eq_true', decide_eq_false_iff_not] at hc hr
          obtain ⟨⟨⟨⟨⟨⟨⟨⟨rfl, rfl⟩, rfl⟩, rfl⟩, rfl⟩, rfl⟩, rfl⟩, hne⟩, hnr⟩ := hc
          refine ⟨n, id2, g, g2, i0.toNat, rfl, ?_, rfl, hg, hg2, hne, hnr, by omega, hr.2, rfl, rfl⟩
          rw [Int.toNat_of_nonneg hr.1.1]
    · simp at h
  · simp at h
theorem insV_at {g : Nat → AV} {i j : Nat} {v : AV} : insV g i v j = if j < i then (g j).strip1 else if j = i then v else (g (j - 1)).strip1 := by
  unfold insV
  rw [blt_eq, beq_eq]
  by_cases h1 : j < i
  · simp [h1]
  · by_cases h2 : j = i <;> simp [h1, h2]
theorem insert_calls (h : Rel P A nt pend env heap bor tm w U bl ob) {f : FuncId} (hf : InsPrim P f) {b i x v : AV} {id : Nat} {heap' : Heap} (hins : insertO heap b i x = some (id, v, heap')) {xb xi xx : Value}
    (hb : Rep w (forb A bl heap) U bl b xb) (hi : Rep w (forb A bl heap) U bl i xi) (hx : Rep w (forb A bl heap) U bl x xx) {d : Option Nat} (hd : ∀ t, d = some t → t < nt) :
    Calls P f #[xb, xi, xx] w fun e' w' => ∃ y, e' = .returned y ∧ ∃ U' bl' ob', Rel P A nt pend (setO (env.scrub id) d v) heap' bor (putO tm d y) w' U' bl' ob' := by
  obtain ⟨n, id2, g, g2, k, rfl, rfl, rfl, hg, hg2, hne, hnr, hkn, hnb, rfl, rfl⟩ := insertO_of hins
  obtain rfl := rep_int hi
  obtain ⟨ao2, cap2, rfl, b2, hb2, rfl⟩ : ∃ ao2 cap2, xx = .slice ao2 1 cap2 ∧ ∃ b2, bl[id2]? = some (some b2) ∧ ao2 = some ⟨b2, 0, none⟩ := by
    cases hx with
    | brow hn hz =>
      rcases hz with h0 | ⟨b2, z1, z2, _⟩
      · omega
      · exact ⟨_, _, rfl, b2, z1, z2⟩
  obtain ⟨cv, ev, fv, v1, v2, v3, v4, v5, v6, v7⟩ := obj_o h hb2 hg2
  obtain ⟨y0, hy0, hy1, hy2⟩ : ∃ y, cv[0]? = some y ∧ y.oneCell' = true ∧ ∀ q, (g2 0).strip1.cells[0]? = some q → Rep w (forb A bl heap) U [] q y ∧ Bare q := by
    have hl := v6 0 (by omega)
    obtain ⟨c0, hc0⟩ : ∃ c0, (g2 0).cells[0]? = some c0 := ⟨_, List.getElem?_eq_getElem (by omega)⟩
    obtain ⟨y, p1, p2, p3, _⟩ := v7 0 0 c0 (by omega) hc0
    refine ⟨y, by simpa using p1, p2, fun q hq => ?_⟩
    obtain ⟨l, l1, _, l3⟩ := strip1_cells (g2 0)
    rw [l1, l3, hc0] at hq
    simp only [Option.map_some, Option.some.injEq] at hq
    subst hq
    exact ⟨p3.stripC, stripC_bare _⟩
  have hvl : (g2 0).strip1.cells.length = 1 := by
    obtain ⟨l, l1, l2, _⟩ := strip1_cells (g2 0)
    rw [l1, l2]; exact v6 0 (by omega)
  have hscr := h.scrubE id
  have hio : (heap.get id).isO = true := by rw [hg]; rfl
  have hidb : id < bl.length := by rw [h.len]; exact get_dead_ne hg (by simp)
  have place : ∀ {c c' : Nat → Option Value} {w' : World} {F : Nat → Prop} {U' : Nat → Nat}, (∀ i, i < n → (g i).cells.length = 1) → (∀ (i j : Nat) x, i < n → (g i).cells[j]? = some x → ∃ y, c i = some y ∧ y.oneCell' = true ∧ Rep w (forb A bl heap) U [] x y) →
      (∀ j, j < n + 1 → c' j = if j < k then c j else if j = k then some y0 else c (j - 1)) → (∀ v x, Rep w (forb A bl heap) U [] v x → Rep w' F U' [] v x) → ∀ (i j : Nat) x, i < n + 1 → (insV g k (g2 0).strip1 i).cells[j]? = some x → ∃ y, c' (i * 1 + j) = some y ∧ y.oneCell' = true ∧ Rep w' F U' [] x y ∧ Bare x := by
    intro c c' w' F U' hl hc hc' hm i j x hi hx
    have one : ∀ i, i < n → ∀ x, (g i).strip1.cells[j]? = some x → j = 0 ∧ ∃ y, c i = some y ∧ y.oneCell' = true ∧ Rep w' F U' [] x y ∧ Bare x := by
      intro i hi x hx
      obtain ⟨l, l1, l2, l3⟩ := strip1_cells (g i)
      rw [l1, l3] at hx
      obtain ⟨x0, hx0, rfl⟩ := Option.map_eq_some_iff.1 hx
      have hj := (List.getElem?_eq_some_iff.1 hx0).1
      rw [hl i hi] at hj
      obtain ⟨y, p1, p2, p3⟩ := hc i j x0 hi hx0
      exact ⟨by omega, y, p1, p2, hm _ _ p3.stripC, stripC_bare _⟩
    rw [insV_at] at hx
    split at hx
    · rename_i hlt
      obtain ⟨rfl, y, p1, p2⟩ := one i (by omega) x hx
      exact ⟨y, by rw [Nat.mul_one, Nat.add_zero, hc' i hi, if_pos hlt]; exact p1, p2⟩
    · split at hx
      · rename_i hlt heq
        have hj := (List.getElem?_eq_some_iff.1 hx).1
        rw [hvl] at hj
        obtain rfl : j = 0 := by omega
        obtain ⟨q1, q2⟩ := hy2 x hx
        exact ⟨y0, by rw [Nat.mul_one, Nat.add_zero, hc' i hi, if_neg hlt, if_pos heq], hy1, hm _ _ q1, q2⟩
      · rename_i hlt hne2
        obtain ⟨rfl, y, p1, p2⟩ := one (i - 1) (by omega) x hx
        exact ⟨y, by rw [Nat.mul_one, Nat.add_zero, hc' i hi, if_neg hlt, if_neg hne2]; exact p1, p2⟩
  have lens : (∀ i, i < n → (g i).cells.length = 1) → ∀ i, i < n + 1 → (insV g k (g2 0).strip1 i).cells.length = 1 := by
    intro hl i hi
    have one : ∀ i, i < n → (g i).strip1.cells.length = 1 := by
      intro i hi
      obtain ⟨l, l1, l2, _⟩ := strip1_cells (g i)
      rw [l1, l2]; exact hl i hi
    rw [insV_at]
    split
    · exact one i (by omega)
    · split
      · exact hvl
      · exact one _ (by omega)
  cases hb with
  | @brow _ _ _ _ ao cap hn hz =>
  by_cases hst : n + 1 ≤ cap
  · rcases hz with h0 | ⟨b1, hbb, rfl, hblt, hcu, hcM⟩
    · omega
    obtain ⟨c, el, fr, q1, q2, q3, q4, q5, q6, q7⟩ := obj_o h hbb hg
    have hcs : cap ≤ c.size := by omega
    refine (hf.stay w b1 n cap k b2 cap2 c cv el ev fr fv y0 q1 v1 (fun e => hne (h.inj _ _ _ hbb (e ▸ hb2))) hkn hnb hst hcs hcM q5 v5 hy0 hy1 (fun j y hj hy => ?_)).mono ?_
    · obtain ⟨y', p1, p2, _⟩ := q7 j 0 _ hj (List.getElem?_eq_getElem (by rw [q6 j hj]; omega))
      rw [Nat.mul_one, Nat.add_zero, hy] at p1; cases p1; exact p2
    rintro e' w' ⟨rfl, hw, c', r1, r2, r3⟩
    let w1 : World := { w with heap := w.heap.setIfInBounds b1 (.cells c' el fr) }
    have hw1 : Wrote w b1 (.cells c' el fr) w1 := ⟨rfl, rfl, rfl, by simp [w1], by simp [w1, hblt], fun c hc => by show (w.heap.setIfInBounds b1 _)[c]? = _; rw [Array.getElem?_setIfInBounds, if_neg (fun e => hc e.symm)], rfl⟩
    have hext : Ext w1 U w' U := by
      refine ⟨hw.os, hw.tape, hw.output, by rw [hw1.size]; exact hw.size, fun k hk => ⟨?_, rfl⟩, hw.drawn⟩
      rw [hw1.size] at hk
      by_cases ek : k = b1
      · subst ek; rw [hw1.here, r1]
      · rw [hw1.other k ek]; exact hw.other k hk ek
    have hrel : Rel P A nt pend (env.scrub id) (heap.set id (.oarr 1 (n + 1) (insV g k (g2 0).strip1))) bor tm w1 U bl ob := by
      refine hscr.write hbb (by rw [hg]; simp) (.inr (by intro kt reg ents e; rw [hg] at e; cases e)) (by simp) (fun _ => h.fro id hio) hw1 (bor' := bor) (fun F hF hmono howns => ?_) (fun l _ _ => rfl) h.obinj (fun l c hl => h.obok l c hl) (fun j hj => rfl)
      have hFr : ∀ bl2 v x, Rep w (forb A bl heap) U bl2 v x → Rep w F U bl2 v x := fun bl2 v x hr => hr.mono ⟨fun c _ hf => .inl ((hF c).1 hf), fun c _ hc => ⟨Nat.le_refl _, fun o _ => rfl⟩, fun _ hb => ⟨hb, Nat.le_refl _⟩⟩ (BlLe.refl _)
      refine ⟨c', el, fr, hw1.here, q2, by rw [r2]; omega, by rw [r2]; exact q4, fun o => ?_, lens q6, fun i j x hi hx => ?_⟩
      · have := q5 o
        simp only [World.frozen?, hw1.here]
        simp only [World.frozen?, q1] at this
        exact this
      · obtain ⟨y, p1, p2, p3, p4⟩ := place (c := fun i => c[i]?) (c' := fun i => c'[i]?) q6 (fun i j x hi hx => by
            obtain ⟨y, p1, p2, p3, _⟩ := q7 i j x hi hx
            have hj := (List.getElem?_eq_some_iff.1 hx).1
            rw [q6 i hi] at hj
            obtain rfl : j = 0 := by omega
            exact ⟨y, by simpa using p1, p2, p3⟩) r3 (fun v x hr => hmono _ _ _ (hFr _ _ _ hr)) i j x hi hx
        exact ⟨y, p1, p2, p3, .bare p4⟩
    have hrel2 := hrel.ext hext
    cases d with
    | none => exact ⟨_, rfl, _, _, _, hrel2⟩
    | some d => exact ⟨_, rfl, _, _, _, hrel2.putG (hd d rfl) (fun _ => none) (.brow hst (.inr ⟨b1, hbb, rfl, Nat.lt_of_lt_of_le (by rw [hw1.size]; exact hblt) hext.size, hcu, hcM⟩)) (.bare (bare_of rfl)) (fun p b hb => by simp at hb)⟩
  · obtain ⟨cs, el0, hcl, hsrc, h1c, hpl, hgl⟩ : ∃ (cs : List Value) (u : Unit), cs.length = n ∧ (n = 0 ∨ ∃ b c el fr, ao = some ⟨b, 0, none⟩ ∧ w.heap[b]? = some (.cells c el fr) ∧ ∀ (j : Nat) v, cs[j]? = some v → c[j]? = some v) ∧ (∀ v ∈ cs, v.oneCell' = true) ∧
        (∀ (i j : Nat) x, i < n → (g i).cells[j]? = some x → ∃ y, cs[i]? = some y ∧ y.oneCell' = true ∧ Rep w (forb A bl heap) U [] x y) ∧ ∀ i, i < n → (g i).cells.length = 1 := by
      rcases hz with h0 | ⟨b1, hbb, rfl, hblt, hcu, hcM⟩
      · obtain rfl : n = 0 := by omega
        exact ⟨[], (), rfl, .inl rfl, fun v hv => by simp at hv, fun i j x hi => by omega, fun i hi => by omega⟩
      · obtain ⟨c, el, fr, q1, q2, q3, q4, q5, q6, q7⟩ := obj_o h hbb hg
        have hat : ∀ j, j < n → ((List.range n).map fun k => c.getD k undef)[j]? = c[j]? := by
          intro j hj
          have hlt : j < c.size := by omega
          rw [List.getElem?_map, List.getElem?_range hj]
          simp [Array.getD, hlt]
        refine ⟨(List.range n).map fun k => c.getD k undef, (), by simp, .inr ⟨b1, c, el, fr, rfl, q1, fun j v hj => ?_⟩, fun v hv => ?_, fun i j x hi hx => ?_, q6⟩
        · have hl := (List.getElem?_eq_some_iff.1 hj).1
          rw [← hat j (by simpa using hl)]; exact hj
        · obtain ⟨j, hj⟩ := List.getElem?_of_mem hv
          have hl : j < n := by simpa using (List.getElem?_eq_some_iff.1 hj).1
          obtain ⟨y', p1, p2, _⟩ := q7 j 0 _ hl (List.getElem?_eq_getElem (by rw [q6 j hl]; omega))
          rw [Nat.mul_one, Nat.add_zero] at p1
          rw [hat j hl, p1] at hj; cases hj; exact p2
        · obtain ⟨y, p1, p2, p3, _⟩ := q7 i j x hi hx
          have hj := (List.getElem?_eq_some_iff.1 hx).1
          rw [q6 i hi] at hj
          obtain rfl : j = 0 := by omega
          exact ⟨y, by rw [hat i hi]; simpa using p1, p2, p3⟩
    refine (hf.grow w ao n cap k b2 cap2 cs cv ev fv y0 hcl hsrc v1 hkn hnb hn (by omega) hy0 hy1 h1c).mono ?_
    rintro e' w' ⟨hw, cap', row, el, rfl, hc1, hcM, hrow, hrs, hrc⟩
    have hnew := hscr.rebind hg (.inl ⟨scrub_has id env, hnr⟩) (row := row) (e := el) (q := w.drawn) (n' := n + 1) (g' := insV g k (g2 0).strip1) (Nat.le_refl _) (by omega) (by omega) (lens hgl) (fun i j x hi hx => by
      obtain ⟨y, p1, p2, p3, p4⟩ := place (c := fun i => cs[i]?) (c' := fun i => row[i]?) hgl hpl hrc (fun v x hr => hr) i j x hi hx
      exact ⟨y, p1, p2, p3, .bare p4⟩)
    have hlt' := lt_of_some hrow
    have hext : Ext (rowW { w with drawn := w.drawn } row el) (rowU w U row.size) w' (rowU w U row.size) := by
      refine ⟨hw.os, hw.tape, hw.output, by simp [rowW]; omega, fun k hk => ⟨?_, rfl⟩, hw.drawn⟩
      have hk' : k < w.heap.size + 1 := by simpa [rowW] using hk
      by_cases e : k = w.heap.size
      · subst e; rw [hrow]; exact (rowW_block (w := { w with drawn := w.drawn }) row el).symm
      · rw [hw.other k (by omega) e]
        show _ = (w.heap.push _)[k]?
        rw [Array.getElem?_push, if_neg e]
    have hrel2 := hnew.ext hext
    cases d with
    | none => exact ⟨_, rfl, _, _, _, hrel2⟩
    | some d => exact ⟨_, rfl, _, _, _, hrel2.putG (hd d rfl) (fun _ => none) (.brow hc1 (.inr ⟨w.heap.size, by rw [List.getElem?_set, if_pos rfl, if_pos hidb], rfl, hlt', by simp [rowU, hrs], hcM⟩)) (.bare (bare_of rfl)) (fun p b hb => by simp at hb)⟩
theorem buildRow_run {F : Nat → Prop} {t : TypeId} {len : Nat} {ps : List (Nat × AV)} {qs : Array (Nat × Value)} {v : AV} (h : buildSliceAV P t len ps = some v)
    (hl : ps.length = qs.toList.length) (hq : ∀ (i : Nat) p q, ps[i]? = some p → qs.toList[i]? = some q → p.1 = q.1 ∧ Rep w F U bl p.2 q.2) :
    ∃ us e, (Instr.buildSlice t len qs).run P w = .ok (.slice (some ⟨w.heap.size, 0, none⟩) len len) (rowW w us e) ∧ us.size = len * tySz P e ∧ 0 < tySz P e ∧ len * tySz P e ≤ 16777216 ∧
      (∀ (m j : Nat) c, m < len → (∃ u, (partVals ps)[m]? = some u ∧ u.cells[j]? = some c) → ∃ y, us[m * tySz P e + j]? = some y ∧ y.oneCell' = true ∧ Rep w F U bl c y) ∧
      (∀ m, m < len → ∃ u, (partVals ps)[m]? = some u ∧ u.cells.length = tySz P e) ∧ (AV.isDataL (partVals ps) = true → v = .own (.vec (tySz P e) len (vlist (zeroElem P e) (partVals ps)))) ∧ (AV.isDataL (partVals ps) = false → ∃ l, v = .rvec l) := by
  unfold buildSliceAV at h
  cases hc : (inOrder 0 ps && Nat.beq ps.length len && allShape P (elemOfT P t) (partVals ps) && Nat.ble (len * tySz P (elemOfT P t)) 16777216 && Nat.blt 0 (tySz P (elemOfT P t))
      && hasZero P (elemOfT P t) && isSliceT P t) with
  | false => rw [hc] at h; simp at h
  | true =>
    rw [hc] at h
    simp only [cond_true] at h
    simp only [Bool.and_eq_true, beq_eq, ble_eq, blt_eq, decide_eq_true_eq] at hc
    obtain ⟨⟨⟨⟨⟨⟨c1, c2⟩, c3⟩, c4⟩, c5⟩, c6⟩, c7⟩ := hc
    obtain ⟨e, ht⟩ : ∃ e, tyD P t = .slice e := by unfold isSliceT at c7; cases hd : tyD P t <;> simp [hd] at c7; exact ⟨_, rfl⟩
    have he : elemOfT P t = e := by unfold elemOfT; rw [ht]
    rw [he] at h c3 c4 c5 c6
    obtain ⟨i, hi⟩ := info_size c5
    unfold hasZero at c6
    rw [hi] at c6
    simp only at c6
    obtain ⟨z, hz⟩ := Option.isSome_iff_exists.1 c6
    have hzr := (zeroAV_run (w := w) (F := F) (U := U) (bl := bl) (B := 0) hi hz).1
    have hvals : ∀ (m : Nat) p q, ps[m]? = some p → qs.toList[m]? = some q → RepL w F U bl p.2.cells q.2.cells.toList ∧ q.2.cells.size = tySz P e ∧ ∀ y ∈ q.2.cells.toList, y.oneCell' = true := by
      intro m p q hp hq'
      obtain ⟨s1, s2⟩ := sameShape_of (allShape_get c3 m p.2 (by rw [partVals_get, hp]; rfl))
      obtain ⟨k1, k2, _⟩ := rep_cells (hq m p q hp hq').2 s2
      exact ⟨k1, by have := k1.1; rw [s1] at this; simp at this; exact this.symm, k2⟩
    have hnum := inOrder_number ps qs.toList 0 c1 hl hq
    have hlen : (qs.toList.map (·.2)).length = len := by rw [List.length_map, ← hl, c2]
    have hzero : ((Array.range (len * tySz P e)).map (z.cells[· % z.cells.size]!)).size = len * tySz P e := by simp
    obtain ⟨us, h1, h2, h3, _⟩ := fill_rows (tySz P e) (qs.toList.map (·.2)) 0 ((Array.range (len * tySz P e)).map (z.cells[· % z.cells.size]!)) (fun u hu => by
      obtain ⟨q, hq', rfl⟩ := List.mem_map.1 hu
      obtain ⟨m, hm⟩ := List.mem_iff_getElem?.1 hq'
      have hlt : m < ps.length := by rw [hl]; exact (List.getElem?_eq_some_iff.1 hm).1
      exact (hvals m ps[m] q (List.getElem?_eq_getElem hlt) hm).2.1) (by rw [hlen, hzero]; simp)
    rw [← hnum] at h1
    have run : (Instr.buildSlice t len qs).run P w = .ok (.slice (some ⟨w.heap.size, 0, none⟩) len len) (rowW w us e) := by
      unfold Instr.buildSlice
      simp only [Sem.run_bind, run_und ht (by simp), Result.andThen_ok, run_size' c5]
      rw [if_neg (by omega)]
      by_cases h0 : len * tySz P e = 0
      · have hl0 : len = 0 := by rcases Nat.mul_eq_zero.1 h0 with h | h <;> omega
        subst hl0
        have hqn : qs.toList = [] := List.length_eq_zero_iff.1 (by rw [← hl, c2])
        have hus : us = #[] := by apply Array.eq_empty_of_size_eq_zero; rw [h2, hzero]; simp
        subst hus
        simp only [Nat.zero_mul, if_true, Sem.run_bind, Sem.run_pure, Result.andThen_ok, hqn, Instr.fill]
        have hr0 : (Array.range 0 : Array Nat) = #[] := rfl
        simp [newRow, rowW, hr0]
      · rw [if_neg h0]
        simp only [Sem.run_bind, hzr, Result.andThen_ok, Sem.run_pure]
        rw [h1]
        simp [newRow, rowW]
    have hcell : ∀ (m j : Nat) c, m < len → (∃ u, (partVals ps)[m]? = some u ∧ u.cells[j]? = some c) → ∃ y, us[m * tySz P e + j]? = some y ∧ y.oneCell' = true ∧ Rep w F U bl c y := by
      rintro m j c hm ⟨u, hu, hj⟩
      rw [partVals_get] at hu
      obtain ⟨p, hp, rfl⟩ := Option.map_eq_some_iff.1 hu
      have hlt : m < qs.toList.length := by rw [← hl, c2]; exact hm
      obtain ⟨k1, k2, k3⟩ := hvals m p qs.toList[m] hp (List.getElem?_eq_getElem hlt)
      have hjs : j < tySz P e := by
        have := (List.getElem?_eq_some_iff.1 hj).1
        rw [k1.1, Array.length_toList, k2] at this; exact this
      have := h3 m qs.toList[m].2 (by simp [List.getElem?_eq_getElem hlt]) j hjs
      rw [Nat.zero_add] at this
      have hy : qs.toList[m].2.cells[j]? = some (qs.toList[m].2.cells[j]'(by rw [k2]; exact hjs)) := by simp [k2, hjs]
      rw [hy] at this
      exact ⟨_, this, k3 _ (by simp), k1.2 j c _ hj (by simp)⟩
    have hval : ∀ (m : Nat), m < len → ∃ u, (partVals ps)[m]? = some u ∧ sameShape P e u = true := by
      intro m hm
      have : m < (partVals ps).length := by rw [partVals_length, c2]; exact hm
      exact ⟨_, List.getElem?_eq_getElem this, allShape_get c3 m _ (List.getElem?_eq_getElem this)⟩
    refine ⟨us, e, run, by rw [h2, hzero], c5, c4, hcell, fun m hm => let ⟨u, hu, hs⟩ := hval m hm; ⟨u, hu, (sameShape_of hs).1⟩, fun hdt => ?_, fun hdt => ?_⟩
    · simpa [hdt] using h.symm
    · cases hagg : tyAgg P e with
      | true => simp [hdt, hagg] at h
      | false =>
        simp only [hdt, hagg, cond_false, Bool.not_false, cond_true, Option.some.injEq] at h
        exact ⟨_, h.symm⟩
theorem buildO_sound (h : Rel P A nt pend env heap bor tm w U bl ob) (hA : A.bl0.length ≤ heap.length) {t : TypeId} {len sz n : Nat} {g : Nat → AV} {ps : List (Nat × AV)} {qs : Array (Nat × Value)} {d : Option Nat} (hd : ∀ t, d = some t → t < nt) (hs : buildO P t len ps = some (sz, n, g))
    (hl : ps.length = qs.toList.length) (hq : ∀ (i : Nat) p q, ps[i]? = some p → qs.toList[i]? = some q → p.1 = q.1 ∧ Rep w (forb A bl heap) U bl p.2 q.2) :
    ∃ r w' U' bl' ob', (Instr.buildSlice t len qs).run P w = .ok r w' ∧ Rel P A nt pend (setO env d (.brow heap.length sz n)) (heap ++ [.oarr sz n g]) bor (putO tm d r) w' U' bl' ob' := by
  unfold buildO at hs
  split at hs
  · rename_i sz0 n0 g0 hb
    cases hfl : ((partVals ps).all fun v => v.cells.all AV.flatR) with
    | false => rw [hfl] at hs; simp at hs
    | true =>
      rw [hfl] at hs
      simp only [cond_true, Option.some.injEq, Prod.mk.injEq] at hs
      obtain ⟨rfl, rfl, rfl⟩ := hs
      obtain ⟨us, e, run, k1, k2, k3, k4, k5, k6, k7⟩ := buildRow_run (P := P) (w := w) (U := U) (bl := bl) (F := forb A bl heap) hb hl hq
      cases hdt : AV.isDataL (partVals ps) with
      | false => obtain ⟨l, hl⟩ := k7 hdt; cases hl
      | true =>
        have hv := k6 hdt
        simp only [AV.own.injEq, AV.vec.injEq] at hv
        obtain ⟨rfl, rfl, rfl⟩ := hv
        have hlay := h.lay [.oarr (tySz P e) 0 fun _ => .undef]
        have hgid : Heap.get (heap ++ [.oarr (tySz P e) 0 fun _ => .undef]) heap.length = .oarr (tySz P e) 0 fun _ => .undef := by rw [heap_get_append, if_neg (by omega)]; simp [Heap.get]
        have hnone : (bl ++ List.replicate ([AObj.oarr (tySz P e) 0 fun _ => .undef] : Heap).length none)[heap.length]? = some none := by rw [← h.len]; simp
        have hg : ∀ i, i < n0 → ∃ u, vlist (zeroElem P e) (partVals ps) i = u ∧ (partVals ps)[i]? = some u ∧ u.cells.length = tySz P e := by
          intro i hi
          obtain ⟨u, hu, hs⟩ := k5 i hi
          exact ⟨u, by simp only [vlist, List.getD, hu, Option.getD_some], hu, hs⟩
        have hnew := hlay.rebind hgid (.inr hnone) (row := us) (e := e) (q := w.drawn) (n' := n0) (g' := vlist (zeroElem P e) (partVals ps)) (Nat.le_refl _) k2 (by rw [k1]; exact Nat.le_refl _) (fun i hi => by
            obtain ⟨u, hu, _, hs⟩ := hg i hi
            rw [hu]; exact hs) (fun i j x hi hx => by
            obtain ⟨u, hu, hu2, hs⟩ := hg i hi
            rw [hu] at hx
            obtain ⟨y, y1, y2, y3⟩ := k4 i j x hi ⟨u, hu2, hx⟩
            have hflat : x.flatR = true := by
              have := List.all_eq_true.1 hfl u (List.mem_of_getElem? hu2)
              exact List.all_eq_true.1 this x (List.mem_of_getElem? hx)
            exact ⟨y, y1, y2, (flat_any hflat y3 _ _ _ _).1, .bare (bare_of (by cases x <;> simp [AV.flatR] at hflat <;> rfl))⟩)
        have hidb : heap.length < (bl ++ List.replicate ([AObj.oarr (tySz P e) 0 fun _ => .undef] : Heap).length none).length := by simp [h.len]
        rw [set_last] at hnew
        have hput := hnew.put0 hd (v := .brow heap.length (tySz P e) n0) (x := .slice (some ⟨w.heap.size, 0, none⟩) n0 n0) (.brow (Nat.le_refl _) (.inr ⟨w.heap.size, by rw [List.getElem?_set, if_pos rfl, if_pos hidb], rfl, by simp [rowW], by simp [rowU, k1], by have := Nat.le_mul_of_pos_right n0 k2; omega⟩)) (fun own => .bare (bare_of rfl))
        obtain ⟨ob', hput⟩ := hput
        exact ⟨_, _, _, _, ob', run, hput⟩
  · simp at hs
end
end Ax

namespace Ax
open Go Go.RowKit
section
variable {P : Program} {A : Amb} {nt : Nat} {pend : List (Nat × AObj)} {env : Env} {heap : Heap} {bor : Option (Nat × AV)} {tm : Array Value} {w : World} {U : Nat → Nat} {bl : Blocks} {ob : Loc → Option Nat} {a : Act}
theorem take_sound {cx : Ctx} (hP : cx.P = P) (h : Rel P A nt pend env heap bor tm w U bl ob) {t : TypeId} {p v : AV} {x : Value} {heap' : Heap} (ht : takeAV cx heap t p = some (v, heap')) (hp : Rep w (forb A bl heap) U bl p x) {d : Option Nat} (hd : ∀ t, d = some t → t < nt) :
    ∃ y, (Instr.loadAt t x).run P w = .ok y w ∧ ∃ ob', Rel P A nt pend (setO env d v) heap' bor (putO tm d y) w U bl ob' := by
  subst hP
  unfold takeAV at ht
  split at ht
  · rename_i id off
    split at ht
    · rename_i cs hg
      split at ht
      · rename_i v0 hpart
        cases hc : (!tyAgg cx.P t && v0.scal) with
        | false => rw [hc] at ht; simp at ht
        | true =>
          rw [hc] at ht
          simp only [cond_true, Option.some.injEq, Prod.mk.injEq] at ht
          obtain ⟨rfl, rfl⟩ := ht
          simp only [Bool.and_eq_true, Bool.not_eq_true'] at hc
          obtain ⟨hna, hsc⟩ := hc
          cases hp with
          | @ptr _ _ _ b hb =>
            have hobj := h.objs id b hb
            rw [hg] at hobj
            obtain ⟨c, e, fr, o1, o2, o3, o4⟩ := hobj
            unfold partAV at hpart
            rw [hna] at hpart
            simp only [cond_false] at hpart
            cases hk : ((cx.P.underlying t).isSome && Nat.beq (tySz cx.P t) 1) with
            | false => simp [hk] at hpart
            | true =>
              simp only [hk, cond_true] at hpart
              simp only [Bool.and_eq_true] at hk
              have hcs := (oneAV_some hpart).1
              have hol := (List.getElem?_eq_some_iff.1 hcs).1
              have holc : off < c.size := by omega
              have hy : c[off]? = some c[off] := by simp [holc]
              obtain ⟨r1, r2⟩ := o4 off v0 c[off] hcs hy
              have hrun : (Instr.loadAt t (.pointer (some ⟨b, off, none⟩))).run cx.P w = .ok c[off] w := by
                have hcell : w.cell? ⟨b, off, none⟩ = some c[off] := by rw [cell_row o1]; exact hy
                simp [Instr.loadAt, Instr.sureAddr, loadVar, run_agg hk.1, hna, hcell]
              refine ⟨c[off], hrun, ?_⟩
              have hw : Wrote w b (.cells c e fr) w := ⟨rfl, rfl, rfl, rfl, o1, fun _ _ => rfl, rfl⟩
              let ob1 : Loc → Option Nat := fun l => match l with | .cell j i p => if j = id ∧ i = off then none else ob (.cell j i p) | l => ob l
              have hob1 : ∀ l c, ob1 l = some c → ob l = some c ∧ ∀ p, l ≠ .cell id off p := by
                intro l c hl
                cases l with
                | env t p => exact ⟨hl, fun p h => by cases h⟩
                | mapv j i p => exact ⟨hl, fun p h => by cases h⟩
                | cell j i p =>
                  simp only [ob1] at hl
                  by_cases e : j = id ∧ i = off
                  · rw [if_pos e] at hl; cases hl
                  · rw [if_neg e] at hl; exact ⟨hl, fun q hq => by injection hq with h1 h2; exact e ⟨h1, h2⟩⟩
              have hrel : Rel cx.P A nt pend env (heap.set id (.cells (setRange cs off [v0.strip]))) bor tm w U bl ob1 := by
                refine h.write hb (by rw [hg]; simp) (.inr (by intro kt reg ents e; rw [hg] at e; cases e)) (by simp) (by simp [AObj.isO]) hw (bor' := bor) (fun F hF hmono howns => ?_) (fun l hn1 hn2 => ?_) (fun l m c hl hm => h.obinj l m c (hob1 l c hl).1 (hob1 m c hm).1) (fun l c hl => h.obok l c (hob1 l c hl).1) (fun j hj => rfl)
                · have hFr : ∀ bl2 v x, Rep w (forb A bl heap) U bl2 v x → Rep w F U bl2 v x := fun bl2 v x hr => hr.mono ⟨fun c _ hf => .inl ((hF c).1 hf), fun c _ hc => ⟨Nat.le_refl _, fun o _ => rfl⟩, fun _ hb => ⟨hb, Nat.le_refl _⟩⟩ (BlLe.refl _)
                  have hFo : ∀ own v x, OwnAt w (forb A bl heap) U A.B own v x → OwnAt w F U A.B own v x := fun own v x ho => ownAt_keeps ho ⟨fun c _ hf => .inl ((hF c).1 hf), fun c _ hc => ⟨Nat.le_refl _, fun o _ => rfl⟩, fun _ hb => ⟨hb, Nat.le_refl _⟩⟩ (fun p c _ _ hn => ⟨rfl, rfl, fun hf => hn ((hF c).1 hf)⟩)
                  refine ⟨c, e, fr, o1, by rw [setRange_length]; exact o2, o3, fun i y z hy' hz => ?_⟩
                  rw [setRange_get] at hy'
                  by_cases e1 : i = off
                  · subst e1
                    rw [if_pos ⟨Nat.le_refl _, by simp, hol⟩] at hy'
                    simp at hy'
                    subst hy'
                    have : z = c[i] := by rw [hy] at hz; exact (Option.some.inj hz).symm
                    subst this
                    exact ⟨hFr _ _ _ r1.strip, .bare (strip_bare _)⟩
                  · rw [if_neg (by simp; omega)] at hy'
                    obtain ⟨q1, q2⟩ := o4 i y z hy' hz
                    refine ⟨hFr _ _ _ q1, ?_⟩
                    have e2 : (fun p => ob1 (.cell id i p)) = fun p => ob (.cell id i p) := by
                      funext p; simp only [ob1]; rw [if_neg (fun q => e1 q.2)]
                    show OwnAt w F U A.B (fun p => ob1 (.cell id i p)) y z
                    rw [e2]; exact hFo _ _ _ q2
                · cases l with
                  | env t p => rfl
                  | mapv j i p => rfl
                  | cell j i p =>
                    simp only [ob1]
                    rw [if_neg]
                    rintro ⟨rfl, _⟩
                    exact hn1 i p rfl
              cases d with
              | none => exact ⟨_, hrel⟩
              | some d =>
                have hfb : ∀ c, forb A bl (heap.set id (.cells (setRange cs off [v0.strip]))) c → forb A bl heap c := by
                  rintro c (hf | ⟨j, hj, hdd⟩)
                  · exact .inl hf
                  · refine .inr ⟨j, hj, ?_⟩
                    rw [heap_get_set] at hdd
                    by_cases e1 : id = j ∧ j < heap.length
                    · rw [← e1.1, hg]; simp
                    · rw [if_neg e1] at hdd; exact hdd
                have gr : Grow0 w (forb A bl heap) U w (forb A bl (heap.set id (.cells (setRange cs off [v0.strip])))) U := ⟨fun c _ hf => .inl (hfb c hf), fun c _ _ => ⟨Nat.le_refl _, fun _ _ => rfl⟩, fun _ hb => ⟨hb, Nat.le_refl _⟩⟩
                rcases unnil_cases v0 with hu | ⟨s2, g2, hv0, hu⟩
                · rw [hu]
                  refine ⟨_, hrel.putG (hd d rfl) (fun r => ob (.cell id off r)) (r1.mono gr (BlLe.refl _)) (ownAt_keeps r2 gr (fun r c _ _ hn => ⟨rfl, rfl, fun hf => hn (hfb c hf)⟩)) (fun r c hr => ⟨h.obok _ _ hr, fun r2 hr2 => ?_, fun l hl => ?_⟩)⟩
                  · have := h.obinj _ _ c hr hr2
                    injection this
                  · obtain ⟨l1, l2⟩ := hob1 l c hl
                    exact absurd (h.obinj _ _ c l1 hr) (l2 r)
                · rw [hu]
                  rw [hv0] at r1
                  obtain ⟨ao, hy2⟩ : ∃ ao, c[off] = .slice ao 0 0 := by
                    generalize c[off] = y at r1
                    cases r1
                    exact ⟨_, rfl⟩
                  rw [hy2]
                  exact ⟨_, hrel.putG (hd d rfl) (fun _ => none) (.own (.vec (Nat.le_refl _) (fun _ _ => undef) (fun h => absurd h (by omega)) (fun i hi => absurd hi (by omega)) (fun i j hi => absurd hi (by omega)) (fun i j c hi => absurd hi (by omega)))) (own_nil (.inl rfl)) (fun p b hb => by simp at hb)⟩
      · simp at ht
    · simp at ht
  · rename_i id sz i off
    split at ht
    · rename_i sz' n g hg
      cases hc0 : (Nat.beq sz sz' && Nat.blt i n) with
      | false => rw [hc0] at ht; simp at ht
      | true =>
        rw [hc0] at ht
        simp only [cond_true] at ht
        simp only [Bool.and_eq_true, beq_eq, blt_eq, decide_eq_true_eq] at hc0
        obtain ⟨rfl, hi⟩ := hc0
        split at ht
        · rename_i v0 hpart
          cases hc : (!tyAgg cx.P t && v0.scal) with
          | false => rw [hc] at ht; simp at ht
          | true =>
            rw [hc] at ht
            simp only [cond_true, Option.some.injEq, Prod.mk.injEq] at ht
            obtain ⟨rfl, rfl⟩ := ht
            simp only [Bool.and_eq_true, Bool.not_eq_true'] at hc
            cases hp with
            | @eptr _ _ _ _ _ b hb => exact takeO_sound h hb hg hi hpart hc.1 hc.2 hd
        · simp at ht
    · simp at ht
  · simp at ht
theorem Rel.cellPut (h : Rel P A nt pend env heap bor tm w U bl ob) {id off b : Nat} {cs : List AV} (hg : heap.get id = .cells cs) (hb : bl[id]? = some (some b)) (hol : off < cs.length) {v : AV} (hbare : Bare v)
    (hv : ∀ c e fr y, w.heap[b]? = some (.cells c e fr) → c[off]? = some y → Rep w (forb A bl heap) U bl v y) :
    Rel P A nt pend env (heap.set id (.cells (setRange cs off [v]))) bor tm w U bl (fun l => match l with | .cell j i p => if j = id ∧ i = off then none else ob (.cell j i p) | l => ob l) := by
  have hobj := h.objs id b hb
  rw [hg] at hobj
  obtain ⟨c, e, fr, o1, o2, o3, o4⟩ := hobj
  have holc : off < c.size := by omega
  have hy : c[off]? = some c[off] := by simp [holc]
  have hv := hv c e fr _ o1 hy
  have hw : Wrote w b (.cells c e fr) w := ⟨rfl, rfl, rfl, rfl, o1, fun _ _ => rfl, rfl⟩
  let ob1 : Loc → Option Nat := fun l => match l with | .cell j i p => if j = id ∧ i = off then none else ob (.cell j i p) | l => ob l
  have hob1 : ∀ l c, ob1 l = some c → ob l = some c ∧ ∀ p, l ≠ .cell id off p := by
    intro l c hl
    cases l with
    | env t p => exact ⟨hl, fun p h => by cases h⟩
    | mapv j i p => exact ⟨hl, fun p h => by cases h⟩
    | cell j i p =>
      simp only [ob1] at hl
      by_cases e : j = id ∧ i = off
      · rw [if_pos e] at hl; cases hl
      · rw [if_neg e] at hl; exact ⟨hl, fun q hq => by injection hq with h1 h2; exact e ⟨h1, h2⟩⟩
  show Rel P A nt pend env (heap.set id (.cells (setRange cs off [v]))) bor tm w U bl ob1
  refine h.write hb (by rw [hg]; simp) (.inr (by intro kt reg ents e; rw [hg] at e; cases e)) (by simp) (by simp [AObj.isO]) hw (bor' := bor) (fun F hF hmono howns => ?_) (fun l hn1 hn2 => ?_) (fun l m c hl hm => h.obinj l m c (hob1 l c hl).1 (hob1 m c hm).1) (fun l c hl => h.obok l c (hob1 l c hl).1) (fun j hj => rfl)
  · have hFr : ∀ bl2 v x, Rep w (forb A bl heap) U bl2 v x → Rep w F U bl2 v x := fun bl2 v x hr => hr.mono ⟨fun c _ hf => .inl ((hF c).1 hf), fun c _ hc => ⟨Nat.le_refl _, fun o _ => rfl⟩, fun _ hb => ⟨hb, Nat.le_refl _⟩⟩ (BlLe.refl _)
    have hFo : ∀ own v x, OwnAt w (forb A bl heap) U A.B own v x → OwnAt w F U A.B own v x := fun own v x ho => ownAt_keeps ho ⟨fun c _ hf => .inl ((hF c).1 hf), fun c _ hc => ⟨Nat.le_refl _, fun o _ => rfl⟩, fun _ hb => ⟨hb, Nat.le_refl _⟩⟩ (fun p c _ _ hn => ⟨rfl, rfl, fun hf => hn ((hF c).1 hf)⟩)
    refine ⟨c, e, fr, o1, by rw [setRange_length]; exact o2, o3, fun i y z hy' hz => ?_⟩
    rw [setRange_get] at hy'
    by_cases e1 : i = off
    · subst e1
      rw [if_pos ⟨Nat.le_refl _, by simp, hol⟩] at hy'
      simp at hy'
      subst hy'
      have : z = c[i] := by rw [hy] at hz; exact (Option.some.inj hz).symm
      subst this
      exact ⟨hFr _ _ _ hv, .bare hbare⟩
    · rw [if_neg (by simp; omega)] at hy'
      obtain ⟨q1, q2⟩ := o4 i y z hy' hz
      refine ⟨hFr _ _ _ q1, ?_⟩
      have e2 : (fun p => ob1 (.cell id i p)) = fun p => ob (.cell id i p) := by
        funext p; simp only [ob1]; rw [if_neg (fun q => e1 q.2)]
      show OwnAt w F U A.B (fun p => ob1 (.cell id i p)) y z
      rw [e2]; exact hFo _ _ _ q2
  · cases l with
    | env t p => rfl
    | mapv j i p => rfl
    | cell j i p =>
      simp only [ob1]
      rw [if_neg]
      rintro ⟨rfl, _⟩
      exact hn1 i p rfl
theorem openC_sound (h : Rel P A nt pend env heap bor tm w U bl ob) {s id off : Nat} {cs : List AV} (hs : env.get s = .ptr id off) (hg : heap.get id = .cells cs) : Rel P A nt pend env (heap.set id (.cells (cs.map AV.unnil))) bor tm w U bl ob := by
  obtain ⟨r0, _⟩ := h.env s
  rw [hs] at r0
  obtain ⟨b, hb⟩ : ∃ b : Nat, bl[id]? = some (some b) := by
    generalize tm.getD s undef = x at r0
    cases r0 with | @ptr _ _ _ b hb => exact ⟨b, hb⟩
  have hobj := h.objs id b hb
  rw [hg] at hobj
  obtain ⟨c, e, fr, o1, o2, o3, o4⟩ := hobj
  have hw : Wrote w b (.cells c e fr) w := ⟨rfl, rfl, rfl, rfl, o1, fun _ _ => rfl, rfl⟩
  refine h.write hb (by rw [hg]; simp) (.inr (by intro kt reg ents e; rw [hg] at e; cases e)) (by simp) (by simp [AObj.isO]) hw (bor' := bor) (fun F hF hmono howns => ?_) (fun l _ _ => rfl) h.obinj (fun l c hl => h.obok l c hl) (fun j hj => rfl)
  have hFr : ∀ bl2 v x, Rep w (forb A bl heap) U bl2 v x → Rep w F U bl2 v x := fun bl2 v x hr => hr.mono ⟨fun c _ hf => .inl ((hF c).1 hf), fun c _ hc => ⟨Nat.le_refl _, fun o _ => rfl⟩, fun _ hb => ⟨hb, Nat.le_refl _⟩⟩ (BlLe.refl _)
  have hFo : ∀ own v x, OwnAt w (forb A bl heap) U A.B own v x → OwnAt w F U A.B own v x := fun own v x ho => ownAt_keeps ho ⟨fun c _ hf => .inl ((hF c).1 hf), fun c _ hc => ⟨Nat.le_refl _, fun o _ => rfl⟩, fun _ hb => ⟨hb, Nat.le_refl _⟩⟩ (fun p c _ _ hn => ⟨rfl, rfl, fun hf => hn ((hF c).1 hf)⟩)
  refine ⟨c, e, fr, o1, by simpa using o2, o3, fun i x y hx hy => ?_⟩
  rw [List.getElem?_map] at hx
  obtain ⟨x0, hx0, rfl⟩ := Option.map_eq_some_iff.1 hx
  obtain ⟨q1, q2⟩ := o4 i x0 y hx0 hy
  rcases unnil_cases x0 with hu | ⟨sz, g, rfl, hu⟩
  · rw [hu]; exact ⟨hFr _ _ _ q1, hFo _ _ _ q2⟩
  · rw [hu]
    cases q1 with
    | nils => exact ⟨.own (.vec (Nat.le_refl _) (fun _ _ => undef) (fun h => absurd h (by omega)) (fun i hi => absurd hi (by omega)) (fun i j hi => absurd hi (by omega)) (fun i j c hi => absurd hi (by omega))), own_nil (.inl rfl)⟩
theorem Rel.adoptB (h0 : Rel P A nt pend env heap bor tm w U bl ob) {b sz n : Nat} {g : Nat → AV} (e3 : A.B ≤ b) (e4 : ¬ forb A bl heap b) (e5 : U b = 0) (hG : ¬ A.G b) (hnb : ∀ id : Nat, bl[id]? ≠ some (some b)) (hnob : ∀ l, ob l ≠ some b) (hsz : 0 < sz)
    (hx : ∃ c e fr, w.heap[b]? = some (.cells c e fr) ∧ n * sz ≤ c.size ∧ (∀ o, o < c.size → w.frozen? ⟨b, o, none⟩ = false) ∧ (∀ i, i < n → (g i).cells.length = sz) ∧
        ∀ (i j : Nat) q, i < n → (g i).cells[j]? = some q → ∃ y, c[i * sz + j]? = some y ∧ y.oneCell' = true ∧ Rep w (forb A bl heap) U [] q y) :
    Rel P A nt pend env (heap ++ [.arr sz n g]) bor tm w U (bl ++ [some b]) ob := by
  obtain ⟨c, el, fr, e7, e8, e9, e10, e11⟩ := hx
  have hblt := lt_of_some e7
  have hgl : ∀ (j c : Nat), (bl ++ [some b])[j]? = some (some c) ↔ bl[j]? = some (some c) ∨ (j = bl.length ∧ c = b) := by
    intro j c
    rw [List.getElem?_append]
    split
    · rename_i hlt
      constructor
      · exact .inl
      · rintro (h | ⟨h, _⟩)
        · exact h
        · omega
    · rename_i hge
      constructor
      · intro hh
        have := (List.getElem?_eq_some_iff.1 hh).1
        simp at this
        have e0 : j - bl.length = 0 := this
        rw [e0] at hh
        simp at hh
        exact .inr ⟨by omega, hh.symm⟩
      · rintro (h | ⟨rfl, rfl⟩)
        · rw [List.getElem?_eq_none (by omega)] at h; cases h
        · simp
  have hgh : ∀ j, j < heap.length → Heap.get (heap ++ [.arr sz n g]) j = heap.get j := fun j hj => by rw [heap_get_append, if_pos hj]
  have hgn : Heap.get (heap ++ [.arr sz n g]) heap.length = .arr sz n g := by rw [heap_get_append, if_neg (by omega)]; simp [Heap.get]
  have hle : BlLe bl (bl ++ [some b]) := fun j c hj => (hgl j c).2 (.inl hj)
  have hbl : ∀ (j c : Nat), bl[j]? = some (some c) → j < heap.length := fun j c hj => by rw [← h0.len]; exact (List.getElem?_eq_some_iff.1 hj).1
  have hforb : ∀ c, forb A (bl ++ [some b]) (heap ++ [.arr sz n g]) c ↔ forb A bl heap c ∨ c = b := by
    intro c
    constructor
    · rintro (hf | ⟨j, hj, hd⟩)
      · exact .inl (.inl hf)
      · rcases (hgl j c).1 hj with hj' | ⟨_, rfl⟩
        · rw [hgh j (hbl j c hj')] at hd; exact .inl (.inr ⟨j, hj', hd⟩)
        · exact .inr rfl
    · rintro ((hf | ⟨j, hj, hd⟩) | rfl)
      · exact .inl hf
      · exact .inr ⟨j, (hgl j c).2 (.inl hj), by rw [hgh j (hbl j c hj)]; exact hd⟩
      · exact .inr ⟨bl.length, (hgl _ _).2 (.inr ⟨rfl, rfl⟩), by rw [h0.len, hgn]; simp⟩
  have g0 : Grow0 w (forb A bl heap) U w (forb A (bl ++ [some b]) (heap ++ [.arr sz n g])) U := by
    refine ⟨fun c _ hf => ?_, fun c _ _ => ⟨Nat.le_refl _, fun _ _ => rfl⟩, fun _ hb => ⟨hb, Nat.le_refl _⟩⟩
    rcases (hforb c).1 hf with hf | rfl
    · exact .inl hf
    · exact .inr e5
  have kp : ∀ l c, ob l = some c → c < w.heap.size → ¬ forb A bl heap c → w.heap[c]? = w.heap[c]? ∧ U c = U c ∧ ¬ forb A (bl ++ [some b]) (heap ++ [.arr sz n g]) c := by
    intro l c hl _ hn
    refine ⟨rfl, rfl, fun hf => ?_⟩
    rcases (hforb c).1 hf with hf | rfl
    · exact hn hf
    · exact hnob l hl
  refine { size := h0.size, env := fun t => ?_, len := by simp [h0.len], objs := ?_, inj := ?_, base := ?_, obinj := h0.obinj, obok := fun l c hl => ⟨(h0.obok l c hl).1, (h0.obok l c hl).2.1, fun j hj => ?_⟩, since := ?_, f0 := h0.f0, hB := h0.hB, hG := h0.hG, pend := ?_, fro := fun j hj => (by
    rw [heap_get_append] at hj
    split at hj
    · exact h0.fro j hj
    · have := h0.since.blen; have := h0.len; omega) }
  · have := h0.env t
    exact ⟨this.1.mono g0 hle, ownAt_keeps this.2 g0 (fun p c hc => kp (.env t p) c hc)⟩
  · intro j c1 hj
    rcases (hgl j c1).1 hj with hj' | ⟨rfl, rfl⟩
    · rw [hgh j (hbl j c1 hj')]
      refine obj_keeps (h0.objs j c1 hj') g0 hle rfl (fun _ => rfl) (fun _ _ _ _ _ _ => rfl) (fun d hd => ?_)
      rcases hd with ⟨i, p, hd⟩ | ⟨i, p, hd⟩
      · exact kp (.cell j i p) d hd
      · exact kp (.mapv j i p) d hd
    · rw [h0.len, hgn]
      exact ⟨c, el, fr, e7, hsz, e8, e9, e10, fun i j x hi hx => let ⟨y, h1, h2, h3⟩ := e11 i j x hi hx; ⟨y, h1, h2, h3.mono g0 (BlLe.refl _)⟩⟩
  · intro i j c hi hj
    rcases (hgl i c).1 hi with hi' | ⟨rfl, rfl⟩ <;> rcases (hgl j c).1 hj with hj' | ⟨rfl, e⟩
    · exact h0.inj i j c hi' hj'
    · subst e; exact absurd hi' (hnb i)
    · exact absurd hj' (hnb j)
    · rfl
  · intro j c hj
    rcases (hgl j c).1 hj with hj' | ⟨_, rfl⟩
    · exact h0.base j c hj'
    · refine ⟨e3, hblt, fun hf => ?_, hG⟩
      have := h0.f0 _ hf; omega
  · rcases (hgl j c).1 hj with hj' | ⟨_, rfl⟩
    · exact (h0.obok l c hl).2.2 j hj'
    · exact hnob l hl
  · refine { below := h0.since.below, g0 := h0.since.g0.trans g0 h0.since.below.size, ble := h0.since.ble.trans hle, pnd := fun j hj => ?_, gown := h0.since.gown, blen := (by simp; have := h0.since.blen; omega), ub := h0.since.ub }
    obtain ⟨p1, p2⟩ := h0.since.pnd j hj
    have hl := (List.getElem?_eq_some_iff.1 p1).1
    exact ⟨by rw [List.getElem?_append_left hl]; exact p1, by rw [hgh j (by rw [← h0.len]; exact hl)]; exact p2⟩
  · intro p hp
    obtain ⟨p1, p2, p3⟩ := h0.pend p hp
    have hl := (List.getElem?_eq_some_iff.1 p1).1
    exact ⟨by rw [List.getElem?_append_left hl]; exact p1, by rw [hgh p.1 (by rw [← h0.len]; exact hl)]; exact p2, p3⟩
theorem freezeC_sound (h : Rel P A nt [] env heap bor tm w U bl ob) {s id off id2 sz lo n n' : Nat} {g : Nat → AV} {cs : List AV} (hs : env.get s = .ptr id off) (hg : heap.get id = .cells cs) (hc : cs[off]? = some (.row id2 sz lo n)) (hg2 : heap.get id2 = .arr sz n' g) (hle : lo + n ≤ n') :
    ∃ U' bl' ob', Rel P A nt [] env ((heap.set id2 .dead).set id (.cells (setRange cs off [.vec sz n (fun j => g (lo + j))]))) bor tm w U' bl' ob' := by
  obtain ⟨r0, _⟩ := h.env s
  rw [hs] at r0
  obtain ⟨b, hb⟩ : ∃ b : Nat, bl[id]? = some (some b) := by
    generalize tm.getD s undef = x at r0
    cases r0 with | @ptr _ _ _ b hb => exact ⟨b, hb⟩
  have hol := (List.getElem?_eq_some_iff.1 hc).1
  have hne : ¬ id2 = id := fun e => by rw [e, hg] at hg2; cases hg2
  have hobj := h.objs id b hb
  rw [hg] at hobj
  obtain ⟨c, e, fr, o1, o2, o3, o4⟩ := hobj
  have holc : off < c.size := by omega
  have hy : c[off]? = some c[off] := by simp [holc]
  have r1 := (o4 off _ c[off] hc hy).1
  obtain ⟨U', h1, hU, g0⟩ := arr_killed h hg2
  refine ⟨U', _, _, h1.cellPut (by rw [heap_get_set, if_neg (fun e => hne e.1)]; exact hg) hb hol (v := .vec sz n (fun j => g (lo + j))) (bare_of rfl) (fun c' e' fr' y' q1 q2 => ?_)⟩
  rw [o1] at q1; injection q1 with q1; injection q1 with q1; subst q1
  rw [hy] at q2; injection q2 with q2; subst q2
  generalize c[off] = x at r1 ⊢
  cases r1 with
  | @row _ _ _ _ _ ao cap hcap hz =>
    rcases Nat.eq_zero_or_pos n with hn | hn
    · subst hn
      exact .vec hcap (fun _ _ => undef) (fun h => absurd h (by omega)) (fun i hi => absurd hi (by omega)) (fun i j hi _ => absurd hi (by omega)) (fun i j c hi _ => absurd hi (by omega))
    · obtain ⟨b2, hb2, rfl⟩ := hz hn
      obtain ⟨c2, el, fr2, k1, k2, k3, k4, k5, k6⟩ := arr_obj h hb2 hg2
      obtain ⟨hn2, hk⟩ := hU b2 hb2
      have hmul : (lo + n) * sz ≤ n' * sz := Nat.mul_le_mul_right _ hle
      have hsp : (lo + n) * sz = lo * sz + n * sz := Nat.add_mul _ _ _
      refine .vec hcap (fun i j => c2.getD (lo * sz + i * sz + j) undef) (fun _ => ⟨k2, ⟨b2, lo * sz, none⟩, rfl, rfl, hn2, by show lo * sz + n * sz ≤ U' b2; omega, fun i j hi hj => ?_⟩) (fun i hi => k5 _ (by omega)) (fun i j hi hj => ?_) (fun i j x hi hx => ?_)
      · rw [cell_row k1]
        have : lo * sz + i * sz + j < c2.size := by have := index_mul (sz := sz) hi; omega
        simp [Array.getD, this]
      · obtain ⟨y, h1, h2, _⟩ := k6 (lo + i) j _ (by omega) (List.getElem?_eq_getElem (by rw [k5 _ (by omega)]; exact hj))
        rw [Nat.add_mul] at h1
        have hl := (Array.getElem?_eq_some_iff.1 h1).1
        have hv := (Array.getElem?_eq_some_iff.1 h1).2
        have : c2.getD (lo * sz + i * sz + j) undef = y := by rw [Array.getD, dif_pos hl]; exact hv
        rw [this]; exact h2
      · obtain ⟨y, h1, _, h3⟩ := k6 (lo + i) j x (by omega) hx
        rw [Nat.add_mul] at h1
        have hl := (Array.getElem?_eq_some_iff.1 h1).1
        have hv := (Array.getElem?_eq_some_iff.1 h1).2
        have : c2.getD (lo * sz + i * sz + j) undef = y := by rw [Array.getD, dif_pos hl]; exact hv
        rw [this]; exact h3.mono g0 (BlLe.refl _)
theorem adoptC_sound (h : Rel P A nt pend env heap bor tm w U bl ob) {s id off sz n : Nat} {g : Nat → AV} {cs : List AV} (hs : env.get s = .ptr id off) (hg : heap.get id = .cells cs) (hc : cs[off]? = some (.uni (.vec sz n g))) :
    ∃ bl' ob', Rel P A nt pend env (Heap.set (Heap.set heap id (.cells (setRange cs off [(AV.uni (.vec sz n g)).strip])) ++ [.arr sz n g]) id (.cells (setRange (setRange cs off [(AV.uni (.vec sz n g)).strip]) off [.row heap.length sz 0 n]))) bor tm w U bl' ob' := by
  obtain ⟨r0, _⟩ := h.env s
  rw [hs] at r0
  obtain ⟨b, hb⟩ : ∃ b : Nat, bl[id]? = some (some b) := by
    generalize tm.getD s undef = x at r0
    cases r0 with | @ptr _ _ _ b hb => exact ⟨b, hb⟩
  have hol := (List.getElem?_eq_some_iff.1 hc).1
  have hidl : id < heap.length := get_dead_ne hg (by simp)
  have hobj := h.objs id b hb
  rw [hg] at hobj
  obtain ⟨c, e, fr, o1, o2, o3, o4⟩ := hobj
  have holc : off < c.size := by omega
  have hy : c[off]? = some c[off] := by simp [holc]
  obtain ⟨r1, r2⟩ := o4 off _ c[off] hc hy
  obtain ⟨y, hy2, ao, cap, hx, hncap, hok⟩ := r2 [] _ rfl rfl
  simp only [vat, Option.some.injEq] at hy2
  subst hy2
  have h1 := h.cellPut hg hb hol (v := (AV.uni (.vec sz n g)).strip) (strip_bare _) (fun c' e' fr' y' q1 q2 => by
    rw [o1] at q1; injection q1 with q1; injection q1 with q1; subst q1
    rw [hy] at q2; injection q2 with q2; subst q2
    exact r1.strip)
  have hfb : ∀ c, forb A bl (heap.set id (.cells (setRange cs off [(AV.uni (.vec sz n g)).strip]))) c → forb A bl heap c := by
    rintro c (hf | ⟨j, hj, hdd⟩)
    · exact .inl hf
    · refine .inr ⟨j, hj, ?_⟩
      rw [heap_get_set] at hdd
      by_cases e1 : id = j ∧ j < heap.length
      · rw [← e1.1, hg]; simp
      · rw [if_neg e1] at hdd; exact hdd
  have gr : Grow0 w (forb A bl heap) U w (forb A bl (heap.set id (.cells (setRange cs off [(AV.uni (.vec sz n g)).strip])))) U := ⟨fun c _ hf => .inl (hfb c hf), fun c _ _ => ⟨Nat.le_refl _, fun _ _ => rfl⟩, fun _ hb => ⟨hb, Nat.le_refl _⟩⟩
  have hgid : ∀ (o : AObj), Heap.get (Heap.set heap id (.cells (setRange cs off [(AV.uni (.vec sz n g)).strip])) ++ [o]) id = .cells (setRange cs off [(AV.uni (.vec sz n g)).strip]) := fun o => by
    rw [heap_get_append, if_pos (by rw [heap_set_length]; exact hidl), heap_get_set, if_pos ⟨rfl, hidl⟩]
  have hblid : ∀ x : Option Nat, (bl ++ [x])[id]? = some (some b) := fun x => by rw [List.getElem?_append_left (by rw [h.len]; exact hidl)]; exact hb
  have hbln : ∀ x : Option Nat, (bl ++ [x])[heap.length]? = some x := fun x => by rw [← h.len]; simp
  have fin : ∀ {bl'' : Blocks} {ob''}, (h2 : Rel P A nt pend env (Heap.set heap id (.cells (setRange cs off [(AV.uni (.vec sz n g)).strip])) ++ [.arr sz n g]) bor tm w U bl'' ob'') → bl''[id]? = some (some b) → (0 < n → ∃ b', bl''[heap.length]? = some (some b') ∧ ao = some ⟨b', 0, none⟩) →
      ∃ bl' ob', Rel P A nt pend env (Heap.set (Heap.set heap id (.cells (setRange cs off [(AV.uni (.vec sz n g)).strip])) ++ [.arr sz n g]) id (.cells (setRange (setRange cs off [(AV.uni (.vec sz n g)).strip]) off [.row heap.length sz 0 n]))) bor tm w U bl' ob' := by
    intro bl'' ob'' h2 hb2 hn2
    refine ⟨bl'', _, h2.cellPut (hgid _) hb2 (by rw [setRange_length]; exact hol) (v := .row heap.length sz 0 n) (bare_of rfl) (fun c' e' fr' y' q1 q2 => ?_)⟩
    rw [o1] at q1; injection q1 with q1; injection q1 with q1; subst q1
    rw [hy] at q2; injection q2 with q2; subst q2
    rw [hx]
    refine .row hncap (fun hn => ?_)
    obtain ⟨b', q1, q2⟩ := hn2 hn
    exact ⟨b', q1, by rw [q2]; simp⟩
  rcases Nat.eq_zero_or_pos n with hn0 | hn0
  · subst hn0
    exact fin (h1.lay [.arr sz 0 g]) (by simpa using hblid none) (fun hn => absurd hn (by omega))
  rcases hok with hc0 | ⟨b', e1, e2, e3, e4, e5, hsz, c', el, fr', e7, e8, e9, e10, e11⟩
  · omega
  refine fin (h1.adoptB (b := b') e3 (fun hf => e4 (hfb _ hf)) e5 (h.obok _ _ e2).1 (h.obok _ _ e2).2.2 (fun l hl => ?_) hsz.1 ⟨c', el, fr', e7, Nat.le_trans (Nat.mul_le_mul_right _ hncap) e8, fun o _ => e9 o, e10, fun i j q hi hq => let ⟨y, y1, y2, y3⟩ := e11 i j q hi hq; ⟨y, y1, y2, y3.mono gr (BlLe.refl _)⟩⟩) (hblid _) (fun _ => ⟨b', hbln _, e1⟩)
  cases l with
  | env t p => exact absurd (h.obinj _ _ b' hl e2) (by simp)
  | mapv j i p => exact absurd (h.obinj _ _ b' hl e2) (by simp)
  | cell j i p =>
    simp only at hl
    by_cases e : j = id ∧ i = off
    · rw [if_pos e] at hl; cases hl
    · rw [if_neg e] at hl
      have := h.obinj _ _ b' hl e2
      injection this with a1 a2
      exact e ⟨a1, a2⟩
theorem ghost1_sound (h : Rel P A nt [] env heap bor tm w U bl ob) (hA : A.bl0.length ≤ heap.length) {g : Ghost} {env' : Env} {heap' : Heap} (hg : ghost1 env heap g = some (env', heap')) : (∃ U' bl' ob', Rel P A nt [] env' heap' bor tm w U' bl' ob') ∧ A.bl0.length ≤ heap'.length := by
  cases g with
  | fresh s =>
    unfold ghost1 at hg
    dsimp only at hg
    split at hg
    · rename_i sz g hs
      simp only [Option.some.injEq, Prod.mk.injEq] at hg
      obtain ⟨rfl, rfl⟩ := hg
      exact ⟨⟨_, _, _, fresh_sound h hs⟩, hA⟩
    · simp only [Option.some.injEq, Prod.mk.injEq] at hg
      obtain ⟨rfl, rfl⟩ := hg
      exact ⟨⟨_, _, _, h⟩, hA⟩
    · simp at hg
  | share s =>
    unfold ghost1 at hg
    dsimp only at hg
    split at hg
    · rename_i sz n g hs
      simp only [Option.some.injEq, Prod.mk.injEq] at hg
      obtain ⟨rfl, rfl⟩ := hg
      obtain ⟨U', h'⟩ := share_sound h hs
      exact ⟨⟨_, _, _, h'⟩, hA⟩
    · simp only [Option.some.injEq, Prod.mk.injEq] at hg
      obtain ⟨rfl, rfl⟩ := hg
      exact ⟨⟨_, _, _, h⟩, hA⟩
    · simp at hg
  | adopt s =>
    unfold ghost1 at hg
    dsimp only at hg
    split at hg
    · rename_i sz n g hs
      simp only [Option.some.injEq, Prod.mk.injEq] at hg
      obtain ⟨rfl, rfl⟩ := hg
      obtain ⟨bl', ob', h'⟩ := adopt_sound h hA (.inl hs)
      exact ⟨⟨_, _, _, h'⟩, by simp; omega⟩
    · rename_i sz n m g hs
      simp only [Option.some.injEq, Prod.mk.injEq] at hg
      obtain ⟨rfl, rfl⟩ := hg
      obtain ⟨bl', ob', h'⟩ := adopt_sound h hA (.inr ⟨m, hs⟩)
      exact ⟨⟨_, _, _, h'⟩, by simp; omega⟩
    · simp at hg
  | freeze s =>
    unfold ghost1 at hg
    dsimp only at hg
    split at hg
    · rename_i id sz lo n hs
      split at hg
      · rename_i sz' n' g hgt
        cases hc : (Nat.beq sz sz' && Nat.ble (lo + n) n') with
        | false => rw [hc] at hg; simp at hg
        | true =>
          rw [hc] at hg
          simp only [cond_true, Option.some.injEq, Prod.mk.injEq] at hg
          obtain ⟨rfl, rfl⟩ := hg
          simp only [Bool.and_eq_true, beq_eq, ble_eq, decide_eq_true_eq] at hc
          obtain ⟨rfl, hle⟩ := hc
          obtain ⟨U', h'⟩ := freeze_sound h hs hgt hle
          exact ⟨⟨_, _, _, h'⟩, by rw [heap_set_length]; exact hA⟩
      · simp at hg
    · rename_i id sz n hs
      split at hg
      · rename_i sz' n' g hgt
        cases hc : (Nat.beq sz sz' && Nat.beq n n') with
        | false => rw [hc] at hg; simp at hg
        | true =>
          rw [hc] at hg
          simp only [cond_true, Option.some.injEq, Prod.mk.injEq] at hg
          obtain ⟨rfl, rfl⟩ := hg
          simp only [Bool.and_eq_true, beq_eq, decide_eq_true_eq] at hc
          obtain ⟨rfl, rfl⟩ := hc
          exact ⟨⟨_, _, _, freezeO_sound h hs hgt⟩, by rw [heap_set_length]; exact hA⟩
      · simp at hg
    · simp at hg
  | shutP s =>
    unfold ghost1 at hg
    dsimp only at hg
    split at hg
    · rename_i id hs
      split at hg
      · rename_i cs hgt
        cases hc : (AV.isDataL cs && cs.all AV.scal && Nat.blt 0 cs.length) with
        | false => rw [hc] at hg; simp at hg
        | true =>
          rw [hc] at hg
          simp only [cond_true, Option.some.injEq, Prod.mk.injEq] at hg
          obtain ⟨rfl, rfl⟩ := hg
          simp only [Bool.and_eq_true, blt_eq, decide_eq_true_eq] at hc
          obtain ⟨U', h'⟩ := shutP_sound h hs hgt hc.1.1 hc.1.2 hc.2
          exact ⟨⟨_, _, _, h'⟩, by rw [heap_set_length]; exact hA⟩
      · simp at hg
    · simp at hg
  | openC s =>
    unfold ghost1 at hg
    dsimp only at hg
    split at hg
    · rename_i id off hs
      split at hg
      · rename_i cs hgt
        simp only [Option.some.injEq, Prod.mk.injEq] at hg
        obtain ⟨rfl, rfl⟩ := hg
        exact ⟨⟨_, _, _, openC_sound h hs hgt⟩, by rw [heap_set_length]; exact hA⟩
      · simp at hg
    · simp at hg
  | freezeC s =>
    unfold ghost1 at hg
    dsimp only at hg
    split at hg
    · rename_i id off hs
      split at hg
      · rename_i cs hgt
        split at hg
        · rename_i id2 sz lo n hc
          split at hg
          · rename_i sz' n' g hg2
            cases hq : (Nat.beq sz sz' && Nat.ble (lo + n) n') with
            | false => rw [hq] at hg; simp at hg
            | true =>
              rw [hq] at hg
              simp only [cond_true, Option.some.injEq, Prod.mk.injEq] at hg
              obtain ⟨rfl, rfl⟩ := hg
              simp only [Bool.and_eq_true] at hq
              obtain rfl := Nat.eq_of_beq_eq_true hq.1
              obtain ⟨U', bl', ob', h'⟩ := freezeC_sound h hs hgt hc hg2 (Nat.le_of_ble_eq_true hq.2)
              exact ⟨⟨_, _, _, h'⟩, by simp only [heap_set_length]; exact hA⟩
          · simp at hg
        · simp only [Option.some.injEq, Prod.mk.injEq] at hg
          obtain ⟨rfl, rfl⟩ := hg
          exact ⟨⟨_, _, _, h⟩, hA⟩
        · simp at hg
      · simp at hg
    · simp at hg
  | shutC s =>
    unfold ghost1 at hg
    dsimp only at hg
    split at hg
    · rename_i f first id hs
      split at hg
      · rename_i cs hgt
        cases hc : (AV.isDataL cs && cs.all AV.scal && Nat.blt 0 cs.length) with
        | false => rw [hc] at hg; simp at hg
        | true =>
          rw [hc] at hg
          simp only [cond_true, Option.some.injEq, Prod.mk.injEq] at hg
          obtain ⟨rfl, rfl⟩ := hg
          simp only [Bool.and_eq_true, blt_eq, decide_eq_true_eq] at hc
          obtain ⟨U', h'⟩ := shutC_sound h hs hgt hc.1.1 hc.1.2 hc.2
          exact ⟨⟨_, _, _, h'⟩, by rw [heap_set_length]; exact hA⟩
      · simp at hg
    · simp at hg
  | adoptO s =>
    unfold ghost1 at hg
    dsimp only at hg
    split at hg
    · rename_i sz g hs
      cases hc : Nat.blt 0 sz with
      | false => rw [hc] at hg; simp at hg
      | true =>
        rw [hc] at hg
        simp only [cond_true, Option.some.injEq, Prod.mk.injEq] at hg
        obtain ⟨rfl, rfl⟩ := hg
        rw [blt_eq, decide_eq_true_eq] at hc
        obtain ⟨U', bl', ob', h'⟩ := adoptO_sound h hs hc
        exact ⟨⟨_, _, _, h'⟩, by simp; omega⟩
    · simp only [Option.some.injEq, Prod.mk.injEq] at hg
      obtain ⟨rfl, rfl⟩ := hg
      exact ⟨⟨_, _, _, h⟩, hA⟩
    · simp at hg
  | adoptC s =>
    unfold ghost1 at hg
    dsimp only at hg
    split at hg
    · rename_i id off hs
      split at hg
      · rename_i cs hgt
        split at hg
        · rename_i sz n g hc
          simp only [Option.some.injEq, Prod.mk.injEq] at hg
          obtain ⟨rfl, rfl⟩ := hg
          obtain ⟨bl', ob', h'⟩ := adoptC_sound h hs hgt hc
          exact ⟨⟨_, _, _, h'⟩, by simp only [heap_set_length, List.length_append]; omega⟩
        · simp only [Option.some.injEq, Prod.mk.injEq] at hg
          obtain ⟨rfl, rfl⟩ := hg
          exact ⟨⟨_, _, _, h⟩, hA⟩
        · simp at hg
      · simp at hg
    · simp at hg
theorem ghosts_sound : ∀ (l : List Ghost) {env env' : Env} {heap heap' : Heap} {U : Nat → Nat} {bl : Blocks} {ob : Loc → Option Nat}, Rel P A nt [] env heap bor tm w U bl ob → A.bl0.length ≤ heap.length → ghosts l env heap = some (env', heap') →
    (∃ U' bl' ob', Rel P A nt [] env' heap' bor tm w U' bl' ob') ∧ A.bl0.length ≤ heap'.length
  | [], env, env', heap, heap', U, bl, ob, h, hA, hg => by
    simp only [ghosts, Option.some.injEq, Prod.mk.injEq] at hg
    obtain ⟨rfl, rfl⟩ := hg
    exact ⟨⟨_, _, _, h⟩, hA⟩
  | g :: r, env, env', heap, heap', U, bl, ob, h, hA, hg => by
    simp only [ghosts] at hg
    split at hg
    · rename_i e1 h1 hh
      obtain ⟨⟨U', bl', ob', h'⟩, hA'⟩ := ghost1_sound h hA hh
      exact ghosts_sound r h' hA' hg
    · simp at hg
end
structure Leans (P : Program) (cx : Ctx) (X : Rec Prop) (I : FuncId → List AV → Heap → (AV → Heap → Prop) → Prop) : Prop where
  fail : ¬ X.fail
  call : ∀ f args Q, X.call f args Q → CallOK P f args Q
  inl : ∀ f args h k, I f args h k → InlOK P f args h k
  name : NameOK P
  sort : X.sort = sortP
  br : X.br = BrP
  all : X.all = fun n k => ∀ i, i < n → k i
  prim : ∀ f, 0 < cx.srt f → (cx.srt f ≠ 100 → SortPrim P f (cx.srt f)) ∧ (cx.srt f = 100 → InsPrim P f)
end Ax

namespace Ax
open Go Go.RowKit
section
variable {P : Program} {A : Amb} {nt : Nat} {pend : List (Nat × AObj)} {env : Env} {heap : Heap} {bor : Option (Nat × AV)} {w : World} {U : Nat → Nat} {bl : Blocks} {ob : Loc → Option Nat} {a : Act}
variable {X : Rec Prop} {cx : Ctx}
theorem ext_wp (hX : ¬ X.fail) (hP : cx.P = P) (ha : a.defers = A.ds) (h : Rel P A nt pend env heap bor a.tmps w U bl ob) {o : Oper} (hd : ∀ t, o.dst = some t → t < nt) {k : St → Prop} {Q : Exit → Act → World → Prop} (hk : extK X cx o k env heap [] bor) :
    o.wp P a w (NextIs P A nt pend k) Q := by
  subst hP
  unfold extK at hk
  have skipK : ∀ {env1 : Env} {heap1 : Heap} {w' : World} {ob1 : Loc → Option Nat}, (execOp a.eval o).run cx.P w = .ok .skip w' → Rel cx.P A nt pend env1 heap1 bor a.tmps w' U bl ob1 → (putK env1 o.dst (.tup []) fun e2 => k ⟨e2, heap1, [], bor⟩) → o.wp cx.P a w (NextIs cx.P A nt pend k) Q := by
    intro env1 heap1 w' ob1 hrun hrel hk'
    obtain ⟨ob2, h2⟩ := undef_rep hrel hd
    exact skip_wp (w' := w') hrun (next_put ha ⟨_, _, ob2, h2⟩ hk')
  have setM : ∀ (t : TypeId) (m q x : Operand) (heap' : Heap), (execOp a.eval o = do Instr.mapUpdate t (a.eval m) (a.eval q) (a.eval x); pure .skip) → mapSetAV cx.P t heap (evo cx.P t env m).strip (evo cx.P (keyType cx.P t) env q).strip (evo cx.P (elemTypeM cx.P t) env x) = some heap' →
      (putK (bareO (tmpOp x) env) o.dst (.tup []) fun e2 => k ⟨e2, heap', [], bor⟩) → o.wp cx.P a w (NextIs cx.P A nt pend k) Q := by
    intro t m q x heap' hexec hs hk'
    obtain ⟨ob1, ov, g1, g2, g3, g4, g5⟩ := give_operand h (elemTypeM cx.P t) x
    obtain ⟨w', r1, ob2, r2⟩ := mapSet_sound g1 hs (evo_at (a := a) h t m).strip (evo_at (a := a) h _ q).strip (evo_at (a := a) h _ x) g2 g3 g4 g5
    exact skipK (by rw [hexec]; simp [r1]) r2 hk'
  split at hk
  ·
    rename_i s v heap' he
    rw [Heap.force_eq] at hk
    unfold extOp at he
    split at he
    · rename_i t m q x hop
      split at he
      · rename_i h1 hs
        simp only [Option.some.injEq, Prod.mk.injEq] at he
        obtain ⟨rfl, rfl, rfl⟩ := he
        exact setM t m q x _ (by unfold execOp; rw [hop]) hs hk
      · simp at he
    · rename_i t m q x hop
      split at he
      · rename_i h1 hs
        simp only [Option.some.injEq, Prod.mk.injEq] at he
        obtain ⟨rfl, rfl, rfl⟩ := he
        exact setM t m q x _ (by unfold execOp; rw [hop]) hs hk
      · simp at he
    · rename_i t m q hop
      split at he
      · rename_i v1 h1 hs
        simp only [Option.some.injEq, Prod.mk.injEq] at he
        obtain ⟨rfl, rfl, rfl⟩ := he
        obtain ⟨x, w', r1, ob', r2⟩ := mapEntry_sound h hd hs (evo_at (a := a) h t m).strip (evo_at (a := a) h _ q).strip
        refine value_wp (x := x) (w' := w') ?_ (next_put ha ⟨_, _, ob', r2⟩ hk)
        unfold execOp; rw [hop]; simp [r1]
      · simp at he
    · rename_i t m s1 x hop
      split at he
      · rename_i h1 hs
        simp only [Option.some.injEq, Prod.mk.injEq] at he
        obtain ⟨rfl, rfl, rfl⟩ := he
        obtain ⟨ob1, ov, g1, g2, g3, g4, g5⟩ := give_operand h (elemTypeM cx.P t) x
        obtain ⟨w', r1, ob2, r2⟩ := entryStore_sound (t := t) g1 hs (evo_at (a := a) h t m).strip (evo_at (a := a) h _ s1) (evo_at (a := a) h _ x) g2 g3 g4 g5
        exact skipK (by unfold execOp; rw [hop]; simp [r1]) r2 hk
      · simp at he
    · rename_i t l c hop
      obtain ⟨v1, hv1, he1⟩ := Option.map_eq_some_iff.1 he
      simp at he1
    · rename_i args argTypes hop
      split at he
      · rename_i m q t r hx ht
        obtain ⟨h1, hs, he1⟩ := Option.map_eq_some_iff.1 he
        simp only [Prod.mk.injEq, Option.some.injEq] at he1
        obtain ⟨rfl, rfl, rfl⟩ := he1
        have hargs : args = #[m, q] := by apply Array.ext'; simpa using hx
        have hty : argTypes[0]? = some t := by rw [← Array.getElem?_toList, ht]; rfl
        subst hargs
        obtain ⟨w', r1, ob', r2⟩ := mapDel_sound (ty := o.type) h hty hs (evo_at (a := a) h t m).strip (evo_at (a := a) h _ q).strip
        obtain ⟨ob2, h2⟩ := r2.put0 hd (v := .tup []) (x := .tuple #[]) (.tup rfl (fun i x y hx => by simp at hx)) (fun own => .bare (bare_of rfl))
        refine value_wp (x := .tuple #[]) (w' := w') ?_ (next_put ha ⟨_, _, ob2, h2⟩ hk)
        unfold execOp; rw [hop]
        simp only [resolve, Sem.run_bind, Sem.run_pure, Result.andThen_ok, invoke, builtin]
        simp [r1]
      · simp at he
    · rename_i args argTypes hop
      split at he
      · rename_i d x t u hx ht
        obtain ⟨p1, hs, he1⟩ := Option.map_eq_some_iff.1 he
        obtain ⟨v1, h1⟩ := p1
        simp only [Prod.mk.injEq, Option.some.injEq] at he1
        obtain ⟨rfl, rfl, rfl⟩ := he1
        have hargs : args = #[d, x] := by apply Array.ext'; simpa using hx
        have hty : argTypes[0]? = some t := by rw [← Array.getElem?_toList, ht]; rfl
        subst hargs
        obtain ⟨r, w', r1, r2, n, rfl, rfl⟩ := copy_sound (ty := o.type) h hs (evo_at (a := a) h t d) (evo_at (a := a) h u x) hty
        obtain ⟨ob2, h2⟩ := r2.put0 hd (v := .int .i64 n) (x := .int .i64 n) .int (fun own => .bare (bare_of rfl))
        refine value_wp (x := .int .i64 n) (w' := w') ?_ (next_put ha ⟨_, _, ob2, h2⟩ hk)
        unfold execOp; rw [hop]
        simp only [resolve, Sem.run_bind, Sem.run_pure, Result.andThen_ok, invoke, builtin]
        simp [r1]
      · simp at he
    · rename_i args argTypes hop
      split at he
      · rename_i d t hx ht
        obtain ⟨h1, hs, he1⟩ := Option.map_eq_some_iff.1 he
        simp only [Prod.mk.injEq, Option.some.injEq] at he1
        obtain ⟨rfl, rfl, rfl⟩ := he1
        have hargs : args = #[d] := by apply Array.ext'; simpa using hx
        have hty : argTypes[0]? = some t := by rw [← Array.getElem?_toList, ht]; rfl
        subst hargs
        obtain ⟨w', r1, r2⟩ := clear_sound (ty := o.type) h hs (evo_at (a := a) h t d) hty
        obtain ⟨ob2, h2⟩ := r2.put0 hd (v := .tup []) (x := .tuple #[]) (.tup rfl (fun i x y hx => by simp at hx)) (fun own => .bare (bare_of rfl))
        refine value_wp (x := .tuple #[]) (w' := w') ?_ (next_put ha ⟨_, _, ob2, h2⟩ hk)
        unfold execOp; rw [hop]
        simp only [resolve, Sem.run_bind, Sem.run_pure, Result.andThen_ok, invoke, builtin]
        simp [r1]
      · simp at he
    · simp at he
  ·
    rename_i s v he
    unfold extOp at he
    split at he
    · split at he <;> simp at he
    · split at he <;> simp at he
    · split at he <;> simp at he
    · split at he <;> simp at he
    · rename_i t l c hop
      obtain ⟨v1, hv1, he1⟩ := Option.map_eq_some_iff.1 he
      simp only [Prod.mk.injEq] at he1
      obtain ⟨rfl, rfl, _⟩ := he1
      obtain ⟨r, w', U', ob', r1, r2⟩ := makeSlice_sound h hd hv1 (evo_at (a := a) h 3 l) (evo_at (a := a) h 3 c)
      refine value_wp (x := r) (w' := w') ?_ (next_put ha ⟨U', _, ob', r2⟩ hk)
      unfold execOp; rw [hop]; simp [r1]
    · split at he
      · obtain ⟨_, _, he1⟩ := Option.map_eq_some_iff.1 he; simp at he1
      · simp at he
    · split at he
      · obtain ⟨_, _, he1⟩ := Option.map_eq_some_iff.1 he; simp at he1
      · simp at he
    · split at he
      · obtain ⟨_, _, he1⟩ := Option.map_eq_some_iff.1 he; simp at he1
      · simp at he
    · simp at he
  · exact absurd hk hX
end
end Ax
