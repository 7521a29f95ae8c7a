import Derived.Test.YtflebdkgdnfjoaaGreatMB
set_option linter.unusedVariables false
set_option linter.unusedSimpArgs false
namespace Ax
open Go Go.RowKit
section
variable {P : Program} {w : World} {F : Nat → Prop} {U : Nat → Nat} {bl : Blocks} {B : Nat}
def wordBv (s : ByteArray) (i : Nat) : Value := .int .u8 ((s.data.getD i 0).toNat : Int)
theorem unAV_sound {op : UnOp} {x v : AV} {x' : Value} (h : unAV op x = some v) (hx : Rep w F U bl x x') : ∃ r, (Op.unary op x').run P w = .ok r w ∧ Rep w F U bl v r ∧ Flat v := by
  unfold unAV at h
  split at h
  · obtain rfl := rep_int hx
    cases op <;> simp only [Option.some.injEq, reduceCtorEq] at h <;> (subst h; exact ⟨_, rfl, .int, trivial⟩)
  · obtain rfl := rep_bool hx
    cases op <;> simp only [Option.some.injEq, reduceCtorEq] at h <;> (subst h; exact ⟨_, rfl, .bool, trivial⟩)
  · simp at h
theorem inRange_iff {i : Int} {n : Nat} : inRange i n = true ↔ 0 ≤ i ∧ i < n := by simp [inRange]
def ObjsOK (P : Program) (w : World) (F : Nat → Prop) (U : Nat → Nat) (bl : Blocks) (B : Nat) (h : Heap) : Prop :=
  ∀ id b : Nat, bl[id]? = some (some b) → ∃ own ownM bor, ObjRep P w F U bl B own ownM bor (h.get id) b
theorem cell_row {w : World} {b : Nat} {c : Array Value} {e : TypeId} {fr : Nat × Nat} (h : w.heap[b]? = some (.cells c e fr)) (o : Nat) : w.cell? ⟨b, o, none⟩ = c[o]? := by
  simp [World.cell?, h]
theorem readCells_sound {h : Heap} {p : AV} {x : Value} {cs : List AV} {off : Nat} (hr : readCells h p = some (cs, off)) (hp : Rep w F U bl p x) (ho : ObjsOK P w F U bl B h) :
    ∃ b o, x = .pointer (some ⟨b, o + off, none⟩) ∧ CellsRep w F U bl cs (fun j => w.cell? ⟨b, o + j, none⟩) := by
  unfold readCells at hr
  split at hr
  · simp at hr
    obtain ⟨rfl, rfl⟩ := hr
    cases hp with
    | @cptr _ v a vals hp hc hh =>
      obtain ⟨ab, ao, as⟩ := a
      obtain rfl : as = none := hp.1
      exact ⟨ab, ao, rfl, fun j c hj => ⟨vals j, hc j (List.getElem?_eq_some_iff.1 hj).1, hh j c hj⟩⟩
  · rename_i id off'
    split at hr
    · rename_i cs' hg
      simp at hr
      obtain ⟨rfl, rfl⟩ := hr
      cases hp with
      | @ptr _ _ _ b hb =>
        obtain ⟨own, ownM, bor, hobj⟩ := ho id b hb
        rw [hg] at hobj
        obtain ⟨c, e, fr, h1, h2, h3, h4⟩ := hobj
        refine ⟨b, 0, by simp, fun j x hj => ?_⟩
        have hlt : j < c.size := by rw [h2]; exact (List.getElem?_eq_some_iff.1 hj).1
        refine ⟨c[j], by show w.cell? _ = _; rw [cell_row h1]; simp [hlt], (h4 j x _ hj (by simp [hlt])).1⟩
    · simp at hr
  · rename_i id sz i off'
    split at hr
    · rename_i sz' n g hg
      rw [beq_eq, blt_eq] at hr
      by_cases hc : sz = sz' ∧ i < n
      · simp [hc] at hr
        obtain ⟨rfl, rfl⟩ := hr
        obtain ⟨rfl, hin⟩ := hc
        cases hp with
        | @eptr _ _ _ _ _ b hb =>
          obtain ⟨own, ownM, bor, hobj⟩ := ho id b hb
          rw [hg] at hobj
          obtain ⟨c, e, fr, h1, h2, h3, h4, h5, h6⟩ := hobj
          refine ⟨b, i * sz, rfl, fun j x hj => ?_⟩
          obtain ⟨y, hy, _, hr⟩ := h6 i j x hin hj
          exact ⟨y, by show w.cell? _ = _; rw [cell_row h1]; exact hy, hr.ofNil⟩
      · have : (decide (sz = sz') && decide (i < n)) = false := by
          simp only [Bool.and_eq_false_iff, decide_eq_false_iff_not]; exact Decidable.not_and_iff_not_or_not.1 hc
        simp [this] at hr
    · rename_i sz' n g hg
      rw [beq_eq, blt_eq] at hr
      by_cases hc : sz = sz' ∧ i < n
      · simp [hc] at hr
        obtain ⟨rfl, rfl⟩ := hr
        obtain ⟨rfl, hin⟩ := hc
        cases hp with
        | @eptr _ _ _ _ _ b hb =>
          obtain ⟨own, ownM, bor, hobj⟩ := ho id b hb
          rw [hg] at hobj
          obtain ⟨c, e, fr, h1, h2, h3, hu, h4, h5, h6⟩ := hobj
          refine ⟨b, i * sz, rfl, fun j x hj => ?_⟩
          obtain ⟨y, hy, _, hr, _⟩ := h6 i j x hin hj
          exact ⟨y, by show w.cell? _ = _; rw [cell_row h1]; exact hy, hr.ofNil⟩
      · have : (decide (sz = sz') && decide (i < n)) = false := by
          simp only [Bool.and_eq_false_iff, decide_eq_false_iff_not]; exact Decidable.not_and_iff_not_or_not.1 hc
        simp [this] at hr
    · simp at hr
  · simp at hr
theorem loadAV_sound {h : Heap} {t : TypeId} {p v : AV} {x : Value} (hl : loadAV P h t p = some v) (hp : Rep w F U bl p x) (ho : ObjsOK P w F U bl B h) :
    ∃ r, (Instr.loadAt t x).run P w = .ok r w ∧ Rep w F U bl v r := by
  unfold loadAV at hl
  split at hl
  · rename_i cs off hr
    obtain ⟨b, o, rfl, hc⟩ := readCells_sound hr hp ho
    exact load_sound hl hc
  · simp at hl
theorem fieldOf_run {s : TypeId} {f : Nat} {t : TypeId} {off : Nat} (h : fieldOf P s f = some (t, off)) : ∃ fs x, P.underlying s = some (.struct fs) ∧ fs[f]? = some x ∧ x.type = t ∧ x.offset = off := by
  unfold fieldOf at h
  split at h
  · rename_i fs hs
    obtain ⟨x, hx, he⟩ := Option.map_eq_some_iff.1 h
    simp at he
    exact ⟨fs, x, und_of hs (by simp), hx, he.1, he.2⟩
  · simp at h
theorem partAV_cells {t : TypeId} {cs : List AV} {off : Nat} {v : AV} (h : partAV P t cs off = some v) :
    v.cells.length = tySz P t ∧ ∀ j c, v.cells[j]? = some c → cs[off + j]? = some c := by
  unfold partAV at h
  cases ha : tyAgg P t with
  | true =>
    simp only [ha, cond_true, ble_eq] at h
    by_cases hl : off + tySz P t ≤ cs.length
    · simp only [hl, decide_true, cond_true, Option.some.injEq] at h
      subst h
      refine ⟨by simp [AV.cells]; omega, fun j c hj => ?_⟩
      simp only [AV.cells, take_drop_get] at hj
      split at hj
      · exact hj
      · simp at hj
    · simp [hl] at h
  | false =>
    simp only [ha, cond_false] at h
    cases hk : ((P.underlying t).isSome && Nat.beq (tySz P t) 1) with
    | false => simp [hk] at h
    | true =>
      simp only [hk, cond_true] at h
      simp only [Bool.and_eq_true, beq_eq, decide_eq_true_eq] at hk
      have hcells : v.cells = [v] := by
        unfold AV.cells
        split
        · rename_i l; exact absurd rfl ((oneAV_some h).2 l)
        · rfl
      refine ⟨by rw [hcells, hk.2]; rfl, fun j c hj => ?_⟩
      rw [hcells] at hj
      cases j with
      | zero => simp at hj; subst hj; simpa using (oneAV_some h).1
      | succ j => simp at hj
theorem fieldPlace_run {a : Addr} {x : Field} {n : Nat} (hn : tySz P x.type = n) (h0 : n ≠ 0) : (fieldPlace a x).run P w = .ok (a.add x.offset) w := by
  unfold fieldPlace
  rw [Sem.run_bind, run_size' (by omega)]
  simp [hn, h0]
theorem fieldAddr_sound {s : TypeId} {p v : AV} {f : Nat} {x : Value} (h : fieldAddrAV P s p f = some v) (hp : Rep w F U bl p x) :
    ∃ r, (Instr.fieldAt s x f).run P w = .ok r w ∧ Rep w F U bl v r ∧ Bare v := by
  unfold fieldAddrAV at h
  split at h
  · rename_i t off hf
    obtain ⟨fs, y, h1, h2, h3, h4⟩ := fieldOf_run hf
    rw [beq_eq] at h
    by_cases h0 : tySz P t = 0
    · simp [h0] at h
    · simp only [h0, decide_false, cond_false] at h
      have run : ∀ a : Addr, (Instr.fieldAt s (.pointer (some a)) f).run P w = .ok (.pointer (some (a.add off))) w := by
        intro a
        unfold Instr.fieldAt
        rw [Sem.run_bind, run_underlying h1 w]
        simp only [Result.andThen_ok, h2, Instr.sureAddr, Sem.run_bind, Sem.run_pure]
        rw [fieldPlace_run (n := tySz P t) (by rw [h3]) h0, h4]
        rfl
      split at h
      · rename_i v0
        obtain ⟨u, hu, rfl⟩ := Option.map_eq_some_iff.1 h
        cases hp with
        | @cptr _ _ a vals hp hc hh =>
          obtain ⟨k1, k2⟩ := partAV_cells hu
          refine ⟨_, run a, ?_, bare_ptr trivial⟩
          obtain ⟨ab, ao, as⟩ := a
          obtain ⟨e1, e2, e3, e4⟩ := hp
          simp only at e1
          subst e1
          rw [addr_add]
          have hlen : off + u.cells.length ≤ v0.cells.length := by
            have hpos : 0 < u.cells.length := by omega
            have := k2 (u.cells.length - 1) u.cells[u.cells.length - 1] (List.getElem?_eq_getElem (by omega))
            have := (List.getElem?_eq_some_iff.1 this).1
            omega
          refine .cptr (fun j => vals (off + j)) ⟨rfl, e2, ?_, by omega⟩ (fun j hj => ?_) (fun j c hj => hh _ c (k2 j c hj))
          · simp only at e3 ⊢; omega
          · rw [Nat.add_assoc]; exact hc _ (by omega)
      · rename_i id o
        simp at h; subst h
        cases hp with
        | ptr hb => exact ⟨_, run _, by rw [addr_add]; exact .ptr hb, bare_ptr trivial⟩
      · rename_i id sz i o
        simp at h; subst h
        cases hp with
        | eptr hb => exact ⟨_, run _, by rw [addr_add, Nat.add_assoc]; exact .eptr hb, bare_ptr trivial⟩
      · simp at h
  · simp at h
theorem field_sound {s : TypeId} {cs : List AV} {f : Nat} {t : TypeId} {off : Nat} {v : AV} {vs : Array Value} (hf : fieldOf P s f = some (t, off)) (h : partAV P t cs off = some v)
    (hc : CellsRep w F U bl cs (fun j => vs[j]?)) : ∃ r, (Instr.field s (.agg vs) f).run P w = .ok r w ∧ Rep w F U bl v r := by
  obtain ⟨fs, y, h1, h2, h3, h4⟩ := fieldOf_run hf
  obtain ⟨r, hr, hv⟩ := part_sound h hc
  refine ⟨r, ?_, hv⟩
  unfold Instr.field
  rw [Sem.run_bind, run_underlying h1 w]
  simp only [Result.andThen_ok, h2, asAgg, Sem.run_bind, Sem.run_pure, h3, h4]
  exact hr
theorem index_mul {sz i n : Nat} (h : i < n) : i * sz + sz ≤ n * sz := by
  have : (i + 1) * sz ≤ n * sz := Nat.mul_le_mul_right _ h
  rw [Nat.add_mul, Nat.one_mul] at this; exact this
theorem vec_elem {sz n cap : Nat} {g : Nat → AV} {ao : Option Addr} (h : Rep w F U bl (.vec sz n g) (.slice ao n cap)) {i : Nat} (hi : i < n) :
    ∃ b o, ao = some ⟨b, o, none⟩ ∧ Rep w F U bl (.cptr (g i)) (.pointer (some ⟨b, o + i * sz, none⟩)) := by
  cases h with
  | vec hcap vals hz hs hone hh =>
    obtain ⟨h0, a, e1, e2, e3, e4, e5⟩ := hz (by omega)
    obtain ⟨ab, ao', as⟩ := a
    simp only at e2; subst e2
    refine ⟨ab, ao', e1, .cptr (vals i) ⟨rfl, e3, ?_, by rw [hs i hi]; exact h0⟩ (fun j hj => ?_) (fun j c hj => (hh i j c hi hj).ofNil)⟩
    · have := index_mul (sz := sz) hi
      rw [hs i hi]; simp only at e4 ⊢; omega
    · rw [hs i hi] at hj; exact e5 i j hi hj
theorem indexAddr_sound {t : TypeId} {x v : AV} {k : IntKind} {i : Int} {x' : Value} (h : indexAddrAV P t x i = some v) (hx : Rep w F U bl x x') :
    ∃ r, (Instr.indexAt t x' (.int k i)).run P w = .ok r w ∧ Rep w F U bl v r ∧ Bare v := by
  have runS : ∀ (e : TypeId) (a : Addr) (n c : Nat), tyD P t = .slice e → 0 ≤ i ∧ i < n → 0 < tySz P e → (Instr.indexAt t (.slice (some a) n c) (.int k i)).run P w = .ok (.pointer (some (a.add (i.toNat * tySz P e)))) w := by
    intro e a n c ht hi hs
    unfold Instr.indexAt
    simp only [asIntOf, Sem.run_bind, Sem.run_pure, Result.andThen_ok, run_und ht (by simp), if_pos hi, run_size' hs]
  have vecCase : ∀ e sz n g, tyD P t = .slice e → Rep w F U bl (.vec sz n g) x' → Nat.beq sz (tySz P e) = true → inRange i n = true → v = .cptr (g i.toNat) → ∃ r, (Instr.indexAt t x' (.int k i)).run P w = .ok r w ∧ Rep w F U bl v r ∧ Bare v := by
    intro e sz n g ht hx hs hi hv
    subst hv
    rw [beq_eq, decide_eq_true_eq] at hs
    rw [inRange_iff] at hi
    have hin : i.toNat < n := by omega
    have hx' := hx
    cases hx' with
    | @vec _ _ _ _ ao cap hcap vals hz hh1 hone hh2 =>
      obtain ⟨b, o, rfl, hr⟩ := vec_elem hx hin
      have h0 := (hz (by omega)).1
      exact ⟨_, runS e _ n cap ht hi (by omega), by rw [addr_add, ← hs]; exact hr, bare_ptr trivial⟩
  unfold indexAddrAV at h
  split at h
  · rename_i e sz n g ht
    cases hs : Nat.beq sz (tySz P e) with
    | false => simp [hs] at h
    | true =>
      cases hi : inRange i n with
      | false => simp [hs, hi] at h
      | true => simp [hs, hi] at h; exact vecCase e sz n g ht hx hs hi h.symm
  · rename_i e sz n g ht
    cases hs : Nat.beq sz (tySz P e) with
    | false => simp [hs] at h
    | true =>
      cases hi : inRange i n with
      | false => simp [hs, hi] at h
      | true =>
        simp [hs, hi] at h
        cases hx with
        | own hx => exact vecCase e sz n g ht hx hs hi h.symm
  · rename_i e sz n m g ht
    cases hs : Nat.beq sz (tySz P e) with
    | false => simp [hs] at h
    | true =>
      cases hi : inRange i n with
      | false => simp [hs, hi] at h
      | true => simp [hs, hi] at h; exact vecCase e sz n g ht (wide_vec hx) hs hi h.symm
  · rename_i e id sz lo n ht
    cases hs : Nat.beq sz (tySz P e) with
    | false => simp [hs] at h
    | true =>
      cases hi : inRange i n with
      | false => simp [hs, hi] at h
      | true =>
        cases h0 : Nat.blt 0 sz with
        | false => simp [hs, hi, h0] at h
        | true =>
          simp [hs, hi, h0] at h
          subst h
          rw [beq_eq, decide_eq_true_eq] at hs
          rw [blt_eq, decide_eq_true_eq] at h0
          rw [inRange_iff] at hi
          cases hx with
          | row hcap hz =>
            obtain ⟨b, hb, rfl⟩ := hz (by omega)
            refine ⟨_, runS e _ n _ ht hi (by omega), ?_, bare_ptr trivial⟩
            rw [addr_add, ← hs, ← Nat.add_mul]
            exact .eptr (off := 0) hb
  · rename_i e id sz n ht
    cases hs : Nat.beq sz (tySz P e) with
    | false => simp [hs] at h
    | true =>
      cases hi : inRange i n with
      | false => simp [hs, hi] at h
      | true =>
        cases h0 : Nat.blt 0 sz with
        | false => simp [hs, hi, h0] at h
        | true =>
          simp [hs, hi, h0] at h
          subst h
          rw [beq_eq, decide_eq_true_eq] at hs
          rw [blt_eq, decide_eq_true_eq] at h0
          rw [inRange_iff] at hi
          cases hx with
          | brow hcap hz =>
            rcases hz with hz | ⟨b, hb, rfl, _, _⟩
            · omega
            refine ⟨_, runS e _ n _ ht hi (by omega), ?_, bare_ptr trivial⟩
            rw [addr_add, ← hs, Nat.zero_add]
            exact .eptr (off := 0) hb
  · rename_i e vs ht
    cases hi : inRange i vs.length with
    | false => simp [hi] at h
    | true =>
      cases h1 : Nat.beq (tySz P e) 1 with
      | false => simp [hi, h1] at h
      | true =>
        simp only [hi, h1, cond_true] at h
        obtain ⟨u, hu, rfl⟩ := Option.map_eq_some_iff.1 h
        rw [beq_eq, decide_eq_true_eq] at h1
        rw [inRange_iff] at hi
        cases hx with
        | rvec hcap vals hz hs hh =>
          obtain ⟨a, e1, e2, e3, e4, e5⟩ := hz (by omega)
          subst e1
          obtain ⟨ab, ao, as⟩ := a
          simp only at e2; subst e2
          have hlt := (List.getElem?_eq_some_iff.1 hu).1
          have hcells := hs u (List.mem_of_getElem? hu)
          refine ⟨_, runS e _ _ _ ht hi (by omega), ?_, bare_ptr trivial⟩
          rw [addr_add, h1, Nat.mul_one]
          refine .cptr (fun _ => vals i.toNat) ⟨rfl, e3, by rw [hcells]; simp only [List.length_singleton] at e4 ⊢; omega, by rw [hcells]; simp⟩ (fun j hj => ?_) (fun j c hj => ?_)
          · rw [hcells] at hj; simp at hj; subst hj; exact e5 _ hlt
          · rw [hcells] at hj
            cases j with
            | zero => simp at hj; subst hj; exact hh _ _ hu
            | succ j => simp at hj
  · rename_i n e id off ht
    rw [ble_eq] at h
    by_cases hn : n ≤ 1
    · simp [hn] at h
    · cases hi : inRange i n with
      | false => simp [hn, hi] at h
      | true =>
        cases h0 : Nat.blt 0 (tySz P e) with
        | false => simp [hn, hi, h0] at h
        | true =>
          simp [hn, hi, h0] at h
          subst h
          rw [blt_eq, decide_eq_true_eq] at h0
          rw [inRange_iff] at hi
          cases hx with
          | @ptr _ _ _ b hb =>
            refine ⟨.pointer (some (Addr.add ⟨b, off, none⟩ (i.toNat * tySz P e))), ?_, by rw [addr_add]; exact .ptr hb, bare_ptr trivial⟩
            unfold Instr.indexAt
            simp only [asIntOf, Sem.run_bind, Sem.run_pure, Result.andThen_ok, run_und ht (by simp), Instr.sureAddr, if_pos hi, run_size' h0]
  · simp at h
theorem index_sound {t : TypeId} {x v : AV} {k : IntKind} {i : Int} {x' : Value} (h : indexAV P t x i = some v) (hx : Rep w F U bl x x') :
    ∃ r, (Instr.index t x' (.int k i)).run P w = .ok r w ∧ Rep w F U bl v r := by
  unfold indexAV at h
  split at h
  · rename_i n e cs ht
    cases hi : inRange i n with
    | false => simp [hi] at h
    | true =>
      cases h0 : Nat.blt 0 (tySz P e) with
      | false => simp [hi, h0] at h
      | true =>
        simp only [hi, h0, cond_true] at h
        rw [inRange_iff] at hi
        rw [blt_eq, decide_eq_true_eq] at h0
        cases hx with
        | agg hn hh =>
          obtain ⟨r, hr, hv⟩ := part_sound h (cellsRep_arr hn hh)
          refine ⟨r, ?_, hv⟩
          unfold Instr.index
          simp only [asIntOf, Sem.run_bind, Sem.run_pure, Result.andThen_ok, run_und ht (by simp), if_pos hi, run_size' h0, hr]
  · rename_i s ht
    cases hi : inRange i s.size with
    | false => simp [hi] at h
    | true =>
      simp [hi] at h
      subst h
      rw [inRange_iff] at hi
      obtain rfl := rep_str hx
      refine ⟨wordBv s i.toNat, ?_, .int⟩
      have hlt : i.toNat < s.size := by omega
      unfold Instr.index wordBv
      simp only [asIntOf, Sem.run_bind, Sem.run_pure, Result.andThen_ok, run_und ht (by simp), if_pos hi.1]
      rw [ByteArray.getElem?_lt' s _ hlt]
      simp only [Sem.run_pure]
      congr 3
      simp [Array.getD, hlt, ByteArray.size_data]
      rfl
  · simp at h
end
end Ax

namespace Ax
open Go Go.RowKit
section
variable {P : Program} {w : World} {F : Nat → Prop} {U : Nat → Nat} {bl : Blocks} {B : Nat}
def OptRep (w : World) (F : Nat → Prop) (U : Nat → Nat) (bl : Blocks) : Option AV → Option Value → Prop
  | none, none => True
  | some x, some y => Rep w F U bl x y
  | _, _ => False
theorem bound_run {d y l : Nat} {x : AV} {v : Value} {code : BoundsCode} (h : boundOf d (some x) = some l) (hx : Rep w F U bl x v) (hl : l ≤ y) : (Instr.sliceBound v y code).run P w = .ok l w := by
  unfold boundOf at h
  split at h
  · rename_i hh; cases hh
  · rename_i k i hh
    cases hh
    obtain rfl := rep_int hx
    by_cases hi : 0 ≤ i
    · simp [hi] at h
      subst h
      unfold Instr.sliceBound
      simp only [asIntOf, Sem.run_bind, Sem.run_pure, Result.andThen_ok]
      rw [if_pos ⟨hi, by omega⟩]
      rfl
    · simp [hi] at h
  · simp at h
theorem bounds_run {isS : Bool} {n cap l h : Nat} {lo hi : Option AV} {lo' hi' : Option Value} (hlo : OptRep w F U bl lo lo') (hhi : OptRep w F U bl hi hi')
    (h1 : boundOf 0 lo = some l) (h2 : boundOf n hi = some h) (hlh : l ≤ h) (hhc : h ≤ cap) (hn : hi = none → h = n) :
    (Instr.sliceBounds isS n cap lo' hi' none).run P w = .ok (l, h, cap) w := by
  cases hi with
  | none =>
    cases hi' with
    | some _ => exact hhi.elim
    | none =>
      simp [boundOf] at h2; subst h2
      cases lo with
      | none =>
        cases lo' with
        | none => simp [boundOf] at h1; subst h1; rfl
        | some _ => exact hlo.elim
      | some x =>
        cases lo' with
        | none => exact hlo.elim
        | some v => simp [Instr.sliceBounds, bound_run h1 hlo hlh]
  | some x0 =>
    cases hi' with
    | none => exact hhi.elim
    | some v0 =>
      cases lo with
      | none =>
        cases lo' with
        | none => simp [boundOf] at h1; subst h1; simp [Instr.sliceBounds, bound_run h2 hhi hhc]
        | some _ => exact hlo.elim
      | some x =>
        cases lo' with
        | none => exact hlo.elim
        | some v => simp [Instr.sliceBounds, bound_run h1 hlo hlh, bound_run h2 hhi hhc]
theorem bounds_run_max {n cap l h m : Nat} {lo hi : Option AV} {mx : AV} {lo' hi' : Option Value} {mx' : Value} (hlo : OptRep w F U bl lo lo') (hhi : OptRep w F U bl hi hi') (hmx : Rep w F U bl mx mx')
    (h1 : boundOf 0 lo = some l) (h2 : boundOf n hi = some h) (h3 : boundOf 0 (some mx) = some m) (hlh : l ≤ h) (hhm : h ≤ m) (hmc : m ≤ cap) (hn : hi ≠ none) :
    (Instr.sliceBounds true n cap lo' hi' (some mx')).run P w = .ok (l, h, m) w := by
  cases hi with
  | none => exact absurd rfl hn
  | some x =>
    cases hi' with
    | none => exact hhi.elim
    | some v =>
      cases lo with
      | none =>
        cases lo' with
        | none => simp [boundOf] at h1; subst h1; simp [Instr.sliceBounds, bound_run h3 hmx hmc, bound_run h2 hhi hhm]
        | some _ => exact hlo.elim
      | some x1 =>
        cases lo' with
        | none => exact hlo.elim
        | some v1 => simp [Instr.sliceBounds, bound_run h3 hmx hmc, bound_run h2 hhi hhm, bound_run h1 hlo hlh]
theorem vsub_rep {sz n l h cap c' : Nat} {g : Nat → AV} {z : AV} {ao ao' : Option Addr} (hv : Rep w F U bl (.vec sz n g) (.slice ao n cap)) (hlh : l ≤ h) (hhn : h ≤ n)
    (ha : l < h → ao' = ao.map (·.add (l * sz))) (hc' : h - l ≤ c') : Rep w F U bl (.vec sz (h - l) (vsub z g l (h - l))) (.slice ao' (h - l) c') := by
  cases hv with
  | vec hcap vals hz hs hone hh =>
    have hsub : ∀ i, i < h - l → vsub z g l (h - l) i = g (l + i) := by
      intro i hi; unfold vsub; rw [blt_eq, decide_eq_true hi]; rfl
    refine .vec hc' (fun i j => vals (l + i) j) (fun hp => ?_) (fun i hi => ?_) (fun i j hi hj => hone _ j (by omega) hj) (fun i j c hi hc => ?_)
    · obtain ⟨h0, a, e1, e2, e3, e4, e5⟩ := hz (by omega)
      obtain ⟨ab, ao1, as⟩ := a
      simp only at e2 e3 e4 e5; subst e2; subst e1
      refine ⟨h0, ⟨ab, ao1 + l * sz, none⟩, ?_, rfl, e3, ?_, fun i j hi hj => ?_⟩
      · rw [ha (by omega)]; simp [addr_add]
      · have e : h * sz ≤ n * sz := Nat.mul_le_mul_right _ hhn
        have : (l + (h - l)) * sz = l * sz + (h - l) * sz := Nat.add_mul _ _ _
        rw [Nat.add_sub_cancel' hlh] at this
        simp only; omega
      · have := e5 (l + i) j (by omega) hj
        rw [Nat.add_mul] at this
        simp only
        rw [← this]; congr 2; omega
    · rw [hsub i hi]; exact hs _ (by omega)
    · rw [hsub i hi] at hc; exact hh _ j c (by omega) hc
theorem sliceAV_sound {t : TypeId} {x v : AV} {x' : Value} {lo hi mx : Option AV} {lo' hi' mx' : Option Value} (h : sliceAV P t x lo hi mx = some v) (hx : Rep w F U bl x x')
    (hlo : OptRep w F U bl lo lo') (hhi : OptRep w F U bl hi hi') (hmx : OptRep w F U bl mx mx') :
    ∃ r, (Instr.sliceAt t x' lo' hi' mx').run P w = .ok r w ∧ Rep w F U bl v r ∧ ∀ own, OwnAt w F U B own v r := by
  have hx0 := hx.strip
  unfold sliceAV at h
  split at h
  · rename_i s ht hs
    rw [hs] at hx0
    obtain rfl := rep_str hx0
    split at h
    · rename_i l hh hl1 hh1
      rw [ble_eq, ble_eq] at h
      by_cases hc : l ≤ hh ∧ hh ≤ s.size
      · simp [hc] at h
        subst h
        cases mx' with
        | some _ => exact hmx.elim
        | none =>
          refine ⟨.string (s.extract l hh), ?_, .str, fun own => .bare (bare_of rfl)⟩
          unfold Instr.sliceAt
          simp only [Sem.run_bind, run_und ht (by simp), Result.andThen_ok]
          unfold Instr.slice
          simp only [Sem.run_bind, run_und ht (by simp), Result.andThen_ok, Option.isSome_none, Bool.false_eq_true, if_false, Sem.run_pure]
          rw [bounds_run hlo hhi hl1 hh1 hc.1 hc.2 (fun e => by subst e; simp [boundOf] at hh1; exact hh1.symm)]
          rfl
      · have : (decide (l ≤ hh) && decide (hh ≤ s.size)) = false := by
          simp only [Bool.and_eq_false_iff, decide_eq_false_iff_not]; exact Decidable.not_and_iff_not_or_not.1 hc
        simp [this] at h
    · simp at h
  · rename_i e sz n g ht hs
    rw [hs] at hx0
    obtain ⟨ao, cap, hncap, rfl⟩ : ∃ ao cap, n ≤ cap ∧ x' = .slice ao n cap := by cases hx0 with | vec hcap => exact ⟨_, _, hcap, rfl⟩
    split at h
    · rename_i l hh hl1 hh1
      have hnn : hi = none → hh = n := fun e => by subst e; simp [boundOf] at hh1; exact hh1.symm
      rw [ble_eq, ble_eq] at h
      by_cases hc : l ≤ hh ∧ hh ≤ n
      · simp only [hc, decide_true, Bool.and_true, cond_true] at h
        cases hsz : (Nat.beq sz (tySz P e) && Nat.blt 0 sz) with
        | false => simp [hsz] at h
        | true =>
          simp only [hsz, cond_true] at h
          simp only [Bool.and_eq_true, beq_eq, blt_eq, decide_eq_true_eq] at hsz
          split at h
          · simp only [Option.some.injEq] at h
            cases mx' with
            | some _ => exact hmx.elim
            | none =>
              have run : (Instr.sliceAt t (.slice ao n cap) lo' hi' none).run P w = .ok (.slice (if cap = l then ao else ao.map (·.add (l * tySz P e))) (hh - l) (cap - l)) w := by
                unfold Instr.sliceAt
                simp only [Sem.run_bind, run_und ht (by simp), Result.andThen_ok]
                unfold Instr.slice
                simp only [Sem.run_bind, run_und ht (by simp), Result.andThen_ok]
                rw [bounds_run hlo hhi hl1 hh1 hc.1 (Nat.le_trans hc.2 hncap) hnn]
                simp only [Result.andThen_ok, run_size' (show 0 < tySz P e by omega), Sem.run_pure]
              cases ho : x.isOwn with
              | false =>
                rw [ho, cond_false] at h
                subst h
                refine ⟨.slice (if cap = l then ao else ao.map (·.add (l * tySz P e))) (hh - l) (cap - l), run, vsub_rep hx0 hc.1 hc.2 ?_ (by omega), fun own => .bare (bare_ptr trivial)⟩
                intro hlt
                rw [if_neg (by omega), hsz.1]
              | true =>
                rw [ho, cond_true] at h
                subst h
                refine ⟨.slice (if cap = l then ao else ao.map (·.add (l * tySz P e))) (hh - l) (cap - l), run, .wide (by omega) (by omega) (vsub_rep hx0 (Nat.le_trans hc.1 hc.2) (Nat.le_refl _) ?_ (by omega)), fun own => .bare (bare_ptr trivial)⟩
                intro hlt
                rw [if_neg (by omega), hsz.1]
          · rename_i m0
            split at h
            · rename_i m hm
              rw [beq_eq] at h
              by_cases hmh : m = hh
              · subst hmh
                cases hin : hi with
                | none => rw [hin] at h; simp at h
                | some hi0 =>
                  rw [hin] at h
                  simp at h
                  subst h
                  cases mx' with
                  | none => exact hmx.elim
                  | some mx0 =>
                    refine ⟨.slice (if m = l then ao else ao.map (·.add (l * tySz P e))) (m - l) (m - l), ?_, .own (vsub_rep hx0 hc.1 hc.2 ?_ (Nat.le_refl _)), fun own => ?_⟩
                    · unfold Instr.sliceAt
                      simp only [Sem.run_bind, run_und ht (by simp), Result.andThen_ok]
                      unfold Instr.slice
                      simp only [Sem.run_bind, run_und ht (by simp), Result.andThen_ok]
                      rw [bounds_run_max hlo hhi hmx hl1 hh1 hm hc.1 (Nat.le_refl _) (Nat.le_trans hc.2 hncap) (by rw [hin]; simp)]
                      simp only [Result.andThen_ok, run_size' (show 0 < tySz P e by omega), Sem.run_pure]
                    · intro hlt
                      rw [if_neg (by omega), hsz.1]
                    · intro p u hp
                      cases p with
                      | nil => simp [AV.at] at hp; subst hp; exact fun _ => ⟨_, rfl, .inl rfl⟩
                      | cons i p => simp [AV.at] at hp
              · cases hi <;> simp [hmh] at h
            · simp at h
      · have : (decide (l ≤ hh) && decide (hh ≤ n)) = false := by
          simp only [Bool.and_eq_false_iff, decide_eq_false_iff_not]; exact Decidable.not_and_iff_not_or_not.1 hc
        simp [this] at h
    · simp at h
  · rename_i e sz n m g ht hs
    rw [hs] at hx0
    split at h
    · rename_i l hh hl1 hh1
      have hnn : hi = none → hh = n := fun e => by subst e; simp [boundOf] at hh1; exact hh1.symm
      rw [ble_eq, ble_eq] at h
      by_cases hc : l ≤ hh ∧ hh ≤ m
      · simp only [hc, decide_true, Bool.and_true, cond_true] at h
        cases hsz : (Nat.beq sz (tySz P e) && Nat.blt 0 sz) with
        | false => simp [hsz] at h
        | true =>
          simp only [hsz, cond_true, Option.some.injEq] at h
          subst h
          simp only [Bool.and_eq_true, beq_eq, blt_eq, decide_eq_true_eq] at hsz
          cases hx0 with
          | @wide _ _ _ _ _ ao cap hmcap hnm hin =>
            cases mx' with
            | some _ => exact hmx.elim
            | none =>
              refine ⟨.slice (if cap = l then ao else ao.map (·.add (l * tySz P e))) (hh - l) (cap - l), ?_, vsub_rep hin hc.1 hc.2 ?_ (by omega), fun own => .bare (bare_ptr trivial)⟩
              · unfold Instr.sliceAt
                simp only [Sem.run_bind, run_und ht (by simp), Result.andThen_ok]
                unfold Instr.slice
                simp only [Sem.run_bind, run_und ht (by simp), Result.andThen_ok]
                rw [bounds_run hlo hhi hl1 hh1 hc.1 (Nat.le_trans hc.2 hmcap) hnn]
                simp only [Result.andThen_ok, run_size' (show 0 < tySz P e by omega), Sem.run_pure]
              · intro hlt
                rw [if_neg (by omega), hsz.1]
      · have : (decide (l ≤ hh) && decide (hh ≤ m)) = false := by
          simp only [Bool.and_eq_false_iff, decide_eq_false_iff_not]; exact Decidable.not_and_iff_not_or_not.1 hc
        simp [this] at h
    · simp at h
  · rename_i e id sz l0 n ht hs
    rw [hs] at hx0
    split at h
    · rename_i l hh hl1 hh1
      have hnn : hi = none → hh = n := fun e => by subst e; simp [boundOf] at hh1; exact hh1.symm
      rw [ble_eq, ble_eq] at h
      by_cases hc : l ≤ hh ∧ hh ≤ n
      · simp only [hc, decide_true, Bool.and_true, cond_true] at h
        cases hsz : (Nat.beq sz (tySz P e) && Nat.blt 0 sz) with
        | false => simp [hsz] at h
        | true =>
          simp only [hsz, cond_true, Option.some.injEq] at h
          subst h
          simp only [Bool.and_eq_true, beq_eq, blt_eq, decide_eq_true_eq] at hsz
          cases hx0 with
          | @row _ _ _ _ _ ao cap hncap hz =>
            cases mx' with
            | some _ => exact hmx.elim
            | none =>
              refine ⟨.slice (if cap = l then ao else ao.map (·.add (l * tySz P e))) (hh - l) (cap - l), ?_, ?_, fun own => .bare (bare_ptr trivial)⟩
              · unfold Instr.sliceAt
                simp only [Sem.run_bind, run_und ht (by simp), Result.andThen_ok]
                unfold Instr.slice
                simp only [Sem.run_bind, run_und ht (by simp), Result.andThen_ok]
                rw [bounds_run hlo hhi hl1 hh1 hc.1 (Nat.le_trans hc.2 hncap) hnn]
                simp only [Result.andThen_ok, run_size' (show 0 < tySz P e by omega), Sem.run_pure, Option.map_some]
              · by_cases hcl : cap = l
                · rw [if_pos hcl]; exact .row (by omega) (fun h => absurd h (by omega))
                · rw [if_neg hcl]
                  refine .row (by omega) (fun h => ?_)
                  obtain ⟨b, hb, rfl⟩ := hz (by omega)
                  refine ⟨b, hb, ?_⟩
                  rw [Option.map_some, addr_add, hsz.1, ← Nat.add_mul]
      · have : (decide (l ≤ hh) && decide (hh ≤ n)) = false := by
          simp only [Bool.and_eq_false_iff, decide_eq_false_iff_not]; exact Decidable.not_and_iff_not_or_not.1 hc
        simp [this] at h
    · simp at h
  · simp at h
theorem lenAV_sound {h : Heap} {t : TypeId} {x v : AV} {x' : Value} {args : Array Value} (hl : lenAV P h t x = some v) (hx : Rep w F U bl x x') (ho : ObjsOK P w F U bl B h) (ht0 : TypeId) :
    ∃ r, (Builtin.len_ #[t] ht0 #[x']).run P w = .ok r w ∧ Rep w F U bl v r ∧ Flat v := by
  have hx0 := hx.strip
  unfold lenAV at hl
  split at hl
  · rename_i s ht hs
    rw [hs] at hx0
    obtain rfl := rep_str hx0
    simp at hl; subst hl
    exact ⟨_, by simp [Builtin.len_, run_und ht (by simp)]; rfl, .int, trivial⟩
  · rename_i _ n e ht
    simp at hl; subst hl
    exact ⟨_, by simp [Builtin.len_, run_und ht (by simp)]; rfl, .int, trivial⟩
  · rename_i e sz n g ht hs
    rw [hs] at hx0
    simp at hl; subst hl
    cases hx0 with
    | vec => exact ⟨_, by simp [Builtin.len_, run_und ht (by simp)]; rfl, .int, trivial⟩
  · rename_i e sz n m g ht hs
    rw [hs] at hx0
    simp at hl; subst hl
    cases hx0 with
    | wide => exact ⟨_, by simp [Builtin.len_, run_und ht (by simp)]; rfl, .int, trivial⟩
  · rename_i e id sz lo n ht hs
    rw [hs] at hx0
    simp at hl; subst hl
    cases hx0 with
    | row => exact ⟨_, by simp [Builtin.len_, run_und ht (by simp)]; rfl, .int, trivial⟩
  · rename_i e id sz n ht hs
    rw [hs] at hx0
    simp at hl; subst hl
    cases hx0 with
    | brow => exact ⟨_, by simp [Builtin.len_, run_und ht (by simp)]; rfl, .int, trivial⟩
  · rename_i e vs ht hs
    rw [hs] at hx0
    simp at hl; subst hl
    cases hx0 with
    | rvec => exact ⟨_, by simp [Builtin.len_, run_und ht (by simp)]; rfl, .int, trivial⟩
  · rename_i k e ht hs
    rw [hs] at hx0
    simp at hl; subst hl
    cases hx0 with
    | nilmap => exact ⟨_, by simp [Builtin.len_, run_und ht (by simp)]; rfl, .int, trivial⟩
  · rename_i k e id ht hs
    rw [hs] at hx0
    split at hl
    · rename_i kt ow ents hg
      simp at hl; subst hl
      cases hx0 with
      | mapr hb =>
        obtain ⟨o1, o2, o3, hobj⟩ := ho id _ hb
        rw [hg] at hobj
        obtain ⟨es, clock, h1, h2, _⟩ := hobj
        refine ⟨.int .i64 es.size, ?_, by rw [h2.1]; exact .int, trivial⟩
        simp [Builtin.len_, run_und ht (by simp), getObj, Sem.run, h1, goInt]
    · simp at hl
  · simp at hl
theorem min2_sound {x y v : AV} {x' y' : Value} (h : min2 x y = some v) (hx : Rep w F U bl x x') (hy : Rep w F U bl y y') : ∃ r, (Builtin.min2 x' y').run P w = .ok r w ∧ Rep w F U bl v r ∧ Flat v := by
  unfold min2 at h
  split at h
  · rename_i k a k' b
    obtain rfl := rep_int hx
    obtain rfl := rep_int hy
    by_cases hk : k = k'
    · subst hk; simp at h; subst h; exact ⟨_, rfl, .int, trivial⟩
    · simp [hk] at h
  · simp at h
theorem max2_sound {x y v : AV} {x' y' : Value} (h : max2 x y = some v) (hx : Rep w F U bl x x') (hy : Rep w F U bl y y') : ∃ r, (Builtin.max2 x' y').run P w = .ok r w ∧ Rep w F U bl v r ∧ Flat v := by
  unfold max2 at h
  split at h
  · rename_i k a k' b
    obtain rfl := rep_int hx
    obtain rfl := rep_int hy
    by_cases hk : k = k'
    · subst hk; simp at h; subst h; exact ⟨_, rfl, .int, trivial⟩
    · simp [hk] at h
  · simp at h
def RepL (w : World) (F : Nat → Prop) (U : Nat → Nat) (bl : Blocks) (l : List AV) (m : List Value) : Prop := l.length = m.length ∧ ∀ (i : Nat) x y, l[i]? = some x → m[i]? = some y → Rep w F U bl x y
theorem RepL.nil : RepL w F U bl [] [] := ⟨rfl, fun i x y h => by simp at h⟩
theorem RepL.cons {x : AV} {y : Value} {l : List AV} {m : List Value} (h : Rep w F U bl x y) (k : RepL w F U bl l m) : RepL w F U bl (x :: l) (y :: m) :=
  ⟨by simp [k.1], fun i a b ha hb => by
    cases i with
    | zero => simp at ha hb; subst ha; subst hb; exact h
    | succ i => exact k.2 i a b (by simpa using ha) (by simpa using hb)⟩
theorem RepL.head {x : AV} {l : List AV} {m : List Value} (h : RepL w F U bl (x :: l) m) : ∃ y r, m = y :: r ∧ Rep w F U bl x y ∧ RepL w F U bl l r := by
  cases m with
  | nil => exact absurd h.1 (by simp)
  | cons y r => exact ⟨y, r, rfl, h.2 0 x y rfl rfl, by simpa using h.1, fun i a b ha hb => h.2 (i + 1) a b (by simpa using ha) (by simpa using hb)⟩
theorem RepL.append {l l' : List AV} {m m' : List Value} (h : RepL w F U bl l m) (k : RepL w F U bl l' m') : RepL w F U bl (l ++ l') (m ++ m') := by
  refine ⟨by simp [h.1, k.1], fun i a b ha hb => ?_⟩
  by_cases hi : i < l.length
  · rw [List.getElem?_append_left hi] at ha
    rw [List.getElem?_append_left (by rw [← h.1]; exact hi)] at hb
    exact h.2 i a b ha hb
  · rw [List.getElem?_append_right (by omega)] at ha
    rw [List.getElem?_append_right (by rw [← h.1]; omega)] at hb
    rw [← h.1] at hb
    exact k.2 _ a b ha hb
theorem foldAV_sound {f : AV → AV → Option AV} {g : Value → Value → Sem Value} (hf : ∀ x y v x' y', f x y = some v → Rep w F U bl x x' → Rep w F U bl y y' → ∃ r, (g x' y').run P w = .ok r w ∧ Rep w F U bl v r ∧ Flat v) :
    ∀ (l : List AV) (m : List Value) (x v : AV) (x' : Value), foldAV f x l = some v → Rep w F U bl x x' → RepL w F U bl l m → (l = [] → Flat x) → ∃ r, (m.foldlM g x').run P w = .ok r w ∧ Rep w F U bl v r ∧ Flat v
  | [], m, x, v, x', h, hx, hl, hF => by
    cases m with
    | nil => simp [foldAV] at h; subst h; exact ⟨x', rfl, hx, hF rfl⟩
    | cons y r => exact absurd hl.1 (by simp)
  | y :: l, m, x, v, x', h, hx, hl, hF => by
    obtain ⟨y', r, rfl, hy, hr⟩ := hl.head
    simp only [foldAV] at h
    split at h
    · rename_i z hz
      obtain ⟨z', rz, pz, fz⟩ := hf _ _ _ _ _ hz hx hy
      obtain ⟨q, hq, pq⟩ := foldAV_sound hf l r z v z' h pz hr (fun _ => fz)
      exact ⟨q, by simp [List.foldlM, rz, hq], pq⟩
    · simp at h
theorem evoL_rep {env : Env} {a : Act} (hE : ∀ t, Rep w F U bl (env.get t) (a.tmps.getD t undef)) : ∀ (ts : List TypeId) (xs : List Operand), RepL w F U bl (evoL P env ts xs) (xs.map a.eval)
  | [], [] => RepL.nil
  | _ :: _, [] => by simp only [evoL]; exact RepL.nil
  | [], x :: xs => by simp only [evoL, List.map]; exact RepL.cons (evo_rep hE 0 x).strip (evoL_rep hE [] xs)
  | t :: ts, x :: xs => by simp only [evoL, List.map]; exact RepL.cons (evo_rep hE t x).strip (evoL_rep hE ts xs)
theorem pick_rep {b : Bool} {x y : AV} {x' y' : Value} (hx : Rep w F U bl x x') (hy : Rep w F U bl y y') (bx : Bare x) (by_ : Bare y) : Rep w F U bl (pickAV b x y) (if b then x' else y') ∧ Bare (pickAV b x y) := by
  unfold pickAV
  split
  · obtain rfl := rep_bool hx
    obtain rfl := rep_bool hy
    exact ⟨by cases b <;> exact .bool, Flat.bare trivial⟩
  · cases b
    · exact ⟨hy, by_⟩
    · exact ⟨hx, bx⟩
end
end Ax

namespace Ax
open Go Go.RowKit
section
variable {P : Program} {w : World} {F : Nat → Prop} {U : Nat → Nat} {bl : Blocks} {B : Nat}
theorem setRange_get : ∀ (r cs : List AV) (off i : Nat), (setRange cs off r)[i]? = if off ≤ i ∧ i < off + r.length ∧ i < cs.length then r[i - off]? else cs[i]?
  | [], cs, off, i => by simp [setRange]; intro h1 h2 _; omega
  | v :: r, cs, off, i => by
    simp only [setRange]
    rw [setRange_get r (cs.set off v) (off + 1) i, List.length_set, List.getElem?_set, List.length_cons]
    by_cases h1 : off = i
    · subst h1
      rw [if_neg (by omega)]
      by_cases h2 : off < cs.length
      · simp [h2]
      · simp [h2]
    · by_cases h2 : off + 1 ≤ i ∧ i < off + 1 + r.length ∧ i < cs.length
      · rw [if_pos h2, if_pos (by omega)]
        have : i - off = (i - (off + 1)) + 1 := by omega
        rw [this]; simp
      · rw [if_neg h2, if_neg h1, if_neg (by omega)]
theorem setRange_length : ∀ (r cs : List AV) (off : Nat), (setRange cs off r).length = cs.length
  | [], cs, off => rfl
  | v :: r, cs, off => by simp only [setRange]; rw [setRange_length r]; simp
theorem zipIdx_fold (off : Nat) : ∀ (l : List Value) (k : Nat) (cs : Array Value) (i : Nat),
    ((l.zipIdx k).foldl (fun cs (x : Value × Nat) => cs.setIfInBounds (off + x.2) x.1) cs)[i]? = if off + k ≤ i ∧ i < off + k + l.length ∧ i < cs.size then l[i - (off + k)]? else cs[i]?
  | [], k, cs, i => by simp; intro h1 h2 _; omega
  | v :: l, k, cs, i => by
    simp only [List.zipIdx_cons, List.foldl_cons]
    rw [zipIdx_fold off l (k + 1), Array.size_setIfInBounds, Array.getElem?_setIfInBounds, List.length_cons]
    by_cases h1 : off + k = i
    · subst h1
      rw [if_neg (by omega)]
      by_cases h2 : off + k < cs.size
      · simp [h2]
      · simp [h2, Array.getElem?_eq_none (Nat.le_of_not_lt h2)]
    · by_cases h2 : off + (k + 1) ≤ i ∧ i < off + (k + 1) + l.length ∧ i < cs.size
      · rw [if_pos h2, if_pos (by omega)]
        have : i - (off + k) = (i - (off + (k + 1))) + 1 := by omega
        rw [this]; simp
      · rw [if_neg h2, if_neg h1, if_neg (by omega)]
theorem scal_rep {v : AV} {x : Value} (h : Rep w F U bl v x) (hs : v.scal = true) : x.cells = #[x] ∧ x.oneCell' = true := by
  cases h with
  | own h =>
    rename_i u
    cases u <;> simp [AV.scal] at hs
    cases h with
    | vec => exact ⟨rfl, rfl⟩
  | _ => first | (simp [AV.scal] at hs; done) | exact ⟨rfl, rfl⟩
theorem rep_cells {v : AV} {x : Value} (h : Rep w F U bl v x) (hs : v.cells.all AV.scal = true) : RepL w F U bl v.cells x.cells.toList ∧ (∀ y ∈ x.cells.toList, y.oneCell' = true) ∧ (∀ cs, v = .agg cs ↔ v = .agg cs ∧ ∃ l, x = .agg l) := by
  have gen : ∀ {l : List AV} {m : List Value}, RepL w F U bl l m → l.all AV.scal = true → ∀ y ∈ m, y.oneCell' = true := by
    intro l m hl ha y hy
    obtain ⟨i, hi⟩ := List.mem_iff_getElem?.1 hy
    have hlt : i < l.length := by rw [hl.1]; exact (List.getElem?_eq_some_iff.1 hi).1
    exact (scal_rep (hl.2 i l[i] y (List.getElem?_eq_getElem hlt) hi) (List.all_eq_true.1 ha _ (List.getElem_mem hlt))).2
  unfold AV.cells at hs ⊢
  split at hs
  · rename_i cs
    cases h with
    | @agg _ _ vs hn hh =>
      have hr : RepL w F U bl cs (Value.agg vs).cells.toList := ⟨by simpa [Value.cells] using hn, fun i a b ha hb => hh i a b ha (by simpa [Value.cells] using hb)⟩
      exact ⟨hr, gen hr hs, fun cs' => ⟨fun e => ⟨e, vs, rfl⟩, fun e => e.1⟩⟩
  · rename_i hn
    have h1 : v.scal = true := by simpa using hs
    have hx := scal_rep h h1
    rw [hx.1]
    exact ⟨RepL.cons h RepL.nil, by simp [hx.2], fun cs => ⟨fun e => absurd e (hn cs), fun e => e.1⟩⟩
theorem fill_cells (off : Nat) (v : Value) (cells : Array Value) : (v.cells.zipIdx.foldl (fun cs (x : Value × Nat) => cs.setIfInBounds (off + x.2) x.1) cells) =
    ((v.cells.toList.zipIdx 0).foldl (fun cs (x : Value × Nat) => cs.setIfInBounds (off + x.2) x.1) cells) := by
  rw [← Array.foldl_toList]; simp
theorem RepL.over {cs l : List AV} {vs : Array Value} {m : List Value} (h : RepL w F U bl cs vs.toList) (k : RepL w F U bl l m) (off : Nat) :
    RepL w F U bl (setRange cs off l) ((m.zipIdx 0).foldl (fun cs (x : Value × Nat) => cs.setIfInBounds (off + x.2) x.1) vs).toList := by
  have hsz : ∀ (l : List (Value × Nat)) (c : Array Value), (l.foldl (fun cs (x : Value × Nat) => cs.setIfInBounds (off + x.2) x.1) c).size = c.size := by
    intro l; induction l with
    | nil => intro c; rfl
    | cons p l ih => intro c; simp only [List.foldl_cons]; rw [ih]; simp
  have hl1 : (setRange cs off l).length = cs.length := setRange_length _ _ _
  have hl2 := hsz (m.zipIdx 0) vs
  refine ⟨by rw [hl1, h.1]; simp only [Array.length_toList]; exact hl2.symm, fun i x y hx hy => ?_⟩
  rw [setRange_get] at hx
  rw [Array.getElem?_toList, zipIdx_fold] at hy
  have hlen : cs.length = vs.size := by simpa using h.1
  by_cases hc : off ≤ i ∧ i < off + l.length ∧ i < cs.length
  · rw [if_pos hc] at hx
    rw [if_pos (by rw [← k.1]; omega)] at hy
    exact k.2 _ x y hx hy
  · rw [if_neg hc] at hx
    rw [if_neg (by rw [← k.1]; omega)] at hy
    exact h.2 i x y hx (by simpa using hy)
theorem fill_sound {place : Nat → Option (Nat × TypeId)} {place' : Nat → Option (Nat × Nat)} (hp : ∀ i off t, place i = some (off, t) → place' i = some (off, tySz P t)) :
    ∀ (ps : List (Nat × AV)) (qs : List (Nat × Value)) (cs r : List AV) (vs : Array Value), fillParts P place cs ps = some r → RepL w F U bl cs vs.toList →
      ps.length = qs.length → (∀ (i : Nat) p q, ps[i]? = some p → qs[i]? = some q → p.1 = q.1 ∧ Rep w F U bl p.2 q.2) →
      ∃ us, Instr.fill place' vs qs = some us ∧ RepL w F U bl r us.toList
  | [], [], cs, r, vs, h, hr, _, _ => by simp [fillParts] at h; subst h; exact ⟨vs, rfl, hr⟩
  | [], _ :: _, cs, r, vs, h, hr, hl, _ => by simp at hl
  | _ :: _, [], cs, r, vs, h, hr, hl, _ => by simp at hl
  | (i, v) :: ps, (i', v') :: qs, cs, r, vs, h, hr, hl, hq => by
    obtain ⟨rfl, hv⟩ : i = i' ∧ Rep w F U bl v v' := hq 0 _ _ rfl rfl
    simp only [fillParts] at h
    split at h
    · rename_i off t hpl
      rw [beq_eq, ble_eq] at h
      by_cases hc : v.cells.length = tySz P t ∧ off + v.cells.length ≤ cs.length ∧ v.cells.all AV.scal = true
      · obtain ⟨c1, c2, c3⟩ := hc
        have c2' : off + tySz P t ≤ cs.length := by omega
        simp only [c1, c2', c3, decide_true, Bool.and_self, cond_true] at h
        obtain ⟨k1, k2, _⟩ := rep_cells hv c3
        obtain ⟨us, hus, hru⟩ := fill_sound hp ps qs _ r _ h (hr.over k1 off) (by simpa using hl) (fun j p q hj hk => hq (j + 1) p q (by simpa using hj) (by simpa using hk))
        refine ⟨us, ?_, hru⟩
        have e1 : v'.cells.size = tySz P t := by rw [← c1, k1.1]; simp
        have e2 : cs.length = vs.size := by simpa using hr.1
        simp only [Instr.fill, hp i off t hpl]
        rw [if_neg (by simp only [e1, ne_eq, not_true_eq_false, decide_false, Bool.false_or, decide_eq_true_eq]; omega)]
        rw [← hus]
        congr 1
        exact fill_cells off v' vs
      · have : (decide (v.cells.length = tySz P t) && decide (off + v.cells.length ≤ cs.length) && v.cells.all AV.scal) = false := by
          rw [Bool.eq_false_iff]; intro he; simp only [Bool.and_eq_true, decide_eq_true_eq] at he; exact hc ⟨he.1.1, he.1.2, he.2⟩
        simp [this] at h
    · simp at h
theorem mapM_fields (w : World) : ∀ (fs : List Field), (fs.all fun f => (P.info? f.type).isSome) = true →
    (fs.mapM (m := Sem) fun f => do pure (f.offset, ← Go.sizeOf f.type)).run P w = .ok (fs.map fun f => (f.offset, tySz P f.type)) w
  | [], _ => rfl
  | f :: fs, h => by
    simp only [List.all_cons, Bool.and_eq_true] at h
    obtain ⟨i, hi⟩ := Option.isSome_iff_exists.1 h.1
    have hs : (Go.sizeOf f.type).run P w = .ok (tySz P f.type) w := by simp [Go.sizeOf, typeInfo, hi, tySz]
    rw [List.mapM_cons]
    simp only [Sem.run_bind, hs, Result.andThen_ok, Sem.run_pure, mapM_fields w fs h.2, List.map_cons]
theorem zeroAV_run {t : TypeId} {i : TypeInfo} {z : Value} (hi : P.info? t = some i) (hz : i.zero = some z) : (zeroValue t).run P w = .ok z w ∧ Rep w F U bl (zeroAV P t) z ∧ ∀ own, OwnAt w F U B own (zeroAV P t) z := by
  have h := ofConst_rep (w := w) (F := F) (U := U) (bl := bl) (B := B) (P := P) t z
  refine ⟨by simp [zeroValue, typeInfo, hi, hz], ?_⟩
  unfold zeroAV; rw [hi]; simp only [hz]; exact h
theorem asNilL_get (l : List AV) : (AV.asNilL l).length = l.length ∧ ∀ (i : Nat), (AV.asNilL l)[i]? = (l[i]?).map AV.asNil := by
  induction l with
  | nil => exact ⟨rfl, fun i => by simp [AV.asNilL]⟩
  | cons v r ih =>
    refine ⟨by simp [AV.asNilL, ih.1], fun i => ?_⟩
    cases i with
    | zero => simp [AV.asNilL]
    | succ i => simp [AV.asNilL, ih.2 i]
theorem keepNilL_get (l : List AV) : (AV.keepNilL l).length = l.length ∧ ∀ (i : Nat), (AV.keepNilL l)[i]? = (l[i]?).map AV.keepNil := by
  induction l with
  | nil => exact ⟨rfl, fun i => by simp [AV.keepNilL]⟩
  | cons v r ih =>
    refine ⟨by simp [AV.keepNilL, ih.1], fun i => ?_⟩
    cases i with
    | zero => simp [AV.keepNilL]
    | succ i => simp [AV.keepNilL, ih.2 i]
theorem asNil_rep (t : TypeId) (v : Value) : Rep w F U bl (AV.asNil (ofConst1 P t v)) v := by
  by_cases hv : v = .slice none 0 0
  · subst hv
    have hr := (ofConst1_rep (w := w) (F := F) (U := U) (bl := bl) (B := 0) (P := P) t (.slice none 0 0)).1
    unfold AV.asNil
    split
    · exact .nils
    · exact hr.strip
  · have hr := (ofConst1_rep (w := w) (F := F) (U := U) (bl := bl) (B := 0) (P := P) t v).1
    have hn : AV.asNil (ofConst1 P t v) = (ofConst1 P t v).strip := by
      unfold ofConst1
      split <;> first | rfl | exact absurd rfl hv
    rw [hn]
    exact hr.strip
theorem zeroCell_noagg (d : Nat) (t : TypeId) (cs : List AV) : zeroCell P d t ≠ .agg cs := by
  cases d with
  | zero => intro h; simp [zeroCell] at h
  | succ d =>
    simp only [zeroCell]
    split
    all_goals first | (intro h; cases h; done) | skip
    rename_i e _
    cases tyData P depth0 e with
    | true => intro h; simp only [cond_true] at h; cases h
    | false => intro h; simp only [cond_false] at h; cases h
theorem zeroN_run {t : TypeId} {i : TypeInfo} {z : Value} (hi : P.info? t = some i) (hz : i.zero = some z) : Rep w F U bl (zeroN P t) z := by
  have e : zeroN P t = (ofConst P t z).asNilA := by unfold zeroN zeroAV; rw [hi]; simp only [hz]
  rw [e]
  by_cases ha : ∃ vs, z = .agg vs
  · obtain ⟨vs, rfl⟩ := ha
    unfold ofConst
    simp only [beq_eq]
    by_cases h : (tyCells P depth0 t).length = vs.size
    · simp only [h, decide_true, cond_true, AV.asNilA]
      obtain ⟨h1, h2⟩ := ofConstL_get P (tyCells P depth0 t) vs.toList (by simpa using h)
      refine .agg (by rw [(asNilL_get _).1]; simpa using h1) fun i x y hx hy => ?_
      rw [(asNilL_get _).2] at hx
      obtain ⟨x0, hx0, rfl⟩ := Option.map_eq_some_iff.1 hx
      obtain ⟨t', rfl⟩ := h2 i x0 y hx0 (by simpa using hy)
      exact asNil_rep t' y
    · simp only [h, decide_false, cond_false, AV.asNilA, AV.strip]
      exact .undef
  · have e1 : ofConst P t z = ofConst1 P t z := by
      unfold ofConst
      split
      · exact absurd ⟨_, rfl⟩ ha
      · rfl
    have hr := (ofConst1_rep (w := w) (F := F) (U := U) (bl := bl) (B := 0) (P := P) t z).1
    rw [e1]
    have e2 : (ofConst1 P t z).asNilA = (ofConst1 P t z).strip := by
      cases hq : ofConst1 P t z with
      | agg cs =>
        exfalso
        unfold ofConst1 at hq
        split at hq <;> first | (cases hq; done) | skip
        split at hq
        · exact zeroCell_noagg _ _ _ hq
        · cases hq
      | _ => rfl
    rw [e2]
    exact hr.strip
theorem keepNil_rep {v : AV} {x : Value} (h : Rep w F U bl v x) : Rep w F U bl v.keepNil x := by
  unfold AV.keepNil
  split
  · exact h
  · exact h.strip
theorem keepNil_bare (v : AV) : Bare v.keepNil := by
  unfold AV.keepNil
  split
  · exact bare_of rfl
  · exact strip_bare _
theorem keepNilL_rep {cs : List AV} {x : Value} (h : Rep w F U bl (.agg cs) x) : Rep w F U bl (.agg (AV.keepNilL cs)) x := by
  cases h with
  | agg hn hc =>
    refine .agg (by rw [(keepNilL_get _).1]; exact hn) fun i a b ha hb => ?_
    rw [(keepNilL_get _).2] at ha
    obtain ⟨a0, ha0, rfl⟩ := Option.map_eq_some_iff.1 ha
    exact keepNil_rep (hc i a0 b ha0 hb)
theorem keepNilL_bare (cs : List AV) : Bare (.agg (AV.keepNilL cs)) := by
  intro p u
  cases p with
  | nil => simp only [AV.at]; rintro ⟨⟩; rfl
  | cons i p =>
    simp only [AV.at]
    cases h : (AV.keepNilL cs)[i]? with
    | none => simp
    | some c =>
      rw [(keepNilL_get _).2] at h
      obtain ⟨a0, ha0, rfl⟩ := Option.map_eq_some_iff.1 h
      exact keepNil_bare a0 p u
theorem keepA_rep {v : AV} {x : Value} (h : Rep w F U bl v x) : Rep w F U bl v.keepA x := by
  cases v with
  | agg cs => exact keepNilL_rep h
  | _ => exact h.strip
theorem keepA_bare (v : AV) : Bare v.keepA := by
  cases v with
  | agg cs => exact keepNilL_bare cs
  | _ => exact strip_bare _
theorem build_sound {t : TypeId} {ps : List (Nat × AV)} {qs : Array (Nat × Value)} {r : List AV} (hb : buildOk P t = true) (h : fillParts P (placeOf P t) (zeroN P t).cells ps = some r)
    (hl : ps.length = qs.toList.length) (hq : ∀ (i : Nat) p q, ps[i]? = some p → qs.toList[i]? = some q → p.1 = q.1 ∧ Rep w F U bl p.2 q.2) (hz : (zeroN P t).cells.all AV.scal = true) :
    ∃ x, (Instr.build t qs).run P w = .ok x w ∧ Rep w F U bl (.agg r) x := by
  have hzr : ∃ i z, P.info? t = some i ∧ i.zero = some z := by
    unfold zeroN zeroAV at hz
    split at hz
    · rename_i i hi
      split at hz
      · rename_i z hz'; exact ⟨i, z, hi, hz'⟩
      · simp [AV.asNilA, AV.strip, AV.cells, AV.scal] at hz
    · simp [AV.asNilA, AV.strip, AV.cells, AV.scal] at hz
  obtain ⟨i, z, hi, hiz⟩ := hzr
  obtain ⟨z1, z2, _⟩ := zeroAV_run (w := w) (F := F) (U := U) (bl := bl) (B := 0) hi hiz
  obtain ⟨k1, k2, _⟩ := rep_cells (zeroN_run (w := w) (F := F) (U := U) (bl := bl) hi hiz) hz
  unfold buildOk at hb
  split at hb
  · rename_i fs ht
    have hp : ∀ i off u, placeOf P t i = some (off, u) → ((fs.map fun f => (f.offset, tySz P f.type))[i]? : Option (Nat × Nat)) = some (off, tySz P u) := by
      intro i off u hh
      unfold placeOf at hh
      rw [ht] at hh
      simp only at hh
      obtain ⟨f, hf, he⟩ := Option.map_eq_some_iff.1 hh
      simp at he
      simp [hf, he.1, he.2]
    obtain ⟨us, hus, hru⟩ := fill_sound hp ps qs.toList _ r z.cells h k1 hl hq
    refine ⟨.agg us, ?_, .agg (by simpa using hru.1) fun i a b ha hb => hru.2 i a b ha (by simpa using hb)⟩
    unfold Instr.build
    simp only [Sem.run_bind, z1, Result.andThen_ok, run_und ht (by simp)]
    have hm : ((fs.mapM fun f => do pure (f.offset, ← Go.sizeOf f.type) : Sem (Array (Nat × Nat)))).run P w = .ok (fs.map fun f => (f.offset, tySz P f.type)) w := by
      rw [Array.mapM_eq_mapM_toList, Sem.run_map, mapM_fields w fs.toList hb]
      simp only [Result.andThen_ok]
      congr 1
      apply Array.ext'; simp
    simp only [hm, Result.andThen_ok, hus, Sem.run_pure]
  · rename_i n e ht
    obtain ⟨ei, hei⟩ := Option.isSome_iff_exists.1 hb
    have hp : ∀ i off u, placeOf P t i = some (off, u) → (fun i => (some (i * tySz P e, tySz P e) : Option (Nat × Nat))) i = some (off, tySz P u) := by
      intro i off u hh
      unfold placeOf at hh
      rw [ht] at hh
      simp only [Option.some.injEq, Prod.mk.injEq] at hh
      obtain ⟨rfl, rfl⟩ := hh
      rfl
    obtain ⟨us, hus, hru⟩ := fill_sound hp ps qs.toList _ r z.cells h k1 hl hq
    refine ⟨.agg us, ?_, .agg (by simpa using hru.1) fun i a b ha hb => hru.2 i a b ha (by simpa using hb)⟩
    have hs : (Go.sizeOf e).run P w = .ok (tySz P e) w := by simp [Go.sizeOf, typeInfo, hei, tySz]
    unfold Instr.build
    simp only [Sem.run_bind, z1, Result.andThen_ok, run_und ht (by simp), hs, hus, Sem.run_pure]
  · simp at hb
end
end Ax

namespace Ax
open Go Go.RowKit
def number : Nat → List Value → List (Nat × Value)
  | _, [] => []
  | k, v :: r => (k, v) :: number (k + 1) r
theorem fill_rows (sz : Nat) : ∀ (vs : List Value) (k : Nat) (cells : Array Value), (∀ v ∈ vs, v.cells.size = sz) → (k + vs.length) * sz ≤ cells.size →
    ∃ us, Instr.fill (fun i => some (i * sz, sz)) cells (number k vs) = some us ∧ us.size = cells.size ∧
      (∀ (m : Nat) v, vs[m]? = some v → ∀ j, j < sz → us[(k + m) * sz + j]? = v.cells[j]?) ∧ (∀ i, i < k * sz → us[i]? = cells[i]?)
  | [], k, cells, _, _ => ⟨cells, rfl, rfl, fun m v h => by simp at h, fun i _ => rfl⟩
  | v :: vs, k, cells, hs, hl => by
    have hsv : v.cells.size = sz := hs v (by simp)
    have hb : k * sz + sz + vs.length * sz ≤ cells.size := by
      simp only [List.length_cons] at hl
      have : (k + (vs.length + 1)) * sz = k * sz + sz + vs.length * sz := by rw [Nat.add_mul, Nat.add_mul, Nat.one_mul]; omega
      omega
    have hsz : ∀ (l : List (Value × Nat)) (c : Array Value), (l.foldl (fun cs (x : Value × Nat) => cs.setIfInBounds (k * sz + x.2) x.1) c).size = c.size := by
      intro l; induction l with
      | nil => intro c; rfl
      | cons p l ih => intro c; simp only [List.foldl_cons]; rw [ih]; simp
    have hnext : (k + 1 + vs.length) * sz ≤ ((v.cells.toList.zipIdx 0).foldl (fun cs (x : Value × Nat) => cs.setIfInBounds (k * sz + x.2) x.1) cells).size := by
      rw [hsz]; rw [Nat.add_mul, Nat.add_mul, Nat.one_mul]; omega
    obtain ⟨us, h1, h2, h3, h4⟩ := fill_rows sz vs (k + 1) _ (fun u hu => hs u (by simp [hu])) hnext
    refine ⟨us, ?_, by rw [h2, hsz], fun m u hm j hj => ?_, fun i hi => ?_⟩
    · simp only [number, Instr.fill]
      rw [if_neg (by simp only [hsv, ne_eq, not_true_eq_false, decide_false, Bool.false_or, decide_eq_true_eq]; omega)]
      rw [← h1]
      congr 1
      exact fill_cells (k * sz) v cells
    · cases m with
      | zero =>
        simp at hm; subst hm
        rw [Nat.add_zero, h4 _ (by rw [Nat.add_mul, Nat.one_mul]; omega), zipIdx_fold, Array.length_toList, hsv]
        rw [if_pos (by omega)]
        simp
      | succ m =>
        have := h3 m u (by simpa using hm) j hj
        rw [← this, show k + (m + 1) = k + 1 + m from by omega]
    · rw [h4 i (by rw [Nat.add_mul, Nat.one_mul]; omega), zipIdx_fold, if_neg (by omega)]
section
variable {P : Program} {w : World} {F : Nat → Prop} {U : Nat → Nat} {bl : Blocks} {B : Nat}
def rowW (w : World) (c : Array Value) (e : TypeId) : World := { w with heap := w.heap.push (.cells c e) }
def rowU (w : World) (U : Nat → Nat) (n : Nat) (b : Nat) : Nat := if b = w.heap.size then n else U b
theorem rowW_ext (c : Array Value) (e : TypeId) (n : Nat) : Ext w U (rowW w c e) (rowU w U n) :=
  ⟨rfl, rfl, rfl, by simp [rowW], fun b hb => ⟨by show (w.heap.push _)[b]? = _; rw [Array.getElem?_push, if_neg (by omega)], by unfold rowU; rw [if_neg (by omega)]⟩, Nat.le_refl _⟩
theorem rowW_block (c : Array Value) (e : TypeId) : (rowW w c e).heap[w.heap.size]? = some (.cells c e) := by show (w.heap.push _)[w.heap.size]? = _; rw [Array.getElem?_push, if_pos rfl]
theorem rowW_cell (c : Array Value) (e : TypeId) (o : Nat) : (rowW w c e).cell? ⟨w.heap.size, o, none⟩ = c[o]? := cell_row (rowW_block c e) o
theorem allShape_get {e : TypeId} : ∀ {l : List AV}, allShape P e l = true → ∀ (i : Nat) v, l[i]? = some v → sameShape P e v = true
  | [], _, i, v, h => by simp at h
  | u :: r, ha, i, v, h => by
    simp only [allShape, Bool.and_eq_true] at ha
    cases i with
    | zero => simp at h; subst h; exact ha.1
    | succ i => exact allShape_get ha.2 i v (by simpa using h)
theorem sameShape_of {e : TypeId} {v : AV} (h : sameShape P e v = true) : v.cells.length = tySz P e ∧ v.cells.all AV.scal = true := by
  unfold sameShape at h
  simp only [Bool.and_eq_true, beq_eq, decide_eq_true_eq] at h
  exact h.1
theorem partVals_get : ∀ (ps : List (Nat × AV)) (i : Nat), (partVals ps)[i]? = (ps[i]?).map (·.2)
  | [], i => by simp [partVals]
  | (_, v) :: r, i => by cases i <;> simp [partVals, partVals_get r]
theorem partVals_length : ∀ (ps : List (Nat × AV)), (partVals ps).length = ps.length
  | [] => rfl
  | (_, v) :: r => by simp [partVals, partVals_length r]
theorem inOrder_number : ∀ (ps : List (Nat × AV)) (qs : List (Nat × Value)) (k : Nat), inOrder k ps = true → ps.length = qs.length →
    (∀ (i : Nat) p q, ps[i]? = some p → qs[i]? = some q → p.1 = q.1 ∧ Rep w F U bl p.2 q.2) → qs = number k (qs.map (·.2))
  | [], [], k, _, _, _ => rfl
  | [], _ :: _, k, _, h, _ => by simp at h
  | _ :: _, [], k, _, h, _ => by simp at h
  | (i, v) :: ps, (j, x) :: qs, k, ho, hl, hq => by
    simp only [inOrder, Bool.and_eq_true, beq_eq, decide_eq_true_eq] at ho
    obtain ⟨e1, _⟩ : i = j ∧ Rep w F U bl v x := hq 0 _ _ rfl rfl
    simp only [List.map_cons, number]
    congr 1
    · simp only [Prod.mk.injEq, and_true]; omega
    · exact inOrder_number ps qs (k + 1) ho.2 (by simpa using hl) (fun m p q hp hq' => hq (m + 1) p q (by simpa using hp) (by simpa using hq'))
def Gives (P : Program) (w : World) (F : Nat → Prop) (U : Nat → Nat) (bl : Blocks) (B : Nat) (s : Sem Value) (v : AV) : Prop :=
  ∃ x w' U', s.run P w = .ok x w' ∧ Ext w U w' U' ∧ Rep w' F U' bl v x ∧ ∀ own, OwnAt w' F U' B own v x
theorem Gives.plain {s : Sem Value} {v : AV} {x : Value} (h : s.run P w = .ok x w) (hv : Rep w F U bl v x) (hb : Bare v) : Gives P w F U bl B s v :=
  ⟨x, w, U, h, Ext.refl w U, hv, fun _ => .bare hb⟩
theorem buildSlice_sound {t : TypeId} {len : Nat} {ps : List (Nat × AV)} {qs : Array (Nat × Value)} {v : AV} (h : buildSliceAV P t len ps = some v) (hF : ¬ F w.heap.size)
    (hl : ps.length = qs.toList.length) (hq : ∀ (i : Nat) p q, ps[i]? = some p → qs.toList[i]? = some q → p.1 = q.1 ∧ Rep w F U bl p.2 q.2) :
    Gives P w F U bl B (Instr.buildSlice t len qs) v := by
  unfold buildSliceAV at h
  cases hc : (inOrder 0 ps && Nat.beq ps.length len && allShape P (elemOfT P t) (partVals ps) && Nat.ble (len * tySz P (elemOfT P t)) 16777216 && Nat.blt 0 (tySz P (elemOfT P t))
      && hasZero P (elemOfT P t) && isSliceT P t) with
  | false => rw [hc] at h; simp at h
  | true =>
    rw [hc] at h
    simp only [cond_true] at h
    simp only [Bool.and_eq_true, beq_eq, ble_eq, blt_eq, decide_eq_true_eq] at hc
    obtain ⟨⟨⟨⟨⟨⟨c1, c2⟩, c3⟩, c4⟩, c5⟩, c6⟩, c7⟩ := hc
    obtain ⟨e, ht⟩ : ∃ e, tyD P t = .slice e := by unfold isSliceT at c7; cases hd : tyD P t <;> simp [hd] at c7; exact ⟨_, rfl⟩
    have he : elemOfT P t = e := by unfold elemOfT; rw [ht]
    rw [he] at h c3 c4 c5 c6
    obtain ⟨i, hi⟩ := info_size c5
    unfold hasZero at c6
    rw [hi] at c6
    simp only at c6
    obtain ⟨z, hz⟩ := Option.isSome_iff_exists.1 c6
    have hzr := (zeroAV_run (w := w) (F := F) (U := U) (bl := bl) (B := 0) hi hz).1
    have hvals : ∀ (m : Nat) p q, ps[m]? = some p → qs.toList[m]? = some q → RepL w F U bl p.2.cells q.2.cells.toList ∧ q.2.cells.size = tySz P e ∧ ∀ y ∈ q.2.cells.toList, y.oneCell' = true := by
      intro m p q hp hq'
      obtain ⟨s1, s2⟩ := sameShape_of (allShape_get c3 m p.2 (by rw [partVals_get, hp]; rfl))
      obtain ⟨k1, k2, _⟩ := rep_cells (hq m p q hp hq').2 s2
      exact ⟨k1, by have := k1.1; rw [s1] at this; simp at this; exact this.symm, k2⟩
    have hnum := inOrder_number ps qs.toList 0 c1 hl hq
    have hlen : (qs.toList.map (·.2)).length = len := by rw [List.length_map, ← hl, c2]
    have hzero : ((Array.range (len * tySz P e)).map (z.cells[· % z.cells.size]!)).size = len * tySz P e := by simp
    obtain ⟨us, h1, h2, h3, _⟩ := fill_rows (tySz P e) (qs.toList.map (·.2)) 0 ((Array.range (len * tySz P e)).map (z.cells[· % z.cells.size]!)) (fun u hu => by
      obtain ⟨q, hq', rfl⟩ := List.mem_map.1 hu
      obtain ⟨m, hm⟩ := List.mem_iff_getElem?.1 hq'
      have hlt : m < ps.length := by rw [hl]; exact (List.getElem?_eq_some_iff.1 hm).1
      exact (hvals m ps[m] q (List.getElem?_eq_getElem hlt) hm).2.1) (by rw [hlen, hzero]; simp)
    rw [← hnum] at h1
    have run : (Instr.buildSlice t len qs).run P w = .ok (.slice (some ⟨w.heap.size, 0, none⟩) len len) (rowW w us e) := by
      unfold Instr.buildSlice
      simp only [Sem.run_bind, run_und ht (by simp), Result.andThen_ok, run_size' c5]
      rw [if_neg (by omega)]
      by_cases h0 : len * tySz P e = 0
      · have hl0 : len = 0 := by rcases Nat.mul_eq_zero.1 h0 with h | h <;> omega
        subst hl0
        have hqn : qs.toList = [] := List.length_eq_zero_iff.1 (by rw [← hl, c2])
        have hus : us = #[] := by apply Array.eq_empty_of_size_eq_zero; rw [h2, hzero]; simp
        subst hus
        simp only [Nat.zero_mul, if_true, Sem.run_bind, Sem.run_pure, Result.andThen_ok, hqn, Instr.fill]
        have hr0 : (Array.range 0 : Array Nat) = #[] := rfl
        simp [newRow, rowW, hr0]
      · rw [if_neg h0]
        simp only [Sem.run_bind, hzr, Result.andThen_ok, Sem.run_pure]
        rw [h1]
        simp [newRow, rowW]
    have hcell : ∀ (m j : Nat) c, m < len → (∃ u, (partVals ps)[m]? = some u ∧ u.cells[j]? = some c) → ∃ y, us[m * tySz P e + j]? = some y ∧ y.oneCell' = true ∧ Rep w F U bl c y := by
      rintro m j c hm ⟨u, hu, hj⟩
      rw [partVals_get] at hu
      obtain ⟨p, hp, rfl⟩ := Option.map_eq_some_iff.1 hu
      have hlt : m < qs.toList.length := by rw [← hl, c2]; exact hm
      obtain ⟨k1, k2, k3⟩ := hvals m p qs.toList[m] hp (List.getElem?_eq_getElem hlt)
      have hjs : j < tySz P e := by
        have := (List.getElem?_eq_some_iff.1 hj).1
        rw [k1.1, Array.length_toList, k2] at this; exact this
      have := h3 m qs.toList[m].2 (by simp [List.getElem?_eq_getElem hlt]) j hjs
      rw [Nat.zero_add] at this
      have hy : qs.toList[m].2.cells[j]? = some (qs.toList[m].2.cells[j]'(by rw [k2]; exact hjs)) := by simp [k2, hjs]
      rw [hy] at this
      exact ⟨_, this, k3 _ (by simp), k1.2 j c _ hj (by simp)⟩
    have hext : Ext w U (rowW w us e) (rowU w U (len * tySz P e)) := rowW_ext us e _
    have hval : ∀ (m : Nat), m < len → ∃ u, (partVals ps)[m]? = some u ∧ sameShape P e u = true := by
      intro m hm
      have : m < (partVals ps).length := by rw [partVals_length, c2]; exact hm
      exact ⟨_, List.getElem?_eq_getElem this, allShape_get c3 m _ (List.getElem?_eq_getElem this)⟩
    cases hdata : AV.isDataL (partVals ps) with
    | true =>
      simp only [hdata, cond_true, Option.some.injEq] at h
      subst h
      refine ⟨_, _, _, run, hext, .own (.vec (Nat.le_refl _) (fun m j => us.getD (m * tySz P e + j) undef) (fun hp => ⟨c5, ⟨w.heap.size, 0, none⟩, rfl, rfl, hF, by simp [rowU], fun m j hm hj => ?_⟩)
        (fun m hm => ?_) (fun m j hm hj => ?_) (fun m j c hm hc => ?_)), fun own p u hp => ?_⟩
      · rw [Nat.zero_add, rowW_cell]
        have : m * tySz P e + j < us.size := by rw [h2, hzero]; have := index_mul (sz := tySz P e) hm; omega
        simp [Array.getD, this]
      · obtain ⟨u, hu, hs⟩ := hval m hm
        simp only [vlist, List.getD, hu, Option.getD_some]
        exact (sameShape_of hs).1
      · obtain ⟨u, hu, hs⟩ := hval m hm
        obtain ⟨y, hy, h1, _⟩ := hcell m j _ hm ⟨u, hu, List.getElem?_eq_getElem (by rw [(sameShape_of hs).1]; exact hj)⟩
        have hl := (Array.getElem?_eq_some_iff.1 hy).1
        have hv := (Array.getElem?_eq_some_iff.1 hy).2
        have : us.getD (m * tySz P e + j) undef = y := by rw [Array.getD, dif_pos hl]; exact hv
        rw [this]; exact h1
      · obtain ⟨u, hu, hs⟩ := hval m hm
        simp only [vlist, List.getD, hu, Option.getD_some] at hc
        obtain ⟨y, hy, _, hr⟩ := hcell m j c hm ⟨u, hu, hc⟩
        have hud : u.isData = true := isDataL_get hdata m u hu
        have : us.getD (m * tySz P e + j) undef = y := by
          have hlt := (Array.getElem?_eq_some_iff.1 hy).1
          have := (Array.getElem?_eq_some_iff.1 hy).2
          simp [Array.getD, hlt, this]
        rw [this]
        exact (hr.data (cells_data hud j c hc)).mono (hext.grow F) (BlLe.refl _)
      · cases p with
        | nil => simp [AV.at] at hp; subst hp; exact fun _ => ⟨_, rfl, .inl rfl⟩
        | cons i p => simp [AV.at] at hp
    | false =>
      cases hagg : tyAgg P e with
      | true => simp [hdata, hagg] at h
      | false =>
        simp only [hdata, hagg, cond_false, Bool.not_false, cond_true, Option.some.injEq] at h
        subst h
        have hlen' : (partVals ps).length = len := by rw [partVals_length, c2]
        have hcells : ∀ v ∈ partVals ps, v.cells = [v] := by
          intro v hv
          obtain ⟨m, hm⟩ := List.mem_iff_getElem?.1 hv
          have hs := allShape_get c3 m v hm
          unfold sameShape at hs
          unfold AV.cells
          split
          · simp only [Bool.and_eq_true] at hs; rw [hagg] at hs; simp at hs
          · rfl
        by_cases hn0 : len = 0
        · have hnil : partVals ps = [] := List.length_eq_zero_iff.1 (by rw [hlen', hn0])
          rw [hnil]
          subst hn0
          exact ⟨_, _, _, run, hext, .rvec (Nat.le_refl _) (fun _ => undef) (fun h => absurd h (by simp)) (fun v hv => by simp at hv) (fun i c hc => by simp at hc), fun _ => .bare (bare_ptr trivial)⟩
        · have hs1 : tySz P e = 1 := by
            obtain ⟨u, hu, hs⟩ := hval 0 (by omega)
            have := (sameShape_of hs).1
            rw [hcells u (List.mem_of_getElem? hu)] at this
            simpa using this.symm
          refine ⟨_, _, _, run, hext, ?_, fun _ => .bare (bare_ptr trivial)⟩
          have hg := hext.grow F
          rw [← hlen'] at hg ⊢
          refine .rvec (Nat.le_refl _) (fun m => us.getD m undef) (fun hp => ⟨⟨w.heap.size, 0, none⟩, rfl, rfl, hF, by simp [rowU, hlen', hs1], fun m hm => ?_⟩) hcells (fun m c hm => ?_)
          · rw [Nat.zero_add, rowW_cell]
            have : m < us.size := by rw [h2, hzero, hs1]; omega
            simp [Array.getD, this]
          · obtain ⟨y, hy, _, hr⟩ := hcell m 0 c (by rw [← hlen']; exact (List.getElem?_eq_some_iff.1 hm).1) ⟨c, hm, by rw [hcells c (List.mem_of_getElem? hm)]; rfl⟩
            rw [hs1, Nat.mul_one, Nat.add_zero] at hy
            have : us.getD m undef = y := by
              have hlt := (Array.getElem?_eq_some_iff.1 hy).1
              have := (Array.getElem?_eq_some_iff.1 hy).2
              simp [Array.getD, hlt, this]
            rw [this]
            exact hr.mono hg (BlLe.refl _)
end
end Ax
