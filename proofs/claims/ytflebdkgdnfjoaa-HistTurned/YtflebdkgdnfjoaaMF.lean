import Derived.Test.YtflebdkgdnfjoaaME
/- What is lent to a call for reading; sorts. -/
set_option linter.unusedVariables false
set_option linter.unusedSimpArgs false
namespace Ax
open Go Go.RowKit

def isRowO : AObj → Bool
  | .arr _ _ _ => true
  | .cells _ => true
  | _ => false
def isRowB (bl : Blocks) (heap : Heap) (c : Nat) : Prop := ∃ id : Nat, bl[id]? = some (some c) ∧ isRowO (heap.get id) = true
def lentF (A : Amb) (bl : Blocks) (heap : Heap) (c : Nat) : Prop := forb A bl heap c ∧ ¬ isRowB bl heap c
open Classical in
noncomputable def lentU (w : World) (U : Nat → Nat) (bl : Blocks) (heap : Heap) (c : Nat) : Nat :=
  if isRowB bl heap c then (match w.heap[c]? with | some (.cells cs _ _) => cs.size | _ => 0) else U c

section
variable {P : Program} {A : Amb} {nt : Nat} {pend : List (Nat × AObj)} {env : Env} {heap : Heap} {bor : Option (Nat × AV)} {tm : Array Value} {w : World} {U : Nat → Nat} {bl : Blocks} {ob : Loc → Option Nat}

theorem isRow_forb {c : Nat} (h : isRowB bl heap c) : forb A bl heap c := by
  obtain ⟨id, hid, hr⟩ := h
  exact .inr ⟨id, hid, fun e => by rw [e] at hr; cases hr⟩
theorem lent_grow : Grow0 w (forb A bl heap) U w (lentF A bl heap) (lentU w U bl heap) := by
  refine ⟨fun c _ hf => .inl hf.1, fun c _ hc => ⟨?_, fun _ _ => rfl⟩⟩
  unfold lentU
  rw [if_neg (fun e => hc (isRow_forb e))]
  exact Nat.le_refl _
theorem lentU_row {id b : Nat} (hid : bl[id]? = some (some b)) (hr : isRowO (heap.get id) = true) {c : Array Value} {e : TypeId} {fr : Nat × Nat} (hb : w.heap[b]? = some (.cells c e fr)) : lentU w U bl heap b = c.size := by
  unfold lentU
  rw [if_pos ⟨id, hid, hr⟩, hb]
theorem lentF_row {id b : Nat} (hid : bl[id]? = some (some b)) (hr : isRowO (heap.get id) = true) : ¬ lentF A bl heap b := fun h => h.2 ⟨id, hid, hr⟩

theorem lendAV_gen (h : Rel P A nt pend env heap bor tm w U bl ob) {heapX : Heap} (hX : ∀ id, isRowO (heapX.get id) = true → heapX.get id = heap.get id) {F' : Nat → Prop} {U' : Nat → Nat} (g : Grow0 w (forb A bl heap) U w F' U')
    (hF : ∀ id b : Nat, bl[id]? = some (some b) → isRowO (heapX.get id) = true → ¬ F' b ∧ ∀ (c : Array Value) e fr, w.heap[b]? = some (.cells c e fr) → c.size ≤ U' b) {v : AV} {x : Value} (hv : Rep w (forb A bl heap) U bl v x) : Rep w F' U' bl (lendAV heapX v) x := by
  unfold lendAV
  split
  · rename_i id sz lo n
    split
    · rename_i sz' n' gg hg
      cases hc : (Nat.beq sz sz' && Nat.ble (lo + n) n') with
      | false => exact .undef
      | true =>
        simp only [cond_true]
        simp only [Bool.and_eq_true, beq_eq, ble_eq, decide_eq_true_eq] at hc
        obtain ⟨rfl, hle⟩ := hc
        cases hv with
        | @row _ _ _ _ _ ao cap hcap hz =>
          rcases Nat.eq_zero_or_pos n with hn | hn
          · subst hn
            exact .vec hcap (fun _ _ => undef) (fun h => absurd h (by omega)) (fun i hi => absurd hi (by omega)) (fun i j hi _ => absurd hi (by omega)) (fun i j c hi _ => absurd hi (by omega))
          · obtain ⟨b, hb, rfl⟩ := hz hn
            have hr : isRowO (heapX.get id) = true := by rw [hg]; rfl
            have hg' := (hX id hr).symm.trans hg
            obtain ⟨c, el, fr, k1, k2, k3, k4, k5, k6⟩ := arr_obj h hb hg'
            obtain ⟨f1, f2⟩ := hF id b hb hr
            have f3 := f2 _ _ _ k1
            have hmul : (lo + n) * sz ≤ n' * sz := Nat.mul_le_mul_right _ hle
            have hsp : (lo + n) * sz = lo * sz + n * sz := Nat.add_mul _ _ _
            have get : ∀ i j, i < n → j < sz → ∃ y, c[lo * sz + i * sz + j]? = some y ∧ c.getD (lo * sz + i * sz + j) undef = y := by
              intro i j hi hj
              have : lo * sz + i * sz + j < c.size := by have := index_mul (sz := sz) hi; omega
              exact ⟨c[lo * sz + i * sz + j], by simp [this], by simp [Array.getD, this]⟩
            refine .vec hcap (fun i j => c.getD (lo * sz + i * sz + j) undef) (fun _ => ⟨k2, ⟨b, lo * sz, none⟩, rfl, rfl, f1, by simp only; omega, fun i j hi hj => ?_⟩) (fun i hi => k5 _ (by omega)) (fun i j hi hj => ?_) (fun i j x hi hx => ?_)
            · rw [cell_row k1]
              obtain ⟨y, h1, h2⟩ := get i j hi hj
              rw [h2]; exact h1
            · obtain ⟨y, h1, h2, _⟩ := k6 (lo + i) j _ (by omega) (List.getElem?_eq_getElem (by rw [k5 _ (by omega)]; exact hj))
              obtain ⟨y', h3, h4⟩ := get i j hi hj
              rw [Nat.add_mul, h3] at h1
              rw [h4, Option.some.inj h1]; exact h2
            · obtain ⟨y, h1, _, h5⟩ := k6 (lo + i) j x (by omega) hx
              have hj : j < sz := by rw [← k5 (lo + i) (by omega)]; exact (List.getElem?_eq_some_iff.1 hx).1
              obtain ⟨y', h3, h4⟩ := get i j hi hj
              rw [Nat.add_mul, h3] at h1
              rw [h4, Option.some.inj h1]; exact h5.mono g (BlLe.refl _)
    · exact .undef
  · rename_i id
    have key : ∀ (cs : List AV) (v : AV), heapX.get id = .cells cs → v.cells = AV.stripL cs → 0 < cs.length → AV.isDataL cs = true → Rep w F' U' bl (.cptr v) x := by
      intro cs v hg hvc hpos hd
      cases hv with
      | @ptr _ _ _ b hb =>
        have hr : isRowO (heapX.get id) = true := by rw [hg]; rfl
        have hobj := h.objs id b hb
        rw [(hX id hr).symm.trans hg] at hobj
        obtain ⟨c, e, fr, o1, o2, o3, o4⟩ := hobj
        obtain ⟨f1, f2⟩ := hF id b hb hr
        have f3 := f2 _ _ _ o1
        refine .cptr (fun j => c.getD j undef) ⟨rfl, f1, by simp only; rw [hvc, stripL_length]; omega, by rw [hvc, stripL_length]; exact hpos⟩ (fun j hj => ?_) (fun j q hq => ?_)
        · rw [hvc, stripL_length] at hj
          rw [cell_row o1, Nat.zero_add]
          have : j < c.size := by omega
          simp [Array.getD, this]
        · rw [hvc, stripL_get] at hq
          obtain ⟨q0, hq0, rfl⟩ := Option.map_eq_some_iff.1 hq
          have hl := (List.getElem?_eq_some_iff.1 hq0).1
          have hlc : j < c.size := by omega
          have := (o4 j q0 c[j] hq0 (by simp [hlc])).1
          have e1 : c.getD j undef = c[j] := by simp [Array.getD, hlc]
          rw [e1]
          exact (this.strip).mono g (BlLe.refl _)
    split
    · rename_i c hg
      cases hd : (c.isData && c.scal) with
      | false => exact .undef
      | true =>
        simp only [cond_true]
        rw [Bool.and_eq_true] at hd
        have hcc : c.cells = [c] := by
          cases c <;> first | rfl | simp [AV.scal] at hd
        refine key [c] c.strip hg ?_ (by simp) (by simp [AV.isDataL, hd.1])
        rw [strip_cells (by rw [hcc]; simp [hd.2]), hcc]
    · rename_i cs hne hg
      cases hd : (AV.isDataL cs && Nat.blt 1 cs.length) with
      | false => exact .undef
      | true =>
        simp only [cond_true]
        simp only [Bool.and_eq_true, blt_eq, decide_eq_true_eq] at hd
        exact key cs (.agg (AV.stripL cs)) hg rfl (by omega) hd.1
    · exact .undef
  · exact hv.mono g (BlLe.refl _)
theorem lendAV_rep (h : Rel P A nt pend env heap bor tm w U bl ob) {v : AV} {x : Value} (hv : Rep w (forb A bl heap) U bl v x) : Rep w (lentF A bl heap) (lentU w U bl heap) bl (lendAV heap v) x :=
  lendAV_gen h (fun _ _ => rfl) lent_grow (fun id b hid hr => ⟨lentF_row hid hr, fun c e fr hb => by rw [lentU_row hid hr hb]; exact Nat.le_refl _⟩) hv

theorem lendL_rep (h : Rel P A nt pend env heap bor tm w U bl ob) : ∀ (args : List AV) (vs : List Value), RepL w (forb A bl heap) U bl args vs → RepL w (lentF A bl heap) (lentU w U bl heap) bl (lendL heap args) vs
  | [], vs, hv => ⟨hv.1, fun i x y hx => by simp [lendL] at hx⟩
  | v :: r, vs, hv => by
    obtain ⟨y, m, rfl, h1, h2⟩ := hv.head
    have ih := lendL_rep h r m h2
    refine RepL.cons ?_ ih
    cases v with
    | fn f first caps =>
      simp only
      cases h1 with
      | fn hn hm k1 k2 =>
        refine .fn hn (by simpa using hm) (fun i x y hx hy => (k1 i x y hx hy).mono lent_grow (BlLe.refl _)) (fun i x y hx hy => ?_)
        rw [List.getElem?_map] at hx
        obtain ⟨q, hq, rfl⟩ := Option.map_eq_some_iff.1 hx
        exact lendAV_rep h (k2 i q y hq hy)
    | _ => exact lendAV_rep h h1

theorem flat_any {v : AV} {x : Value} (hv : v.flatR = true) {F : Nat → Prop} {U : Nat → Nat} {bl : Blocks} (h : Rep w F U bl v x) (w' : World) (F' : Nat → Prop) (U' : Nat → Nat) (bl' : Blocks) : Rep w' F' U' bl' v x ∧ Bare v := by
  cases v <;> simp [AV.flatR] at hv
  · obtain rfl := rep_bool h; exact ⟨.bool, bare_of rfl⟩
  · obtain rfl := rep_int h; exact ⟨.int, bare_of rfl⟩
  · obtain rfl := rep_str h; exact ⟨.str, bare_of rfl⟩
theorem scal_any {v : AV} {x : Value} (hv : v.scalR = true) {F : Nat → Prop} {U : Nat → Nat} {bl : Blocks} (h : Rep w F U bl v x) (w' : World) (F' : Nat → Prop) (U' : Nat → Nat) (bl' : Blocks) : Rep w' F' U' bl' v x ∧ Bare v := by
  cases v with
  | tup l =>
    simp only [AV.scalR, List.all_eq_true] at hv
    cases h with
    | @tup _ _ vs hn hh =>
      refine ⟨.tup hn fun i a b ha hb => (flat_any (hv a (List.mem_of_getElem? ha)) (hh i a b ha hb) w' F' U' bl').1, fun p u hp => ?_⟩
      cases p with
      | nil => simp [AV.at] at hp; subst hp; rfl
      | cons i p =>
        simp only [AV.at] at hp
        split at hp
        · rename_i c hc
          have hl := (List.getElem?_eq_some_iff.1 hc).1
          exact (flat_any (hv c (List.mem_of_getElem? hc)) (hh i c (vs[i]'(by omega)) hc (by simp)) w' F' U' bl').2 p u hp
        · simp at hp
  | _ => refine flat_any ?_ h w' F' U' bl'; simpa [AV.scalR] using hv

theorem lent_lt (h : Rel P A nt pend env heap bor tm w U bl ob) : ∀ b, lentF A bl heap b → b < w.heap.size := by
  rintro b ⟨hf | ⟨id, hi, _⟩, _⟩
  · have := h.f0 b hf; have := h.hB; omega
  · exact (h.base id b hi).2.1

/-- A call that only reads what it is lent, and answers something plain. -/
theorem call_lend (h : Rel P A nt pend env heap bor tm w U bl ob) {d : Option Nat} (hd : ∀ t, d = some t → t < nt) {f : FuncId} {args : List AV} {vs : Array Value} {Q : AV → Prop} (hc : CallOK P f (lendL heap args) Q)
    (ha : RepL w (forb A bl heap) U bl args vs.toList) (hdata : AV.isDataL (lendL heap args) = true) :
    Calls P f vs w fun e w' => ∃ r x, e = .returned x ∧ Q r ∧ (r.scalR = true → ∃ U' ob', Rel P A nt pend (setO env d r) heap bor (putO tm d x) w' U' bl ob') := by
  have hl := lendL_rep h args vs.toList ha
  refine (hc.2 w (lentF A bl heap) (lentU w U bl heap) vs (lent_lt h) ⟨hl.1, fun i x y hx hy => (hl.2 i x y hx hy).data (isDataL_get hdata i x hx)⟩).mono ?_
  rintro e w' ⟨r, x, U', own, rfl, hext, hrep, hown, hob, hq⟩
  refine ⟨r, x, rfl, hq, fun hs => ?_⟩
  have hext' : Ext w U w' (fun c => if c < w.heap.size then U c else U' c) := ⟨hext.os, hext.tape, hext.output, hext.size, fun b hb => ⟨(hext.block b hb).1, if_pos hb⟩, hext.drawn⟩
  have h' := h.ext hext'
  obtain ⟨r1, r2⟩ := scal_any hs hrep w' (forb A bl heap) (fun c => if c < w.heap.size then U c else U' c) bl
  obtain ⟨ob', h2⟩ := h'.put0 hd r1 (fun own => .bare r2)
  exact ⟨_, ob', h2⟩

/-! ### sorts -/
/-- A world in which block b may be another; else it has only grown. -/
structure SortWorld (w : World) (b : Nat) (w' : World) : Prop where
  os : w'.os = w.os
  tape : w'.tape = w.tape
  output : w'.output = w.output
  size : w.heap.size ≤ w'.heap.size
  other : ∀ k, k < w.heap.size → k ≠ b → w'.heap[k]? = w.heap[k]?
  drawn : w.drawn ≤ w'.drawn
def RowIs (w : World) (b sz n : Nat) (d : Nat → List Value) : Prop :=
  ∃ c e fr, w.heap[b]? = some (.cells c e fr) ∧ n * sz ≤ c.size ∧ (∀ o, o < c.size → w.frozen? ⟨b, o, none⟩ = false) ∧ ∀ i j, i < n → j < sz → c[i * sz + j]? = (d i)[j]?
def valOf (sz : Nat) (l : List Value) : Value := if sz = 1 then l.getD 0 undef else .agg l.toArray
/-- What is asked of a function that sorts a slice of elements of sz cells. -/
structure SortPrim (P : Program) (f : FuncId) (sz : Nat) : Prop where
  pos : 0 < sz
  bodied : Bodied P f
  empty : ∀ (w : World) (ao : Option Addr) (cap : Nat) (fv : Value), Calls P f #[.slice ao 0 cap, fv] w fun e w' => e = .returned (.tuple #[]) ∧ SortWorld w w.heap.size w'
  full : ∀ (w : World) (b cap n : Nat) (g : FuncId) (cb : Array Value) (d : Nat → List Value) (c : Nat → Nat → Int), RowIs w b sz n d → 0 < n → n ≤ cap → n < 4611686018427387904 →
    (∀ i, i < n → (d i).length = sz ∧ ∀ v ∈ d i, v.oneCell' = true) → (∀ i, i < n → ¬ c i i < 0) → (∀ i j k, i < n → j < n → k < n → c i j < 0 → c j k < 0 → c i k < 0) → (∀ i j k, i < n → j < n → k < n → ¬ c i j < 0 → ¬ c j k < 0 → ¬ c i k < 0) → Bodied P g →
    (∀ w1, SortWorld w b w1 → ∀ i j, i < n → j < n → Calls P g (#[valOf sz (d i), valOf sz (d j)] ++ cb) w1 fun e w' => e = .returned (.int .i64 (c i j)) ∧ SortWorld w1 w1.heap.size w') →
    Calls P f #[.slice (some ⟨b, 0, none⟩) n cap, .func (.func g) #[] cb] w fun e w' => e = .returned (.tuple #[]) ∧ SortWorld w b w' ∧ ∃ σ : Nat → Nat, ((List.range n).map σ).Perm (List.range n) ∧ (∀ i j, i < j → j < n → ¬ c (σ j) (σ i) < 0) ∧ RowIs w' b sz n (fun i => d (σ i))
end

section
variable {P : Program} {A : Amb} {nt : Nat} {pend : List (Nat × AObj)} {env : Env} {heap : Heap} {bor : Option (Nat × AV)} {tm : Array Value} {w : World} {U : Nat → Nat} {bl : Blocks} {ob : Loc → Option Nat}

theorem sortWorld_refl (w : World) (b : Nat) : SortWorld w b w := ⟨rfl, rfl, rfl, Nat.le_refl _, fun _ _ _ => rfl, Nat.le_refl _⟩

theorem cells_agg {v : AV} (h : 2 ≤ v.cells.length) : v = .agg v.cells := by
  cases v <;> simp [AV.cells] at h ⊢
theorem one_cells {w : World} {F : Nat → Prop} {U : Nat → Nat} {bl : Blocks} {x : AV} {y : Value} (h : Rep w F U bl x y) (ho : y.oneCell' = true) : x.cells = [x] := by
  cases x with
  | agg cs => cases h; simp [Value.oneCell'] at ho
  | _ => rfl
theorem oneOf_rep {w : World} {F : Nat → Prop} {U : Nat → Nat} {a : AV} {sz : Nat} {l : List Value} (hs : a.cells.length = sz) (h0 : 0 < sz) (hl : l.length = sz) (ho : ∀ v ∈ l, v.oneCell' = true) (h : ∀ (j : Nat) x, a.cells[j]? = some x → ∃ y, l[j]? = some y ∧ Rep w F U [] x y) :
    Rep w F U [] (oneOf sz a) (valOf sz l) ∧ (oneOf sz a).cells = a.cells := by
  unfold oneOf valOf
  rw [beq_eq]
  by_cases h1 : sz = 1
  · subst h1
    simp only [decide_true, cond_true, if_true]
    obtain ⟨x, hx⟩ := List.length_eq_one_iff.1 hs
    obtain ⟨y, hy⟩ := List.length_eq_one_iff.1 hl
    rw [hx] at h
    simp only [hx]
    obtain ⟨y', h1, h2⟩ := h 0 x rfl
    subst hy
    simp at h1; subst h1
    exact ⟨h2, one_cells h2 (ho _ (by simp))⟩
  · rw [decide_eq_false h1]
    simp only [cond_false, if_neg h1]
    refine ⟨?_, trivial⟩
    rw [cells_agg (by omega : 2 ≤ a.cells.length)]
    refine .agg (by simp; omega) fun j x y hx hy => ?_
    obtain ⟨y', h1, h2⟩ := h j x hx
    simp at hy
    rw [h1] at hy; cases hy; exact h2

theorem sortWorld_ext {w w' : World} {U : Nat → Nat} (h : SortWorld w w.heap.size w') : Ext w U w' U :=
  ⟨h.os, h.tape, h.output, h.size, fun b hb => ⟨h.other b hb (by omega), rfl⟩, h.drawn⟩

/-- A slice that is sorted in its place. -/
theorem sort_calls {X : Rec Prop} (hcall : ∀ f args Q, X.call f args Q → CallOK P f args Q) (h : Rel P A nt pend env heap bor tm w U bl ob) {f : FuncId} {sz : Nat} (hf : SortPrim P f sz) {id n : Nat} {e : Nat → AV} (hg : heap.get id = .arr sz n e)
    {g : FuncId} {caps : List AV} {x y : Value} (hx : Rep w (forb A bl heap) U bl (.row id sz 0 n) x) (hy : Rep w (forb A bl heap) U bl (.fn g [] caps) y) (hdata : AV.isDataL (caps.map (lendAV (heap.set id .dead))) = true) {K : List AV → Prop}
    (hk : sortP ((List.range n).map fun i => oneOf sz (e i)) (fun a b Q => X.call g (a :: b :: caps.map (lendAV (heap.set id .dead))) Q) K) :
    Calls P f #[x, y] w fun e' w' => e' = .returned (.tuple #[]) ∧ ∃ l, K l ∧ ∃ U' ob', Rel P A nt pend env (heap.set id (.arr sz n (splice e 0 n (vlist .undef l)))) bor tm w' U' bl ob' := by
  obtain ⟨hlen, c, hc1, hc2, hc3⟩ := hk
  have hlen : n < 4611686018427387904 := by simpa using hlen
  have h0 := hf.pos
  cases hx with
  | @row _ _ _ _ _ ao cap hcap hz =>
  rcases Nat.eq_zero_or_pos n with hn | hn
  · subst hn
    refine (hf.empty w ao cap y).mono ?_
    rintro e' w' ⟨rfl, hw⟩
    refine ⟨rfl, [], hc3 [] (by simp) (by simp), U, ob, ?_⟩
    rw [splice_zero, ← hg, heap_set_get]
    exact h.ext (sortWorld_ext hw)
  obtain ⟨b, hb, rfl⟩ := hz hn
  rw [Nat.zero_mul]
  cases hy with
  | @fn _ _ _ _ vs us n1 n2 r1 r2 =>
  obtain rfl : vs = #[] := by simp at n1; exact (Array.size_eq_zero_iff.1 n1.symm)
  obtain ⟨cs, el, fr, k1, k2, k3, k4, k5, k6⟩ := arr_obj h hb hg
  have hidl : id < heap.length := get_dead_ne hg (by simp)
  have hgetX : ∀ j, (heap.set id .dead).get j = if id = j then .dead else heap.get j := by
    intro j; rw [heap_get_set]
    by_cases e : id = j
    · subst e; simp [hidl]
    · simp [e]
  let d : Nat → List Value := fun i => (List.range sz).map fun j => cs.getD (i * sz + j) undef
  have hd1 : ∀ i, (d i).length = sz := fun i => by simp [d]
  have hcell : ∀ i j, i < n → j < sz → ∃ y, cs[i * sz + j]? = some y ∧ (d i)[j]? = some y := by
    intro i j hi hj
    have hlt : i * sz + j < cs.size := by have := index_mul (sz := sz) hi; omega
    exact ⟨cs[i * sz + j], by simp [hlt], by simp [d, hj, Array.getD, hlt]⟩
  have hone : ∀ i, i < n → ∀ v ∈ d i, v.oneCell' = true := by
    intro i hi v hv
    obtain ⟨j, hj⟩ := List.getElem?_of_mem hv
    have hjl : j < sz := by have := (List.getElem?_eq_some_iff.1 hj).1; rw [hd1] at this; exact this
    obtain ⟨y, h1, h2⟩ := hcell i j hi hjl
    rw [h2] at hj; cases hj
    obtain ⟨y', q1, q2, _⟩ := k6 i j _ hi (List.getElem?_eq_getElem (by rw [k5 i hi]; exact hjl))
    rw [h1] at q1; cases q1; exact q2
  have hel : ∀ i, i < n → Rep w (forb A bl heap) U [] (oneOf sz (e i)) (valOf sz (d i)) ∧ (oneOf sz (e i)).cells = (e i).cells := by
    intro i hi
    refine oneOf_rep (k5 i hi) h0 (hd1 i) (hone i hi) fun j x hx => ?_
    obtain ⟨y, q1, _, q3⟩ := k6 i j x hi hx
    have hj : j < sz := by rw [← k5 i hi]; exact (List.getElem?_eq_some_iff.1 hx).1
    obtain ⟨y', h1, h2⟩ := hcell i j hi hj
    rw [h1] at q1; cases q1; exact ⟨_, h2, q3⟩
  have mem : ∀ i, i < n → oneOf sz (e i) ∈ (List.range n).map fun i => oneOf sz (e i) := fun i hi => List.mem_map.2 ⟨i, by simpa using hi, rfl⟩
  -- the world of the calls
  let F' : Nat → Prop := fun c => lentF A bl heap c ∨ c = b
  have hbF : forb A bl heap b := .inr ⟨id, hb, by rw [hg]; simp⟩
  have g1 : Grow0 w (forb A bl heap) U w F' (lentU w U bl heap) := by
    refine ⟨fun c _ hf => ?_, fun c hl hc => lent_grow.ext c hl hc⟩
    rcases hf with hf | rfl
    · exact .inl hf.1
    · exact .inl hbF
  have hcaps : ∀ (i : Nat) q v, (caps.map (lendAV (heap.set id .dead)))[i]? = some q → us[i]? = some v → Rep w F' (lentU w U bl heap) [] q v := by
    intro i q v hq hv
    have hqd := isDataL_get hdata i q hq
    rw [List.getElem?_map] at hq
    obtain ⟨q0, hq0, rfl⟩ := Option.map_eq_some_iff.1 hq
    refine (lendAV_gen h (heapX := heap.set id .dead) (fun j hj => ?_) g1 (fun j b' hj hr => ?_) (r2 i q0 v hq0 hv)).data hqd
    · rw [hgetX] at hj ⊢
      by_cases e : id = j
      · rw [if_pos e] at hj; cases hj
      · rw [if_neg e]
    · have hne : id ≠ j := fun e => by rw [hgetX, if_pos e] at hr; cases hr
      have hr' : isRowO (heap.get j) = true := by rw [hgetX, if_neg hne] at hr; exact hr
      refine ⟨?_, fun c e fr hb' => by rw [lentU_row hj hr' hb']; exact Nat.le_refl _⟩
      rintro (hf | rfl)
      · exact lentF_row hj hr' hf
      · exact hne (h.inj id j _ hb hj)
  have hbod : Bodied P g := (hcall _ _ _ (hc1 _ (mem 0 hn) _ (mem 0 hn))).1
  refine (hf.full w b cap n g us d (fun i j => c (oneOf sz (e i)) (oneOf sz (e j))) ⟨cs, el, fr, k1, k3, k4, fun i j hi hj => ?_⟩ hn hcap hlen (fun i hi => ⟨hd1 i, hone i hi⟩) (fun i _ => hc2.irrefl _) (fun i j k _ _ _ => hc2.trans _ _ _) (fun i j k _ _ _ => hc2.ntrans _ _ _) hbod (fun w1 hw1 i j hi hj => ?_)).mono ?_
  · obtain ⟨y, q1, q2⟩ := hcell i j hi hj
    rw [q1, q2]
  · have hco := hcall _ _ _ (hc1 _ (mem i hi) _ (mem j hj))
    have g2 : Grow0 w F' (lentU w U bl heap) w1 F' (lentU w U bl heap) := ⟨fun c _ hf => .inl hf, fun c hl hc => ⟨Nat.le_refl _, fun o _ => cell_block (hw1.other c hl (fun e => hc (.inr e))) o⟩⟩
    refine (hco.2 w1 F' (lentU w U bl heap) _ (fun c hc => ?_) ⟨?_, fun k q v hq hv => ?_⟩).mono ?_
    · rcases hc with hc | rfl
      · exact Nat.lt_of_lt_of_le (lent_lt h c hc) hw1.size
      · exact Nat.lt_of_lt_of_le (lt_of_some k1) hw1.size
    · simp [n2]
    · match k with
      | 0 => simp at hq hv; subst hq hv; exact (((hel i hi).1).mono g1 (BlLe.refl _)).mono g2 (BlLe.refl _)
      | 1 => simp at hq hv; subst hq hv; exact (((hel j hj).1).mono g1 (BlLe.refl _)).mono g2 (BlLe.refl _)
      | k + 2 => exact (hcaps k q v (by simpa using hq) (by simpa using hv)).mono g2 (BlLe.refl _)
    · rintro e' w' ⟨r, v, U', own, rfl, hext, hrep, _, _, rfl⟩
      obtain rfl := rep_int hrep
      exact ⟨rfl, hext.os, hext.tape, hext.output, hext.size, fun k hk _ => (hext.block k hk).1, hext.drawn⟩
  · rintro e' w' ⟨rfl, hw, σ, s1, s2, cs', el', fr', q1, q2, q3, q4⟩
    have hσ : ∀ i, i < n → σ i < n := by
      intro i hi
      have : σ i ∈ (List.range n).map σ := List.mem_map.2 ⟨i, by simpa using hi, rfl⟩
      simpa using s1.mem_iff.1 this
    refine ⟨rfl, (List.range n).map fun i => oneOf sz (e (σ i)), hc3 _ ?_ ?_, ?_⟩
    · have := s1.map fun i => oneOf sz (e i)
      simpa [List.map_map, Function.comp_def] using this
    · rw [List.pairwise_map]
      have : (List.range n).Pairwise (fun i j => i < j ∧ j < n) := by
        rw [List.pairwise_iff_getElem]
        intro i j hi hj hij
        simp at hi hj ⊢
        exact ⟨hij, hj⟩
      exact this.imp fun hij => s2 _ _ hij.1 hij.2
    · have hlt := lt_of_some k1
      let w1 : World := { w with heap := w.heap.setIfInBounds b (.cells cs' el' fr') }
      have hw1 : Wrote w b (.cells cs' el' fr') w1 := ⟨rfl, rfl, rfl, by simp [w1], by simp [w1, hlt], fun c hc => by show (w.heap.setIfInBounds b _)[c]? = _; rw [Array.getElem?_setIfInBounds, if_neg (fun e => hc e.symm)], rfl⟩
      have hext : Ext w1 U w' U := by
        refine ⟨hw.os, hw.tape, hw.output, by rw [hw1.size]; exact hw.size, fun k hk => ⟨?_, rfl⟩, hw.drawn⟩
        rw [hw1.size] at hk
        by_cases ek : k = b
        · subst ek; rw [hw1.here, q1]
        · rw [hw1.other k ek]; exact hw.other k hk ek
      have hgv : ∀ i, i < n → splice e 0 n (vlist .undef ((List.range n).map fun i => oneOf sz (e (σ i)))) i = oneOf sz (e (σ i)) := by
        intro i hi
        rw [splice_get, if_pos (by omega)]
        simp [vlist, hi]
      have hrel : Rel P A nt pend env (heap.set id (.arr sz n (splice e 0 n (vlist .undef ((List.range n).map fun i => oneOf sz (e (σ i))))))) bor tm w1 U bl ob := by
        refine h.write hb (by rw [hg]; simp) (.inr (by intro kt reg ents e; rw [hg] at e; cases e)) (by simp) hw1 (bor' := bor) (fun F hF hmono howns => ?_) (fun l _ _ => rfl) h.obinj (fun l c hl => h.obok l c hl) (fun j hj => rfl)
        have hFr : ∀ bl2 v x, Rep w (forb A bl heap) U bl2 v x → Rep w F U bl2 v x := fun bl2 v x hr => hr.mono ⟨fun c _ hf => .inl ((hF c).1 hf), fun c _ hc => ⟨Nat.le_refl _, fun o _ => rfl⟩⟩ (BlLe.refl _)
        refine ⟨cs', el', fr', hw1.here, h0, q2, fun o ho => ?_, fun i hi => ?_, fun i j x hi hx => ?_⟩
        · have := q3 o ho
          simp only [World.frozen?, hw1.here]
          simp only [World.frozen?, q1] at this
          exact this
        · rw [hgv i hi, (hel _ (hσ i hi)).2]; exact k5 _ (hσ i hi)
        · rw [hgv i hi, (hel _ (hσ i hi)).2] at hx
          obtain ⟨y, p1, p2, p3⟩ := k6 (σ i) j x (hσ i hi) hx
          have hj : j < sz := by rw [← k5 (σ i) (hσ i hi)]; exact (List.getElem?_eq_some_iff.1 hx).1
          obtain ⟨y', h1, h2⟩ := hcell (σ i) j (hσ i hi) hj
          rw [h1] at p1; cases p1
          exact ⟨_, by rw [q4 i j hi hj]; exact h2, p2, hmono _ _ _ (hFr _ _ _ p3)⟩
      exact ⟨U, ob, hrel.ext hext⟩
end
end Ax

/- Maps written beside the state. -/
set_option linter.unusedVariables false
set_option linter.unusedSimpArgs false
namespace Ax
open Go Go.RowKit

section
variable {P : Program} {A : Amb} {nt : Nat} {pend : List (Nat × AObj)} {env : Env} {heap : Heap} {bor : Option (Nat × AV)} {tm : Array Value} {w : World} {U : Nat → Nat} {bl : Blocks} {ob : Loc → Option Nat} {a : Act}

/-- An operand that gives what it owns. -/
theorem give_operand (h : Rel P A nt pend env heap bor a.tmps w U bl ob) (t : TypeId) (x : Operand) : ∃ (ob1 : Loc → Option Nat) (ov : List Nat → Option Nat), Rel P A nt pend (bareO (tmpOp x) env) heap bor a.tmps w U bl ob1 ∧ OwnAt w (forb A bl heap) U A.B ov (evo P t env x) (a.eval x) ∧
    (∀ p b, ov p = some b → ¬ A.G b ∧ b < w.heap.size ∧ ∀ id : Nat, bl[id]? ≠ some (some b)) ∧ (∀ p q b, ov p = some b → ov q = some b → p = q) ∧ (∀ p b l, ov p = some b → ob1 l ≠ some b) := by
  have none : (∀ own, OwnAt w (forb A bl heap) U A.B own (evo P t env x) (a.eval x)) → bareO (tmpOp x) env = env → ∃ (ob1 : Loc → Option Nat) (ov : List Nat → Option Nat), Rel P A nt pend (bareO (tmpOp x) env) heap bor a.tmps w U bl ob1 ∧ OwnAt w (forb A bl heap) U A.B ov (evo P t env x) (a.eval x) ∧
    (∀ p b, ov p = some b → ¬ A.G b ∧ b < w.heap.size ∧ ∀ id : Nat, bl[id]? ≠ some (some b)) ∧ (∀ p q b, ov p = some b → ov q = some b → p = q) ∧ (∀ p b l, ov p = some b → ob1 l ≠ some b) :=
    fun ho he => ⟨ob, fun _ => Option.none, he.symm ▸ h, ho _, fun p b hh => by simp at hh, fun p q b hh => by simp at hh, fun p b l hh => by simp at hh⟩
  cases x with
  | tmp s =>
    refine ⟨_, fun p => ob (.env s p), h.bareAt s, (h.env s).2, fun p b hh => h.obok _ b hh, fun p q b h1 h2 => by have := h.obinj _ _ b h1 h2; injection this, fun p b l h1 h2 => ?_⟩
    cases l with
    | env t q =>
      simp only at h2
      by_cases e : t = s
      · simp [e] at h2
      · simp only [e, if_false] at h2
        have := h.obinj _ _ b h1 h2
        injection this with e1; exact e e1.symm
    | cell j i q => exact absurd (h.obinj _ _ b h1 h2) (by simp)
    | mapv j i q => exact absurd (h.obinj _ _ b h1 h2) (by simp)
  | const v => exact none (fun own => evo_const_own t (by simp) own) rfl
  | func f => exact none (fun own => evo_const_own t (by simp) own) rfl
  | global g => exact none (fun own => evo_const_own t (by simp) own) rfl

def mapOb (ob : Loc → Option Nat) (id i0 : Nat) (σ : Nat → Nat) (ov : List Nat → Option Nat) : Loc → Option Nat
  | .mapv j i p => if j = id then (if i = i0 then ov p else ob (.mapv id (σ i) p)) else ob (.mapv j i p)
  | .env t p => ob (.env t p)
  | .cell j i p => ob (.cell j i p)
theorem mapOb_some {ob : Loc → Option Nat} {id i0 : Nat} {ov : List Nat → Option Nat} {l : Loc} {c : Nat} (h : mapOb ob id i0 (fun j => j) ov l = some c) : (∃ p, l = .mapv id i0 p ∧ ov p = some c) ∨ (ob l = some c ∧ ∀ p, l ≠ .mapv id i0 p) := by
  cases l with
  | env t p => exact .inr ⟨h, fun p h => by cases h⟩
  | cell j i p => exact .inr ⟨h, fun p h => by cases h⟩
  | mapv j i p =>
    simp only [mapOb] at h
    by_cases e : j = id
    · subst e
      rw [if_pos rfl] at h
      by_cases e2 : i = i0
      · subst e2; rw [if_pos rfl] at h; exact .inl ⟨p, rfl, h⟩
      · rw [if_neg e2] at h; exact .inr ⟨h, fun q hq => by injection hq with _ h2; exact e2 h2⟩
    · rw [if_neg e] at h; exact .inr ⟨h, fun q hq => by injection hq with h2; exact e h2⟩

/-- A map's object is written anew: entry i0 brings what 'ov' owns, the others what they had. -/
theorem map_gen (h : Rel P A nt pend env heap bor tm w U bl ob) {id b : Nat} (hid : bl[id]? = some (some b)) {kt : TypeId} {reg : Bool} {ents : List (AV × AV)} (hg : heap.get id = .map kt reg ents) (hni : noIter id heap = true) {es : Array MapEntry} {clock : Nat} (hm : w.heap[b]? = some (.map es clock))
    {kt' : TypeId} {reg' : Bool} {ents' : List (AV × AV)} {es' : Array MapEntry} {clock' : Nat} {ov : List Nat → Option Nat} {i0 : Nat} {σ : Nat → Nat} (hσ : ∀ i j, i ≠ i0 → j ≠ i0 → σ i = σ j → i = j)
    (h1 : ∀ p b, ov p = some b → ¬ A.G b ∧ b < w.heap.size ∧ ∀ id : Nat, bl[id]? ≠ some (some b)) (h2 : ∀ p q b, ov p = some b → ov q = some b → p = q) (h3 : ∀ p b l, ov p = some b → ob l ≠ some b)
    (hobj : ∀ w' F, w'.heap[b]? = some (.map es' clock') → (∀ bl2 v x, Rep w (forb A bl heap) U bl2 v x → Rep w' F U bl2 v x) → (∀ own v x, (∀ p, own p ≠ some b) → OwnAt w (forb A bl heap) U A.B own v x → OwnAt w' F U A.B own v x) →
      ObjRep P w' F U bl A.B (fun i p => ob (.cell id i p)) (fun i p => if i = i0 then ov p else ob (.mapv id (σ i) p)) (borAt bor id) (.map kt' reg' ents') b) :
    Rel P A nt pend env (heap.set id (.map kt' reg' ents')) bor tm { w with heap := w.heap.setIfInBounds b (.map es' clock') } U bl (mapOb ob id i0 σ ov) := by
  have hlt := lt_of_some hm
  have hw : Wrote w b (.map es' clock') { w with heap := w.heap.setIfInBounds b (.map es' clock') } := by
    refine ⟨rfl, rfl, rfl, by simp, by simp [hlt], fun c hc => ?_, rfl⟩
    show (w.heap.setIfInBounds b _)[c]? = _
    rw [Array.getElem?_setIfInBounds, if_neg (fun e => hc e.symm)]
  have key : ∀ l c, mapOb ob id i0 σ ov l = some c →
      (∃ p, l = .mapv id i0 p ∧ ov p = some c) ∨ (∃ i p, l = .mapv id i p ∧ i ≠ i0 ∧ ob (.mapv id (σ i) p) = some c) ∨ ((∀ i p, l ≠ .mapv id i p) ∧ ob l = some c) := by
    intro l c hl
    cases l with
    | env t p => exact .inr (.inr ⟨fun i p h => (by cases h), hl⟩)
    | cell j i p => exact .inr (.inr ⟨fun i p h => (by cases h), hl⟩)
    | mapv j i p =>
      simp only [mapOb] at hl
      by_cases e : j = id
      · subst e
        rw [if_pos rfl] at hl
        by_cases e2 : i = i0
        · subst e2; rw [if_pos rfl] at hl; exact .inl ⟨p, rfl, hl⟩
        · rw [if_neg e2] at hl; exact .inr (.inl ⟨i, p, rfl, e2, hl⟩)
      · rw [if_neg e] at hl; exact .inr (.inr ⟨fun i p h => (by injection h with h1; exact e h1), hl⟩)
  refine h.write hid (by rw [hg]; simp) (.inl hni) (by simp) hw (bor' := bor) (fun F hF hmono howns => ?_) (fun l hn1 hn2 => ?_) (fun l m c hl hm' => ?_) (fun l c hl => ?_) (fun j hj => rfl)
  · have hFr : ∀ bl2 v x, Rep w (forb A bl heap) U bl2 v x → Rep w F U bl2 v x := fun bl2 v x hr => hr.mono ⟨fun c _ hf => .inl ((hF c).1 hf), fun c _ hc => ⟨Nat.le_refl _, fun o _ => rfl⟩⟩ (BlLe.refl _)
    have hFo : ∀ own v x, OwnAt w (forb A bl heap) U A.B own v x → OwnAt w F U A.B own v x := fun own v x ho => ownAt_keeps ho ⟨fun c _ hf => .inl ((hF c).1 hf), fun c _ hc => ⟨Nat.le_refl _, fun o _ => rfl⟩⟩ (fun p c _ _ hn => ⟨rfl, rfl, fun hf => hn ((hF c).1 hf)⟩)
    have := hobj _ F hw.here (fun bl2 v x hr => hmono _ _ _ (hFr _ _ _ hr)) (fun own v x hn ho => howns _ _ _ hn (hFo _ _ _ ho))
    have e1 : (fun i p => if id = id then (if i = i0 then ov p else ob (.mapv id (σ i) p)) else ob (.mapv id i p)) = fun i p => if i = i0 then ov p else ob (.mapv id (σ i) p) := by funext i p; rw [if_pos rfl]
    show ObjRep P _ F U bl A.B (fun i p => ob (.cell id i p)) (fun i p => if id = id then (if i = i0 then ov p else ob (.mapv id (σ i) p)) else ob (.mapv id i p)) (borAt bor id) _ b
    rw [e1]; exact this
  · cases l with
    | env t p => rfl
    | cell j i p => rfl
    | mapv j i p =>
      simp only [mapOb]
      rw [if_neg]
      rintro rfl
      exact hn2 i p rfl
  · rcases key l c hl with ⟨p, rfl, e1⟩ | ⟨i, p, rfl, e0, e1⟩ | ⟨e0, e1⟩ <;> rcases key m c hm' with ⟨q, rfl, f1⟩ | ⟨j, q, rfl, f0, f1⟩ | ⟨f0, f1⟩
    · rw [h2 p q c e1 f1]
    · exact absurd f1 (h3 _ _ _ e1)
    · exact absurd f1 (h3 _ _ _ e1)
    · exact absurd e1 (h3 _ _ _ f1)
    · have := h.obinj _ _ c e1 f1
      injection this with _ e2 e3
      rw [hσ i j e0 f0 e2, e3]
    · have := h.obinj _ _ c e1 f1
      exact absurd this.symm (f0 _ _)
    · exact absurd e1 (h3 _ _ _ f1)
    · have := h.obinj _ _ c e1 f1
      exact absurd this (e0 _ _)
    · exact h.obinj _ _ c e1 f1
  · rcases key l c hl with ⟨p, rfl, e1⟩ | ⟨i, p, rfl, e0, e1⟩ | ⟨e0, e1⟩
    · exact h1 _ _ e1
    · exact h.obok _ _ e1
    · exact h.obok _ _ e1

theorem map_obj (h : Rel P A nt pend env heap bor tm w U bl ob) {id b : Nat} (hid : bl[id]? = some (some b)) {kt : TypeId} {reg : Bool} {ents : List (AV × AV)} (hg : heap.get id = .map kt reg ents) :
    ∃ es clock, w.heap[b]? = some (.map es clock) ∧ EntRep w (forb A bl heap) U ents es ∧ Fresh clock es ∧ (∀ p ∈ ents, keyOk P kt p.1 = true) ∧
      (∀ (i j : Nat) p q, ents[i]? = some p → ents[j]? = some q → eqKey P kt p.1 q.1 = true → i = j) ∧ (reg = true → RegMap clock es) ∧
      (∀ (i : Nat) p e, ents[i]? = some p → es[i]? = some e → OwnAt w (forb A bl heap) U A.B (fun p => ob (.mapv id i p)) p.2 e.val) := by
  have hobj := h.objs id b hid
  rw [hg] at hobj
  exact hobj

/-- An entry's value is put anew. -/
theorem map_put (h : Rel P A nt pend env heap bor tm w U bl ob) {id b : Nat} (hid : bl[id]? = some (some b)) {kt : TypeId} {reg : Bool} {ents : List (AV × AV)} (hg : heap.get id = .map kt reg ents) (hni : noIter id heap = true) {es : Array MapEntry} {clock : Nat} (hm : w.heap[b]? = some (.map es clock))
    {i : Nat} (hi : i < es.size) {x : AV} {x' : Value} (hx : Rep w (forb A bl heap) U [] x x') {ov : List Nat → Option Nat} (ho : OwnAt w (forb A bl heap) U A.B ov x x')
    (h1 : ∀ p b, ov p = some b → ¬ A.G b ∧ b < w.heap.size ∧ ∀ id : Nat, bl[id]? ≠ some (some b)) (h2 : ∀ p q b, ov p = some b → ov q = some b → p = q) (h3 : ∀ p b l, ov p = some b → ob l ≠ some b) :
    Rel P A nt pend env (heap.set id (.map kt reg (msetAt ents i x))) bor tm { w with heap := w.heap.setIfInBounds b (.map (es.modify i fun e => { e with val := x' }) clock) } U bl (mapOb ob id i (fun j => j) ov) := by
  obtain ⟨es0, clock0, hm0, o1, o2, o3, o4, o5, o6⟩ := map_obj h hid hg
  rw [hm] at hm0; cases hm0
  have hes : ∀ j : Nat, (es.modify i fun e => { e with val := x' })[j]? = if i = j then (es[j]?).map fun e => { e with val := x' } else es[j]? := fun j => Array.getElem?_modify
  refine map_gen h hid hg hni hm (i0 := i) (σ := fun j => j) (fun _ _ _ _ e => e) h1 h2 h3 fun w' F hw' hr hov => ?_
  refine ⟨_, clock, hw', ⟨by rw [msetAt_length, o1.1]; simp, fun j p e hp he => ?_⟩, ⟨fun j e he => ?_, fun j k e f he hf hef => ?_⟩, fun p hp => ?_, fun j k p q hp hq hpq => ?_, fun hreg => ⟨by rw [(o5 hreg).1]; simp, fun j e he => ?_⟩, fun j p e hp he => ?_⟩
  · rw [msetAt_get] at hp
    rw [hes] at he
    by_cases e1 : i = j
    · subst e1
      rw [if_pos rfl] at hp he
      obtain ⟨p0, hp0, rfl⟩ := Option.map_eq_some_iff.1 hp
      obtain ⟨e0, he0, rfl⟩ := Option.map_eq_some_iff.1 he
      exact ⟨hr _ _ _ (o1.2 i p0 e0 hp0 he0).1, hr _ _ _ hx⟩
    · rw [if_neg e1] at hp he
      exact ⟨hr _ _ _ (o1.2 j p e hp he).1, hr _ _ _ (o1.2 j p e hp he).2⟩
  · rw [hes] at he
    split at he
    · obtain ⟨e0, he0, rfl⟩ := Option.map_eq_some_iff.1 he; exact o2.1 j e0 he0
    · exact o2.1 j e he
  · have born : ∀ (j : Nat) (e : MapEntry), (es.modify i fun e => { e with val := x' })[j]? = some e → ∃ e0, es[j]? = some e0 ∧ e0.born = e.born := by
      intro j e he
      rw [hes] at he
      split at he
      · obtain ⟨e0, he0, rfl⟩ := Option.map_eq_some_iff.1 he; exact ⟨e0, he0, rfl⟩
      · exact ⟨e, he, rfl⟩
    obtain ⟨e0, he0, hb0⟩ := born j e he
    obtain ⟨f0, hf0, hb1⟩ := born k f hf
    exact o2.2 j k e0 f0 he0 hf0 (by rw [hb0, hb1]; exact hef)
  · obtain ⟨j, hj⟩ := List.getElem?_of_mem hp
    rw [msetAt_get] at hj
    split at hj
    · obtain ⟨p0, hp0, rfl⟩ := Option.map_eq_some_iff.1 hj; exact o3 p0 (List.mem_of_getElem? hp0)
    · exact o3 p (List.mem_of_getElem? hj)
  · have keys : ∀ (j : Nat) p, (msetAt ents i x)[j]? = some p → ∃ p0, ents[j]? = some p0 ∧ p0.1 = p.1 := by
      intro j p hp
      rw [msetAt_get] at hp
      split at hp
      · obtain ⟨p0, hp0, rfl⟩ := Option.map_eq_some_iff.1 hp; exact ⟨p0, hp0, rfl⟩
      · exact ⟨p, hp, rfl⟩
    obtain ⟨p0, hp0, e1⟩ := keys j p hp
    obtain ⟨q0, hq0, e2⟩ := keys k q hq
    exact o4 j k p0 q0 hp0 hq0 (by rw [e1, e2]; exact hpq)
  · rw [hes] at he
    split at he
    · obtain ⟨e0, he0, rfl⟩ := Option.map_eq_some_iff.1 he; exact (o5 hreg).2 j e0 he0
    · exact (o5 hreg).2 j e he
  · rw [msetAt_get] at hp
    rw [hes] at he
    by_cases e1 : j = i
    · subst e1
      rw [if_pos rfl] at hp he
      obtain ⟨p0, hp0, rfl⟩ := Option.map_eq_some_iff.1 hp
      obtain ⟨e0, he0, rfl⟩ := Option.map_eq_some_iff.1 he
      simp only [if_true]
      exact hov _ _ _ (fun p hh => (h1 _ _ hh).2.2 id hid) ho
    · rw [if_neg (fun e => e1 e.symm)] at hp he
      simp only [if_neg e1]
      exact hov _ _ _ (fun p hh => (h.obok _ _ hh).2.2 id hid) (o6 j p e hp he)

/-- An entry is put behind. -/
theorem map_push (h : Rel P A nt pend env heap bor tm w U bl ob) {id b : Nat} (hid : bl[id]? = some (some b)) {kt : TypeId} {reg : Bool} {ents : List (AV × AV)} (hg : heap.get id = .map kt reg ents) (hni : noIter id heap = true) {es : Array MapEntry} {clock : Nat} (hm : w.heap[b]? = some (.map es clock))
    {q : AV} {q' : Value} (hq : Rep w (forb A bl heap) U [] q q') (hqk : keyOk P kt q = true) (hnew : ∀ p ∈ ents, eqKey P kt q p.1 = false) {x : AV} {x' : Value} (hx : Rep w (forb A bl heap) U [] x x') {ov : List Nat → Option Nat} (ho : OwnAt w (forb A bl heap) U A.B ov x x')
    (h1 : ∀ p b, ov p = some b → ¬ A.G b ∧ b < w.heap.size ∧ ∀ id : Nat, bl[id]? ≠ some (some b)) (h2 : ∀ p q b, ov p = some b → ov q = some b → p = q) (h3 : ∀ p b l, ov p = some b → ob l ≠ some b) :
    Rel P A nt pend env (heap.set id (.map kt reg (ents ++ [(q, x)]))) bor tm { w with heap := w.heap.setIfInBounds b (.map (es.push { key := q', val := x', born := clock }) (clock + 1)) } U bl (mapOb ob id es.size (fun j => j) ov) := by
  obtain ⟨es0, clock0, hm0, o1, o2, o3, o4, o5, o6⟩ := map_obj h hid hg
  rw [hm] at hm0; cases hm0
  have hes : ∀ (j : Nat) e, (es.push { key := q', val := x', born := clock })[j]? = some e → (es[j]? = some e ∧ j < es.size) ∨ (j = es.size ∧ e = { key := q', val := x', born := clock }) := by
    intro j e he
    rw [Array.getElem?_push] at he
    split at he
    · exact .inr ⟨‹_›, (Option.some.inj he).symm⟩
    · exact .inl ⟨he, (Array.getElem?_eq_some_iff.1 he).1⟩
  have hen : ∀ (j : Nat) p, (ents ++ [(q, x)])[j]? = some p → (ents[j]? = some p ∧ j < es.size) ∨ (j = es.size ∧ p = (q, x)) := by
    intro j p hp
    rw [List.getElem?_append] at hp
    split at hp
    · exact .inl ⟨hp, by rw [← o1.1]; assumption⟩
    · rename_i hlt
      have := (List.getElem?_eq_some_iff.1 hp).1
      simp at this
      have e1 : j - ents.length = 0 := this
      rw [e1] at hp; simp at hp
      exact .inr ⟨by rw [← o1.1]; omega, hp.symm⟩
  refine map_gen h hid hg hni hm (i0 := es.size) (σ := fun j => j) (fun _ _ _ _ e => e) h1 h2 h3 fun w' F hw' hr hov => ?_
  have symm : ∀ p ∈ ents, eqKey P kt p.1 q = false := by
    intro p hp
    cases hc : eqKey P kt p.1 q with
    | false => rfl
    | true =>
      have := (eqKey_eq (w := w) (F := forb A bl heap) (U := U) (bl := []) (o3 p hp) hqk hc).1
      have h' := hnew p hp
      rw [this] at h' hc
      rw [h'] at hc; cases hc
  refine ⟨_, clock + 1, hw', ⟨by simp [o1.1], fun j p e hp he => ?_⟩, ⟨fun j e he => ?_, fun j k e f he hf hef => ?_⟩, fun p hp => ?_, fun j k p r hp hrr hpq => ?_, fun hreg => ⟨by rw [(o5 hreg).1]; simp, fun j e he => ?_⟩, fun j p e hp he => ?_⟩
  · rcases hen j p hp with ⟨e1, e2⟩ | ⟨e1, rfl⟩ <;> rcases hes j e he with ⟨f1, f2⟩ | ⟨f1, rfl⟩
    · exact ⟨hr _ _ _ (o1.2 j p e e1 f1).1, hr _ _ _ (o1.2 j p e e1 f1).2⟩
    · omega
    · omega
    · exact ⟨hr _ _ _ hq, hr _ _ _ hx⟩
  · rcases hes j e he with ⟨f1, f2⟩ | ⟨f1, rfl⟩
    · have := o2.1 j e f1; omega
    · exact Nat.lt_succ_self _
  · rcases hes j e he with ⟨f1, f2⟩ | ⟨f1, rfl⟩ <;> rcases hes k f hf with ⟨g1, g2⟩ | ⟨g1, rfl⟩
    · exact o2.2 j k e f f1 g1 hef
    · have := o2.1 j e f1; simp only at hef; omega
    · have := o2.1 k f g1; simp only at hef; omega
    · omega
  · rcases List.mem_append.1 hp with hp | hp
    · exact o3 p hp
    · simp at hp; subst hp; exact hqk
  · rcases hen j p hp with ⟨e1, e2⟩ | ⟨e1, rfl⟩ <;> rcases hen k r hrr with ⟨f1, f2⟩ | ⟨f1, rfl⟩
    · exact o4 j k p r e1 f1 hpq
    · rw [symm p (List.mem_of_getElem? e1)] at hpq; cases hpq
    · rw [hnew r (List.mem_of_getElem? f1)] at hpq; cases hpq
    · omega
  · rcases hes j e he with ⟨f1, f2⟩ | ⟨f1, rfl⟩
    · exact (o5 hreg).2 j e f1
    · simp only; rw [(o5 hreg).1]; exact f1.symm
  · rcases hen j p hp with ⟨e1, e2⟩ | ⟨e1, rfl⟩ <;> rcases hes j e he with ⟨f1, f2⟩ | ⟨f1, rfl⟩
    · simp only [if_neg (show ¬ j = es.size by omega)]
      exact hov _ _ _ (fun p hh => (h.obok _ _ hh).2.2 id hid) (o6 j p e e1 f1)
    · omega
    · omega
    · simp only [if_pos e1]
      exact hov _ _ _ (fun p hh => (h1 _ _ hh).2.2 id hid) ho

theorem setObj_map {b : Nat} {es : Array MapEntry} {clock : Nat} (o : Obj) (h : w.heap[b]? = some (.map es clock)) : (setObj b o).run P w = .ok () { w with heap := w.heap.setIfInBounds b o } := by
  simp only [setObj, Sem.run, h]

/-- A store into a map. -/
theorem mapSet_sound (h : Rel P A nt pend env heap bor tm w U bl ob) {t : TypeId} {m q x : AV} {m' q' x' : Value} {heap' : Heap} (hs : mapSetAV P t heap m q x = some heap') (hm : Rep w (forb A bl heap) U bl m m') (hq : Rep w (forb A bl heap) U bl q q')
    (hx : Rep w (forb A bl heap) U bl x x') {ov : List Nat → Option Nat} (ho : OwnAt w (forb A bl heap) U A.B ov x x')
    (h1 : ∀ p b, ov p = some b → ¬ A.G b ∧ b < w.heap.size ∧ ∀ id : Nat, bl[id]? ≠ some (some b)) (h2 : ∀ p q b, ov p = some b → ov q = some b → p = q) (h3 : ∀ p b l, ov p = some b → ob l ≠ some b) :
    ∃ w', (Instr.mapUpdate t m' q' x').run P w = .ok () w' ∧ ∃ ob', Rel P A nt pend env heap' bor tm w' U bl ob' := by
  unfold mapSetAV at hs
  split at hs
  · rename_i kt e id ht
    split at hs
    · rename_i kt2 reg ents hg
      cases hc : (Nat.beq kt kt2 && keyOk P kt q && x.isData && noIter id heap) with
      | false => rw [hc] at hs; simp at hs
      | true =>
        rw [hc] at hs
        simp only [cond_true] at hs
        simp only [Bool.and_eq_true, beq_eq, decide_eq_true_eq] at hc
        obtain ⟨⟨⟨rfl, hqk⟩, hxd⟩, hni⟩ := hc
        obtain ⟨⟨b1, hb1⟩, hqd⟩ := keyOk_of hqk
        cases hm with
        | @mapr _ _ b hb =>
          obtain ⟨es, clock, hmb, o1, o2, o3, o4, o5, o6⟩ := map_obj h hb hg
          have hfk := findKey_run (w := w) (F := forb A bl heap) (U := U) (bl := []) (hq.data hqd) hqk (ents := ents) (es := es.toList) (by simpa using o1.1) o3 (fun j p e hp he => (o1.2 j p e hp (by simpa using he)).1)
          have hck := checkKey_run (em := false) depth0 10000 (by decide) kt q q' b1 hb1 hq
          have hxe := hx.data hxd
          cases hp : mpos P kt ents q with
          | none =>
            rw [hp] at hfk hs
            simp only [found] at hfk
            simp only [Option.some.injEq] at hs
            subst hs
            have hrel := map_push h hb hg hni hmb (hq.data hqd) hqk (mpos_none hp) hxe ho h1 h2 h3
            refine ⟨_, ?_, _, hrel⟩
            simp [Instr.mapUpdate, run_und ht (by simp), getObj_map hmb, hck, hfk, setObj_map _ hmb]
          | some i =>
            rw [hp] at hfk hs
            obtain ⟨hi, p, hpi, hpe⟩ := mpos_lt hp
            rw [found_get o1.1 hi] at hfk
            simp only [Option.some.injEq] at hs
            subst hs
            have hlt : i < es.size := by rw [← o1.1]; exact hi
            have hrel := map_put h hb hg hni hmb hlt hxe ho h1 h2 h3
            refine ⟨_, ?_, _, hrel⟩
            have hee : es[i]? = some es[i] := by simp [hlt]
            obtain ⟨hqp, huq⟩ := eqKey_eq (w := w) (F := forb A bl heap) (U := U) (bl := []) hqk (o3 p (List.mem_of_getElem? hpi)) hpe
            obtain ⟨hkeq, hsb⟩ := huq (es[i].key) q' (by rw [hqp]; exact (o1.2 i p es[i] hpi hee).1) (hq.data hqd)
            have hkt : (Instr.keyThatStays (((es[i]?).map (·.key)).getD q') q').run P w = .ok q' w := by
              rw [hee]; simp only [Option.map_some, Option.getD_some, Instr.keyThatStays, hsb, if_true, Sem.run_pure]
            have hmod : (es.modify i fun e => { e with key := q', val := x' }) = es.modify i fun e => { e with val := x' } := by
              apply Array.ext_getElem?
              intro j
              rw [Array.getElem?_modify, Array.getElem?_modify]
              by_cases e1 : i = j
              · subst e1; rw [if_pos rfl, if_pos rfl, hee]; simp only [Option.map_some]; rw [← hkeq]
              · rw [if_neg e1, if_neg e1]
            have hkt' : (Instr.keyThatStays (es[i].key) q').run P w = .ok q' w := by rw [hee] at hkt; exact hkt
            simp [Instr.mapUpdate, run_und ht (by simp), getObj_map hmb, hck, hfk, hlt, hkt', setObj_map _ hmb, hmod]
    · simp at hs
  · simp at hs

theorem own_pair {w : World} {F : Nat → Prop} {U : Nat → Nat} {B : Nat} {own : List Nat → Option Nat} {v : AV} {x : Value} {k : IntKind} {n : Int} (h : OwnAt w F U B (fun p => own (0 :: p)) v x) : OwnAt w F U B own (.tup [v, .int k n]) (.tuple #[x, .int k n]) := by
  intro p u hp hou
  cases p with
  | nil => simp [AV.at] at hp; subst hp; simp [AV.owned] at hou
  | cons i p =>
    simp only [AV.at] at hp
    match i with
    | 0 =>
      obtain ⟨y, hy, hok⟩ := h p u (by simpa using hp) hou
      exact ⟨y, by simpa [vat] using hy, hok⟩
    | 1 =>
      have : Bare (.int k n) := bare_of rfl
      rw [this p u (by simpa using hp)] at hou; cases hou
    | i + 2 => simp at hp
theorem rep_pair {w : World} {F : Nat → Prop} {U : Nat → Nat} {bl : Blocks} {v : AV} {x : Value} {k : IntKind} {n : Int} (h : Rep w F U bl v x) : Rep w F U bl (.tup [v, .int k n]) (.tuple #[x, .int k n]) := by
  refine .tup rfl fun i a c ha hc => ?_
  match i with
  | 0 => simp at ha hc; subst ha hc; exact h
  | 1 => simp at ha hc; subst ha hc; exact .int
  | i + 2 => simp at ha

theorem heap_same {w : World} {b : Nat} {o : Obj} (h : w.heap[b]? = some o) : { w with heap := w.heap.setIfInBounds b o } = w := by
  have : w.heap.setIfInBounds b o = w.heap := by
    apply Array.ext_getElem?
    intro j
    rw [Array.getElem?_setIfInBounds]
    by_cases e : b = j
    · subst e; simp [h, lt_of_some h]
      have hl := lt_of_some h
      have := (Array.getElem?_eq_some_iff.1 h).2
      exact this.symm
    · rw [if_neg e]
  rw [this]

/-- An entry's value lent out. -/
theorem mapEntry_sound (h : Rel P A nt pend env heap bor tm w U bl ob) {t : TypeId} {m q v : AV} {m' q' : Value} {heap' : Heap} {d : Option Nat} (hd : ∀ t, d = some t → t < nt) (hs : mapEntryAV P t heap m q = some (v, heap'))
    (hm : Rep w (forb A bl heap) U bl m m') (hq : Rep w (forb A bl heap) U bl q q') :
    ∃ x w', (Instr.mapEntry t m' q').run P w = .ok x w' ∧ ∃ ob', Rel P A nt pend (setO env d v) heap' bor (putO tm d x) w' U bl ob' := by
  unfold mapEntryAV at hs
  split at hs
  · rename_i kt e id ht
    split at hs
    · rename_i kt2 reg ents hg
      cases hc : (Nat.beq kt kt2 && reg && keyOk P kt q && noIter id heap && hasZero P e && (zeroAV P e).isData) with
      | false => rw [hc] at hs; simp at hs
      | true =>
        rw [hc] at hs
        simp only [cond_true] at hs
        simp only [Bool.and_eq_true, beq_eq, decide_eq_true_eq] at hc
        obtain ⟨⟨⟨⟨⟨rfl, rfl⟩, hqk⟩, hni⟩, hz⟩, hzd⟩ := hc
        obtain ⟨⟨b1, hb1⟩, hqd⟩ := keyOk_of hqk
        cases hm with
        | @mapr _ _ b hb =>
          obtain ⟨es, clock, hmb, o1, o2, o3, o4, o5, o6⟩ := map_obj h hb hg
          have hfk := findKey_run (w := w) (F := forb A bl heap) (U := U) (bl := []) (hq.data hqd) hqk (ents := ents) (es := es.toList) (by simpa using o1.1) o3 (fun j p e hp he => (o1.2 j p e hp (by simpa using he)).1)
          have hck := checkKey_run (em := false) depth0 10000 (by decide) kt q q' b1 hb1 hq
          cases hp : mpos P kt ents q with
          | none =>
            rw [hp] at hfk hs
            simp only [found] at hfk
            simp only [Option.some.injEq, Prod.mk.injEq] at hs
            obtain ⟨rfl, rfl⟩ := hs
            obtain ⟨z, hzz⟩ := zero_all hz
            obtain ⟨hz1, hz2, hz3⟩ := hzz w (forb A bl heap) U bl A.B
            have hrel := map_push h hb hg hni hmb (hq.data hqd) hqk (mpos_none hp) (hz2.strip.data (strip_data _ hzd)) (ov := fun _ => none) (.bare (strip_bare _)) (fun p b hh => by simp at hh) (fun p q b hh => by simp at hh) (fun p b l hh => by simp at hh)
            have hcl : (clock : Int) = (ents.length : Int) := by rw [(o5 rfl).1, o1.1]
            refine ⟨.tuple #[z, goInt clock], _, ?_, hrel.put0 hd (v := .tup [zeroAV P e, .int .i64 (ents.length : Int)]) (x := .tuple #[z, goInt clock]) ?_ fun own => ?_⟩
            · simp [Instr.mapEntry, run_und ht (by simp), getObj_map hmb, hck, hfk, hz1, setObj_map _ hmb]
            · rw [goInt, hcl]
              exact rep_pair (hzz _ _ _ _ A.B).2.1
            · rw [goInt, hcl]
              exact own_pair ((hzz _ _ _ [] _).2.2 _)
          | some i =>
            rw [hp] at hfk hs
            obtain ⟨hi, p, hpi, hpe⟩ := mpos_lt hp
            rw [found_get o1.1 hi] at hfk
            simp only [Option.some.injEq, Prod.mk.injEq] at hs
            obtain ⟨rfl, rfl⟩ := hs
            rw [mval_get _ _ _ _ hpi]
            have hlt : i < es.size := by rw [← o1.1]; exact hi
            have hee : es[i]? = some es[i] := by simp [hlt]
            obtain ⟨hr1, hr2⟩ := o1.2 i p es[i] hpi hee
            obtain ⟨hqp, huq⟩ := eqKey_eq (w := w) (F := forb A bl heap) (U := U) (bl := []) hqk (o3 p (List.mem_of_getElem? hpi)) hpe
            obtain ⟨hkeq, hsb⟩ := huq (es[i].key) q' (by rw [hqp]; exact hr1) (hq.data hqd)
            have hkt : (Instr.keyThatStays (es[i].key) q').run P w = .ok q' w := by simp only [Instr.keyThatStays, hsb, if_true, Sem.run_pure]
            have hmod : (es.modify i fun e => { e with key := q' }) = es := by
              apply Array.ext_getElem?
              intro j
              rw [Array.getElem?_modify]
              by_cases e1 : i = j
              · subst e1; rw [if_pos rfl, hee]; simp only [Option.map_some]; rw [← hkeq]
              · rw [if_neg e1]
            have hmod2 : (es.modify i fun e => { e with val := es[i].val }) = es := by
              apply Array.ext_getElem?
              intro j
              rw [Array.getElem?_modify]
              by_cases e1 : i = j
              · subst e1; rw [if_pos rfl, hee]; simp only [Option.map_some]
              · rw [if_neg e1]
            have hborn : (es[i].born : Int) = (i : Int) := by rw [(o5 rfl).2 i es[i] hee]
            have hsame : ∀ w2, w2 = w → (setObj b (.map (es.modify i fun e => { e with key := q' }) clock)).run P w2 = .ok () w := by
              rintro w2 rfl
              rw [setObj_map _ hmb, hmod, heap_same hmb]
            refine ⟨.tuple #[es[i].val, goInt es[i].born], w, ?_, ?_⟩
            · simp only [Instr.mapEntry, Sem.run_bind, run_und ht (by simp), Result.andThen_ok, getObj_map hmb, hck, hfk, hee, Option.map_some, Option.getD_some, hkt, hsame _ rfl, Sem.run_pure]
            · have hrel := map_put h hb hg hni hmb hlt (x := p.2.strip) (x' := es[i].val) hr2.strip (ov := fun _ => none) (.bare (strip_bare _)) (fun p b hh => by simp at hh) (fun p q b hh => by simp at hh) (fun p b l hh => by simp at hh)
              rw [hmod2, heap_same hmb] at hrel
              rw [goInt, hborn]
              cases d with
              | none => exact ⟨_, hrel⟩
              | some d =>
                have hfb : ∀ c, forb A bl (heap.set id (.map kt true (msetAt ents i p.2.strip))) c → forb A bl heap c := by
                  rintro c (hf | ⟨j, hj, hdd⟩)
                  · exact .inl hf
                  · refine .inr ⟨j, hj, ?_⟩
                    rw [heap_get_set] at hdd
                    by_cases e1 : id = j ∧ j < heap.length
                    · rw [← e1.1, hg]; simp
                    · rw [if_neg e1] at hdd; exact hdd
                have gr : Grow0 w (forb A bl heap) U w (forb A bl (heap.set id (.map kt true (msetAt ents i p.2.strip)))) U := ⟨fun c _ hf => .inl (hfb c hf), fun c _ _ => ⟨Nat.le_refl _, fun _ _ => rfl⟩⟩
                refine ⟨_, hrel.putG (hd d rfl) (fun r => match r with | 0 :: r => ob (.mapv id i r) | _ => none) (rep_pair ((hr2.mono gr (BlLe.refl _)).ofNil)) (own_pair (ownAt_keeps (o6 i p es[i] hpi hee) gr (fun r c _ _ hn => ⟨rfl, rfl, fun hf => hn (hfb c hf)⟩))) (fun r c hr => ?_)⟩
                have hr' : ∃ r', r = 0 :: r' ∧ ob (.mapv id i r') = some c := by
                  match r with
                  | [] => simp at hr
                  | 0 :: r' => exact ⟨r', rfl, hr⟩
                  | (n + 1) :: r' => simp at hr
                obtain ⟨r', rfl, hr'⟩ := hr'
                refine ⟨h.obok _ _ hr', fun r2 hr2 => ?_, fun l hl => ?_⟩
                · match r2 with
                  | [] => simp at hr2
                  | 0 :: r2' =>
                    have := h.obinj _ _ c hr' hr2
                    injection this with _ _ e3
                    rw [e3]
                  | (n + 1) :: r2' => simp at hr2
                · rcases mapOb_some hl with ⟨_, _, hh⟩ | ⟨hh, hne⟩
                  · simp at hh
                  · exact absurd (h.obinj _ _ c hh hr') (hne r')
    · simp at hs
  · simp at hs

/-- A value put where a lent one was. -/
theorem entryStore_sound (h : Rel P A nt pend env heap bor tm w U bl ob) {t : TypeId} {m s x : AV} {m' s' x' : Value} {heap' : Heap} (hs : entryStoreAV heap m s x = some heap') (hm : Rep w (forb A bl heap) U bl m m') (hsr : Rep w (forb A bl heap) U bl s s')
    (hx : Rep w (forb A bl heap) U bl x x') {ov : List Nat → Option Nat} (ho : OwnAt w (forb A bl heap) U A.B ov x x')
    (h1 : ∀ p b, ov p = some b → ¬ A.G b ∧ b < w.heap.size ∧ ∀ id : Nat, bl[id]? ≠ some (some b)) (h2 : ∀ p q b, ov p = some b → ov q = some b → p = q) (h3 : ∀ p b l, ov p = some b → ob l ≠ some b) :
    ∃ w', (Instr.entryStore t m' s' x').run P w = .ok () w' ∧ ∃ ob', Rel P A nt pend env heap' bor tm w' U bl ob' := by
  unfold entryStoreAV at hs
  split at hs
  · rename_i id k n
    obtain rfl := rep_int hsr
    split at hs
    · rename_i kt reg ents hg
      cases hc : (reg && inRange n ents.length && x.isData && noIter id heap) with
      | false => rw [hc] at hs; simp at hs
      | true =>
        rw [hc] at hs
        simp only [cond_true, Option.some.injEq] at hs
        subst hs
        simp only [Bool.and_eq_true] at hc
        obtain ⟨⟨⟨rfl, hin⟩, hxd⟩, hni⟩ := hc
        rw [inRange_iff] at hin
        cases hm with
        | @mapr _ _ b hb =>
          obtain ⟨es, clock, hmb, o1, o2, o3, o4, o5, o6⟩ := map_obj h hb hg
          have hlt : n.toNat < es.size := by rw [← o1.1]; omega
          have hfind : es.findIdx? (fun e => (e.born : Int) == n) = some n.toNat := by
            rw [Array.findIdx?_eq_some_iff_getElem]
            refine ⟨hlt, ?_, fun j hj => ?_⟩
            · have := (o5 rfl).2 n.toNat es[n.toNat] (by simp [hlt])
              rw [this]; simp; omega
            · have := (o5 rfl).2 j (es[j]'(by omega)) (by simp)
              rw [this]; simp; omega
          exact ⟨_, by simp [Instr.entryStore, getObj_map hmb, asInt, asIntOf, hfind, setObj_map _ hmb], _, map_put h hb hg hni hmb hlt (hx.data hxd) ho h1 h2 h3⟩
    · simp at hs
  · simp at hs

/-- A key struck out. -/
theorem mapDel_sound (h : Rel P A nt pend env heap bor tm w U bl ob) {t ty : TypeId} {tys : Array TypeId} (hty : tys[0]? = some t) {m q : AV} {m' q' : Value} {heap' : Heap} (hs : mapDelAV P t heap m q = some heap') (hm : Rep w (forb A bl heap) U bl m m') (hq : Rep w (forb A bl heap) U bl q q') :
    ∃ w', (Builtin.delete_ tys ty #[m', q']).run P w = .ok (.tuple #[]) w' ∧ ∃ ob', Rel P A nt pend env heap' bor tm w' U bl ob' := by
  unfold mapDelAV at hs
  split at hs
  · rename_i kt e ht
    cases hqk : keyOk P kt q with
    | false => rw [hqk] at hs; simp at hs
    | true =>
      rw [hqk] at hs
      simp only [cond_true, Option.some.injEq] at hs
      subst hs
      obtain ⟨⟨b1, hb1⟩, hqd⟩ := keyOk_of hqk
      cases hm
      have hck := checkKey_run (em := true) depth0 10000 (by decide) kt q q' b1 hb1 hq
      exact ⟨w, by simp [Builtin.delete_, hty, run_und ht (by simp), hck], ob, h⟩
  · rename_i kt e id ht
    split at hs
    · rename_i kt2 reg ents hg
      cases hc : (Nat.beq kt kt2 && keyOk P kt q && noIter id heap) with
      | false => rw [hc] at hs; simp at hs
      | true =>
        rw [hc] at hs
        simp only [cond_true] at hs
        simp only [Bool.and_eq_true, beq_eq, decide_eq_true_eq] at hc
        obtain ⟨⟨rfl, hqk⟩, hni⟩ := hc
        obtain ⟨⟨b1, hb1⟩, hqd⟩ := keyOk_of hqk
        cases hm with
        | @mapr _ _ b hb =>
          obtain ⟨es, clock, hmb, o1, o2, o3, o4, o5, o6⟩ := map_obj h hb hg
          have hfk := findKey_run (w := w) (F := forb A bl heap) (U := U) (bl := []) (hq.data hqd) hqk (ents := ents) (es := es.toList) (by simpa using o1.1) o3 (fun j p e hp he => (o1.2 j p e hp (by simpa using he)).1)
          have hck := checkKey_run (em := es.isEmpty) depth0 10000 (by decide) kt q q' b1 hb1 hq
          cases hp : mpos P kt ents q with
          | none =>
            rw [hp] at hfk hs
            simp only [found] at hfk
            simp only [Option.some.injEq] at hs
            subst hs
            refine ⟨w, ?_, ob, h⟩
            simp [Builtin.delete_, hty, run_und ht (by simp), getObj_map hmb, hck, hfk, setObj_map _ hmb, heap_same hmb]
          | some i =>
            rw [hp] at hfk hs
            obtain ⟨hi, p, hpi, hpe⟩ := mpos_lt hp
            rw [found_get o1.1 hi] at hfk
            simp only [Option.some.injEq] at hs
            subst hs
            have hlt : i < es.size := by rw [← o1.1]; exact hi
            refine ⟨{ w with heap := w.heap.setIfInBounds b (.map (es.eraseIdxIfInBounds i) clock) }, by simp [Builtin.delete_, hty, run_und ht (by simp), getObj_map hmb, hck, hfk, setObj_map _ hmb], mapOb ob id es.size (fun j => if j < i then j else j + 1) (fun _ => none), ?_⟩
            have he : es.eraseIdxIfInBounds i = es.eraseIdx i hlt := by simp [Array.eraseIdxIfInBounds, hlt]
            have hes : ∀ j : Nat, (es.eraseIdxIfInBounds i)[j]? = if j < i then es[j]? else es[j + 1]? := by
              intro j; rw [he, Array.getElem?_eraseIdx]
            have hen : ∀ j : Nat, (ents.eraseIdx i)[j]? = if j < i then ents[j]? else ents[j + 1]? := by
              intro j; rw [List.getElem?_eraseIdx]
            have hσ : ∀ j, ∃ k, k = (if j < i then j else j + 1) ∧ (es.eraseIdxIfInBounds i)[j]? = es[k]? ∧ (ents.eraseIdx i)[j]? = ents[k]? := by
              intro j
              refine ⟨_, rfl, ?_, ?_⟩
              · rw [hes]; split <;> rfl
              · rw [hen]; split <;> rfl
            have hinj : ∀ j k : Nat, (if j < i then j else j + 1) = (if k < i then k else k + 1) → j = k := by
              intro j k hjk
              split at hjk <;> split at hjk <;> omega
            refine map_gen h hb hg hni hmb (i0 := es.size) (σ := fun j => if j < i then j else j + 1) (ov := fun _ => none) (fun j k _ _ hjk => hinj j k hjk) (fun p b hh => by simp at hh) (fun p q b hh => by simp at hh) (fun p b l hh => by simp at hh) fun w' F hw' hr hov => ?_
            refine ⟨_, clock, hw', ⟨by rw [he, List.length_eraseIdx_of_lt hi]; simp [o1.1], fun j p e hp he => ?_⟩, ⟨fun j e he => ?_, fun j k e f he hf hef => ?_⟩, fun p hp => ?_, fun j k p r hp hrr hpq => ?_, fun hf => (by cases hf), fun j p e hp he => ?_⟩
            · obtain ⟨k, _, k1, k2⟩ := hσ j
              rw [k1] at he; rw [k2] at hp
              exact ⟨hr _ _ _ (o1.2 k p e hp he).1, hr _ _ _ (o1.2 k p e hp he).2⟩
            · obtain ⟨k, _, k1, k2⟩ := hσ j
              rw [k1] at he; exact o2.1 k e he
            · obtain ⟨j', hj', k1, _⟩ := hσ j
              obtain ⟨k', hk', k2, _⟩ := hσ k
              rw [k1] at he; rw [k2] at hf
              have := o2.2 j' k' e f he hf hef
              rw [hj', hk'] at this
              exact hinj j k this
            · exact o3 p (List.mem_of_mem_eraseIdx hp)
            · obtain ⟨j', hj', _, k1⟩ := hσ j
              obtain ⟨k', hk', _, k2⟩ := hσ k
              rw [k1] at hp; rw [k2] at hrr
              have := o4 j' k' p r hp hrr hpq
              rw [hj', hk'] at this
              exact hinj j k this
            · have hjl : j ≠ es.size := by
                intro e1
                have := (Array.getElem?_eq_some_iff.1 he).1
                rw [‹es.eraseIdxIfInBounds i = _›] at this
                simp at this; omega
              simp only [if_neg hjl]
              obtain ⟨k, hk, k1, k2⟩ := hσ j
              rw [k1] at he; rw [k2] at hp
              rw [← hk]
              exact hov _ _ _ (fun p hh => (h.obok _ _ hh).2.2 id hb) (o6 k p e hp he)
    · simp at hs
  · simp at hs
end
end Ax

/- A value taken out of a variable; operations that turn the heap. -/
set_option linter.unusedVariables false
set_option linter.unusedSimpArgs false
namespace Ax
open Go Go.RowKit

section
variable {P : Program} {A : Amb} {nt : Nat} {pend : List (Nat × AObj)} {env : Env} {heap : Heap} {bor : Option (Nat × AV)} {tm : Array Value} {w : World} {U : Nat → Nat} {bl : Blocks} {ob : Loc → Option Nat} {a : Act}

theorem take_sound {cx : Ctx} (hP : cx.P = P) (h : Rel P A nt pend env heap bor tm w U bl ob) {t : TypeId} {p v : AV} {x : Value} {heap' : Heap} (ht : takeAV cx heap t p = some (v, heap')) (hp : Rep w (forb A bl heap) U bl p x) {d : Option Nat} (hd : ∀ t, d = some t → t < nt) :
    ∃ y, (Instr.loadAt t x).run P w = .ok y w ∧ ∃ ob', Rel P A nt pend (setO env d v) heap' bor (putO tm d y) w U bl ob' := by
  subst hP
  unfold takeAV at ht
  split at ht
  · rename_i id off
    split at ht
    · rename_i cs hg
      split at ht
      · rename_i v0 hpart
        cases hc : (!tyAgg cx.P t && v0.scal) with
        | false => rw [hc] at ht; simp at ht
        | true =>
          rw [hc] at ht
          simp only [cond_true, Option.some.injEq, Prod.mk.injEq] at ht
          obtain ⟨rfl, rfl⟩ := ht
          simp only [Bool.and_eq_true, Bool.not_eq_true'] at hc
          obtain ⟨hna, hsc⟩ := hc
          cases hp with
          | @ptr _ _ _ b hb =>
            have hobj := h.objs id b hb
            rw [hg] at hobj
            obtain ⟨c, e, fr, o1, o2, o3, o4⟩ := hobj
            unfold partAV at hpart
            rw [hna] at hpart
            simp only [cond_false] at hpart
            cases hk : ((cx.P.underlying t).isSome && Nat.beq (tySz cx.P t) 1) with
            | false => simp [hk] at hpart
            | true =>
              simp only [hk, cond_true] at hpart
              simp only [Bool.and_eq_true] at hk
              have hcs := (oneAV_some hpart).1
              have hol := (List.getElem?_eq_some_iff.1 hcs).1
              have holc : off < c.size := by omega
              have hy : c[off]? = some c[off] := by simp [holc]
              obtain ⟨r1, r2⟩ := o4 off v0 c[off] hcs hy
              have hrun : (Instr.loadAt t (.pointer (some ⟨b, off, none⟩))).run cx.P w = .ok c[off] w := by
                have hcell : w.cell? ⟨b, off, none⟩ = some c[off] := by rw [cell_row o1]; exact hy
                simp [Instr.loadAt, Instr.sureAddr, loadVar, run_agg hk.1, hna, hcell]
              refine ⟨c[off], hrun, ?_⟩
              have hw : Wrote w b (.cells c e fr) w := ⟨rfl, rfl, rfl, rfl, o1, fun _ _ => rfl, rfl⟩
              let ob1 : Loc → Option Nat := fun l => match l with | .cell j i p => if j = id ∧ i = off then none else ob (.cell j i p) | l => ob l
              have hob1 : ∀ l c, ob1 l = some c → ob l = some c ∧ ∀ p, l ≠ .cell id off p := by
                intro l c hl
                cases l with
                | env t p => exact ⟨hl, fun p h => by cases h⟩
                | mapv j i p => exact ⟨hl, fun p h => by cases h⟩
                | cell j i p =>
                  simp only [ob1] at hl
                  by_cases e : j = id ∧ i = off
                  · rw [if_pos e] at hl; cases hl
                  · rw [if_neg e] at hl; exact ⟨hl, fun q hq => by injection hq with h1 h2; exact e ⟨h1, h2⟩⟩
              have hrel : Rel cx.P A nt pend env (heap.set id (.cells (setRange cs off [v0.strip]))) bor tm w U bl ob1 := by
                refine h.write hb (by rw [hg]; simp) (.inr (by intro kt reg ents e; rw [hg] at e; cases e)) (by simp) hw (bor' := bor) (fun F hF hmono howns => ?_) (fun l hn1 hn2 => ?_) (fun l m c hl hm => h.obinj l m c (hob1 l c hl).1 (hob1 m c hm).1) (fun l c hl => h.obok l c (hob1 l c hl).1) (fun j hj => rfl)
                · have hFr : ∀ bl2 v x, Rep w (forb A bl heap) U bl2 v x → Rep w F U bl2 v x := fun bl2 v x hr => hr.mono ⟨fun c _ hf => .inl ((hF c).1 hf), fun c _ hc => ⟨Nat.le_refl _, fun o _ => rfl⟩⟩ (BlLe.refl _)
                  have hFo : ∀ own v x, OwnAt w (forb A bl heap) U A.B own v x → OwnAt w F U A.B own v x := fun own v x ho => ownAt_keeps ho ⟨fun c _ hf => .inl ((hF c).1 hf), fun c _ hc => ⟨Nat.le_refl _, fun o _ => rfl⟩⟩ (fun p c _ _ hn => ⟨rfl, rfl, fun hf => hn ((hF c).1 hf)⟩)
                  refine ⟨c, e, fr, o1, by rw [setRange_length]; exact o2, o3, fun i y z hy' hz => ?_⟩
                  rw [setRange_get] at hy'
                  by_cases e1 : i = off
                  · subst e1
                    rw [if_pos ⟨Nat.le_refl _, by simp, hol⟩] at hy'
                    simp at hy'
                    subst hy'
                    have : z = c[i] := by rw [hy] at hz; exact (Option.some.inj hz).symm
                    subst this
                    exact ⟨hFr _ _ _ r1.strip, .bare (strip_bare _)⟩
                  · rw [if_neg (by simp; omega)] at hy'
                    obtain ⟨q1, q2⟩ := o4 i y z hy' hz
                    refine ⟨hFr _ _ _ q1, ?_⟩
                    have e2 : (fun p => ob1 (.cell id i p)) = fun p => ob (.cell id i p) := by
                      funext p; simp only [ob1]; rw [if_neg (fun q => e1 q.2)]
                    show OwnAt w F U A.B (fun p => ob1 (.cell id i p)) y z
                    rw [e2]; exact hFo _ _ _ q2
                · cases l with
                  | env t p => rfl
                  | mapv j i p => rfl
                  | cell j i p =>
                    simp only [ob1]
                    rw [if_neg]
                    rintro ⟨rfl, _⟩
                    exact hn1 i p rfl
              cases d with
              | none => exact ⟨_, hrel⟩
              | some d =>
                have hfb : ∀ c, forb A bl (heap.set id (.cells (setRange cs off [v0.strip]))) c → forb A bl heap c := by
                  rintro c (hf | ⟨j, hj, hdd⟩)
                  · exact .inl hf
                  · refine .inr ⟨j, hj, ?_⟩
                    rw [heap_get_set] at hdd
                    by_cases e1 : id = j ∧ j < heap.length
                    · rw [← e1.1, hg]; simp
                    · rw [if_neg e1] at hdd; exact hdd
                have gr : Grow0 w (forb A bl heap) U w (forb A bl (heap.set id (.cells (setRange cs off [v0.strip])))) U := ⟨fun c _ hf => .inl (hfb c hf), fun c _ _ => ⟨Nat.le_refl _, fun _ _ => rfl⟩⟩
                refine ⟨_, hrel.putG (hd d rfl) (fun r => ob (.cell id off r)) (r1.mono gr (BlLe.refl _)) (ownAt_keeps r2 gr (fun r c _ _ hn => ⟨rfl, rfl, fun hf => hn (hfb c hf)⟩)) (fun r c hr => ⟨h.obok _ _ hr, fun r2 hr2 => ?_, fun l hl => ?_⟩)⟩
                · have := h.obinj _ _ c hr hr2
                  injection this
                · obtain ⟨l1, l2⟩ := hob1 l c hl
                  exact absurd (h.obinj _ _ c l1 hr) (l2 r)
      · simp at ht
    · simp at ht
  · simp at ht

/-- A variable's value put anew in our reading. -/
theorem Rel.cellPut (h : Rel P A nt pend env heap bor tm w U bl ob) {id off b : Nat} {cs : List AV} (hg : heap.get id = .cells cs) (hb : bl[id]? = some (some b)) (hol : off < cs.length) {v : AV} (hbare : Bare v)
    (hv : ∀ c e fr y, w.heap[b]? = some (.cells c e fr) → c[off]? = some y → Rep w (forb A bl heap) U bl v y) :
    Rel P A nt pend env (heap.set id (.cells (setRange cs off [v]))) bor tm w U bl (fun l => match l with | .cell j i p => if j = id ∧ i = off then none else ob (.cell j i p) | l => ob l) := by
  have hobj := h.objs id b hb
  rw [hg] at hobj
  obtain ⟨c, e, fr, o1, o2, o3, o4⟩ := hobj
  have holc : off < c.size := by omega
  have hy : c[off]? = some c[off] := by simp [holc]
  have hv := hv c e fr _ o1 hy
  have hw : Wrote w b (.cells c e fr) w := ⟨rfl, rfl, rfl, rfl, o1, fun _ _ => rfl, rfl⟩
  let ob1 : Loc → Option Nat := fun l => match l with | .cell j i p => if j = id ∧ i = off then none else ob (.cell j i p) | l => ob l
  have hob1 : ∀ l c, ob1 l = some c → ob l = some c ∧ ∀ p, l ≠ .cell id off p := by
    intro l c hl
    cases l with
    | env t p => exact ⟨hl, fun p h => by cases h⟩
    | mapv j i p => exact ⟨hl, fun p h => by cases h⟩
    | cell j i p =>
      simp only [ob1] at hl
      by_cases e : j = id ∧ i = off
      · rw [if_pos e] at hl; cases hl
      · rw [if_neg e] at hl; exact ⟨hl, fun q hq => by injection hq with h1 h2; exact e ⟨h1, h2⟩⟩
  show Rel P A nt pend env (heap.set id (.cells (setRange cs off [v]))) bor tm w U bl ob1
  refine h.write hb (by rw [hg]; simp) (.inr (by intro kt reg ents e; rw [hg] at e; cases e)) (by simp) hw (bor' := bor) (fun F hF hmono howns => ?_) (fun l hn1 hn2 => ?_) (fun l m c hl hm => h.obinj l m c (hob1 l c hl).1 (hob1 m c hm).1) (fun l c hl => h.obok l c (hob1 l c hl).1) (fun j hj => rfl)
  · have hFr : ∀ bl2 v x, Rep w (forb A bl heap) U bl2 v x → Rep w F U bl2 v x := fun bl2 v x hr => hr.mono ⟨fun c _ hf => .inl ((hF c).1 hf), fun c _ hc => ⟨Nat.le_refl _, fun o _ => rfl⟩⟩ (BlLe.refl _)
    have hFo : ∀ own v x, OwnAt w (forb A bl heap) U A.B own v x → OwnAt w F U A.B own v x := fun own v x ho => ownAt_keeps ho ⟨fun c _ hf => .inl ((hF c).1 hf), fun c _ hc => ⟨Nat.le_refl _, fun o _ => rfl⟩⟩ (fun p c _ _ hn => ⟨rfl, rfl, fun hf => hn ((hF c).1 hf)⟩)
    refine ⟨c, e, fr, o1, by rw [setRange_length]; exact o2, o3, fun i y z hy' hz => ?_⟩
    rw [setRange_get] at hy'
    by_cases e1 : i = off
    · subst e1
      rw [if_pos ⟨Nat.le_refl _, by simp, hol⟩] at hy'
      simp at hy'
      subst hy'
      have : z = c[i] := by rw [hy] at hz; exact (Option.some.inj hz).symm
      subst this
      exact ⟨hFr _ _ _ hv, .bare hbare⟩
    · rw [if_neg (by simp; omega)] at hy'
      obtain ⟨q1, q2⟩ := o4 i y z hy' hz
      refine ⟨hFr _ _ _ q1, ?_⟩
      have e2 : (fun p => ob1 (.cell id i p)) = fun p => ob (.cell id i p) := by
        funext p; simp only [ob1]; rw [if_neg (fun q => e1 q.2)]
      show OwnAt w F U A.B (fun p => ob1 (.cell id i p)) y z
      rw [e2]; exact hFo _ _ _ q2
  · cases l with
    | env t p => rfl
    | mapv j i p => rfl
    | cell j i p =>
      simp only [ob1]
      rw [if_neg]
      rintro ⟨rfl, _⟩
      exact hn1 i p rfl
/-- A block that nobody owns made an object. -/
theorem Rel.adoptB (h0 : Rel P A nt pend env heap bor tm w U bl ob) {b sz n : Nat} {g : Nat → AV} (e3 : A.B ≤ b) (e4 : ¬ forb A bl heap b) (e5 : U b = 0) (hG : ¬ A.G b) (hnb : ∀ id : Nat, bl[id]? ≠ some (some b)) (hnob : ∀ l, ob l ≠ some b) (hsz : 0 < sz)
    (hx : ∃ c e fr, w.heap[b]? = some (.cells c e fr) ∧ n * sz ≤ c.size ∧ (∀ o, o < c.size → w.frozen? ⟨b, o, none⟩ = false) ∧ (∀ i, i < n → (g i).cells.length = sz) ∧
        ∀ (i j : Nat) q, i < n → (g i).cells[j]? = some q → ∃ y, c[i * sz + j]? = some y ∧ y.oneCell' = true ∧ Rep w (forb A bl heap) U [] q y) :
    Rel P A nt pend env (heap ++ [.arr sz n g]) bor tm w U (bl ++ [some b]) ob := by
  obtain ⟨c, el, fr, e7, e8, e9, e10, e11⟩ := hx
  have hblt := lt_of_some e7
  have hgl : ∀ (j c : Nat), (bl ++ [some b])[j]? = some (some c) ↔ bl[j]? = some (some c) ∨ (j = bl.length ∧ c = b) := by
    intro j c
    rw [List.getElem?_append]
    split
    · rename_i hlt
      constructor
      · exact .inl
      · rintro (h | ⟨h, _⟩)
        · exact h
        · omega
    · rename_i hge
      constructor
      · intro hh
        have := (List.getElem?_eq_some_iff.1 hh).1
        simp at this
        have e0 : j - bl.length = 0 := this
        rw [e0] at hh
        simp at hh
        exact .inr ⟨by omega, hh.symm⟩
      · rintro (h | ⟨rfl, rfl⟩)
        · rw [List.getElem?_eq_none (by omega)] at h; cases h
        · simp
  have hgh : ∀ j, j < heap.length → Heap.get (heap ++ [.arr sz n g]) j = heap.get j := fun j hj => by rw [heap_get_append, if_pos hj]
  have hgn : Heap.get (heap ++ [.arr sz n g]) heap.length = .arr sz n g := by rw [heap_get_append, if_neg (by omega)]; simp [Heap.get]
  have hle : BlLe bl (bl ++ [some b]) := fun j c hj => (hgl j c).2 (.inl hj)
  have hbl : ∀ (j c : Nat), bl[j]? = some (some c) → j < heap.length := fun j c hj => by rw [← h0.len]; exact (List.getElem?_eq_some_iff.1 hj).1
  have hforb : ∀ c, forb A (bl ++ [some b]) (heap ++ [.arr sz n g]) c ↔ forb A bl heap c ∨ c = b := by
    intro c
    constructor
    · rintro (hf | ⟨j, hj, hd⟩)
      · exact .inl (.inl hf)
      · rcases (hgl j c).1 hj with hj' | ⟨_, rfl⟩
        · rw [hgh j (hbl j c hj')] at hd; exact .inl (.inr ⟨j, hj', hd⟩)
        · exact .inr rfl
    · rintro ((hf | ⟨j, hj, hd⟩) | rfl)
      · exact .inl hf
      · exact .inr ⟨j, (hgl j c).2 (.inl hj), by rw [hgh j (hbl j c hj)]; exact hd⟩
      · exact .inr ⟨bl.length, (hgl _ _).2 (.inr ⟨rfl, rfl⟩), by rw [h0.len, hgn]; simp⟩
  have g0 : Grow0 w (forb A bl heap) U w (forb A (bl ++ [some b]) (heap ++ [.arr sz n g])) U := by
    refine ⟨fun c _ hf => ?_, fun c _ _ => ⟨Nat.le_refl _, fun _ _ => rfl⟩⟩
    rcases (hforb c).1 hf with hf | rfl
    · exact .inl hf
    · exact .inr e5
  have kp : ∀ l c, ob l = some c → c < w.heap.size → ¬ forb A bl heap c → w.heap[c]? = w.heap[c]? ∧ U c = U c ∧ ¬ forb A (bl ++ [some b]) (heap ++ [.arr sz n g]) c := by
    intro l c hl _ hn
    refine ⟨rfl, rfl, fun hf => ?_⟩
    rcases (hforb c).1 hf with hf | rfl
    · exact hn hf
    · exact hnob l hl
  refine { size := h0.size, env := fun t => ?_, len := by simp [h0.len], objs := ?_, inj := ?_, base := ?_, obinj := h0.obinj, obok := fun l c hl => ⟨(h0.obok l c hl).1, (h0.obok l c hl).2.1, fun j hj => ?_⟩, since := ?_, f0 := h0.f0, hB := h0.hB, hG := h0.hG, pend := ?_ }
  · have := h0.env t
    exact ⟨this.1.mono g0 hle, ownAt_keeps this.2 g0 (fun p c hc => kp (.env t p) c hc)⟩
  · intro j c1 hj
    rcases (hgl j c1).1 hj with hj' | ⟨rfl, rfl⟩
    · rw [hgh j (hbl j c1 hj')]
      refine obj_keeps (h0.objs j c1 hj') g0 hle rfl (fun _ _ _ _ _ => rfl) (fun d hd => ?_)
      rcases hd with ⟨i, p, hd⟩ | ⟨i, p, hd⟩
      · exact kp (.cell j i p) d hd
      · exact kp (.mapv j i p) d hd
    · rw [h0.len, hgn]
      exact ⟨c, el, fr, e7, hsz, e8, e9, e10, fun i j x hi hx => let ⟨y, h1, h2, h3⟩ := e11 i j x hi hx; ⟨y, h1, h2, h3.mono g0 (BlLe.refl _)⟩⟩
  · intro i j c hi hj
    rcases (hgl i c).1 hi with hi' | ⟨rfl, rfl⟩ <;> rcases (hgl j c).1 hj with hj' | ⟨rfl, e⟩
    · exact h0.inj i j c hi' hj'
    · subst e; exact absurd hi' (hnb i)
    · exact absurd hj' (hnb j)
    · rfl
  · intro j c hj
    rcases (hgl j c).1 hj with hj' | ⟨_, rfl⟩
    · exact h0.base j c hj'
    · refine ⟨e3, hblt, fun hf => ?_, hG⟩
      have := h0.f0 _ hf; omega
  · rcases (hgl j c).1 hj with hj' | ⟨_, rfl⟩
    · exact (h0.obok l c hl).2.2 j hj'
    · exact hnob l hl
  · refine { below := h0.since.below, g0 := h0.since.g0.trans g0 h0.since.below.size, ble := h0.since.ble.trans hle, pnd := fun j hj => ?_, gown := h0.since.gown, blen := (by simp; have := h0.since.blen; omega), ub := h0.since.ub }
    obtain ⟨p1, p2⟩ := h0.since.pnd j hj
    have hl := (List.getElem?_eq_some_iff.1 p1).1
    exact ⟨by rw [List.getElem?_append_left hl]; exact p1, by rw [hgh j (by rw [← h0.len]; exact hl)]; exact p2⟩
  · intro p hp
    obtain ⟨p1, p2, p3⟩ := h0.pend p hp
    have hl := (List.getElem?_eq_some_iff.1 p1).1
    exact ⟨by rw [List.getElem?_append_left hl]; exact p1, by rw [hgh p.1 (by rw [← h0.len]; exact hl)]; exact p2, p3⟩
/-- A variable's block made an object that is written. -/
theorem adoptC_sound (h : Rel P A nt pend env heap bor tm w U bl ob) {s id off sz n : Nat} {g : Nat → AV} {cs : List AV} (hs : env.get s = .ptr id off) (hg : heap.get id = .cells cs) (hc : cs[off]? = some (.uni (.vec sz n g))) :
    ∃ bl' ob', Rel P A nt pend env (Heap.set (Heap.set heap id (.cells (setRange cs off [(AV.uni (.vec sz n g)).strip])) ++ [.arr sz n g]) id (.cells (setRange (setRange cs off [(AV.uni (.vec sz n g)).strip]) off [.row heap.length sz 0 n]))) bor tm w U bl' ob' := by
  obtain ⟨r0, _⟩ := h.env s
  rw [hs] at r0
  obtain ⟨b, hb⟩ : ∃ b : Nat, bl[id]? = some (some b) := by
    generalize tm.getD s undef = x at r0
    cases r0 with | @ptr _ _ _ b hb => exact ⟨b, hb⟩
  have hol := (List.getElem?_eq_some_iff.1 hc).1
  have hidl : id < heap.length := get_dead_ne hg (by simp)
  have hobj := h.objs id b hb
  rw [hg] at hobj
  obtain ⟨c, e, fr, o1, o2, o3, o4⟩ := hobj
  have holc : off < c.size := by omega
  have hy : c[off]? = some c[off] := by simp [holc]
  obtain ⟨r1, r2⟩ := o4 off _ c[off] hc hy
  obtain ⟨y, hy2, ao, cap, hx, hncap, hok⟩ := r2 [] _ rfl rfl
  simp only [vat, Option.some.injEq] at hy2
  subst hy2
  -- the variable reads nothing for a while
  have h1 := h.cellPut hg hb hol (v := (AV.uni (.vec sz n g)).strip) (strip_bare _) (fun c' e' fr' y' q1 q2 => by
    rw [o1] at q1; injection q1 with q1; injection q1 with q1; subst q1
    rw [hy] at q2; injection q2 with q2; subst q2
    exact r1.strip)
  have hfb : ∀ c, forb A bl (heap.set id (.cells (setRange cs off [(AV.uni (.vec sz n g)).strip]))) c → forb A bl heap c := by
    rintro c (hf | ⟨j, hj, hdd⟩)
    · exact .inl hf
    · refine .inr ⟨j, hj, ?_⟩
      rw [heap_get_set] at hdd
      by_cases e1 : id = j ∧ j < heap.length
      · rw [← e1.1, hg]; simp
      · rw [if_neg e1] at hdd; exact hdd
  have gr : Grow0 w (forb A bl heap) U w (forb A bl (heap.set id (.cells (setRange cs off [(AV.uni (.vec sz n g)).strip])))) U := ⟨fun c _ hf => .inl (hfb c hf), fun c _ _ => ⟨Nat.le_refl _, fun _ _ => rfl⟩⟩
  have hgid : ∀ (o : AObj), Heap.get (Heap.set heap id (.cells (setRange cs off [(AV.uni (.vec sz n g)).strip])) ++ [o]) id = .cells (setRange cs off [(AV.uni (.vec sz n g)).strip]) := fun o => by
    rw [heap_get_append, if_pos (by rw [heap_set_length]; exact hidl), heap_get_set, if_pos ⟨rfl, hidl⟩]
  have hblid : ∀ x : Option Nat, (bl ++ [x])[id]? = some (some b) := fun x => by rw [List.getElem?_append_left (by rw [h.len]; exact hidl)]; exact hb
  have hbln : ∀ x : Option Nat, (bl ++ [x])[heap.length]? = some x := fun x => by rw [← h.len]; simp
  have fin : ∀ {bl'' : Blocks} {ob''}, (h2 : Rel P A nt pend env (Heap.set heap id (.cells (setRange cs off [(AV.uni (.vec sz n g)).strip])) ++ [.arr sz n g]) bor tm w U bl'' ob'') → bl''[id]? = some (some b) → (0 < n → ∃ b', bl''[heap.length]? = some (some b') ∧ ao = some ⟨b', 0, none⟩) →
      ∃ bl' ob', Rel P A nt pend env (Heap.set (Heap.set heap id (.cells (setRange cs off [(AV.uni (.vec sz n g)).strip])) ++ [.arr sz n g]) id (.cells (setRange (setRange cs off [(AV.uni (.vec sz n g)).strip]) off [.row heap.length sz 0 n]))) bor tm w U bl' ob' := by
    intro bl'' ob'' h2 hb2 hn2
    refine ⟨bl'', _, h2.cellPut (hgid _) hb2 (by rw [setRange_length]; exact hol) (v := .row heap.length sz 0 n) (bare_of rfl) (fun c' e' fr' y' q1 q2 => ?_)⟩
    rw [o1] at q1; injection q1 with q1; injection q1 with q1; subst q1
    rw [hy] at q2; injection q2 with q2; subst q2
    rw [hx]
    refine .row hncap (fun hn => ?_)
    obtain ⟨b', q1, q2⟩ := hn2 hn
    exact ⟨b', q1, by rw [q2]; simp⟩
  rcases Nat.eq_zero_or_pos n with hn0 | hn0
  · subst hn0
    exact fin (h1.lay [.arr sz 0 g]) (by simpa using hblid none) (fun hn => absurd hn (by omega))
  rcases hok with hc0 | ⟨b', e1, e2, e3, e4, e5, hsz, c', el, fr', e7, e8, e9, e10, e11⟩
  · omega
  refine fin (h1.adoptB (b := b') e3 (fun hf => e4 (hfb _ hf)) e5 (h.obok _ _ e2).1 (h.obok _ _ e2).2.2 (fun l hl => ?_) hsz ⟨c', el, fr', e7, Nat.le_trans (Nat.mul_le_mul_right _ hncap) e8, e9, e10, fun i j q hi hq => let ⟨y, y1, y2, y3⟩ := e11 i j q hi hq; ⟨y, y1, y2, y3.mono gr (BlLe.refl _)⟩⟩) (hblid _) (fun _ => ⟨b', hbln _, e1⟩)
  cases l with
  | env t p => exact absurd (h.obinj _ _ b' hl e2) (by simp)
  | mapv j i p => exact absurd (h.obinj _ _ b' hl e2) (by simp)
  | cell j i p =>
    simp only at hl
    by_cases e : j = id ∧ i = off
    · rw [if_pos e] at hl; cases hl
    · rw [if_neg e] at hl
      have := h.obinj _ _ b' hl e2
      injection this with a1 a2
      exact e ⟨a1, a2⟩

/-- Ghost steps. -/
theorem ghost1_sound (h : Rel P A nt [] env heap bor tm w U bl ob) (hA : A.bl0.length ≤ heap.length) {g : Ghost} {env' : Env} {heap' : Heap} (hg : ghost1 env heap g = some (env', heap')) : (∃ U' bl' ob', Rel P A nt [] env' heap' bor tm w U' bl' ob') ∧ A.bl0.length ≤ heap'.length := by
  cases g with
  | fresh s =>
    unfold ghost1 at hg
    dsimp only at hg
    split at hg
    · rename_i sz g hs
      simp only [Option.some.injEq, Prod.mk.injEq] at hg
      obtain ⟨rfl, rfl⟩ := hg
      exact ⟨⟨_, _, _, fresh_sound h hs⟩, hA⟩
    · simp only [Option.some.injEq, Prod.mk.injEq] at hg
      obtain ⟨rfl, rfl⟩ := hg
      exact ⟨⟨_, _, _, h⟩, hA⟩
    · simp at hg
  | share s =>
    unfold ghost1 at hg
    dsimp only at hg
    split at hg
    · rename_i sz n g hs
      simp only [Option.some.injEq, Prod.mk.injEq] at hg
      obtain ⟨rfl, rfl⟩ := hg
      obtain ⟨U', h'⟩ := share_sound h hs
      exact ⟨⟨_, _, _, h'⟩, hA⟩
    · simp only [Option.some.injEq, Prod.mk.injEq] at hg
      obtain ⟨rfl, rfl⟩ := hg
      exact ⟨⟨_, _, _, h⟩, hA⟩
    · simp at hg
  | adopt s =>
    unfold ghost1 at hg
    dsimp only at hg
    split at hg
    · rename_i sz n g hs
      simp only [Option.some.injEq, Prod.mk.injEq] at hg
      obtain ⟨rfl, rfl⟩ := hg
      obtain ⟨bl', ob', h'⟩ := adopt_sound h hA (.inl hs)
      exact ⟨⟨_, _, _, h'⟩, by simp; omega⟩
    · rename_i sz n m g hs
      simp only [Option.some.injEq, Prod.mk.injEq] at hg
      obtain ⟨rfl, rfl⟩ := hg
      obtain ⟨bl', ob', h'⟩ := adopt_sound h hA (.inr ⟨m, hs⟩)
      exact ⟨⟨_, _, _, h'⟩, by simp; omega⟩
    · simp at hg
  | freeze s =>
    unfold ghost1 at hg
    dsimp only at hg
    split at hg
    · rename_i id sz lo n hs
      split at hg
      · rename_i sz' n' g hgt
        cases hc : (Nat.beq sz sz' && Nat.ble (lo + n) n') with
        | false => rw [hc] at hg; simp at hg
        | true =>
          rw [hc] at hg
          simp only [cond_true, Option.some.injEq, Prod.mk.injEq] at hg
          obtain ⟨rfl, rfl⟩ := hg
          simp only [Bool.and_eq_true, beq_eq, ble_eq, decide_eq_true_eq] at hc
          obtain ⟨rfl, hle⟩ := hc
          obtain ⟨U', h'⟩ := freeze_sound h hs hgt hle
          exact ⟨⟨_, _, _, h'⟩, by rw [heap_set_length]; exact hA⟩
      · simp at hg
    · simp at hg
  | adoptC s =>
    unfold ghost1 at hg
    dsimp only at hg
    split at hg
    · rename_i id off hs
      split at hg
      · rename_i cs hgt
        split at hg
        · rename_i sz n g hc
          simp only [Option.some.injEq, Prod.mk.injEq] at hg
          obtain ⟨rfl, rfl⟩ := hg
          obtain ⟨bl', ob', h'⟩ := adoptC_sound h hs hgt hc
          exact ⟨⟨_, _, _, h'⟩, by simp only [heap_set_length, List.length_append]; omega⟩
        · simp only [Option.some.injEq, Prod.mk.injEq] at hg
          obtain ⟨rfl, rfl⟩ := hg
          exact ⟨⟨_, _, _, h⟩, hA⟩
        · simp at hg
      · simp at hg
    · simp at hg
theorem ghosts_sound : ∀ (l : List Ghost) {env env' : Env} {heap heap' : Heap} {U : Nat → Nat} {bl : Blocks} {ob : Loc → Option Nat}, Rel P A nt [] env heap bor tm w U bl ob → A.bl0.length ≤ heap.length → ghosts l env heap = some (env', heap') →
    (∃ U' bl' ob', Rel P A nt [] env' heap' bor tm w U' bl' ob') ∧ A.bl0.length ≤ heap'.length
  | [], env, env', heap, heap', U, bl, ob, h, hA, hg => by
    simp only [ghosts, Option.some.injEq, Prod.mk.injEq] at hg
    obtain ⟨rfl, rfl⟩ := hg
    exact ⟨⟨_, _, _, h⟩, hA⟩
  | g :: r, env, env', heap, heap', U, bl, ob, h, hA, hg => by
    simp only [ghosts] at hg
    split at hg
    · rename_i e1 h1 hh
      obtain ⟨⟨U', bl', ob', h'⟩, hA'⟩ := ghost1_sound h hA hh
      exact ghosts_sound r h' hA' hg
    · simp at hg
end

/-- What is known of the calls that an operation may make. -/
structure Leans (P : Program) (cx : Ctx) (X : Rec Prop) (I : FuncId → List AV → Heap → (AV → Heap → Prop) → Prop) : Prop where
  fail : ¬ X.fail
  call : ∀ f args Q, X.call f args Q → CallOK P f args Q
  inl : ∀ f args h k, I f args h k → InlOK P f args h k
  name : NameOK P
  sort : X.sort = sortP
  br : X.br = BrP
  all : X.all = fun n k => ∀ i, i < n → k i
  prim : ∀ f, 0 < cx.srt f → SortPrim P f (cx.srt f)

end Ax
