import Derived.Test.YtemajhloddkifaaMJ
/- More steps whose test is not plain: maps by abstract entries, rows by index. -/
set_option linter.unusedVariables false
namespace Ax
open Go Go.RowKit
section
variable {P : Program} {cx : Ctx} {calm : List Oper → Bool}
variable {o : Oper} {env : Env} {h : Heap} {k : AV → Prop} {e : Prop} {t u : TypeId} {x i : Operand} {n : Int} {len sz : Nat} {g : Nat → AV} {s : ByteArray}
theorem st_addr_v {v : AV} (ho : o.op = .indexAddr t x i) (hx : evo P t env x = .vec sz len g) (hi : intNat (evo P 0 env i) = some n) (ht : tyD P t = .slice u) (hs : Nat.beq sz (tySz P u) = true) (hr : inRange n len = true) (hv : g n.toNat = v) (hk : k (.cptr v)) :
    (match evalOp P o env h with | some v => k v | none => e) := by
  subst hv
  refine st_some (v := .cptr (g n.toNat)) ?_ hk
  unfold evalOp
  simp only [ho, hi, hx, indexAddrAV, ht, hs, hr, cond_true]
theorem st_bin {op : BinOp} {y : Operand} {yt : TypeId} {a b v : AV} (ho : o.op = .binOp op t x y yt) (hx : (evo P t env x).strip = a) (hy : (evo P yt env y).strip = b) (hv : binAV P op t a b = some v) (hk : k v) : (match evalOp P o env h with | some v => k v | none => e) := by
  refine st_some (v := v) ?_ hk
  unfold evalOp
  simp only [ho, hx, hy, hv]
theorem st_addr_row {id lo : Nat} (ho : o.op = .indexAddr t x i) (hx : evo P t env x = .row id sz lo len) (hi : intNat (evo P 0 env i) = some n) (ht : tyD P t = .slice u) (hs : (Nat.beq sz (tySz P u) && Nat.blt 0 sz) = true) (hr : inRange n len = true) (hk : k (.eptr id sz (lo + n.toNat) 0)) :
    (match evalOp P o env h with | some v => k v | none => e) := by
  refine st_some (v := .eptr id sz (lo + n.toNat) 0) ?_ hk
  simp only [Bool.and_eq_true] at hs
  unfold evalOp
  simp only [ho, hi, hx, indexAddrAV, ht, hs.1, hs.2, hr, cond_true]
theorem st_load_e {p : Operand} {id j : Nat} {cs : List AV} (ho : o.op = .load t p) (hp : evo P 0 env p = .eptr id sz j 0) (hh : h.get id = .arr sz len g) (hj : j < len) (hg : g j = .agg cs) (ht : tyAgg P t = true) (hs : cs.length = tySz P t) (hk : k (AV.agg cs).strip) :
    (match evalOp P o env h with | some v => k v | none => e) := by
  refine st_some (v := (AV.agg cs).strip) ?_ hk
  have e1 : Nat.beq sz sz = true := Nat.beq_refl sz
  have e2 : Nat.blt j len = true := by rw [Nat.blt_eq]; exact hj
  have e3 : Nat.ble (0 + cs.length) cs.length = true := Nat.ble_eq_true_of_le (by omega)
  unfold evalOp
  simp only [ho, hp, loadAV, readCells, hh, e1, e2, Bool.and_self, cond_true, hg, AV.cells, partAV, ht, ← hs, e3, List.drop_zero, List.take_length, Option.map_some]
theorem st_look {m q : Operand} {kt et : TypeId} {reg : Bool} {ents : List (AV × AV)} {id j : Nat} (ho : o.op = .lookup t m q false) (ht : tyD P t = .map kt et) (hm : (evo P t env m).strip = .mapr id) (hh : h.get id = .map kt reg ents) (hc : (keyOk P kt (evo P kt env q).strip && hasZero P et) = true)
    (hj : mpos P kt ents (evo P kt env q).strip = some j) {v : AV} (hv : mval .undef ents j = v) (hk : k v.strip) : (match evalOp P o env h with | some v => k v | none => e) := by
  subst hv
  refine st_some (v := (mval .undef ents j).strip) ?_ hk
  have e1 : Nat.beq kt kt = true := Nat.beq_refl kt
  unfold evalOp
  simp only [Bool.and_eq_true] at hc
  simp only [ho, ht, hm, lookAV, hh, e1, hc.1, hc.2, Bool.and_self, cond_true, hj, cond_false]
theorem st_look_no {m q : Operand} {kt et : TypeId} {reg : Bool} {ents : List (AV × AV)} {id : Nat} (ho : o.op = .lookup t m q false) (ht : tyD P t = .map kt et) (hm : (evo P t env m).strip = .mapr id) (hh : h.get id = .map kt reg ents) (hc : (keyOk P kt (evo P kt env q).strip && hasZero P et) = true)
    (hj : mpos P kt ents (evo P kt env q).strip = none) (hk : k (zeroElem P et)) : (match evalOp P o env h with | some v => k v | none => e) := by
  refine st_some (v := zeroElem P et) ?_ hk
  have e1 : Nat.beq kt kt = true := Nat.beq_refl kt
  unfold evalOp
  simp only [Bool.and_eq_true] at hc
  simp only [ho, ht, hm, lookAV, hh, e1, hc.1, hc.2, Bool.and_self, cond_true, hj, cond_false]
theorem st_look2 {m q : Operand} {kt et : TypeId} {reg : Bool} {ents : List (AV × AV)} {id j : Nat} (ho : o.op = .lookup t m q true) (ht : tyD P t = .map kt et) (hm : (evo P t env m).strip = .mapr id) (hh : h.get id = .map kt reg ents) (hc : (keyOk P kt (evo P kt env q).strip && hasZero P et) = true)
    (hj : mpos P kt ents (evo P kt env q).strip = some j) {v : AV} (hv : mval .undef ents j = v) (hk : k (.tup [v.strip, .bool true])) : (match evalOp P o env h with | some v => k v | none => e) := by
  subst hv
  refine st_some (v := .tup [(mval .undef ents j).strip, .bool true]) ?_ hk
  have e1 : Nat.beq kt kt = true := Nat.beq_refl kt
  unfold evalOp
  simp only [Bool.and_eq_true] at hc
  simp only [ho, ht, hm, lookAV, hh, e1, hc.1, hc.2, Bool.and_self, cond_true, hj]
theorem st_look2_no {m q : Operand} {kt et : TypeId} {reg : Bool} {ents : List (AV × AV)} {id : Nat} (ho : o.op = .lookup t m q true) (ht : tyD P t = .map kt et) (hm : (evo P t env m).strip = .mapr id) (hh : h.get id = .map kt reg ents) (hc : (keyOk P kt (evo P kt env q).strip && hasZero P et) = true)
    (hj : mpos P kt ents (evo P kt env q).strip = none) (hk : k (.tup [zeroElem P et, .bool false])) : (match evalOp P o env h with | some v => k v | none => e) := by
  refine st_some (v := .tup [zeroElem P et, .bool false]) ?_ hk
  have e1 : Nat.beq kt kt = true := Nat.beq_refl kt
  unfold evalOp
  simp only [Bool.and_eq_true] at hc
  simp only [ho, ht, hm, lookAV, hh, e1, hc.1, hc.2, Bool.and_self, cond_true, hj]
section
variable {A : Option Nat → AV → Heap → Prop} {B : Option Nat → AV → Prop} {C : Prop}
theorem st_ext {q : Option Nat} {v : AV} {h' : Heap} (he : extOp P o env h = some (q, v, some h')) (hk : A q v h') : (match extOp P o env h with | some (s, v, some h) => A s v h | some (s, v, none) => B s v | none => C) := by
  rw [he]; exact hk
theorem st_entry {m q : Operand} {kt et : TypeId} {ents : List (AV × AV)} {id j : Nat} (ho : o.op = .mapEntry t m q) (ht : tyD P t = .map kt et) (hm : (evo P t env m).strip = .mapr id) (hh : h.get id = .map kt true ents) (hc : (keyOk P kt (evo P kt env q).strip && noIter id h && hasZero P et && (zeroAV P et).isData) = true)
    (hj : mpos P kt ents (evo P kt env q).strip = some j) {v : AV} (hv : mval .undef ents j = v) (hk : A none (.tup [v, .int .i64 (j : Int)]) (h.set id (.map kt true (msetAt ents j v.strip)))) : (match extOp P o env h with | some (s, v, some h) => A s v h | some (s, v, none) => B s v | none => C) := by
  subst hv
  refine st_ext ?_ hk
  have e1 : Nat.beq kt kt = true := Nat.beq_refl kt
  have e2 : keyType P t = kt := by unfold keyType; rw [ht]
  simp only [Bool.and_eq_true] at hc
  obtain ⟨⟨⟨c1, c2⟩, c3⟩, c4⟩ := hc
  unfold extOp
  simp only [ho, mapEntryAV, e2, ht, hm, hh, e1, c1, c2, c3, c4, Bool.and_self, cond_true, hj]
theorem st_entry_no {m q : Operand} {kt et : TypeId} {ents : List (AV × AV)} {id : Nat} (ho : o.op = .mapEntry t m q) (ht : tyD P t = .map kt et) (hm : (evo P t env m).strip = .mapr id) (hh : h.get id = .map kt true ents) (hc : (keyOk P kt (evo P kt env q).strip && noIter id h && hasZero P et && (zeroAV P et).isData) = true)
    (hj : mpos P kt ents (evo P kt env q).strip = none) (hk : A none (.tup [zeroAV P et, .int .i64 (ents.length : Int)]) (h.set id (.map kt true (ents ++ [((evo P kt env q).strip, (zeroAV P et).strip)])))) : (match extOp P o env h with | some (s, v, some h) => A s v h | some (s, v, none) => B s v | none => C) := by
  refine st_ext ?_ hk
  have e1 : Nat.beq kt kt = true := Nat.beq_refl kt
  have e2 : keyType P t = kt := by unfold keyType; rw [ht]
  simp only [Bool.and_eq_true] at hc
  obtain ⟨⟨⟨c1, c2⟩, c3⟩, c4⟩ := hc
  unfold extOp
  simp only [ho, mapEntryAV, e2, ht, hm, hh, e1, c1, c2, c3, c4, Bool.and_self, cond_true, hj]
theorem st_estore {m q y : Operand} {kt : TypeId} {kk : IntKind} {ents : List (AV × AV)} {id : Nat} {x : AV} (ho : o.op = .entryStore t m q y) (hm : (evo P t env m).strip = .mapr id) (hq : evo P 3 env q = .int kk n) (hh : h.get id = .map kt true ents) (hn : inRange n ents.length = true) (hx : evo P (elemTypeM P t) env y = x) (hd : x.isData = true)
    (hk : A (tmpOp y) (.tup []) (h.set id (.map kt true (msetAt ents n.toNat x)))) : (match extOp P o env h with | some (s, v, some h) => A s v h | some (s, v, none) => B s v | none => C) := by
  refine st_ext ?_ hk
  unfold extOp
  simp only [ho, hm, hq, hx, entryStoreAV, hh, hn, hd, Bool.and_self, cond_true]
theorem st_mapset {m q y : Operand} {kt et : TypeId} {ents : List (AV × AV)} {reg : Bool} {id j : Nat} {x : AV} (ho : o.op = .mapUpdate t m q y) (ht : tyD P t = .map kt et) (hm : (evo P t env m).strip = .mapr id) (hh : h.get id = .map kt reg ents) (hx : evo P et env y = x) (hc : (keyOk P kt (evo P kt env q).strip && x.isData && noIter id h) = true)
    (hj : mpos P kt ents (evo P kt env q).strip = some j) (hk : A (tmpOp y) (.tup []) (h.set id (.map kt reg (msetAt ents j x)))) : (match extOp P o env h with | some (s, v, some h) => A s v h | some (s, v, none) => B s v | none => C) := by
  refine st_ext ?_ hk
  have e1 : Nat.beq kt kt = true := Nat.beq_refl kt
  have e2 : keyType P t = kt := by unfold keyType; rw [ht]
  have e3 : elemTypeM P t = et := by unfold elemTypeM; rw [ht]
  simp only [Bool.and_eq_true] at hc
  obtain ⟨⟨c1, c2⟩, c3⟩ := hc
  unfold extOp
  simp only [ho, mapSetAV, e2, e3, ht, hm, hx, hh, e1, c1, c2, c3, Bool.and_self, cond_true, hj]
theorem st_mapset_no {m q y : Operand} {kt et : TypeId} {ents : List (AV × AV)} {reg : Bool} {id : Nat} {x : AV} (ho : o.op = .mapUpdate t m q y) (ht : tyD P t = .map kt et) (hm : (evo P t env m).strip = .mapr id) (hh : h.get id = .map kt reg ents) (hx : evo P et env y = x) (hc : (keyOk P kt (evo P kt env q).strip && x.isData && noIter id h) = true)
    (hj : mpos P kt ents (evo P kt env q).strip = none) (hk : A (tmpOp y) (.tup []) (h.set id (.map kt reg (ents ++ [((evo P kt env q).strip, x)])))) : (match extOp P o env h with | some (s, v, some h) => A s v h | some (s, v, none) => B s v | none => C) := by
  refine st_ext ?_ hk
  have e1 : Nat.beq kt kt = true := Nat.beq_refl kt
  have e2 : keyType P t = kt := by unfold keyType; rw [ht]
  have e3 : elemTypeM P t = et := by unfold elemTypeM; rw [ht]
  simp only [Bool.and_eq_true] at hc
  obtain ⟨⟨c1, c2⟩, c3⟩ := hc
  unfold extOp
  simp only [ho, mapSetAV, e2, e3, ht, hm, hx, hh, e1, c1, c2, c3, Bool.and_self, cond_true, hj]
end
theorem st_store_e {A : Heap → Prop} {C : Prop} {id j : Nat} {pv x : AV} (hp : pv = .eptr id sz j 0) (hh : h.get id = .arr sz len g) (hj : j < len) (hc : (!(Nat.beq x.cells.length (tySz P t)) || !(x.cells.all AV.scal)) = false) (hd : (Nat.ble (0 + x.cells.length) sz && x.isData) = true)
    (hk : A (h.set id (.arr sz len (upd g j (setElem (g j) 0 sz x.strip))))) : (match storeAV P h t pv x with | some h => A h | none => C) := by
  have e1 : Nat.beq sz sz = true := Nat.beq_refl sz
  have e2 : Nat.blt j len = true := by rw [Nat.blt_eq]; exact hj
  simp only [Bool.and_eq_true] at hd
  have : storeAV P h t pv x = some (h.set id (.arr sz len (upd g j (setElem (g j) 0 sz x.strip)))) := by
    unfold storeAV
    rw [hc, hp]
    simp only [cond_false, storeArr, hh, e1, e2, hd.1, hd.2, Bool.and_self, cond_true]
  rw [this]; exact hk
theorem st_append_uni {b y : AV} {gg : Nat → AV} {m : Nat} (hb : b = .uni (.vec sz len g)) (ht : tyD P t = .slice u) {tt : TypeId} (hs : isSliceT P tt = true) (hy : srcOf P u h y = some (m, gg)) (hc : (Nat.beq sz (tySz P u) && Nat.blt 0 sz && zeroFits P u && Nat.blt 0 (tyBy P u)) = true)
    (hr : roomOK (len + m) (tyBy P u) = true) (hk : k (.uni (.vec sz (len + m) (vapp (zeroElem P u) g len gg m)))) : (match appendAV P t tt h b y with | some v => k v | none => e) := by
  have : appendAV P t tt h b y = some (.uni (.vec sz (len + m) (vapp (zeroElem P u) g len gg m))) := by
    unfold appendAV
    simp only [hs, ht, hb, hy, hc, hr, Bool.not_true, cond_false, cond_true]
  rw [this]; exact hk
end

theorem cond_t {c : Bool} {a b : Prop} (h : c = true) (ha : a) : cond c a b := by subst h; exact ha
theorem cond_f {c : Bool} {a b : Prop} (h : c = false) (hb : b) : cond c a b := by subst h; exact hb

/-! ### entries that stand for keys -/
inductive F2 {α β : Type} (R : α → β → Prop) : List α → List β → Prop
  | nil : F2 R [] []
  | cons {a b l m} (h : R a b) (r : F2 R l m) : F2 R (a :: l) (b :: m)
section
variable {α β : Type} {R R' : α → β → Prop}
theorem F2.len {l : List α} {m : List β} (h : F2 R l m) : m.length = l.length := by
  induction h with
  | nil => rfl
  | cons _ _ ih => simp [ih]
theorem F2.at {l : List α} {m : List β} (h : F2 R l m) {j : Nat} {a : α} (hj : l[j]? = some a) : ∃ b, m[j]? = some b ∧ R a b := by
  induction h generalizing j with
  | nil => simp at hj
  | cons h _ ih =>
    cases j with
    | zero => simp at hj; subst hj; exact ⟨_, rfl, h⟩
    | succ j => exact ih hj
theorem F2.snoc {l : List α} {m : List β} (h : F2 R l m) {a : α} {b : β} (hr : R a b) : F2 R (l ++ [a]) (m ++ [b]) := by
  induction h with
  | nil => exact .cons hr .nil
  | cons h _ ih => exact .cons h ih
theorem F2.mono {l : List α} {m : List β} (h : F2 R l m) (hr : ∀ a b, a ∈ l → R a b → R' a b) : F2 R' l m := by
  induction h with
  | nil => exact .nil
  | cons h _ ih => exact .cons (hr _ _ List.mem_cons_self h) (ih fun a b ha => hr a b (List.mem_cons_of_mem _ ha))
end
theorem mval_at {z : AV} {ents : List (AV × AV)} {j : Nat} {p : AV × AV} (h : ents[j]? = some p) : mval z ents j = p.2 := by
  induction ents generalizing j with
  | nil => simp at h
  | cons q r ih =>
    cases j with
    | zero => simp at h; subst h; rfl
    | succ j => exact ih h
theorem mpos_no {P : Program} {kt : TypeId} {α : Type} {enc : α → AV} {R : α → AV × AV → Prop} (hE : ∀ a p, R a p → p.1 = enc a) (hq : ∀ a b, eqKey P kt (enc a) (enc b) = true → a = b) {l : List α} {m : List (AV × AV)} (h : F2 R l m) {a : α} (ha : a ∉ l) : mpos P kt m (enc a) = none := by
  induction h with
  | nil => rfl
  | @cons b p l m h r ih =>
    have e1 : p.1 = enc b := hE _ _ h
    have e2 : eqKey P kt (enc a) p.1 = false := by
      rw [e1, Bool.eq_false_iff]
      exact fun e => ha (hq _ _ e ▸ List.mem_cons_self)
    obtain ⟨x, y⟩ := p
    simp only [mpos]
    rw [e2, cond_false, ih fun h => ha (List.mem_cons_of_mem _ h)]
    rfl
theorem mpos_at {P : Program} {kt : TypeId} {α : Type} {enc : α → AV} {R : α → AV × AV → Prop} (hE : ∀ a p, R a p → p.1 = enc a) (hq : ∀ a b, eqKey P kt (enc a) (enc b) = true ↔ a = b) {l : List α} {m : List (AV × AV)} (h : F2 R l m) (hn : l.Nodup) {a : α} {j : Nat} (hj : l[j]? = some a) : mpos P kt m (enc a) = some j := by
  induction h generalizing j with
  | nil => simp at hj
  | @cons b p l m h r ih =>
    have e1 : p.1 = enc b := hE _ _ h
    obtain ⟨n1, n2⟩ := List.nodup_cons.1 hn
    obtain ⟨x, y⟩ := p
    simp only [mpos]
    cases j with
    | zero =>
      simp at hj; subst hj
      rw [show eqKey P kt (enc b) x = true from e1 ▸ (hq _ _).2 rfl, cond_true]
    | succ j =>
      have hj : l[j]? = some a := by simpa using hj
      have : eqKey P kt (enc a) x = false := by
        rw [show x = enc b from e1, Bool.eq_false_iff]
        exact fun e => n1 ((hq _ _).1 e ▸ List.mem_of_getElem? hj)
      rw [this, cond_false, ih n2 hj]
      rfl
theorem F2.setAt {α : Type} {R R' : α → AV × AV → Prop} {l : List α} {m : List (AV × AV)} (h : F2 R l m) (hn : l.Nodup) {j : Nat} {a : α} (hj : l[j]? = some a) {x : AV} (h1 : ∀ b p, b ≠ a → R b p → R' b p) (h2 : ∀ p, R a p → R' a (p.1, x)) : F2 R' l (msetAt m j x) := by
  induction h generalizing j with
  | nil => simp at hj
  | @cons b p l m h r ih =>
    obtain ⟨n1, n2⟩ := List.nodup_cons.1 hn
    obtain ⟨y, z⟩ := p
    cases j with
    | zero =>
      simp at hj; subst hj
      exact .cons (h2 _ h) (r.mono fun c q hc => h1 c q fun e => n1 (e ▸ hc))
    | succ j =>
      have hj : l[j]? = some a := by simpa using hj
      refine .cons (h1 _ _ (fun e => n1 (e ▸ List.mem_of_getElem? hj)) h) (ih n2 hj)
theorem msetAt_last {m : List (AV × AV)} {q x y : AV} : msetAt (m ++ [(q, x)]) m.length y = m ++ [(q, y)] := by
  induction m with
  | nil => rfl
  | cons p r ih => obtain ⟨a, b⟩ := p; simp only [List.cons_append, List.length_cons, msetAt, ih]
theorem msetAt_twice {m : List (AV × AV)} {j : Nat} {x y : AV} : msetAt (msetAt m j x) j y = msetAt m j y := by
  induction m generalizing j with
  | nil => rfl
  | cons p r ih =>
    obtain ⟨a, b⟩ := p
    cases j with
    | zero => rfl
    | succ j => simp only [msetAt, ih]
theorem msetAt_len {m : List (AV × AV)} {j : Nat} {x : AV} : (msetAt m j x).length = m.length := by
  induction m generalizing j with
  | nil => rfl
  | cons p r ih =>
    obtain ⟨a, b⟩ := p
    cases j with
    | zero => rfl
    | succ j => simp only [msetAt, List.length_cons, ih]
end Ax
