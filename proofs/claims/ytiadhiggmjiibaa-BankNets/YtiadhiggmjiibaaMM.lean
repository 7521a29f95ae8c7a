import Derived.Test.YtiadhiggmjiibaaMI
import Derived.Defers
/- Contracts by running the machine on the model's own reading. -/
set_option linter.unusedVariables false
namespace Ax
open Go Go.RowKit

structure SCall (P : Program) (calm : List Oper → Bool) (f : FuncId) (a : List AV) (Q : AV → Prop) : Prop where
  ok : CallOK P f a Q
  some : ∃ r, Q r
structure SLoop (P : Program) (calm : List Oper → Bool) (d : Nat) (fid : FuncId) (n : Nat) (b : Code) (st : St) (K : Ex → St → Prop) : Prop where
  ok : LoopOK P calm fid n b st K
  some : ∃ e s, K e s
def SX (P : Program) (calm : List Oper → Bool) : Rec Prop where
  fail := False
  all := fun n k => ∀ i, i < n → k i
  call := SCall P calm
  loop := SLoop P calm
  sort := sortP
  br := BrP
theorem SX_eq (P : Program) (calm : List Oper → Bool) : SX P calm = semRec P calm := by
  unfold SX semRec
  congr
  · funext f a Q; exact propext ⟨fun h => ⟨h.1, h.2⟩, fun h => ⟨h.1, h.2⟩⟩
  · funext d fid n b st K; exact propext ⟨fun h => ⟨h.1, h.2⟩, fun h => ⟨h.1, h.2⟩⟩

section
variable {P : Program} {cx : Ctx} {calm : List Oper → Bool}
/-- A contract, by running the body. -/
theorem okOf (hP : cx.P = P) (hC : ProgOK P calm cx.srt) {f : FuncId} {a : List AV} {Q : AV → Prop} (h : stepCall (SX P calm) cx calm f a Q) : CallOK P f a Q := by
  rw [SX_eq] at h
  exact stepCall_sound hP hC h
/-- A call, by its contract. -/
theorem call_by {f : FuncId} {a : List AV} {R Q : AV → Prop} (h : CallOK P f a R) (hs : ∃ r, R r) (hq : ∀ r, R r → Q r) : SCall P calm f a Q := by
  exact ⟨callOK_mono hq h, let ⟨r, hr⟩ := hs; ⟨r, hq r hr⟩⟩
theorem call_is {f : FuncId} {a : List AV} {v : AV} {Q : AV → Prop} (h : CallOK P f a (fun r => r = v)) (hq : Q v) : SCall P calm f a Q :=
  call_by h ⟨v, rfl⟩ (fun r hr => hr ▸ hq)
/-- A loop by a measure: S says which states stand at its head. -/
theorem loop_by (hP : cx.P = P) (hC : ProgOK P calm cx.srt) {d : Nat} {fid : FuncId} {n : Nat} {b : Code} {K : Ex → St → Prop} {ι : Type} (μ : ι → Nat) (S : ι → St)
    (round : ∀ i, (∀ j, μ j < μ i → SLoop P calm d fid n b (S j) K) → stepLoop (SX P calm) cx calm d fid n b (S i) K) : ∀ i, SLoop P calm d fid n b (S i) K := by
  intro i
  generalize hm : μ i = m
  induction m using Nat.strongRecOn generalizing i with
  | _ m ih =>
    have h := round i fun j hj => ih (μ j) (hm ▸ hj) j rfl
    rw [SX_eq] at h
    have := (sem_pre hP hC).loop d fid n b (S i) K h
    exact ⟨this.1, this.2⟩

/-! ### steps whose test is not plain -/
variable {o : Oper} {env : Env} {h : Heap} {k : AV → Prop} {e : Prop} {t u : TypeId} {x i : Operand} {n : Int} {len sz : Nat} {g : Nat → AV} {s : ByteArray}
theorem st_some {v : AV} (he : evalOp P o env h = some v) (hk : k v) : (match evalOp P o env h with | some v => k v | none => e) := by
  rw [he]; exact hk
theorem in_range {m : Nat} (h : m < len) : inRange (m : Int) len = true := by simp [inRange, h]
theorem st_index (ho : o.op = .index t x i) (hx : (evo P t env x).strip = .str s) (hi : intNat (evo P 0 env i) = some n) (ht : tyD P t = .string) (hr : inRange n s.size = true) (hk : k (wordB s n.toNat).strip) :
    (match evalOp P o env h with | some v => k v | none => e) := by
  refine st_some (v := (wordB s n.toNat).strip) ?_ hk
  unfold evalOp
  simp only [ho, hi, hx, indexAV, ht, hr, cond_true, Option.map_some]
theorem st_addr (ho : o.op = .indexAddr t x i) (hx : evo P t env x = .vec sz len g) (hi : intNat (evo P 0 env i) = some n) (ht : tyD P t = .slice u) (hs : Nat.beq sz (tySz P u) = true) (hr : inRange n len = true) (hk : k (.cptr (g n.toNat))) :
    (match evalOp P o env h with | some v => k v | none => e) := by
  refine st_some (v := .cptr (g n.toNat)) ?_ hk
  unfold evalOp
  simp only [ho, hi, hx, indexAddrAV, ht, hs, hr, cond_true]

theorem st_append {b y : AV} {gg : Nat → AV} {m : Nat} (hb : b = .own (.vec sz len g)) (ht : tyD P t = .slice u) {tt : TypeId} (hs : isSliceT P tt = true) (hy : srcOf P u h y = some (m, gg)) (hc : (Nat.beq sz (tySz P u) && Nat.blt 0 sz && zeroFits P u && Nat.blt 0 (tyBy P u)) = true)
    (hr : roomOK (len + m) (tyBy P u) = true) (hk : k (.own (.vec sz (len + m) (vapp (zeroElem P u) g len gg m)))) : (match appendAV P t tt h b y with | some v => k v | none => e) := by
  have : appendAV P t tt h b y = some (.own (.vec sz (len + m) (vapp (zeroElem P u) g len gg m))) := by
    unfold appendAV
    simp only [hs, ht, hb, hy, hc, hr, Bool.not_true, cond_false, cond_true]
  rw [this]; exact hk
theorem st_slice {lo hi : Option Operand} {l m : Nat} (ho : o.op = .slice t x lo hi none) (hx : (evo P t env x).strip = .vec sz len g) (ht : tyD P t = .slice u) (hl : boundOf 0 (lo.map (evo P 3 env)) = some l) (hm : boundOf len (hi.map (evo P 3 env)) = some m) (h1 : l ≤ m) (h2 : m ≤ len)
    (hs : (Nat.beq sz (tySz P u) && Nat.blt 0 sz) = true) (hw : (evo P t env x).isOwn = false) (hk : k (.vec sz (m - l) (vsub (zeroElem P u) g l (m - l)))) : (match evalOp P o env h with | some v => k v | none => e) := by
  refine st_some (v := .vec sz (m - l) (vsub (zeroElem P u) g l (m - l))) ?_ hk
  have e1 : Nat.ble l m = true := Nat.ble_eq_true_of_le h1
  have e2 : Nat.ble m len = true := Nat.ble_eq_true_of_le h2
  unfold evalOp
  simp only [ho, sliceAV, hx, ht, hl, hm, hs, hw, e1, e2, Bool.and_self, cond_true, cond_false, Option.map_none]
theorem st_rem {y : Operand} {yt : TypeId} {kk : IntKind} {a b r : Int} (ho : o.op = .binOp .rem t x y yt) (hx : (evo P t env x).strip = .int kk a) (hy : (evo P yt env y).strip = .int kk b) (hb : b ≠ 0) (hr : a.tmod b = r) (hk : k (.int kk r)) :
    (match evalOp P o env h with | some v => k v | none => e) := by
  refine st_some (v := .int kk r) ?_ hk
  unfold evalOp
  simp only [ho, hx, hy, binAV, intOp, decide_true, cond_true, decide_eq_false hb, cond_false, hr]
theorem vsub_at {z : AV} {g : Nat → AV} {l n : Nat} : ∀ i, i < n → vsub z g l n i = g (l + i) := fun i hi => by
  have : Nat.blt i n = true := by rw [Nat.blt_eq]; exact hi
  simp only [vsub, this, cond_true]
theorem room8 {m : Nat} (h : m ≤ 1000000) : roomOK m 8 = true := by
  simp [roomOK]; omega
theorem vapp_at {z a : AV} {g : Nat → AV} {n : Nat} {L : List Int} {w : Int} {v : Nat → AV} (h : ∀ i, i < L.length → g i = .int .i64 (L.getD i 0)) (hn : n = L.length) (hv : v 0 = .int .i64 w) : ∀ i, i < (L ++ [w]).length → vapp z g n v 1 i = .int .i64 ((L ++ [w]).getD i 0) := by
  intro i hi
  simp only [List.length_append, List.length_cons, List.length_nil] at hi
  unfold vapp
  subst hn
  by_cases h1 : i < L.length
  · have e : Nat.blt i L.length = true := by simp [Nat.blt]; omega
    rw [e, cond_true, h i h1]
    simp [List.getD, List.getElem?_append_left h1]
  · have e : Nat.blt i L.length = false := by rw [Bool.eq_false_iff, ne_eq, Nat.blt_eq]; omega
    have e2 : Nat.blt i (L.length + 1) = true := by rw [Nat.blt_eq]; omega
    rw [e, cond_false, e2, cond_true, show i - L.length = 0 by omega, hv]
    have : i = L.length := by omega
    subst this
    simp [List.getD]
theorem loop_to {d : Nat} {fid : FuncId} {n : Nat} {b : Code} {st : St} {K : Ex → St → Prop} {ι : Type} {μ : ι → Nat} {S : ι → St} {m : Nat} (ih : ∀ j, μ j < m → SLoop P calm d fid n b (S j) K) (j : ι) (hm : μ j < m) (hs : st = S j) : SLoop P calm d fid n b st K :=
  hs ▸ ih j hm
theorem wrap64 {x : Int} (h : -9223372036854775808 ≤ x ∧ x ≤ 9223372036854775807) : IntKind.i64.wrap x = x := by
  have : (Lit.int .i64 x).wf = true := by simp [Lit.wf, IntKind.min, IntKind.max, IntKind.signed, IntKind.bits]; omega
  simp [IntKind.wrap, IntKind.signed, IntKind.bits]
  omega

/-- A slice of a slice with known room. -/
theorem st_slice_wide {lo hi : Option Operand} {l m q : Nat} (ho : o.op = .slice t x lo hi none) (hx : (evo P t env x).strip = .wide sz len q g) (ht : tyD P t = .slice u) (hl : boundOf 0 (lo.map (evo P 3 env)) = some l) (hm : boundOf len (hi.map (evo P 3 env)) = some m) (h1 : l ≤ m) (h2 : m ≤ q)
    (hs : (Nat.beq sz (tySz P u) && Nat.blt 0 sz) = true) (hk : k (.vec sz (m - l) (vsub (zeroElem P u) g l (m - l)))) : (match evalOp P o env h with | some v => k v | none => e) := by
  refine st_some (v := .vec sz (m - l) (vsub (zeroElem P u) g l (m - l))) ?_ hk
  have e1 : Nat.ble l m = true := Nat.ble_eq_true_of_le h1
  have e2 : Nat.ble m q = true := Nat.ble_eq_true_of_le h2
  unfold evalOp
  simp only [ho, sliceAV, hx, ht, hl, hm, hs, e1, e2, Bool.and_self, cond_true, Option.map_none]
/-- A slice of one's own: its room is known. -/
theorem st_slice_own {lo hi : Option Operand} {l m : Nat} (ho : o.op = .slice t x lo hi none) (hx : evo P t env x = .own (.vec sz len g)) (ht : tyD P t = .slice u) (hl : boundOf 0 (lo.map (evo P 3 env)) = some l) (hm : boundOf len (hi.map (evo P 3 env)) = some m) (h1 : l ≤ m) (h2 : m ≤ len)
    (hs : (Nat.beq sz (tySz P u) && Nat.blt 0 sz) = true) (hk : k (.wide sz (m - l) (len - l) (vsub (zeroElem P u) g l (len - l)))) : (match evalOp P o env h with | some v => k v | none => e) := by
  refine st_some (v := .wide sz (m - l) (len - l) (vsub (zeroElem P u) g l (len - l))) ?_ hk
  have e1 : Nat.ble l m = true := Nat.ble_eq_true_of_le h1
  have e2 : Nat.ble m len = true := Nat.ble_eq_true_of_le h2
  have e3 : (AV.own (.vec sz len g)).strip = .vec sz len g := rfl
  have e4 : (AV.own (.vec sz len g)).isOwn = true := rfl
  unfold evalOp
  simp only [ho, sliceAV, hx, ht, hl, hm, hs, e1, e2, e3, e4, Bool.and_self, cond_true, Option.map_none]

/-- Values that stand for the same. -/
def Same (a a' : AV) : Prop := ∀ (w : World) (F : Nat → Prop) (U : Nat → Nat) (bl : Blocks) (v : Value), Rep w F U bl a v → Rep w F U bl a' v
theorem Same.refl (a : AV) : Same a a := fun _ _ _ _ _ h => h
theorem Same.vec {sz n : Nat} {g g' : Nat → AV} (h : ∀ i, i < n → g i = g' i) : Same (.vec sz n g) (.vec sz n g') := by
  intro w F U bl v hr
  cases hr with
  | vec hcap vals hz hs ho h1 =>
    exact .vec hcap vals hz (fun i hi => by rw [← h i hi]; exact hs i hi) ho (fun i j c hi hc => h1 i j c hi (by rw [h i hi]; exact hc))
theorem Same.wide {sz n m : Nat} {g g' : Nat → AV} (h : ∀ i, i < n → g i = g' i) : Same (.wide sz n m g) (.vec sz n g') :=
  fun w F U bl v hr => Same.vec h w F U bl v (wide_vec hr)
theorem Same.wides {sz n m : Nat} {g g' : Nat → AV} (hn : n ≤ m) (h : ∀ i, i < m → g i = g' i) : Same (.wide sz n m g) (.wide sz n m g') := by
  intro w F U bl v hr
  cases hr with
  | wide hcap hn hr => exact .wide hcap hn (Same.vec h _ _ _ _ _ hr)
inductive SameL : List AV → List AV → Prop
  | nil : SameL [] []
  | cons {a a' l l'} (h : Same a a') (hl : SameL l l') : SameL (a :: l) (a' :: l')
theorem SameL.rep {l l' : List AV} (h : SameL l l') {w : World} {F : Nat → Prop} {U : Nat → Nat} {bl : Blocks} : ∀ {vs : List Value}, RepL w F U bl l vs → RepL w F U bl l' vs := by
  induction h with
  | nil => exact fun h => h
  | @cons a a' l l' h hl ih =>
    intro vs hr
    cases vs with
    | nil => exact absurd hr.1 (by simp)
    | cons v vs =>
      have h1 := hr.2 0 a v rfl rfl
      have h2 : RepL w F U bl l vs := ⟨by have := hr.1; simpa using this, fun i x y hx hy => hr.2 (i + 1) x y (by simpa using hx) (by simpa using hy)⟩
      exact .cons (h _ _ _ _ _ h1) (ih h2)
theorem ok_same {f : FuncId} {a a' : List AV} {Q : AV → Prop} (hs : SameL a a') (h : CallOK P f a' Q) : CallOK P f a Q :=
  ⟨h.1, fun w F U vs hF ha => h.2 w F U vs hF (hs.rep ha)⟩
end
end Ax

/- More steps whose test is not plain: maps by abstract entries, rows by index. -/
set_option linter.unusedVariables false
namespace Ax
open Go Go.RowKit
section
variable {P : Program} {cx : Ctx} {calm : List Oper → Bool}
variable {o : Oper} {env : Env} {h : Heap} {k : AV → Prop} {e : Prop} {t u : TypeId} {x i : Operand} {n : Int} {len sz : Nat} {g : Nat → AV} {s : ByteArray}
theorem st_addr_v {v : AV} (ho : o.op = .indexAddr t x i) (hx : evo P t env x = .vec sz len g) (hi : intNat (evo P 0 env i) = some n) (ht : tyD P t = .slice u) (hs : Nat.beq sz (tySz P u) = true) (hr : inRange n len = true) (hv : g n.toNat = v) (hk : k (.cptr v)) :
    (match evalOp P o env h with | some v => k v | none => e) := by
  subst hv
  refine st_some (v := .cptr (g n.toNat)) ?_ hk
  unfold evalOp
  simp only [ho, hi, hx, indexAddrAV, ht, hs, hr, cond_true]
theorem st_bin {op : BinOp} {y : Operand} {yt : TypeId} {a b v : AV} (ho : o.op = .binOp op t x y yt) (hx : (evo P t env x).strip = a) (hy : (evo P yt env y).strip = b) (hv : binAV P op t a b = some v) (hk : k v) : (match evalOp P o env h with | some v => k v | none => e) := by
  refine st_some (v := v) ?_ hk
  unfold evalOp
  simp only [ho, hx, hy, hv]
theorem st_addr_row {id lo : Nat} (ho : o.op = .indexAddr t x i) (hx : evo P t env x = .row id sz lo len) (hi : intNat (evo P 0 env i) = some n) (ht : tyD P t = .slice u) (hs : (Nat.beq sz (tySz P u) && Nat.blt 0 sz) = true) (hr : inRange n len = true) (hk : k (.eptr id sz (lo + n.toNat) 0)) :
    (match evalOp P o env h with | some v => k v | none => e) := by
  refine st_some (v := .eptr id sz (lo + n.toNat) 0) ?_ hk
  simp only [Bool.and_eq_true] at hs
  unfold evalOp
  simp only [ho, hi, hx, indexAddrAV, ht, hs.1, hs.2, hr, cond_true]
theorem st_load_e {p : Operand} {id j : Nat} {cs : List AV} (ho : o.op = .load t p) (hp : evo P 0 env p = .eptr id sz j 0) (hh : h.get id = .arr sz len g) (hj : j < len) (hg : g j = .agg cs) (ht : tyAgg P t = true) (hs : cs.length = tySz P t) (hk : k (AV.agg cs).strip) :
    (match evalOp P o env h with | some v => k v | none => e) := by
  refine st_some (v := (AV.agg cs).strip) ?_ hk
  have e1 : Nat.beq sz sz = true := Nat.beq_refl sz
  have e2 : Nat.blt j len = true := by rw [Nat.blt_eq]; exact hj
  have e3 : Nat.ble (0 + cs.length) cs.length = true := Nat.ble_eq_true_of_le (by omega)
  unfold evalOp
  simp only [ho, hp, loadAV, readCells, hh, e1, e2, Bool.and_self, cond_true, hg, AV.cells, partAV, ht, ← hs, e3, List.drop_zero, List.take_length, Option.map_some]
theorem st_look {m q : Operand} {kt et : TypeId} {reg : Bool} {ents : List (AV × AV)} {id j : Nat} (ho : o.op = .lookup t m q false) (ht : tyD P t = .map kt et) (hm : (evo P t env m).strip = .mapr id) (hh : h.get id = .map kt reg ents) (hc : (keyOk P kt (evo P kt env q).strip && hasZero P et) = true)
    (hj : mpos P kt ents (evo P kt env q).strip = some j) {v : AV} (hv : mval .undef ents j = v) (hk : k v.strip) : (match evalOp P o env h with | some v => k v | none => e) := by
  subst hv
  refine st_some (v := (mval .undef ents j).strip) ?_ hk
  have e1 : Nat.beq kt kt = true := Nat.beq_refl kt
  unfold evalOp
  simp only [Bool.and_eq_true] at hc
  simp only [ho, ht, hm, lookAV, hh, e1, hc.1, hc.2, Bool.and_self, cond_true, hj, cond_false]
theorem st_look_no {m q : Operand} {kt et : TypeId} {reg : Bool} {ents : List (AV × AV)} {id : Nat} (ho : o.op = .lookup t m q false) (ht : tyD P t = .map kt et) (hm : (evo P t env m).strip = .mapr id) (hh : h.get id = .map kt reg ents) (hc : (keyOk P kt (evo P kt env q).strip && hasZero P et) = true)
    (hj : mpos P kt ents (evo P kt env q).strip = none) (hk : k (zeroElem P et)) : (match evalOp P o env h with | some v => k v | none => e) := by
  refine st_some (v := zeroElem P et) ?_ hk
  have e1 : Nat.beq kt kt = true := Nat.beq_refl kt
  unfold evalOp
  simp only [Bool.and_eq_true] at hc
  simp only [ho, ht, hm, lookAV, hh, e1, hc.1, hc.2, Bool.and_self, cond_true, hj, cond_false]
theorem st_look2 {m q : Operand} {kt et : TypeId} {reg : Bool} {ents : List (AV × AV)} {id j : Nat} (ho : o.op = .lookup t m q true) (ht : tyD P t = .map kt et) (hm : (evo P t env m).strip = .mapr id) (hh : h.get id = .map kt reg ents) (hc : (keyOk P kt (evo P kt env q).strip && hasZero P et) = true)
    (hj : mpos P kt ents (evo P kt env q).strip = some j) {v : AV} (hv : mval .undef ents j = v) (hk : k (.tup [v.strip, .bool true])) : (match evalOp P o env h with | some v => k v | none => e) := by
  subst hv
  refine st_some (v := .tup [(mval .undef ents j).strip, .bool true]) ?_ hk
  have e1 : Nat.beq kt kt = true := Nat.beq_refl kt
  unfold evalOp
  simp only [Bool.and_eq_true] at hc
  simp only [ho, ht, hm, lookAV, hh, e1, hc.1, hc.2, Bool.and_self, cond_true, hj]
theorem st_look2_no {m q : Operand} {kt et : TypeId} {reg : Bool} {ents : List (AV × AV)} {id : Nat} (ho : o.op = .lookup t m q true) (ht : tyD P t = .map kt et) (hm : (evo P t env m).strip = .mapr id) (hh : h.get id = .map kt reg ents) (hc : (keyOk P kt (evo P kt env q).strip && hasZero P et) = true)
    (hj : mpos P kt ents (evo P kt env q).strip = none) (hk : k (.tup [zeroElem P et, .bool false])) : (match evalOp P o env h with | some v => k v | none => e) := by
  refine st_some (v := .tup [zeroElem P et, .bool false]) ?_ hk
  have e1 : Nat.beq kt kt = true := Nat.beq_refl kt
  unfold evalOp
  simp only [Bool.and_eq_true] at hc
  simp only [ho, ht, hm, lookAV, hh, e1, hc.1, hc.2, Bool.and_self, cond_true, hj]
section
variable {A : Option Nat → AV → Heap → Prop} {B : Option Nat → AV → Prop} {C : Prop}
theorem st_ext {q : Option Nat} {v : AV} {h' : Heap} (he : extOp P o env h = some (q, v, some h')) (hk : A q v h') : (match extOp P o env h with | some (s, v, some h) => A s v h | some (s, v, none) => B s v | none => C) := by
  rw [he]; exact hk
theorem st_entry {m q : Operand} {kt et : TypeId} {ents : List (AV × AV)} {id j : Nat} (ho : o.op = .mapEntry t m q) (ht : tyD P t = .map kt et) (hm : (evo P t env m).strip = .mapr id) (hh : h.get id = .map kt true ents) (hc : (keyOk P kt (evo P kt env q).strip && noIter id h && hasZero P et && (zeroAV P et).isData) = true)
    (hj : mpos P kt ents (evo P kt env q).strip = some j) {v : AV} (hv : mval .undef ents j = v) (hk : A none (.tup [v, .int .i64 (j : Int)]) (h.set id (.map kt true (msetAt ents j v.strip)))) : (match extOp P o env h with | some (s, v, some h) => A s v h | some (s, v, none) => B s v | none => C) := by
  subst hv
  refine st_ext ?_ hk
  have e1 : Nat.beq kt kt = true := Nat.beq_refl kt
  have e2 : keyType P t = kt := by unfold keyType; rw [ht]
  simp only [Bool.and_eq_true] at hc
  obtain ⟨⟨⟨c1, c2⟩, c3⟩, c4⟩ := hc
  unfold extOp
  simp only [ho, mapEntryAV, e2, ht, hm, hh, e1, c1, c2, c3, c4, Bool.and_self, cond_true, hj]
theorem st_entry_no {m q : Operand} {kt et : TypeId} {ents : List (AV × AV)} {id : Nat} (ho : o.op = .mapEntry t m q) (ht : tyD P t = .map kt et) (hm : (evo P t env m).strip = .mapr id) (hh : h.get id = .map kt true ents) (hc : (keyOk P kt (evo P kt env q).strip && noIter id h && hasZero P et && (zeroAV P et).isData) = true)
    (hj : mpos P kt ents (evo P kt env q).strip = none) (hk : A none (.tup [zeroAV P et, .int .i64 (ents.length : Int)]) (h.set id (.map kt true (ents ++ [((evo P kt env q).strip, (zeroAV P et).strip)])))) : (match extOp P o env h with | some (s, v, some h) => A s v h | some (s, v, none) => B s v | none => C) := by
  refine st_ext ?_ hk
  have e1 : Nat.beq kt kt = true := Nat.beq_refl kt
  have e2 : keyType P t = kt := by unfold keyType; rw [ht]
  simp only [Bool.and_eq_true] at hc
  obtain ⟨⟨⟨c1, c2⟩, c3⟩, c4⟩ := hc
  unfold extOp
  simp only [ho, mapEntryAV, e2, ht, hm, hh, e1, c1, c2, c3, c4, Bool.and_self, cond_true, hj]
theorem st_estore {m q y : Operand} {kt : TypeId} {kk : IntKind} {ents : List (AV × AV)} {id : Nat} {x : AV} (ho : o.op = .entryStore t m q y) (hm : (evo P t env m).strip = .mapr id) (hq : evo P 3 env q = .int kk n) (hh : h.get id = .map kt true ents) (hn : inRange n ents.length = true) (hx : evo P (elemTypeM P t) env y = x) (hd : x.isData = true)
    (hk : A (tmpOp y) (.tup []) (h.set id (.map kt true (msetAt ents n.toNat x)))) : (match extOp P o env h with | some (s, v, some h) => A s v h | some (s, v, none) => B s v | none => C) := by
  refine st_ext ?_ hk
  unfold extOp
  simp only [ho, hm, hq, hx, entryStoreAV, hh, hn, hd, Bool.and_self, cond_true]
theorem st_mapset {m q y : Operand} {kt et : TypeId} {ents : List (AV × AV)} {reg : Bool} {id j : Nat} {x : AV} (ho : o.op = .mapUpdate t m q y) (ht : tyD P t = .map kt et) (hm : (evo P t env m).strip = .mapr id) (hh : h.get id = .map kt reg ents) (hx : evo P et env y = x) (hc : (keyOk P kt (evo P kt env q).strip && x.isData && noIter id h) = true)
    (hj : mpos P kt ents (evo P kt env q).strip = some j) (hk : A (tmpOp y) (.tup []) (h.set id (.map kt reg (msetAt ents j x)))) : (match extOp P o env h with | some (s, v, some h) => A s v h | some (s, v, none) => B s v | none => C) := by
  refine st_ext ?_ hk
  have e1 : Nat.beq kt kt = true := Nat.beq_refl kt
  have e2 : keyType P t = kt := by unfold keyType; rw [ht]
  have e3 : elemTypeM P t = et := by unfold elemTypeM; rw [ht]
  simp only [Bool.and_eq_true] at hc
  obtain ⟨⟨c1, c2⟩, c3⟩ := hc
  unfold extOp
  simp only [ho, mapSetAV, e2, e3, ht, hm, hx, hh, e1, c1, c2, c3, Bool.and_self, cond_true, hj]
theorem st_mapset_no {m q y : Operand} {kt et : TypeId} {ents : List (AV × AV)} {reg : Bool} {id : Nat} {x : AV} (ho : o.op = .mapUpdate t m q y) (ht : tyD P t = .map kt et) (hm : (evo P t env m).strip = .mapr id) (hh : h.get id = .map kt reg ents) (hx : evo P et env y = x) (hc : (keyOk P kt (evo P kt env q).strip && x.isData && noIter id h) = true)
    (hj : mpos P kt ents (evo P kt env q).strip = none) (hk : A (tmpOp y) (.tup []) (h.set id (.map kt reg (ents ++ [((evo P kt env q).strip, x)])))) : (match extOp P o env h with | some (s, v, some h) => A s v h | some (s, v, none) => B s v | none => C) := by
  refine st_ext ?_ hk
  have e1 : Nat.beq kt kt = true := Nat.beq_refl kt
  have e2 : keyType P t = kt := by unfold keyType; rw [ht]
  have e3 : elemTypeM P t = et := by unfold elemTypeM; rw [ht]
  simp only [Bool.and_eq_true] at hc
  obtain ⟨⟨c1, c2⟩, c3⟩ := hc
  unfold extOp
  simp only [ho, mapSetAV, e2, e3, ht, hm, hx, hh, e1, c1, c2, c3, Bool.and_self, cond_true, hj]
end
theorem st_store_e {A : Heap → Prop} {C : Prop} {id j : Nat} {pv x : AV} (hp : pv = .eptr id sz j 0) (hh : h.get id = .arr sz len g) (hj : j < len) (hc : (!(Nat.beq x.cells.length (tySz P t)) || !(x.cells.all AV.scal)) = false) (hd : (Nat.ble (0 + x.cells.length) sz && x.isData) = true)
    (hk : A (h.set id (.arr sz len (upd g j (setElem (g j) 0 sz x.strip))))) : (match storeAV P h t pv x with | some h => A h | none => C) := by
  have e1 : Nat.beq sz sz = true := Nat.beq_refl sz
  have e2 : Nat.blt j len = true := by rw [Nat.blt_eq]; exact hj
  simp only [Bool.and_eq_true] at hd
  have : storeAV P h t pv x = some (h.set id (.arr sz len (upd g j (setElem (g j) 0 sz x.strip)))) := by
    unfold storeAV
    rw [hc, hp]
    simp only [cond_false, storeArr, hh, e1, e2, hd.1, hd.2, Bool.and_self, cond_true]
  rw [this]; exact hk
theorem st_append_uni {b y : AV} {gg : Nat → AV} {m : Nat} (hb : b = .uni (.vec sz len g)) (ht : tyD P t = .slice u) {tt : TypeId} (hs : isSliceT P tt = true) (hy : srcOf P u h y = some (m, gg)) (hc : (Nat.beq sz (tySz P u) && Nat.blt 0 sz && zeroFits P u && Nat.blt 0 (tyBy P u)) = true)
    (hr : roomOK (len + m) (tyBy P u) = true) (hk : k (.uni (.vec sz (len + m) (vapp (zeroElem P u) g len gg m)))) : (match appendAV P t tt h b y with | some v => k v | none => e) := by
  have : appendAV P t tt h b y = some (.uni (.vec sz (len + m) (vapp (zeroElem P u) g len gg m))) := by
    unfold appendAV
    simp only [hs, ht, hb, hy, hc, hr, Bool.not_true, cond_false, cond_true]
  rw [this]; exact hk
end

theorem cond_t {c : Bool} {a b : Prop} (h : c = true) (ha : a) : cond c a b := by subst h; exact ha
theorem cond_f {c : Bool} {a b : Prop} (h : c = false) (hb : b) : cond c a b := by subst h; exact hb

/-! ### entries that stand for keys -/
inductive F2 {α β : Type} (R : α → β → Prop) : List α → List β → Prop
  | nil : F2 R [] []
  | cons {a b l m} (h : R a b) (r : F2 R l m) : F2 R (a :: l) (b :: m)
section
variable {α β : Type} {R R' : α → β → Prop}
theorem F2.len {l : List α} {m : List β} (h : F2 R l m) : m.length = l.length := by
  induction h with
  | nil => rfl
  | cons _ _ ih => simp [ih]
theorem F2.at {l : List α} {m : List β} (h : F2 R l m) {j : Nat} {a : α} (hj : l[j]? = some a) : ∃ b, m[j]? = some b ∧ R a b := by
  induction h generalizing j with
  | nil => simp at hj
  | cons h _ ih =>
    cases j with
    | zero => simp at hj; subst hj; exact ⟨_, rfl, h⟩
    | succ j => exact ih hj
theorem F2.snoc {l : List α} {m : List β} (h : F2 R l m) {a : α} {b : β} (hr : R a b) : F2 R (l ++ [a]) (m ++ [b]) := by
  induction h with
  | nil => exact .cons hr .nil
  | cons h _ ih => exact .cons h ih
theorem F2.mono {l : List α} {m : List β} (h : F2 R l m) (hr : ∀ a b, a ∈ l → R a b → R' a b) : F2 R' l m := by
  induction h with
  | nil => exact .nil
  | cons h _ ih => exact .cons (hr _ _ List.mem_cons_self h) (ih fun a b ha => hr a b (List.mem_cons_of_mem _ ha))
end
theorem mval_at {z : AV} {ents : List (AV × AV)} {j : Nat} {p : AV × AV} (h : ents[j]? = some p) : mval z ents j = p.2 := by
  induction ents generalizing j with
  | nil => simp at h
  | cons q r ih =>
    cases j with
    | zero => simp at h; subst h; rfl
    | succ j => exact ih h
theorem mpos_no {P : Program} {kt : TypeId} {α : Type} {enc : α → AV} {R : α → AV × AV → Prop} (hE : ∀ a p, R a p → p.1 = enc a) (hq : ∀ a b, eqKey P kt (enc a) (enc b) = true → a = b) {l : List α} {m : List (AV × AV)} (h : F2 R l m) {a : α} (ha : a ∉ l) : mpos P kt m (enc a) = none := by
  induction h with
  | nil => rfl
  | @cons b p l m h r ih =>
    have e1 : p.1 = enc b := hE _ _ h
    have e2 : eqKey P kt (enc a) p.1 = false := by
      rw [e1, Bool.eq_false_iff]
      exact fun e => ha (hq _ _ e ▸ List.mem_cons_self)
    obtain ⟨x, y⟩ := p
    simp only [mpos]
    rw [e2, cond_false, ih fun h => ha (List.mem_cons_of_mem _ h)]
    rfl
theorem mpos_at {P : Program} {kt : TypeId} {α : Type} {enc : α → AV} {R : α → AV × AV → Prop} (hE : ∀ a p, R a p → p.1 = enc a) (hq : ∀ a b, eqKey P kt (enc a) (enc b) = true ↔ a = b) {l : List α} {m : List (AV × AV)} (h : F2 R l m) (hn : l.Nodup) {a : α} {j : Nat} (hj : l[j]? = some a) : mpos P kt m (enc a) = some j := by
  induction h generalizing j with
  | nil => simp at hj
  | @cons b p l m h r ih =>
    have e1 : p.1 = enc b := hE _ _ h
    obtain ⟨n1, n2⟩ := List.nodup_cons.1 hn
    obtain ⟨x, y⟩ := p
    simp only [mpos]
    cases j with
    | zero =>
      simp at hj; subst hj
      rw [show eqKey P kt (enc b) x = true from e1 ▸ (hq _ _).2 rfl, cond_true]
    | succ j =>
      have hj : l[j]? = some a := by simpa using hj
      have : eqKey P kt (enc a) x = false := by
        rw [show x = enc b from e1, Bool.eq_false_iff]
        exact fun e => n1 ((hq _ _).1 e ▸ List.mem_of_getElem? hj)
      rw [this, cond_false, ih n2 hj]
      rfl
theorem F2.setAt {α : Type} {R R' : α → AV × AV → Prop} {l : List α} {m : List (AV × AV)} (h : F2 R l m) (hn : l.Nodup) {j : Nat} {a : α} (hj : l[j]? = some a) {x : AV} (h1 : ∀ b p, b ≠ a → R b p → R' b p) (h2 : ∀ p, R a p → R' a (p.1, x)) : F2 R' l (msetAt m j x) := by
  induction h generalizing j with
  | nil => simp at hj
  | @cons b p l m h r ih =>
    obtain ⟨n1, n2⟩ := List.nodup_cons.1 hn
    obtain ⟨y, z⟩ := p
    cases j with
    | zero =>
      simp at hj; subst hj
      exact .cons (h2 _ h) (r.mono fun c q hc => h1 c q fun e => n1 (e ▸ hc))
    | succ j =>
      have hj : l[j]? = some a := by simpa using hj
      refine .cons (h1 _ _ (fun e => n1 (e ▸ List.mem_of_getElem? hj)) h) (ih n2 hj)
theorem msetAt_last {m : List (AV × AV)} {q x y : AV} : msetAt (m ++ [(q, x)]) m.length y = m ++ [(q, y)] := by
  induction m with
  | nil => rfl
  | cons p r ih => obtain ⟨a, b⟩ := p; simp only [List.cons_append, List.length_cons, msetAt, ih]
theorem msetAt_twice {m : List (AV × AV)} {j : Nat} {x y : AV} : msetAt (msetAt m j x) j y = msetAt m j y := by
  induction m generalizing j with
  | nil => rfl
  | cons p r ih =>
    obtain ⟨a, b⟩ := p
    cases j with
    | zero => rfl
    | succ j => simp only [msetAt, ih]
theorem msetAt_len {m : List (AV × AV)} {j : Nat} {x : AV} : (msetAt m j x).length = m.length := by
  induction m generalizing j with
  | nil => rfl
  | cons p r ih =>
    obtain ⟨a, b⟩ := p
    cases j with
    | zero => rfl
    | succ j => simp only [msetAt, List.length_cons, ih]
end Ax

/- A function that lays its variables and then defers one closure. -/
set_option linter.unusedVariables false
set_option linter.unusedSimpArgs false
namespace Ax
open Go Go.RowKit

section
variable {R : Type}
/-- The end of a body with one deferred closure. -/
def endD (X : Rec R) (cx : Ctx) (calm : List Oper → Bool) (f : FuncId) (fn : Func) (g : FuncId) (caps : List AV) (K : AV → Heap → R) (e : Ex) (st : St) : R :=
  match e with
  | .exit _ => X.fail
  | _ =>
    match st with
    | ⟨env, heap, defers, bor⟩ =>
      match bor with
      | none => runBody X cx (inlN X cx calm topDepth) calm topDepth g caps heap fun _ h => Heap.force h fun heap => finish X cx f fn K .ret ⟨env, heap, [], none⟩
      | some _ => X.fail
def stepD (X : Rec R) (cx : Ctx) (calm : List Oper → Bool) (f : FuncId) (fn : Func) (a rest : Code) (mk : Oper) (args : List AV) (K : AV → Heap → R) : R :=
  params 0 args fun env => den X cx (inlN X cx calm topDepth) calm fn.ntmps topDepth f a ⟨env, [], [], none⟩ fun e st =>
    match e with
    | .normal =>
      match st with
      | ⟨env, heap, defers, bor⟩ =>
        match evalOp cx.P mk env heap with
        | some (.fn g [] caps) => putK env mk.dst (.fn g [] caps) fun env => den X cx (inlN X cx calm topDepth) calm fn.ntmps topDepth f rest ⟨env, heap, [], bor⟩ (endD X cx calm f fn g caps K)
        | _ => X.fail
    | _ => X.fail
end

section
variable {P : Program} {A : Amb} {nt : Nat} {cx : Ctx} {pend : List (Nat × AObj)} {env : Env} {heap : Heap} {bor : Option (Nat × AV)} {tm : Array Value} {w : World} {U : Nat → Nat} {bl : Blocks} {ob : Loc → Option Nat}

/-- The same, reckoned from here. -/
def Amb.here (A : Amb) (w : World) (U : Nat → Nat) (bl : Blocks) (heap : Heap) (l : List Deferred) : Amb :=
  { B := A.B, F0 := A.F0, G := A.G, w0 := w, bl0 := bl, U0 := U, h0 := heap, ds := l }
theorem Rel.here (h : Rel P A nt pend env heap bor tm w U bl ob) (l : List Deferred) : Rel P (A.here w U bl heap l) nt pend env heap bor tm w U bl ob :=
  { size := h.size, env := h.env, len := h.len, objs := h.objs, inj := h.inj, base := h.base, obinj := h.obinj, obok := h.obok,
    since := { below := BelowD.refl _ _, g0 := Grow0.refl _ _ _, ble := BlLe.refl _, pnd := fun id hid => ⟨hid, .inl rfl⟩, gown := fun b _ => ⟨rfl, rfl⟩, blen := Nat.le_refl _, ub := fun b _ => rfl },
    f0 := h.f0, hB := h.hB, hG := h.hG, pend := h.pend }
theorem Rel.back (h : Rel P A nt pend env heap bor tm w U bl ob) {l : List Deferred} {nt' : Nat} {env' : Env} {heap' : Heap} {bor' : Option (Nat × AV)} {tm' : Array Value} {w' : World} {U' : Nat → Nat} {bl' : Blocks} {ob' : Loc → Option Nat} {pend' : List (Nat × AObj)}
    (h' : Rel P (A.here w U bl heap l) nt' pend' env' heap' bor' tm' w' U' bl' ob') : Rel P A nt' pend' env' heap' bor' tm' w' U' bl' ob' :=
  { size := h'.size, env := h'.env, len := h'.len, objs := h'.objs, inj := h'.inj, base := h'.base, obinj := h'.obinj, obok := h'.obok,
    since := by
      refine { below := h.since.below.trans h'.since.below, g0 := h.since.g0.trans h'.since.g0 h.since.below.size, ble := h.since.ble.trans h'.since.ble, pnd := fun id hid => ?_, gown := fun b hb => ?_, blen := Nat.le_trans h.since.blen h'.since.blen, ub := fun b hb => ?_ }
      · obtain ⟨p1, p2⟩ := h.since.pnd id hid
        obtain ⟨q1, q2⟩ := h'.since.pnd id p1
        refine ⟨q1, ?_⟩
        rcases p2 with p2 | p2
        · rcases q2 with q2 | q2
          · exact .inl (q2.trans p2)
          · right; rw [← p2]; exact q2
        · exact .inr p2
      · obtain ⟨g1, g2⟩ := h.since.gown b hb
        obtain ⟨k1, k2⟩ := h'.since.gown b hb
        exact ⟨k1.trans g1, k2.trans g2⟩
      · exact (h'.since.ub b hb).trans (h.since.ub b hb)
    f0 := h'.f0, hB := h'.hB, hG := h'.hG, pend := h'.pend }

theorem defer_inl (hP : cx.P = P) {calm : List Oper → Bool} (hC : ProgOK P calm cx.srt) {f : FuncId} {fn : Func} {a rest : Code} {id : Nat} {mk df : Oper} {ops : Array Oper} {d : Nat} (hfn : P.funcs[f]? = some fn) (hb : fn.body = some (.seq a (.seq (.region id ops false) rest))) (hops : ops = #[mk, df])
    (hmd : mk.dst = some d) (hmg : mk.guard = none) (hd : d < fn.ntmps) (hdf : df.op = .defer { callee := .value (.tmp d), args := #[], argTypes := #[] }) (hdd : df.dst = none) (hdg : df.guard = none)
    {args : List AV} {K : AV → Heap → Prop} (h : stepD (SX P calm) cx calm f fn a rest mk args K) : InlOK P f args [] K := by
  rw [SX_eq] at h
  refine ⟨⟨fn, hfn, by simp [hb]⟩, fun A0 w U bl ob vs hrel0 hargs0 => ?_⟩
  refine calls_of_wp_defers hfn hb ?_
  have hL := leans_sem (cx := cx) (calm := calm) hP hC topDepth
  have hX := calm_sem (P := P) (calm := calm)
  have hl : ∀ fid n b st K, (semRec P calm).loop topDepth fid n b st K → LoopOK P calm fid n b st K := fun _ _ _ _ _ h => h.1
  have hnt : fn.ntmps = ntmpsOf P f := by simp only [ntmpsOf, hfn]
  have hcc := hC.calm f fn _ hfn hb
  simp only [codeCalm, Bool.and_eq_true] at hcc
  unfold stepD at h
  obtain ⟨env0, he, henv⟩ := params_get args 0 (fun env => den (semRec P calm) cx (inlN (semRec P calm) cx calm topDepth) calm fn.ntmps topDepth f a ⟨env, [], [], none⟩ fun e st =>
    match e with
    | .normal =>
      match st with
      | ⟨env, heap, defers, bor⟩ =>
        match evalOp cx.P mk env heap with
        | some (.fn g [] caps) => putK env mk.dst (.fn g [] caps) fun env => den (semRec P calm) cx (inlN (semRec P calm) cx calm topDepth) calm fn.ntmps topDepth f rest ⟨env, heap, [], bor⟩ (endD (semRec P calm) cx calm f fn g caps K)
        | _ => (semRec P calm).fail
    | _ => (semRec P calm).fail)
  rw [he] at h
  have hrel := hrel0.ds []
  generalize hA : ({ A0 with ds := [] } : Amb) = A at hrel
  have hargs : RepL w (forb A bl []) U bl args vs.toList := by subst hA; exact hargs0
  have hds : A.ds = [] := by subst hA; rfl
  have hstart := start_rel hfn henv hrel hargs
  refine wp_seq (wp_mono (den_sound hL hX hP hC.mixed hnt (hl f) a hcc.1 _ _ _ w ⟨hds.symm, rfl, U, bl, ob, hstart⟩ h) ?_)
  intro e a1 w1 hp
  cases e with
  | goto l => exact hp.elim
  | panic ch => exact hp.elim
  | outgrown => exact hp.elim
  | exit id => obtain ⟨st', hg', hk'⟩ := hp; exact absurd hk' hL.fail
  | ret => obtain ⟨st', hg', hk'⟩ := hp; exact absurd hk' hL.fail
  | normal =>
    obtain ⟨⟨env1, heap1, defers1, bor1⟩, ⟨ha1, rfl, U1, bl1, ob1, h1⟩, hk1⟩ := hp
    dsimp only at hk1
    split at hk1
    · rename_i g caps hev
      rw [hmd, putK_eq] at hk1
      rw [hP] at hev
      obtain ⟨x, w2, U2, hr, hext, hrep, hown⟩ := evalOp_sound (B := A.B) hev (fun t => (h1.env t).1) h1.objsOK (h1.notF (Nat.le_refl _))
      obtain ⟨U3, ob3, h3⟩ := h1.give (d := some d) (by rintro t ⟨⟩; exact hd) hext hrep hown
      have hput : (putO a1.tmps (some d) x).getD d undef = x := by
        have hsz := h1.size
        simp [putO, Array.getD_eq_getD_getElem?, show d < a1.tmps.size by omega]
      have hx := (h3.env d).1
      rw [hput] at hx
      have hget : (setO env1 (some d) (.fn g [] caps)).get d = .fn g [] caps := by simp only [setO]; rw [get_set]; simp
      rw [hget] at hx
      obtain ⟨cs, rfl, hcs⟩ : ∃ cs : Array Value, x = .func (.func g) #[] cs ∧ RepL w2 (forb A bl1 heap1) U3 bl1 caps cs.toList := by
        cases hx with
        | @fn _ _ _ _ vs us hn hm r1 r2 =>
          obtain rfl : vs = #[] := Array.eq_empty_of_size_eq_zero hn.symm
          exact ⟨us, rfl, by simpa using hm, fun i x y hx hy => r2 i x y hx (by simpa using hy)⟩
      refine wp_seq (wp_region ?_)
      have hwm : ∀ y, Region.wanted mk y = true := by intro y; simp [Region.wanted, hmg]
      have hwd : ∀ y, Region.wanted df y = true := by intro y; simp [Region.wanted, hdg]
      subst hops
      have hrange : List.range (#[mk, df] : Array Oper).size = [0, 1] := rfl
      rw [hrange]
      simp only [wpOps, List.getElem?_toArray, List.getElem?_cons_zero, List.getElem?_cons_succ, hwm, hwd, if_true]
      refine .inl (value_wp hr ?_)
      refine .inl ?_
      rw [hmd]
      have hrd : (execOp (⟨putO a1.tmps (some d) (.func (.func g) #[] cs), a1.defers⟩ : Act).eval df).run P w2 = .ok (.defer { target := .fn (.func g) cs, args := #[] }) w2 := by
        unfold execOp
        rw [hdf]
        have hev : (⟨putO a1.tmps (some d) (.func (.func g) #[] cs), a1.defers⟩ : Act).eval (.tmp d) = .func (.func g) #[] cs := hput
        simp only [resolve, hev, Deferred.ofValue, Sem.run_bind, Sem.run_pure, Result.andThen_ok]
        simp
      unfold Oper.wp
      rw [hrd, Oper.upon_defer, put_eq, hdd]
      have hk1' : den (semRec P calm) cx (inlN (semRec P calm) cx calm topDepth) calm fn.ntmps topDepth f rest ⟨setO env1 (some d) (.fn g [] caps), heap1, [], bor1⟩ (endD (semRec P calm) cx calm f fn g caps K) := hk1
      have h4 := h3.here [{ target := .fn (.func g) cs, args := #[] }]
      refine wp_mono (den_sound hL hX hP hC.mixed hnt (hl f) rest hcc.2.2 _ _ _ w2 ⟨by simp [Amb.here, ha1, hds, putO], rfl, U3, bl1, ob3, h4⟩ hk1') ?_
      intro e a3 w3 hp
      have fin : ∀ e st', Good P (A.here w2 U3 bl1 heap1 [{ target := .fn (.func g) cs, args := #[] }]) fn.ntmps [] st' a3 w3 → (e = .normal ∨ e = .ret) → endD (semRec P calm) cx calm f fn g caps K e st' → Leaves P fn a3.tmps (Ended P A0 K) a3.defers .returning w3 := by
        rintro e ⟨env4, heap4, defers4, bor4⟩ ⟨hd4, rfl, U4, bl4, ob4, h5⟩ he hk4
        have hd4 : a3.defers = [{ target := .fn (.func g) cs, args := #[] }] := hd4
        rw [hd4]
        cases bor4 with
        | some q => exfalso; unfold endD at hk4; rcases he with rfl | rfl <;> exact hL.fail hk4
        | none =>
        have hk5 : runBody (semRec P calm) cx (inlN (semRec P calm) cx calm topDepth) calm topDepth g caps heap4 fun _ h => Heap.force h fun heap => finish (semRec P calm) cx f fn K .ret ⟨env4, heap, [], none⟩ := by
          unfold endD at hk4; rcases he with rfl | rfl <;> exact hk4
        obtain ⟨gn, c, hgn, hgb, hgw⟩ := body_wp hL hX hP hC hl hk5
        have hcaps : RepL w3 (forb A bl4 heap4) U4 bl4 caps cs.toList := ⟨hcs.1, fun i x y hx hy => (hcs.2 i x y hx hy).mono h5.since.g0 h5.since.ble⟩
        have hin : (invoke (.fn (.func g) cs) #[]).run P w3 = .ok (.enter g cs) w3 := by
          have hname := hC.name g gn hgn (by simp [hgb])
          have h4 : gn.body.isNone = false := by simp [hgb]
          simp only [invoke, callFunc, Sem.run_bind, run_program, Result.andThen_ok, hgn]
          simp [hname, h4]
        refine leaves_cons (by simp) hin ?_
        refine (callsD_of_wp hgn hgb (hgw _ _ _ _ _ cs (h5.inner rfl) hcaps)).mono ?_
        rintro e6 u6 w6 ⟨rfl, r, x, heap6, U6, bl6, ob6, own, rfl, hrel6, hrep6, hown6, hob6, hk6⟩
        have h7 := h5.outer hrel6
        rw [Heap.force_eq] at hk6
        obtain ⟨hd7, v, hv, r7, heap7, U7, bl7, ob7, own7, e1, e2, e3, e4, e5⟩ := finish_sound (a := ⟨a3.tmps, a3.defers⟩) hL.fail hP ⟨hd4, rfl, _, _, _, h7⟩ hk6
        have hs : settle FrameMode.returning = FrameMode.returning := rfl
        simp only [hs]
        refine ⟨v, hv, r7, v, heap7, U7, bl7, ob7, own7, rfl, ?_, ?_, ?_, ?_, e5⟩
        · have := (h3.back e1).ds A0.ds
          subst hA; exact this
        · subst hA; exact e2
        · subst hA; exact e3
        · subst hA; exact e4
      cases e with
      | normal => obtain ⟨st', hg', hk'⟩ := hp; exact fin _ st' hg' (.inl rfl) hk'
      | ret => obtain ⟨st', hg', hk'⟩ := hp; exact fin _ st' hg' (.inr rfl) hk'
      | exit id =>
        obtain ⟨st', hg', hk'⟩ := hp
        obtain ⟨env', heap', defers', bor'⟩ := st'
        exact absurd hk' hL.fail
      | goto l => exact hp.elim
      | panic ch => exact hp.elim
      | outgrown => exact hp.elim
    · exact absurd hk1 hL.fail
/-- The contract of such a function. -/
theorem okD (hP : cx.P = P) {calm : List Oper → Bool} (hC : ProgOK P calm cx.srt) {f : FuncId} {fn : Func} {a rest : Code} {id : Nat} {mk df : Oper} {ops : Array Oper} {d : Nat} (hfn : P.funcs[f]? = some fn) (hb : fn.body = some (.seq a (.seq (.region id ops false) rest))) (hops : ops = #[mk, df])
    (hmd : mk.dst = some d) (hmg : mk.guard = none) (hd : d < fn.ntmps) (hdf : df.op = .defer { callee := .value (.tmp d), args := #[], argTypes := #[] }) (hdd : df.dst = none) (hdg : df.guard = none)
    {args : List AV} {Q : AV → Prop} (h : stepD (SX P calm) cx calm f fn a rest mk args (giveOut (SX P calm) cx f Q)) : CallOK P f args Q := by
  have := defer_inl hP hC hfn hb hops hmd hmg hd hdf hdd hdg h
  rw [SX_eq] at this
  exact callOK_of_inl this
end
end Ax
