import Derived.Test.YtflebdkgdnfjoaaGreatML
/- Contracts by running the machine on the model's own reading. -/
set_option linter.unusedVariables false
namespace Ax
open Go Go.RowKit

structure SCall (P : Program) (calm : List Oper → Bool) (f : FuncId) (a : List AV) (Q : AV → Prop) : Prop where
  ok : CallOK P f a Q
  some : ∃ r, Q r
structure SLoop (P : Program) (calm : List Oper → Bool) (d : Nat) (fid : FuncId) (n : Nat) (b : Code) (st : St) (K : Ex → St → Prop) : Prop where
  ok : LoopOK P calm fid n b st K
  some : ∃ e s, K e s
def SX (P : Program) (calm : List Oper → Bool) : Rec Prop where
  fail := False
  all := fun n k => ∀ i, i < n → k i
  call := SCall P calm
  loop := SLoop P calm
  sort := sortP
  br := BrP
theorem SX_eq (P : Program) (calm : List Oper → Bool) : SX P calm = semRec P calm := by
  unfold SX semRec
  congr
  · funext f a Q; exact propext ⟨fun h => ⟨h.1, h.2⟩, fun h => ⟨h.1, h.2⟩⟩
  · funext d fid n b st K; exact propext ⟨fun h => ⟨h.1, h.2⟩, fun h => ⟨h.1, h.2⟩⟩

section
variable {P : Program} {cx : Ctx} {calm : List Oper → Bool}
/-- A contract, by running the body. -/
theorem okOf (hP : cx.P = P) (hC : ProgOK P calm cx.srt) {f : FuncId} {a : List AV} {Q : AV → Prop} (h : stepCall (SX P calm) cx calm f a Q) : CallOK P f a Q := by
  rw [SX_eq] at h
  exact stepCall_sound hP hC h
/-- A call, by its contract. -/
theorem call_by {f : FuncId} {a : List AV} {R Q : AV → Prop} (h : CallOK P f a R) (hs : ∃ r, R r) (hq : ∀ r, R r → Q r) : SCall P calm f a Q := by
  exact ⟨callOK_mono hq h, let ⟨r, hr⟩ := hs; ⟨r, hq r hr⟩⟩
theorem call_is {f : FuncId} {a : List AV} {v : AV} {Q : AV → Prop} (h : CallOK P f a (fun r => r = v)) (hq : Q v) : SCall P calm f a Q :=
  call_by h ⟨v, rfl⟩ (fun r hr => hr ▸ hq)
/-- A loop by a measure: S says which states stand at its head. -/
theorem loop_by (hP : cx.P = P) (hC : ProgOK P calm cx.srt) {d : Nat} {fid : FuncId} {n : Nat} {b : Code} {K : Ex → St → Prop} {ι : Type} (μ : ι → Nat) (S : ι → St)
    (round : ∀ i, (∀ j, μ j < μ i → SLoop P calm d fid n b (S j) K) → stepLoop (SX P calm) cx calm d fid n b (S i) K) : ∀ i, SLoop P calm d fid n b (S i) K := by
  intro i
  generalize hm : μ i = m
  induction m using Nat.strongRecOn generalizing i with
  | _ m ih =>
    have h := round i fun j hj => ih (μ j) (hm ▸ hj) j rfl
    rw [SX_eq] at h
    have := (sem_pre hP hC).loop d fid n b (S i) K h
    exact ⟨this.1, this.2⟩

/-! ### steps whose test is not plain -/
variable {o : Oper} {env : Env} {h : Heap} {k : AV → Prop} {e : Prop} {t u : TypeId} {x i : Operand} {n : Int} {len sz : Nat} {g : Nat → AV} {s : ByteArray}
theorem st_some {v : AV} (he : evalOp P o env h = some v) (hk : k v) : (match evalOp P o env h with | some v => k v | none => e) := by
  rw [he]; exact hk
theorem in_range {m : Nat} (h : m < len) : inRange (m : Int) len = true := by simp [inRange, h]
theorem st_index (ho : o.op = .index t x i) (hx : (evo P t env x).strip = .str s) (hi : intNat (evo P 0 env i) = some n) (ht : tyD P t = .string) (hr : inRange n s.size = true) (hk : k (wordB s n.toNat).strip) :
    (match evalOp P o env h with | some v => k v | none => e) := by
  refine st_some (v := (wordB s n.toNat).strip) ?_ hk
  unfold evalOp
  simp only [ho, hi, hx, indexAV, ht, hr, cond_true, Option.map_some]
theorem st_addr (ho : o.op = .indexAddr t x i) (hx : evo P t env x = .vec sz len g) (hi : intNat (evo P 0 env i) = some n) (ht : tyD P t = .slice u) (hs : Nat.beq sz (tySz P u) = true) (hr : inRange n len = true) (hk : k (.cptr (g n.toNat))) :
    (match evalOp P o env h with | some v => k v | none => e) := by
  refine st_some (v := .cptr (g n.toNat)) ?_ hk
  unfold evalOp
  simp only [ho, hi, hx, indexAddrAV, ht, hs, hr, cond_true]

theorem st_append {b y : AV} {gg : Nat → AV} {m : Nat} (hb : b = .own (.vec sz len g)) (ht : tyD P t = .slice u) {tt : TypeId} (hs : isSliceT P tt = true) (hy : srcOf P u h y = some (m, gg)) (hc : (Nat.beq sz (tySz P u) && Nat.blt 0 sz && zeroFits P u && Nat.blt 0 (tyBy P u)) = true)
    (hr : roomOK (len + m) (tyBy P u) = true) (hk : k (.own (.vec sz (len + m) (vapp (zeroElem P u) g len gg m)))) : (match appendAV P t tt h b y with | some v => k v | none => e) := by
  have : appendAV P t tt h b y = some (.own (.vec sz (len + m) (vapp (zeroElem P u) g len gg m))) := by
    unfold appendAV
    simp only [hs, ht, hb, hy, hc, hr, Bool.not_true, cond_false, cond_true]
  rw [this]; exact hk
theorem st_slice {lo hi : Option Operand} {l m : Nat} (ho : o.op = .slice t x lo hi none) (hx : (evo P t env x).strip = .vec sz len g) (ht : tyD P t = .slice u) (hl : boundOf 0 (lo.map (evo P 3 env)) = some l) (hm : boundOf len (hi.map (evo P 3 env)) = some m) (h1 : l ≤ m) (h2 : m ≤ len)
    (hs : (Nat.beq sz (tySz P u) && Nat.blt 0 sz) = true) (hw : (evo P t env x).isOwn = false) (hk : k (.vec sz (m - l) (vsub (zeroElem P u) g l (m - l)))) : (match evalOp P o env h with | some v => k v | none => e) := by
  refine st_some (v := .vec sz (m - l) (vsub (zeroElem P u) g l (m - l))) ?_ hk
  have e1 : Nat.ble l m = true := Nat.ble_eq_true_of_le h1
  have e2 : Nat.ble m len = true := Nat.ble_eq_true_of_le h2
  unfold evalOp
  simp only [ho, sliceAV, hx, ht, hl, hm, hs, hw, e1, e2, Bool.and_self, cond_true, cond_false, Option.map_none]
theorem st_rem {y : Operand} {yt : TypeId} {kk : IntKind} {a b r : Int} (ho : o.op = .binOp .rem t x y yt) (hx : (evo P t env x).strip = .int kk a) (hy : (evo P yt env y).strip = .int kk b) (hb : b ≠ 0) (hr : a.tmod b = r) (hk : k (.int kk r)) :
    (match evalOp P o env h with | some v => k v | none => e) := by
  refine st_some (v := .int kk r) ?_ hk
  unfold evalOp
  simp only [ho, hx, hy, binAV, intOp, decide_true, cond_true, decide_eq_false hb, cond_false, hr]
theorem vsub_at {z : AV} {g : Nat → AV} {l n : Nat} : ∀ i, i < n → vsub z g l n i = g (l + i) := fun i hi => by
  have : Nat.blt i n = true := by rw [Nat.blt_eq]; exact hi
  simp only [vsub, this, cond_true]
theorem room8 {m : Nat} (h : m ≤ 1000000) : roomOK m 8 = true := by
  simp [roomOK]; omega
theorem vapp_at {z a : AV} {g : Nat → AV} {n : Nat} {L : List Int} {w : Int} {v : Nat → AV} (h : ∀ i, i < L.length → g i = .int .i64 (L.getD i 0)) (hn : n = L.length) (hv : v 0 = .int .i64 w) : ∀ i, i < (L ++ [w]).length → vapp z g n v 1 i = .int .i64 ((L ++ [w]).getD i 0) := by
  intro i hi
  simp only [List.length_append, List.length_cons, List.length_nil] at hi
  unfold vapp
  subst hn
  by_cases h1 : i < L.length
  · have e : Nat.blt i L.length = true := by simp [Nat.blt]; omega
    rw [e, cond_true, h i h1]
    simp [List.getD, List.getElem?_append_left h1]
  · have e : Nat.blt i L.length = false := by rw [Bool.eq_false_iff, ne_eq, Nat.blt_eq]; omega
    have e2 : Nat.blt i (L.length + 1) = true := by rw [Nat.blt_eq]; omega
    rw [e, cond_false, e2, cond_true, show i - L.length = 0 by omega, hv]
    have : i = L.length := by omega
    subst this
    simp [List.getD]
theorem loop_to {d : Nat} {fid : FuncId} {n : Nat} {b : Code} {st : St} {K : Ex → St → Prop} {ι : Type} {μ : ι → Nat} {S : ι → St} {m : Nat} (ih : ∀ j, μ j < m → SLoop P calm d fid n b (S j) K) (j : ι) (hm : μ j < m) (hs : st = S j) : SLoop P calm d fid n b st K :=
  hs ▸ ih j hm
theorem wrap64 {x : Int} (h : -9223372036854775808 ≤ x ∧ x ≤ 9223372036854775807) : IntKind.i64.wrap x = x := by
  have : (Lit.int .i64 x).wf = true := by simp [Lit.wf, IntKind.min, IntKind.max, IntKind.signed, IntKind.bits]; omega
  simp [IntKind.wrap, IntKind.signed, IntKind.bits]
  omega

/-- A slice of a slice with known room. -/
theorem st_slice_wide {lo hi : Option Operand} {l m q : Nat} (ho : o.op = .slice t x lo hi none) (hx : (evo P t env x).strip = .wide sz len q g) (ht : tyD P t = .slice u) (hl : boundOf 0 (lo.map (evo P 3 env)) = some l) (hm : boundOf len (hi.map (evo P 3 env)) = some m) (h1 : l ≤ m) (h2 : m ≤ q)
    (hs : (Nat.beq sz (tySz P u) && Nat.blt 0 sz) = true) (hk : k (.vec sz (m - l) (vsub (zeroElem P u) g l (m - l)))) : (match evalOp P o env h with | some v => k v | none => e) := by
  refine st_some (v := .vec sz (m - l) (vsub (zeroElem P u) g l (m - l))) ?_ hk
  have e1 : Nat.ble l m = true := Nat.ble_eq_true_of_le h1
  have e2 : Nat.ble m q = true := Nat.ble_eq_true_of_le h2
  unfold evalOp
  simp only [ho, sliceAV, hx, ht, hl, hm, hs, e1, e2, Bool.and_self, cond_true, Option.map_none]
/-- A slice of one's own: its room is known. -/
theorem st_slice_own {lo hi : Option Operand} {l m : Nat} (ho : o.op = .slice t x lo hi none) (hx : evo P t env x = .own (.vec sz len g)) (ht : tyD P t = .slice u) (hl : boundOf 0 (lo.map (evo P 3 env)) = some l) (hm : boundOf len (hi.map (evo P 3 env)) = some m) (h1 : l ≤ m) (h2 : m ≤ len)
    (hs : (Nat.beq sz (tySz P u) && Nat.blt 0 sz) = true) (hk : k (.wide sz (m - l) (len - l) (vsub (zeroElem P u) g l (len - l)))) : (match evalOp P o env h with | some v => k v | none => e) := by
  refine st_some (v := .wide sz (m - l) (len - l) (vsub (zeroElem P u) g l (len - l))) ?_ hk
  have e1 : Nat.ble l m = true := Nat.ble_eq_true_of_le h1
  have e2 : Nat.ble m len = true := Nat.ble_eq_true_of_le h2
  have e3 : (AV.own (.vec sz len g)).strip = .vec sz len g := rfl
  have e4 : (AV.own (.vec sz len g)).isOwn = true := rfl
  unfold evalOp
  simp only [ho, sliceAV, hx, ht, hl, hm, hs, e1, e2, e3, e4, Bool.and_self, cond_true, Option.map_none]

/-- Values that stand for the same. -/
def Same (a a' : AV) : Prop := ∀ (w : World) (F : Nat → Prop) (U : Nat → Nat) (bl : Blocks) (v : Value), Rep w F U bl a v → Rep w F U bl a' v
theorem Same.refl (a : AV) : Same a a := fun _ _ _ _ _ h => h
theorem Same.vec {sz n : Nat} {g g' : Nat → AV} (h : ∀ i, i < n → g i = g' i) : Same (.vec sz n g) (.vec sz n g') := by
  intro w F U bl v hr
  cases hr with
  | vec hcap vals hz hs ho h1 =>
    exact .vec hcap vals hz (fun i hi => by rw [← h i hi]; exact hs i hi) ho (fun i j c hi hc => h1 i j c hi (by rw [h i hi]; exact hc))
theorem Same.wide {sz n m : Nat} {g g' : Nat → AV} (h : ∀ i, i < n → g i = g' i) : Same (.wide sz n m g) (.vec sz n g') :=
  fun w F U bl v hr => Same.vec h w F U bl v (wide_vec hr)
theorem Same.wides {sz n m : Nat} {g g' : Nat → AV} (hn : n ≤ m) (h : ∀ i, i < m → g i = g' i) : Same (.wide sz n m g) (.wide sz n m g') := by
  intro w F U bl v hr
  cases hr with
  | wide hcap hn hr => exact .wide hcap hn (Same.vec h _ _ _ _ _ hr)
inductive SameL : List AV → List AV → Prop
  | nil : SameL [] []
  | cons {a a' l l'} (h : Same a a') (hl : SameL l l') : SameL (a :: l) (a' :: l')
theorem SameL.rep {l l' : List AV} (h : SameL l l') {w : World} {F : Nat → Prop} {U : Nat → Nat} {bl : Blocks} : ∀ {vs : List Value}, RepL w F U bl l vs → RepL w F U bl l' vs := by
  induction h with
  | nil => exact fun h => h
  | @cons a a' l l' h hl ih =>
    intro vs hr
    cases vs with
    | nil => exact absurd hr.1 (by simp)
    | cons v vs =>
      have h1 := hr.2 0 a v rfl rfl
      have h2 : RepL w F U bl l vs := ⟨by have := hr.1; simpa using this, fun i x y hx hy => hr.2 (i + 1) x y (by simpa using hx) (by simpa using hy)⟩
      exact .cons (h _ _ _ _ _ h1) (ih h2)
theorem ok_same {f : FuncId} {a a' : List AV} {Q : AV → Prop} (hs : SameL a a') (h : CallOK P f a' Q) : CallOK P f a Q :=
  ⟨h.1, fun w F U vs hF ha => h.2 w F U vs hF (hs.rep ha)⟩
end
end Ax

/- More steps whose test is not plain: maps by abstract entries, rows by index. -/
set_option linter.unusedVariables false
namespace Ax
open Go Go.RowKit
section
variable {P : Program} {cx : Ctx} {calm : List Oper → Bool}
variable {o : Oper} {env : Env} {h : Heap} {k : AV → Prop} {e : Prop} {t u : TypeId} {x i : Operand} {n : Int} {len sz : Nat} {g : Nat → AV} {s : ByteArray}
theorem st_addr_v {v : AV} (ho : o.op = .indexAddr t x i) (hx : evo P t env x = .vec sz len g) (hi : intNat (evo P 0 env i) = some n) (ht : tyD P t = .slice u) (hs : Nat.beq sz (tySz P u) = true) (hr : inRange n len = true) (hv : g n.toNat = v) (hk : k (.cptr v)) :
    (match evalOp P o env h with | some v => k v | none => e) := by
  subst hv
  refine st_some (v := .cptr (g n.toNat)) ?_ hk
  unfold evalOp
  simp only [ho, hi, hx, indexAddrAV, ht, hs, hr, cond_true]
theorem st_bin {op : BinOp} {y : Operand} {yt : TypeId} {a b v : AV} (ho : o.op = .binOp op t x y yt) (hx : (evo P t env x).strip = a) (hy : (evo P yt env y).strip = b) (hv : binAV P op t a b = some v) (hk : k v) : (match evalOp P o env h with | some v => k v | none => e) := by
  refine st_some (v := v) ?_ hk
  unfold evalOp
  simp only [ho, hx, hy, hv]
theorem st_addr_row {id lo : Nat} (ho : o.op = .indexAddr t x i) (hx : evo P t env x = .row id sz lo len) (hi : intNat (evo P 0 env i) = some n) (ht : tyD P t = .slice u) (hs : (Nat.beq sz (tySz P u) && Nat.blt 0 sz) = true) (hr : inRange n len = true) (hk : k (.eptr id sz (lo + n.toNat) 0)) :
    (match evalOp P o env h with | some v => k v | none => e) := by
  refine st_some (v := .eptr id sz (lo + n.toNat) 0) ?_ hk
  simp only [Bool.and_eq_true] at hs
  unfold evalOp
  simp only [ho, hi, hx, indexAddrAV, ht, hs.1, hs.2, hr, cond_true]
theorem st_load_e {p : Operand} {id j : Nat} {cs : List AV} (ho : o.op = .load t p) (hp : evo P 0 env p = .eptr id sz j 0) (hh : h.get id = .arr sz len g) (hj : j < len) (hg : g j = .agg cs) (ht : tyAgg P t = true) (hs : cs.length = tySz P t) (hk : k (AV.agg cs).strip) :
    (match evalOp P o env h with | some v => k v | none => e) := by
  refine st_some (v := (AV.agg cs).strip) ?_ hk
  have e1 : Nat.beq sz sz = true := Nat.beq_refl sz
  have e2 : Nat.blt j len = true := by rw [Nat.blt_eq]; exact hj
  have e3 : Nat.ble (0 + cs.length) cs.length = true := Nat.ble_eq_true_of_le (by omega)
  unfold evalOp
  simp only [ho, hp, loadAV, readCells, hh, e1, e2, Bool.and_self, cond_true, hg, AV.cells, partAV, ht, ← hs, e3, List.drop_zero, List.take_length, Option.map_some]
theorem st_look {m q : Operand} {kt et : TypeId} {reg : Bool} {ents : List (AV × AV)} {id j : Nat} (ho : o.op = .lookup t m q false) (ht : tyD P t = .map kt et) (hm : (evo P t env m).strip = .mapr id) (hh : h.get id = .map kt reg ents) (hc : (keyOk P kt (evo P kt env q).strip && hasZero P et) = true)
    (hj : mpos P kt ents (evo P kt env q).strip = some j) {v : AV} (hv : mval .undef ents j = v) (hk : k v.strip) : (match evalOp P o env h with | some v => k v | none => e) := by
  subst hv
  refine st_some (v := (mval .undef ents j).strip) ?_ hk
  have e1 : Nat.beq kt kt = true := Nat.beq_refl kt
  unfold evalOp
  simp only [Bool.and_eq_true] at hc
  simp only [ho, ht, hm, lookAV, hh, e1, hc.1, hc.2, Bool.and_self, cond_true, hj, cond_false]
theorem st_look_no {m q : Operand} {kt et : TypeId} {reg : Bool} {ents : List (AV × AV)} {id : Nat} (ho : o.op = .lookup t m q false) (ht : tyD P t = .map kt et) (hm : (evo P t env m).strip = .mapr id) (hh : h.get id = .map kt reg ents) (hc : (keyOk P kt (evo P kt env q).strip && hasZero P et) = true)
    (hj : mpos P kt ents (evo P kt env q).strip = none) (hk : k (zeroElem P et)) : (match evalOp P o env h with | some v => k v | none => e) := by
  refine st_some (v := zeroElem P et) ?_ hk
  have e1 : Nat.beq kt kt = true := Nat.beq_refl kt
  unfold evalOp
  simp only [Bool.and_eq_true] at hc
  simp only [ho, ht, hm, lookAV, hh, e1, hc.1, hc.2, Bool.and_self, cond_true, hj, cond_false]
theorem st_look2 {m q : Operand} {kt et : TypeId} {reg : Bool} {ents : List (AV × AV)} {id j : Nat} (ho : o.op = .lookup t m q true) (ht : tyD P t = .map kt et) (hm : (evo P t env m).strip = .mapr id) (hh : h.get id = .map kt reg ents) (hc : (keyOk P kt (evo P kt env q).strip && hasZero P et) = true)
    (hj : mpos P kt ents (evo P kt env q).strip = some j) {v : AV} (hv : mval .undef ents j = v) (hk : k (.tup [v.strip, .bool true])) : (match evalOp P o env h with | some v => k v | none => e) := by
  subst hv
  refine st_some (v := .tup [(mval .undef ents j).strip, .bool true]) ?_ hk
  have e1 : Nat.beq kt kt = true := Nat.beq_refl kt
  unfold evalOp
  simp only [Bool.and_eq_true] at hc
  simp only [ho, ht, hm, lookAV, hh, e1, hc.1, hc.2, Bool.and_self, cond_true, hj]
theorem st_look2_no {m q : Operand} {kt et : TypeId} {reg : Bool} {ents : List (AV × AV)} {id : Nat} (ho : o.op = .lookup t m q true) (ht : tyD P t = .map kt et) (hm : (evo P t env m).strip = .mapr id) (hh : h.get id = .map kt reg ents) (hc : (keyOk P kt (evo P kt env q).strip && hasZero P et) = true)
    (hj : mpos P kt ents (evo P kt env q).strip = none) (hk : k (.tup [zeroElem P et, .bool false])) : (match evalOp P o env h with | some v => k v | none => e) := by
  refine st_some (v := .tup [zeroElem P et, .bool false]) ?_ hk
  have e1 : Nat.beq kt kt = true := Nat.beq_refl kt
  unfold evalOp
  simp only [Bool.and_eq_true] at hc
  simp only [ho, ht, hm, lookAV, hh, e1, hc.1, hc.2, Bool.and_self, cond_true, hj]
section
variable {A : Option Nat → AV → Heap → Prop} {B : Option Nat → AV → Prop} {C : Prop}
theorem st_ext {q : Option Nat} {v : AV} {h' : Heap} (he : extOp P o env h = some (q, v, some h')) (hk : A q v h') : (match extOp P o env h with | some (s, v, some h) => A s v h | some (s, v, none) => B s v | none => C) := by
  rw [he]; exact hk
theorem st_entry {m q : Operand} {kt et : TypeId} {ents : List (AV × AV)} {id j : Nat} (ho : o.op = .mapEntry t m q) (ht : tyD P t = .map kt et) (hm : (evo P t env m).strip = .mapr id) (hh : h.get id = .map kt true ents) (hc : (keyOk P kt (evo P kt env q).strip && noIter id h && hasZero P et && (zeroAV P et).isData) = true)
    (hj : mpos P kt ents (evo P kt env q).strip = some j) {v : AV} (hv : mval .undef ents j = v) (hk : A none (.tup [v, .int .i64 (j : Int)]) (h.set id (.map kt true (msetAt ents j v.strip)))) : (match extOp P o env h with | some (s, v, some h) => A s v h | some (s, v, none) => B s v | none => C) := by
  subst hv
  refine st_ext ?_ hk
  have e1 : Nat.beq kt kt = true := Nat.beq_refl kt
  have e2 : keyType P t = kt := by unfold keyType; rw [ht]
  simp only [Bool.and_eq_true] at hc
  obtain ⟨⟨⟨c1, c2⟩, c3⟩, c4⟩ := hc
  unfold extOp
  simp only [ho, mapEntryAV, e2, ht, hm, hh, e1, c1, c2, c3, c4, Bool.and_self, cond_true, hj]
theorem st_entry_no {m q : Operand} {kt et : TypeId} {ents : List (AV × AV)} {id : Nat} (ho : o.op = .mapEntry t m q) (ht : tyD P t = .map kt et) (hm : (evo P t env m).strip = .mapr id) (hh : h.get id = .map kt true ents) (hc : (keyOk P kt (evo P kt env q).strip && noIter id h && hasZero P et && (zeroAV P et).isData) = true)
    (hj : mpos P kt ents (evo P kt env q).strip = none) (hk : A none (.tup [zeroAV P et, .int .i64 (ents.length : Int)]) (h.set id (.map kt true (ents ++ [((evo P kt env q).strip, (zeroAV P et).strip)])))) : (match extOp P o env h with | some (s, v, some h) => A s v h | some (s, v, none) => B s v | none => C) := by
  refine st_ext ?_ hk
  have e1 : Nat.beq kt kt = true := Nat.beq_refl kt
  have e2 : keyType P t = kt := by unfold keyType; rw [ht]
  simp only [Bool.and_eq_true] at hc
  obtain ⟨⟨⟨c1, c2⟩, c3⟩, c4⟩ := hc
  unfold extOp
  simp only [ho, mapEntryAV, e2, ht, hm, hh, e1, c1, c2, c3, c4, Bool.and_self, cond_true, hj]
theorem st_estore {m q y : Operand} {kt : TypeId} {kk : IntKind} {ents : List (AV × AV)} {id : Nat} {x : AV} (ho : o.op = .entryStore t m q y) (hm : (evo P t env m).strip = .mapr id) (hq : evo P 3 env q = .int kk n) (hh : h.get id = .map kt true ents) (hn : inRange n ents.length = true) (hx : evo P (elemTypeM P t) env y = x) (hd : (x.isData && noIter id h) = true)
    (hk : A (tmpOp y) (.tup []) (h.set id (.map kt true (msetAt ents n.toNat x)))) : (match extOp P o env h with | some (s, v, some h) => A s v h | some (s, v, none) => B s v | none => C) := by
  refine st_ext ?_ hk
  simp only [Bool.and_eq_true] at hd
  unfold extOp
  simp only [ho, hm, hq, hx, entryStoreAV, hh, hn, hd.1, hd.2, Bool.and_self, cond_true]
theorem st_mapset {m q y : Operand} {kt et : TypeId} {ents : List (AV × AV)} {reg : Bool} {id j : Nat} {x : AV} (ho : o.op = .mapUpdate t m q y) (ht : tyD P t = .map kt et) (hm : (evo P t env m).strip = .mapr id) (hh : h.get id = .map kt reg ents) (hx : evo P et env y = x) (hc : (keyOk P kt (evo P kt env q).strip && x.isData && noIter id h) = true)
    (hj : mpos P kt ents (evo P kt env q).strip = some j) (hk : A (tmpOp y) (.tup []) (h.set id (.map kt reg (msetAt ents j x)))) : (match extOp P o env h with | some (s, v, some h) => A s v h | some (s, v, none) => B s v | none => C) := by
  refine st_ext ?_ hk
  have e1 : Nat.beq kt kt = true := Nat.beq_refl kt
  have e2 : keyType P t = kt := by unfold keyType; rw [ht]
  have e3 : elemTypeM P t = et := by unfold elemTypeM; rw [ht]
  simp only [Bool.and_eq_true] at hc
  obtain ⟨⟨c1, c2⟩, c3⟩ := hc
  unfold extOp
  simp only [ho, mapSetAV, e2, e3, ht, hm, hx, hh, e1, c1, c2, c3, Bool.and_self, cond_true, hj]
theorem st_mapset_no {m q y : Operand} {kt et : TypeId} {ents : List (AV × AV)} {reg : Bool} {id : Nat} {x : AV} (ho : o.op = .mapUpdate t m q y) (ht : tyD P t = .map kt et) (hm : (evo P t env m).strip = .mapr id) (hh : h.get id = .map kt reg ents) (hx : evo P et env y = x) (hc : (keyOk P kt (evo P kt env q).strip && x.isData && noIter id h) = true)
    (hj : mpos P kt ents (evo P kt env q).strip = none) (hk : A (tmpOp y) (.tup []) (h.set id (.map kt reg (ents ++ [((evo P kt env q).strip, x)])))) : (match extOp P o env h with | some (s, v, some h) => A s v h | some (s, v, none) => B s v | none => C) := by
  refine st_ext ?_ hk
  have e1 : Nat.beq kt kt = true := Nat.beq_refl kt
  have e2 : keyType P t = kt := by unfold keyType; rw [ht]
  have e3 : elemTypeM P t = et := by unfold elemTypeM; rw [ht]
  simp only [Bool.and_eq_true] at hc
  obtain ⟨⟨c1, c2⟩, c3⟩ := hc
  unfold extOp
  simp only [ho, mapSetAV, e2, e3, ht, hm, hx, hh, e1, c1, c2, c3, Bool.and_self, cond_true, hj]
end
theorem st_store_e {A : Heap → Prop} {C : Prop} {id j : Nat} {pv x : AV} (hp : pv = .eptr id sz j 0) (hh : h.get id = .arr sz len g) (hj : j < len) (hc : (!(Nat.beq x.cells.length (tySz P t)) || !(x.cells.all AV.scal)) = false) (hd : (Nat.ble (0 + x.cells.length) sz && x.isData) = true)
    (hk : A (h.set id (.arr sz len (upd g j (setElem (g j) 0 sz x.strip))))) : (match storeAV P h t pv x with | some h => A h | none => C) := by
  have e1 : Nat.beq sz sz = true := Nat.beq_refl sz
  have e2 : Nat.blt j len = true := by rw [Nat.blt_eq]; exact hj
  simp only [Bool.and_eq_true] at hd
  have : storeAV P h t pv x = some (h.set id (.arr sz len (upd g j (setElem (g j) 0 sz x.strip)))) := by
    unfold storeAV
    rw [hc, hp]
    simp only [cond_false, storeArr, hh, e1, e2, hd.1, hd.2, Bool.and_self, cond_true]
  rw [this]; exact hk
theorem st_append_uni {b y : AV} {gg : Nat → AV} {m : Nat} (hb : b = .uni (.vec sz len g)) (ht : tyD P t = .slice u) {tt : TypeId} (hs : isSliceT P tt = true) (hy : srcOf P u h y = some (m, gg)) (hc : (Nat.beq sz (tySz P u) && Nat.blt 0 sz && zeroFits P u && Nat.blt 0 (tyBy P u)) = true)
    (hr : roomOK (len + m) (tyBy P u) = true) (hk : k (.uni (.vec sz (len + m) (vapp (zeroElem P u) g len gg m)))) : (match appendAV P t tt h b y with | some v => k v | none => e) := by
  have : appendAV P t tt h b y = some (.uni (.vec sz (len + m) (vapp (zeroElem P u) g len gg m))) := by
    unfold appendAV
    simp only [hs, ht, hb, hy, hc, hr, Bool.not_true, cond_false, cond_true]
  rw [this]; exact hk
end

theorem cond_t {c : Bool} {a b : Prop} (h : c = true) (ha : a) : cond c a b := by subst h; exact ha
theorem cond_f {c : Bool} {a b : Prop} (h : c = false) (hb : b) : cond c a b := by subst h; exact hb

/-! ### entries that stand for keys -/
inductive F2 {α β : Type} (R : α → β → Prop) : List α → List β → Prop
  | nil : F2 R [] []
  | cons {a b l m} (h : R a b) (r : F2 R l m) : F2 R (a :: l) (b :: m)
section
variable {α β : Type} {R R' : α → β → Prop}
theorem F2.len {l : List α} {m : List β} (h : F2 R l m) : m.length = l.length := by
  induction h with
  | nil => rfl
  | cons _ _ ih => simp [ih]
theorem F2.at {l : List α} {m : List β} (h : F2 R l m) {j : Nat} {a : α} (hj : l[j]? = some a) : ∃ b, m[j]? = some b ∧ R a b := by
  induction h generalizing j with
  | nil => simp at hj
  | cons h _ ih =>
    cases j with
    | zero => simp at hj; subst hj; exact ⟨_, rfl, h⟩
    | succ j => exact ih hj
theorem F2.snoc {l : List α} {m : List β} (h : F2 R l m) {a : α} {b : β} (hr : R a b) : F2 R (l ++ [a]) (m ++ [b]) := by
  induction h with
  | nil => exact .cons hr .nil
  | cons h _ ih => exact .cons h ih
theorem F2.mono {l : List α} {m : List β} (h : F2 R l m) (hr : ∀ a b, a ∈ l → R a b → R' a b) : F2 R' l m := by
  induction h with
  | nil => exact .nil
  | cons h _ ih => exact .cons (hr _ _ List.mem_cons_self h) (ih fun a b ha => hr a b (List.mem_cons_of_mem _ ha))
end
theorem mval_at {z : AV} {ents : List (AV × AV)} {j : Nat} {p : AV × AV} (h : ents[j]? = some p) : mval z ents j = p.2 := by
  induction ents generalizing j with
  | nil => simp at h
  | cons q r ih =>
    cases j with
    | zero => simp at h; subst h; rfl
    | succ j => exact ih h
theorem mpos_no {P : Program} {kt : TypeId} {α : Type} {enc : α → AV} {R : α → AV × AV → Prop} (hE : ∀ a p, R a p → p.1 = enc a) (hq : ∀ a b, eqKey P kt (enc a) (enc b) = true → a = b) {l : List α} {m : List (AV × AV)} (h : F2 R l m) {a : α} (ha : a ∉ l) : mpos P kt m (enc a) = none := by
  induction h with
  | nil => rfl
  | @cons b p l m h r ih =>
    have e1 : p.1 = enc b := hE _ _ h
    have e2 : eqKey P kt (enc a) p.1 = false := by
      rw [e1, Bool.eq_false_iff]
      exact fun e => ha (hq _ _ e ▸ List.mem_cons_self)
    obtain ⟨x, y⟩ := p
    simp only [mpos]
    rw [e2, cond_false, ih fun h => ha (List.mem_cons_of_mem _ h)]
    rfl
theorem mpos_at {P : Program} {kt : TypeId} {α : Type} {enc : α → AV} {R : α → AV × AV → Prop} (hE : ∀ a p, R a p → p.1 = enc a) (hq : ∀ a b, eqKey P kt (enc a) (enc b) = true ↔ a = b) {l : List α} {m : List (AV × AV)} (h : F2 R l m) (hn : l.Nodup) {a : α} {j : Nat} (hj : l[j]? = some a) : mpos P kt m (enc a) = some j := by
  induction h generalizing j with
  | nil => simp at hj
  | @cons b p l m h r ih =>
    have e1 : p.1 = enc b := hE _ _ h
    obtain ⟨n1, n2⟩ := List.nodup_cons.1 hn
    obtain ⟨x, y⟩ := p
    simp only [mpos]
    cases j with
    | zero =>
      simp at hj; subst hj
      rw [show eqKey P kt (enc b) x = true from e1 ▸ (hq _ _).2 rfl, cond_true]
    | succ j =>
      have hj : l[j]? = some a := by simpa using hj
      have : eqKey P kt (enc a) x = false := by
        rw [show x = enc b from e1, Bool.eq_false_iff]
        exact fun e => n1 ((hq _ _).1 e ▸ List.mem_of_getElem? hj)
      rw [this, cond_false, ih n2 hj]
      rfl
theorem F2.setAt {α : Type} {R R' : α → AV × AV → Prop} {l : List α} {m : List (AV × AV)} (h : F2 R l m) (hn : l.Nodup) {j : Nat} {a : α} (hj : l[j]? = some a) {x : AV} (h1 : ∀ b p, b ≠ a → R b p → R' b p) (h2 : ∀ p, R a p → R' a (p.1, x)) : F2 R' l (msetAt m j x) := by
  induction h generalizing j with
  | nil => simp at hj
  | @cons b p l m h r ih =>
    obtain ⟨n1, n2⟩ := List.nodup_cons.1 hn
    obtain ⟨y, z⟩ := p
    cases j with
    | zero =>
      simp at hj; subst hj
      exact .cons (h2 _ h) (r.mono fun c q hc => h1 c q fun e => n1 (e ▸ hc))
    | succ j =>
      have hj : l[j]? = some a := by simpa using hj
      refine .cons (h1 _ _ (fun e => n1 (e ▸ List.mem_of_getElem? hj)) h) (ih n2 hj)
theorem msetAt_last {m : List (AV × AV)} {q x y : AV} : msetAt (m ++ [(q, x)]) m.length y = m ++ [(q, y)] := by
  induction m with
  | nil => rfl
  | cons p r ih => obtain ⟨a, b⟩ := p; simp only [List.cons_append, List.length_cons, msetAt, ih]
theorem msetAt_twice {m : List (AV × AV)} {j : Nat} {x y : AV} : msetAt (msetAt m j x) j y = msetAt m j y := by
  induction m generalizing j with
  | nil => rfl
  | cons p r ih =>
    obtain ⟨a, b⟩ := p
    cases j with
    | zero => rfl
    | succ j => simp only [msetAt, ih]
theorem msetAt_len {m : List (AV × AV)} {j : Nat} {x : AV} : (msetAt m j x).length = m.length := by
  induction m generalizing j with
  | nil => rfl
  | cons p r ih =>
    obtain ⟨a, b⟩ := p
    cases j with
    | zero => rfl
    | succ j => simp only [msetAt, List.length_cons, ih]
end Ax

/- More steps: rows that are written and lent, loops that begin elsewhere, objects that go out. -/
set_option linter.unusedVariables false
set_option linter.unusedSimpArgs false
namespace Ax
open Go Go.RowKit
section
variable {P : Program} {cx : Ctx} {calm : List Oper → Bool}
variable {o : Oper} {env : Env} {h : Heap} {k : AV → Prop} {e : Prop} {t u : TypeId} {x i : Operand} {n : Int} {len sz : Nat} {g : Nat → AV} {s : ByteArray}
theorem st_load_ef {p : Operand} {id j off : Nat} {cs : List AV} {v : AV} (ho : o.op = .load t p) (hp : evo P 0 env p = .eptr id sz j off) (hh : h.get id = .arr sz len g) (hj : j < len) (hg : g j = .agg cs) (ht : tyAgg P t = false) (hu : ((P.underlying t).isSome && Nat.beq (tySz P t) 1) = true) (hv : oneAV cs[off]? = some v) (hk : k v.strip) :
    (match evalOp P o env h with | some v => k v | none => e) := by
  refine st_some (v := v.strip) ?_ hk
  have e1 : Nat.beq sz sz = true := Nat.beq_refl sz
  have e2 : Nat.blt j len = true := by rw [Nat.blt_eq]; exact hj
  simp only [Bool.and_eq_true] at hu
  unfold evalOp
  simp only [ho, hp, loadAV, readCells, hh, e1, e2, Bool.and_self, cond_true, hg, AV.cells, partAV, ht, cond_false, hu.1, hu.2, hv, Option.map_some]
theorem st_store_off {A : Heap → Prop} {C : Prop} {id j off : Nat} {pv x : AV} (hp : pv = .eptr id sz j off) (hh : h.get id = .arr sz len g) (hj : j < len) (hc : (!(Nat.beq x.cells.length (tySz P t)) || !(x.cells.all AV.scal)) = false) (hd : (Nat.ble (off + x.cells.length) sz && x.isData) = true)
    (hk : A (h.set id (.arr sz len (upd g j (setElem (g j) off sz x.strip))))) : (match storeAV P h t pv x with | some h => A h | none => C) := by
  have e1 : Nat.beq sz sz = true := Nat.beq_refl sz
  have e2 : Nat.blt j len = true := by rw [Nat.blt_eq]; exact hj
  simp only [Bool.and_eq_true] at hd
  have : storeAV P h t pv x = some (h.set id (.arr sz len (upd g j (setElem (g j) off sz x.strip)))) := by
    unfold storeAV
    rw [hc, hp]
    simp only [cond_false, storeArr, hh, e1, e2, hd.1, hd.2, Bool.and_self, cond_true]
  rw [this]; exact hk
theorem st_slice_row {lo hi : Option Operand} {id l0 l m : Nat} (ho : o.op = .slice t x lo hi none) (hx : (evo P t env x).strip = .row id sz l0 len) (ht : tyD P t = .slice u) (hl : boundOf 0 (lo.map (evo P 3 env)) = some l) (hm : boundOf len (hi.map (evo P 3 env)) = some m) (h1 : l ≤ m) (h2 : m ≤ len)
    (hs : (Nat.beq sz (tySz P u) && Nat.blt 0 sz) = true) (hk : k (.row id sz (l0 + l) (m - l))) : (match evalOp P o env h with | some v => k v | none => e) := by
  refine st_some (v := .row id sz (l0 + l) (m - l)) ?_ hk
  have e1 : Nat.ble l m = true := Nat.ble_eq_true_of_le h1
  have e2 : Nat.ble m len = true := Nat.ble_eq_true_of_le h2
  unfold evalOp
  simp only [ho, sliceAV, hx, ht, hl, hm, hs, e1, e2, Bool.and_self, cond_true, Option.map_none]
theorem st_clear {A : Option Nat → AV → Heap → Prop} {B : Option Nat → AV → Prop} {C : Prop} {args : Array Operand} {tys : Array TypeId} {d : Operand} {id lo m n' : Nat} (ho : o.op = .call { callee := .builtin .clear, args := args, argTypes := tys }) (ha : args.toList = [d]) (hy : tys.toList = [t]) (hd : evo P t env d = .row id sz lo m) (ht : tyD P t = .slice u)
    (hh : h.get id = .arr sz n' g) (hle : lo + m ≤ n') (hc : (Nat.beq sz (tySz P u) && Nat.blt 0 sz && hasZero P u && (zeroAV P u).isData && (zeroAV P u).cells.all AV.scal && Nat.beq (zeroAV P u).cells.length sz) = true)
    (hk : A none (.tup []) (h.set id (.arr sz n' (splice g lo m fun _ => zeroElem P u)))) : (match extOp P o env h with | some (s, v, some h) => A s v h | some (s, v, none) => B s v | none => C) := by
  refine st_ext ?_ hk
  have e1 : Nat.beq sz sz = true := Nat.beq_refl sz
  have e2 : Nat.ble (lo + m) n' = true := Nat.ble_eq_true_of_le hle
  simp only [Bool.and_eq_true] at hc
  obtain ⟨⟨⟨⟨⟨c1, c2⟩, c3⟩, c4⟩, c5⟩, c6⟩ := hc
  unfold extOp
  simp only [ho, ha, hy, hd, clearAV, ht, hh, e1, e2, c1, c2, c3, c4, c5, c6, Bool.and_self, cond_true, Option.map_some]
theorem st_ghosts {A : Env → Heap → Prop} {C : Prop} {l : List Ghost} {env' : Env} {h' : Heap} (he : ghosts l env h = some (env', h')) (hk : A env' h') : (match ghosts l env h with | some (env, heap) => A env heap | none => C) := by
  rw [he]; exact hk
theorem ghost_freeze {q id lo m n' : Nat} (hq : env.get q = .row id sz lo m) (hh : h.get id = .arr sz n' g) (hle : lo + m ≤ n') : ghosts [.freeze q] env h = some (env.set q (.vec sz m (fun j => g (lo + j))), h.set id .dead) := by
  have e1 : Nat.beq sz sz = true := Nat.beq_refl sz
  have e2 : Nat.ble (lo + m) n' = true := Nat.ble_eq_true_of_le hle
  simp only [ghosts, ghost1, hq, hh, e1, e2, Bool.and_self, cond_true]
end
theorem force_by {v v' : AV} {k : AV → Prop} (h : v = v') (hk : k v') : v.force k := by rw [AV.force_eq]; exact h ▸ hk
theorem lend_row {h : Heap} {id sz n n' : Nat} {g : Nat → AV} (hh : h.get id = .arr sz n' g) (hn : n ≤ n') : lendAV h (.row id sz 0 n) = .vec sz n (fun j => g (0 + j)) := by
  unfold lendAV
  simp only [hh, Nat.beq_refl, Nat.zero_add, Nat.ble_eq_true_of_le hn, Bool.and_self, cond_true]
theorem loop_mono {P : Program} {calm : List Oper → Bool} {d : Nat} {fid : FuncId} {n : Nat} {b : Code} {st : St} (K' : Ex → St → Prop) {K : Ex → St → Prop} (h : ∀ e s, K' e s → K e s) (hl : SLoop P calm d fid n b st K') : SLoop P calm d fid n b st K :=
  ⟨loopOK_mono h hl.ok, let ⟨e, s, hs⟩ := hl.some; ⟨e, s, h e s hs⟩⟩
theorem loop_start {P : Program} {calm : List Oper → Bool} {d : Nat} {fid : FuncId} {n : Nat} {b : Code} {st st' : St} {K : Ex → St → Prop} (h : st = st') (hl : SLoop P calm d fid n b st' K) : SLoop P calm d fid n b st K := h ▸ hl
theorem give_row {X : Rec Prop} {cx : Ctx} {f : FuncId} {Q : AV → Prop} {h : Heap} {id sz n n' : Nat} {g : Nat → AV} {vs : List AV} (ho : cx.ow f = true) (hh : h.get id = .arr sz n' g) (hle : n ≤ n') (hv : AV.isDataL vs = true) (hq : Q (.tup (.uni (.wide sz n n g) :: vs))) :
    giveOut X cx f Q (.tup (.row id sz 0 n :: vs)) h := by
  unfold giveOut giveOut2
  have e : release h (.tup (.row id sz 0 n :: vs)) = .tup (.uni (.wide sz n n g) :: vs) := by
    simp only [release, release1, hh, Nat.beq_refl, Nat.ble_eq_true_of_le hle, Bool.and_self, cond_true]
  rw [ho]
  simp only [cond_true, e]
  have hd : (AV.tup (.uni (.wide sz n n g) :: vs)).isData = true := by simp only [AV.isData, AV.isDataL, hv, Bool.and_self]
  rw [hd, cond_true, AV.force_eq]
  exact hq
theorem give_row1 {X : Rec Prop} {cx : Ctx} {f : FuncId} {Q : AV → Prop} {h : Heap} {id sz n n' : Nat} {g : Nat → AV} (ho : cx.ow f = true) (hh : h.get id = .arr sz n' g) (hle : n ≤ n') (hq : Q (.uni (.wide sz n n g))) :
    giveOut X cx f Q (.row id sz 0 n) h := by
  unfold giveOut giveOut2
  have e : release h (.row id sz 0 n) = .uni (.wide sz n n g) := by
    simp only [release, release1, hh, Nat.beq_refl, Nat.ble_eq_true_of_le hle, Bool.and_self, cond_true]
  rw [ho]
  simp only [cond_true, e]
  have hd : (AV.uni (.wide sz n n g)).isData = true := rfl
  rw [hd, cond_true, AV.force_eq]
  exact hq
end Ax

/- Steps whose test hangs on a variable: the test first, then what comes of it. -/
set_option linter.unusedVariables false
set_option linter.unusedSimpArgs false
namespace Ax
open Go Go.RowKit
section
variable {P : Program}
theorem bT {b : Bool} {y n : Prop} (hb : b = true) (h1 : y) : BrP b y n := branch_true hb h1
theorem bF {b : Bool} {y n : Prop} (hb : b = false) (h1 : n) : BrP b y n := branch_false hb h1
/-- A real choice, by what is asked. -/
theorem bD {p : Prop} [Decidable p] {y n : Prop} (h1 : p → y) (h2 : ¬ p → n) : BrP (decide p) y n := ⟨fun h => h1 (of_decide_eq_true h), fun h => h2 (of_decide_eq_false h)⟩
theorem bN {p : Prop} [Decidable p] {y n : Prop} (h1 : ¬ p → y) (h2 : p → n) : BrP (!decide p) y n := ⟨fun h => h1 (by simpa using h), fun h => h2 (by simpa using h)⟩
theorem bB {b : Bool} {y n : Prop} (h1 : b = true → y) (h2 : b = false → n) : BrP b y n := ⟨h1, h2⟩
theorem iR {i : Int} {n : Nat} (h : 0 ≤ i ∧ i < n) : inRange i n = true := decide_eq_true h

theorem bDt {p : Prop} [Decidable p] {y n : Prop} (h : p) (h1 : y) : BrP (decide p) y n := bT (decide_eq_true h) h1
theorem bDf {p : Prop} [Decidable p] {y n : Prop} (h : ¬ p) (h1 : n) : BrP (decide p) y n := bF (decide_eq_false h) h1
theorem bNt {p : Prop} [Decidable p] {y n : Prop} (h : ¬ p) (h1 : y) : BrP (!decide p) y n := bT (by simp [h]) h1
theorem bNf {p : Prop} [Decidable p] {y n : Prop} (h : p) (h1 : n) : BrP (!decide p) y n := bF (by simp [h]) h1
theorem uNN (x : Int) : (!decide (IntKind.u64.wrap x < 0)) = true := by
  have : ¬ IntKind.u64.wrap x < 0 := by simp [IntKind.wrap, IntKind.signed, IntKind.bits]; omega
  simp [this]
theorem iR8 (x : Int) : inRange (IntKind.u8.wrap x) 256 = true := iR (by simp [IntKind.wrap, IntKind.signed, IntKind.bits]; omega)

def ixNeed (P : Program) (t : TypeId) (x : AV) (i : Int) : Option (Bool × AV) :=
  match tyD P t, x with
  | .slice e, .vec sz n g => bif Nat.beq sz (tySz P e) then some (inRange i n, .cptr (g i.toNat)) else none
  | .slice e, .own (.vec sz n g) => bif Nat.beq sz (tySz P e) then some (inRange i n, .cptr (g i.toNat)) else none
  | .slice e, .wide sz n _ g => bif Nat.beq sz (tySz P e) then some (inRange i n, .cptr (g i.toNat)) else none
  | .slice e, .row id sz lo n => bif Nat.beq sz (tySz P e) && Nat.blt 0 sz then some (inRange i n, .eptr id sz (lo + i.toNat) 0) else none
  | .array n e, .ptr id off => bif Nat.ble n 1 then none else bif Nat.blt 0 (tySz P e) then some (inRange i n, .ptr id (off + i.toNat * tySz P e)) else none
  | _, _ => none
theorem ixNeed_ok {t : TypeId} {x : AV} {i : Int} {c : Bool} {v : AV} (h : ixNeed P t x i = some (c, v)) (hc : c = true) : indexAddrAV P t x i = some v := by
  unfold ixNeed at h
  unfold indexAddrAV
  split at h
  · rename_i ht; rw [ht]; dsimp only
    cases hb : Nat.beq _ (tySz P _) <;> rw [hb] at h <;> simp at h ⊢
    obtain ⟨rfl, rfl⟩ := h; rw [hc]; rfl
  · rename_i ht; rw [ht]; dsimp only
    cases hb : Nat.beq _ (tySz P _) <;> rw [hb] at h <;> simp at h ⊢
    obtain ⟨rfl, rfl⟩ := h; rw [hc]; rfl
  · rename_i ht; rw [ht]; dsimp only
    cases hb : Nat.beq _ (tySz P _) <;> rw [hb] at h <;> simp at h ⊢
    obtain ⟨rfl, rfl⟩ := h; rw [hc]; rfl
  · rename_i ht; rw [ht]; dsimp only
    cases hb : Nat.beq _ (tySz P _) <;> rw [hb] at h <;> simp only [Bool.false_and, Bool.true_and, cond_false, cond_true] at h ⊢
    · cases h
    · cases hz : Nat.blt 0 _ <;> rw [hz] at h <;> simp at h ⊢
      obtain ⟨rfl, rfl⟩ := h; rw [hc]; rfl
  · rename_i ht; rw [ht]; dsimp only
    cases hb : Nat.ble _ 1 <;> rw [hb] at h <;> simp only [cond_false, cond_true] at h ⊢
    · cases hz : Nat.blt 0 (tySz P _) <;> rw [hz] at h <;> simp at h ⊢
      obtain ⟨rfl, rfl⟩ := h; rw [hc]; rfl
    · cases h
  · cases h
/-- A bound: its test, and the number. -/
def bdNeed (d : Nat) : Option AV → Option (Bool × Nat)
  | none => some (true, d)
  | some (.int _ i) => some (decide (0 ≤ i), i.toNat)
  | some _ => none
theorem bdNeed_ok {d : Nat} {x : Option AV} {c : Bool} {n : Nat} (h : bdNeed d x = some (c, n)) (hc : c = true) : boundOf d x = some n := by
  unfold bdNeed at h
  split at h
  · simp at h; obtain ⟨rfl, rfl⟩ := h; rfl
  · simp at h; obtain ⟨rfl, rfl⟩ := h; simp only [boundOf, hc, cond_true]
  · cases h
def slNeed (P : Program) (t : TypeId) (x : AV) (lo hi mx : Option AV) : Option (Bool × AV) :=
  match mx with
  | some _ => none
  | none =>
  match tyD P t, x.strip with
  | .string, .str s =>
    match bdNeed 0 lo, bdNeed s.size hi with
    | some (a, l), some (b, h) => some (a && b && (Nat.ble l h && Nat.ble h s.size), .str (s.extract l h))
    | _, _ => none
  | .slice e, .vec sz n g =>
    match bdNeed 0 lo, bdNeed n hi with
    | some (a, l), some (b, h) =>
      bif Nat.beq sz (tySz P e) && Nat.blt 0 sz then some (a && b && (Nat.ble l h && Nat.ble h n), bif x.isOwn then .wide sz (h - l) (n - l) (vsub (zeroElem P e) g l (n - l)) else .vec sz (h - l) (vsub (zeroElem P e) g l (h - l))) else none
    | _, _ => none
  | .slice e, .wide sz n m g =>
    match bdNeed 0 lo, bdNeed n hi with
    | some (a, l), some (b, h) => bif Nat.beq sz (tySz P e) && Nat.blt 0 sz then some (a && b && (Nat.ble l h && Nat.ble h m), .vec sz (h - l) (vsub (zeroElem P e) g l (h - l))) else none
    | _, _ => none
  | .slice e, .row id sz l0 n =>
    match bdNeed 0 lo, bdNeed n hi with
    | some (a, l), some (b, h) => bif Nat.beq sz (tySz P e) && Nat.blt 0 sz then some (a && b && (Nat.ble l h && Nat.ble h n), .row id sz (l0 + l) (h - l)) else none
    | _, _ => none
  | _, _ => none
theorem slNeed_ok {t : TypeId} {x : AV} {lo hi mx : Option AV} {c : Bool} {v : AV} (h : slNeed P t x lo hi mx = some (c, v)) (hc : c = true) : sliceAV P t x lo hi mx = some v := by
  unfold slNeed at h
  split at h
  · cases h
  unfold sliceAV
  split at h
  · rename_i ht hx; rw [ht, hx]; dsimp only
    split at h
    · rename_i a l b q h1 h2
      simp at h; obtain ⟨rfl, rfl⟩ := h
      simp only [Bool.and_eq_true] at hc
      rw [bdNeed_ok h1 hc.1.1, bdNeed_ok h2 hc.1.2]
      simp only [hc.2.1, hc.2.2, Bool.and_self, cond_true]
    · cases h
  · rename_i ht hx; rw [ht, hx]; dsimp only
    split at h
    · rename_i a l b q h1 h2
      cases hb : (Nat.beq _ (tySz P _) && Nat.blt 0 _) <;> rw [hb] at h <;> simp only [cond_true, cond_false] at h
      · cases h
      simp only [Option.some.injEq, Prod.mk.injEq] at h; obtain ⟨rfl, rfl⟩ := h
      simp only [Bool.and_eq_true] at hc
      rw [bdNeed_ok h1 hc.1.1, bdNeed_ok h2 hc.1.2]
      simp only [hc.2.1, hc.2.2, hb, Bool.and_self, cond_true]
    · cases h
  · rename_i ht hx; rw [ht, hx]; dsimp only
    split at h
    · rename_i a l b q h1 h2
      cases hb : (Nat.beq _ (tySz P _) && Nat.blt 0 _) <;> rw [hb] at h <;> simp only [cond_true, cond_false] at h
      · cases h
      simp only [Option.some.injEq, Prod.mk.injEq] at h; obtain ⟨rfl, rfl⟩ := h
      simp only [Bool.and_eq_true] at hc
      rw [bdNeed_ok h1 hc.1.1, bdNeed_ok h2 hc.1.2]
      simp only [hc.2.1, hc.2.2, hb, Bool.and_self, cond_true]
    · cases h
  · rename_i ht hx; rw [ht, hx]; dsimp only
    split at h
    · rename_i a l b q h1 h2
      cases hb : (Nat.beq _ (tySz P _) && Nat.blt 0 _) <;> rw [hb] at h <;> simp only [cond_true, cond_false] at h
      · cases h
      simp only [Option.some.injEq, Prod.mk.injEq] at h; obtain ⟨rfl, rfl⟩ := h
      simp only [Bool.and_eq_true] at hc
      rw [bdNeed_ok h1 hc.1.1, bdNeed_ok h2 hc.1.2]
      simp only [hc.2.1, hc.2.2, hb, Bool.and_self, cond_true]
    · cases h
  · cases h
/-- An element out of a row that is written, or a field of it. -/
def ldNeed (P : Program) (h : Heap) (t : TypeId) (p : AV) : Option (Bool × AV) :=
  match p with
  | .eptr id sz i off =>
    match h.get id with
    | .arr sz' n g =>
      bif Nat.beq sz sz' then
        match partAV P t (g i).cells off with
        | some v => some (Nat.blt i n, v.strip)
        | none => none
      else none
    | _ => none
  | _ => none
theorem ldNeed_ok {h : Heap} {t : TypeId} {p : AV} {c : Bool} {v : AV} (he : ldNeed P h t p = some (c, v)) (hc : c = true) : (loadAV P h t p).map AV.strip = some v := by
  unfold ldNeed at he
  split at he
  · rename_i id sz i off
    split at he
    · rename_i sz' n g hg
      cases hb : Nat.beq sz sz' <;> rw [hb] at he <;> simp only [cond_true, cond_false] at he
      · cases he
      split at he
      · rename_i v0 hp
        simp only [Option.some.injEq, Prod.mk.injEq] at he; obtain ⟨rfl, rfl⟩ := he
        simp only [loadAV, readCells, hg, hb, hc, Bool.and_self, cond_true, hp, Option.map_some]
      · cases he
    · cases he
  · cases he
def biNeed (P : Program) (op : BinOp) (x y : AV) : Option (Bool × AV) :=
  match x, y with
  | .int k x, .int k' y =>
    match op with
    | .quo => bif decide (k = k') then some (!decide (y = 0), .int k (k.wrap (x.tdiv y))) else none
    | .rem => bif decide (k = k') then some (!decide (y = 0), .int k (x.tmod y)) else none
    | .shl => some (!decide (y < 0), .int k (k.wrap (x * 2 ^ (min y.toNat k.bits))))
    | .shr => some (!decide (y < 0), .int k (x.fdiv (2 ^ (min y.toNat k.bits))))
    | _ => none
  | .str x, .str y =>
    match op with
    | .add => some (decide (x.size + y.size ≤ 4611686018427387904), .str (x ++ y))
    | _ => none
  | _, _ => none
theorem biNeed_ok {op : BinOp} {t : TypeId} {x y : AV} {c : Bool} {v : AV} (h : biNeed P op x y = some (c, v)) (hc : c = true) : binAV P op t x y = some v := by
  unfold biNeed at h
  split at h
  · rename_i k1 a1 k2 b1
    split at h
    · cases hk : decide (k1 = k2) <;> rw [hk] at h <;> simp only [cond_true, cond_false] at h
      · cases h
      simp only [Option.some.injEq, Prod.mk.injEq] at h; obtain ⟨rfl, rfl⟩ := h
      simp only [Bool.not_eq_true'] at hc
      simp only [binAV, hk, cond_true, intOp, hc, cond_false]
    · cases hk : decide (k1 = k2) <;> rw [hk] at h <;> simp only [cond_true, cond_false] at h
      · cases h
      simp only [Option.some.injEq, Prod.mk.injEq] at h; obtain ⟨rfl, rfl⟩ := h
      simp only [Bool.not_eq_true'] at hc
      simp only [binAV, hk, cond_true, intOp, hc, cond_false]
    · simp only [Option.some.injEq, Prod.mk.injEq] at h; obtain ⟨rfl, rfl⟩ := h
      simp only [Bool.not_eq_true'] at hc
      simp only [binAV, hc, cond_false]
    · simp only [Option.some.injEq, Prod.mk.injEq] at h; obtain ⟨rfl, rfl⟩ := h
      simp only [Bool.not_eq_true'] at hc
      simp only [binAV, hc, cond_false]
    · cases h
  · split at h
    · simp only [Option.some.injEq, Prod.mk.injEq] at h; obtain ⟨rfl, rfl⟩ := h
      simp only [binAV, strOp, hc, cond_true]
    · cases h
  · cases h
def stNeed (P : Program) (t : TypeId) (x : AV) (i : Int) : Option (Bool × AV) :=
  match tyD P t, x with
  | .string, .str s => some (inRange i s.size, wordB s i.toNat)
  | _, _ => none
def needOf (P : Program) (o : Oper) (env : Env) (h : Heap) : Option (Bool × AV) :=
  match o.op with
  | .indexAddr t x i =>
    match intNat (evo P 0 env i) with
    | some i => ixNeed P t (evo P t env x) i
    | none => none
  | .index t x i =>
    match intNat (evo P 0 env i) with
    | some i => stNeed P t (evo P t env x).strip i
    | none => none
  | .slice t x lo hi mx => slNeed P t (evo P t env x) (lo.map (evo P 3 env)) (hi.map (evo P 3 env)) (mx.map (evo P 3 env))
  | .load t p => ldNeed P h t (evo P 0 env p)
  | .binOp op t x y yt => biNeed P op (evo P t env x).strip (evo P yt env y).strip
  | _ => none
theorem needOf_ok {o : Oper} {env : Env} {h : Heap} {c : Bool} {v : AV} (he : needOf P o env h = some (c, v)) (hc : c = true) : evalOp P o env h = some v := by
  unfold needOf at he
  unfold evalOp
  split at he
  · rename_i ho; rw [ho]; dsimp only
    split at he
    · rename_i hi; rw [hi]; exact ixNeed_ok he hc
    · cases he
  · rename_i ho; rw [ho]; dsimp only
    split at he
    · rename_i hi; rw [hi]; dsimp only
      unfold stNeed at he
      split at he
      · rename_i ht hx
        simp only [Option.some.injEq, Prod.mk.injEq] at he; obtain ⟨rfl, rfl⟩ := he
        simp only [indexAV, ht, hx, hc, cond_true, Option.map_some, wordB, AV.strip]
      · cases he
    · cases he
  · rename_i ho; rw [ho]; exact slNeed_ok he hc
  · rename_i ho; rw [ho]; exact ldNeed_ok he hc
  · rename_i ho; rw [ho]; exact biNeed_ok he hc
  · cases he
theorem sN {o : Oper} {env : Env} {h : Heap} {k : AV → Prop} {e : Prop} (hk : match needOf P o env h with | some (c, v) => BrP c (k v) False | none => False) : (match evalOp P o env h with | some v => k v | none => e) := by
  split at hk
  · rename_i c v he
    cases hc : c with
    | true => rw [needOf_ok he hc]; exact hk.yes hc
    | false => exact (hk.no hc).elim
  · exact hk.elim
/-- Appends. -/
def apNeed (P : Program) (t u : TypeId) (h : Heap) (b x : AV) : Option (Bool × AV) :=
  bif !isSliceT P u then none else
  match tyD P t with
  | .slice e =>
    match b, srcOf P e h x with
    | .own (.vec sz n g), some (m, g') =>
      bif Nat.beq sz (tySz P e) && Nat.blt 0 sz && zeroFits P e && Nat.blt 0 (tyBy P e) then some (roomOK (n + m) (tyBy P e), .own (.vec sz (n + m) (vapp (zeroElem P e) g n g' m))) else none
    | .uni (.vec sz n g), some (m, g') =>
      bif Nat.beq sz (tySz P e) && Nat.blt 0 sz && zeroFits P e && Nat.blt 0 (tyBy P e) then some (roomOK (n + m) (tyBy P e), .uni (.vec sz (n + m) (vapp (zeroElem P e) g n g' m))) else none
    | _, _ => none
  | _ => none
theorem sA {t u : TypeId} {h : Heap} {b x : AV} {k : AV → Prop} {e : Prop} (hk : match apNeed P t u h b x with | some (c, v) => BrP c (k v) False | none => False) : (match appendAV P t u h b x with | some v => k v | none => e) := by
  split at hk
  · rename_i c v he
    cases hc : c with
    | false => exact (hk.no hc).elim
    | true =>
      have : appendAV P t u h b x = some v := by
        unfold apNeed at he
        unfold appendAV
        cases hu : (!isSliceT P u) <;> rw [hu] at he <;> simp only [cond_true, cond_false] at he ⊢
        · split at he
          · rename_i ht; rw [ht]; dsimp only
            split at he
            · rename_i hb hs
              rw [hs]; dsimp only
              cases hz : (Nat.beq _ (tySz P _) && Nat.blt 0 _ && zeroFits P _ && Nat.blt 0 (tyBy P _)) <;> rw [hz] at he <;> simp only [cond_true, cond_false] at he ⊢
              · cases he
              simp only [Option.some.injEq, Prod.mk.injEq] at he; obtain ⟨rfl, rfl⟩ := he
              rw [hc]; rfl
            · rename_i hb hs
              rw [hs]; dsimp only
              cases hz : (Nat.beq _ (tySz P _) && Nat.blt 0 _ && zeroFits P _ && Nat.blt 0 (tyBy P _)) <;> rw [hz] at he <;> simp only [cond_true, cond_false] at he ⊢
              · cases he
              simp only [Option.some.injEq, Prod.mk.injEq] at he; obtain ⟨rfl, rfl⟩ := he
              rw [hc]; rfl
            · cases he
          · cases he
        · cases he
      rw [this]; exact hk.yes hc
  · exact hk.elim
/-- Stores into a row. -/
def srNeed (P : Program) (h : Heap) (t : TypeId) (p v : AV) : Option (Bool × Heap) :=
  bif !(Nat.beq v.cells.length (tySz P t)) || !(v.cells.all AV.scal) then none else
  match p with
  | .eptr id sz i off =>
    match h.get id with
    | .arr sz' n g => bif Nat.beq sz sz' && Nat.ble (off + v.cells.length) sz && v.isData then some (Nat.blt i n, h.set id (.arr sz n (upd g i (setElem (g i) off sz v.strip)))) else none
    | _ => none
  | .ptr id off =>
    match h.get id with
    | .cells cs => some (Nat.ble (off + tySz P t) cs.length, h.set id (.cells (setRange cs off v.cells)))
    | _ => none
  | _ => none
theorem sS {t : TypeId} {h : Heap} {p x : AV} {A : Heap → Prop} {C : Prop} (hk : match srNeed P h t p x with | some (c, h') => BrP c (A h') False | none => False) : (match storeAV P h t p x with | some h => A h | none => C) := by
  split at hk
  · rename_i c v he
    cases hc : c with
    | false => exact (hk.no hc).elim
    | true =>
      have : storeAV P h t p x = some v := by
        unfold srNeed at he
        unfold storeAV
        cases hu : (!(Nat.beq x.cells.length (tySz P t)) || !(x.cells.all AV.scal)) <;> rw [hu] at he <;> simp only [cond_true, cond_false] at he ⊢
        · split at he
          · dsimp only
            split at he
            · rename_i hg
              unfold storeArr
              rw [hg]; dsimp only
              cases hz : (Nat.beq _ _ && Nat.ble _ _ && x.isData) <;> rw [hz] at he <;> simp only [cond_true, cond_false] at he
              · cases he
              simp only [Option.some.injEq, Prod.mk.injEq] at he; obtain ⟨rfl, rfl⟩ := he
              simp only [Bool.and_eq_true] at hz
              simp only [hz.1.1, hz.1.2, hz.2, hc, Bool.and_self, cond_true]
            · cases he
          · dsimp only
            split at he
            · rename_i hg
              rw [hg]; dsimp only
              simp only [Option.some.injEq, Prod.mk.injEq] at he; obtain ⟨rfl, rfl⟩ := he
              rw [hc]; rfl
            · cases he
          · cases he
        · cases he
      rw [this]; exact hk.yes hc
  · exact hk.elim
theorem roomL {m b : Nat} (h1 : m ≤ 1000000) (h2 : Nat.ble b 10000 = true) : roomOK m b = true := by
  have h2 : b ≤ 10000 := Nat.le_of_ble_eq_true h2
  simp only [roomOK, Bool.and_eq_true, Nat.ble_eq]
  refine ⟨?_, by omega⟩
  calc (m + (m + 768) / 4 + 512) * b ≤ 2000000 * 10000 := Nat.mul_le_mul (by omega) h2
    _ ≤ 281474976710656 := by decide
theorem nBlt {a b : Nat} (h : a < b) : Nat.blt a b = true := by rw [Nat.blt_eq]; exact h
theorem nBle {a b : Nat} (h : a ≤ b) : Nat.ble a b = true := Nat.ble_eq_true_of_le h
theorem andT {a b : Bool} (h1 : a = true) (h2 : b = true) : (a && b) = true := by rw [h1, h2]; rfl
end
end Ax

/- Needs of make and copy. -/
set_option linter.unusedVariables false
set_option linter.unusedSimpArgs false
namespace Ax
open Go Go.RowKit
section
variable {P : Program}
def mkNeed (P : Program) (o : Oper) (env : Env) : Option (Bool × AV) :=
  match o.op with
  | .makeSlice t l c =>
    match tyD P t, evo P 3 env l, evo P 3 env c with
    | .slice e, .int .i64 n, .int .i64 m =>
      bif Nat.blt 0 (tySz P e) && hasZero P e && (zeroAV P e).isData && (zeroAV P e).cells.all AV.scal && Nat.beq (zeroAV P e).cells.length (tySz P e) then
        some (decide (0 ≤ n ∧ n ≤ m ∧ m ≤ 1099511627776) && Nat.ble (m.toNat * tyBy P e) 281474976710656, .uni (.vec (tySz P e) n.toNat fun _ => zeroElem P e)) else none
    | _, _, _ => none
  | _ => none
theorem sM {o : Oper} {env : Env} {h : Heap} {A : Option Nat → AV → Heap → Prop} {B : Option Nat → AV → Prop} {C : Prop} (hk : match mkNeed P o env with | some (c, v) => BrP c (B none v) False | none => False) :
    (match extOp P o env h with | some (s, v, some h) => A s v h | some (s, v, none) => B s v | none => C) := by
  unfold mkNeed at hk
  unfold extOp
  split at hk
  · rename_i c v he
    cases hc : c with
    | false => exact (hk.no hc).elim
    | true =>
      have hb := hk.yes hc
      split at he
      · rename_i t l k ho
        rw [ho]; dsimp only
        unfold makeSliceAV
        split at he
        · rename_i e n m ht hl hk2
          rw [ht, hl, hk2]; dsimp only
          cases hr : (Nat.blt 0 (tySz P e) && hasZero P e && (zeroAV P e).isData && (zeroAV P e).cells.all AV.scal && Nat.beq (zeroAV P e).cells.length (tySz P e)) with
          | false => rw [hr] at he; cases he
          | true =>
            rw [hr] at he
            simp only [cond_true, Option.some.injEq, Prod.mk.injEq] at he
            obtain ⟨h1, h2⟩ := he
            rw [← h1] at hc
            simp only [Bool.and_eq_true] at hr hc
            obtain ⟨⟨⟨⟨r1, r2⟩, r3⟩, r4⟩, r5⟩ := hr
            rw [hc.1, hc.2, r1, r2, r3, r4, r5]
            simp only [Bool.and_self, cond_true, Option.map_some]
            rw [h2]; exact hb
        · cases he
      · cases he
  · exact hk.elim
def cpNeed (P : Program) (o : Oper) (env : Env) (h : Heap) : Option (Bool × AV × Heap) :=
  match o.op with
  | .call { callee := .builtin .copy, args, argTypes } =>
    match args.toList, argTypes.toList with
    | [d, x], [t, u] =>
      match tyD P t with
      | .slice e =>
        match evo P t env d, srcOf P e h (evo P u env x) with
        | .row id sz lo n, some (m, g') =>
          match h.get id with
          | .arr sz' n' g => bif isSliceT P u && Nat.beq sz sz' && Nat.beq sz (tySz P e) && Nat.blt 0 sz then some (Nat.ble (lo + n) n', .int .i64 ((min m n : Nat) : Int), h.set id (.arr sz n' (splice g lo (min m n) g'))) else none
          | _ => none
        | _, _ => none
      | _ => none
    | _, _ => none
  | _ => none
theorem sC {o : Oper} {env : Env} {h : Heap} {A : Option Nat → AV → Heap → Prop} {B : Option Nat → AV → Prop} {C : Prop} (hk : match cpNeed P o env h with | some (c, v, h') => BrP c (A none v h') False | none => False) :
    (match extOp P o env h with | some (s, v, some h) => A s v h | some (s, v, none) => B s v | none => C) := by
  unfold cpNeed at hk
  unfold extOp
  split at hk
  · rename_i c v h' he
    cases hc : c with
    | false => exact (hk.no hc).elim
    | true =>
      have hb := hk.yes hc
      split at he
      · rename_i args ats ho
        rw [ho]; dsimp only
        split at he
        · rename_i d x t u ha hat
          rw [ha, hat]; dsimp only
          unfold copyAV
          split at he
          · rename_i e ht
            rw [ht]; dsimp only
            split at he
            · rename_i id sz lo n m g' hd hx
              rw [hd, hx]; dsimp only
              split at he
              · rename_i sz' n' g hg
                rw [hg]; dsimp only
                cases hr : (isSliceT P u && Nat.beq sz sz' && Nat.beq sz (tySz P e) && Nat.blt 0 sz) with
                | false => rw [hr] at he; cases he
                | true =>
                  rw [hr] at he
                  simp only [cond_true, Option.some.injEq, Prod.mk.injEq] at he
                  obtain ⟨h1, h2, h3⟩ := he
                  rw [← h1] at hc
                  simp only [Bool.and_eq_true] at hr
                  obtain ⟨⟨⟨r1, r2⟩, r3⟩, r4⟩ := hr
                  rw [hc, r1, r2, r3, r4]
                  simp only [Bool.and_self, cond_true, Option.map_some]
                  rw [h2, h3]; exact hb
              · cases he
            · cases he
          · cases he
        · cases he
      · cases he
  · exact hk.elim
theorem mkOK {n m : Int} {b : Nat} (h1 : 0 ≤ n) (h2 : n ≤ m) (h3 : m ≤ 2000000000) (hb : Nat.ble b 100000 = true) : (decide (0 ≤ n ∧ n ≤ m ∧ m ≤ 1099511627776) && Nat.ble (m.toNat * b) 281474976710656) = true := by
  refine andT (decide_eq_true ⟨h1, h2, by omega⟩) (nBle ?_)
  exact Nat.le_trans (Nat.mul_le_mul (show m.toNat ≤ 2000000000 by omega) (Nat.le_of_ble_eq_true hb)) (by decide)
end
end Ax
