import Derived.Test.YtflebdkgdnfjoaaGreatML
set_option linter.unusedVariables false
set_option linter.unusedSimpArgs false
namespace Ax
open Go Go.RowKit
structure SCall (P : Program) (calm : List Oper → Bool) (f : FuncId) (a : List AV) (Q : AV → Prop) : Prop where
  ok : CallOK P f a Q
  some : ∃ r, Q r
structure SLoop (P : Program) (calm : List Oper → Bool) (d : Nat) (fid : FuncId) (n : Nat) (b : Code) (st : St) (K : Ex → St → Prop) : Prop where
  ok : LoopOK P calm fid n b st K
  some : ∃ e s, K e s
def SX (P : Program) (calm : List Oper → Bool) : Rec Prop where
  fail := False
  all := fun n k => ∀ i, i < n → k i
  call := SCall P calm
  loop := SLoop P calm
  sort := sortP
  br := BrP
theorem SX_eq (P : Program) (calm : List Oper → Bool) : SX P calm = semRec P calm := by
  unfold SX semRec
  congr
  · funext f a Q; exact propext ⟨fun h => ⟨h.1, h.2⟩, fun h => ⟨h.1, h.2⟩⟩
  · funext d fid n b st K; exact propext ⟨fun h => ⟨h.1, h.2⟩, fun h => ⟨h.1, h.2⟩⟩
section
variable {P : Program} {cx : Ctx} {calm : List Oper → Bool}
theorem okOf (hP : cx.P = P) (hC : ProgOK P calm cx.srt) {f : FuncId} {a : List AV} {Q : AV → Prop} (h : stepCall (SX P calm) cx calm f a Q) : CallOK P f a Q := by
  rw [SX_eq] at h
  exact stepCall_sound hP hC h
theorem call_by {f : FuncId} {a : List AV} {R Q : AV → Prop} (h : CallOK P f a R) (hs : ∃ r, R r) (hq : ∀ r, R r → Q r) : SCall P calm f a Q := by
  exact ⟨callOK_mono hq h, let ⟨r, hr⟩ := hs; ⟨r, hq r hr⟩⟩
theorem call_is {f : FuncId} {a : List AV} {v : AV} {Q : AV → Prop} (h : CallOK P f a (fun r => r = v)) (hq : Q v) : SCall P calm f a Q :=
  call_by h ⟨v, rfl⟩ (fun r hr => hr ▸ hq)
theorem loop_by (hP : cx.P = P) (hC : ProgOK P calm cx.srt) {d : Nat} {fid : FuncId} {n : Nat} {b : Code} {K : Ex → St → Prop} {ι : Type} (μ : ι → Nat) (S : ι → St)
    (round : ∀ i, (∀ j, μ j < μ i → SLoop P calm d fid n b (S j) K) → stepLoop (SX P calm) cx calm d fid n b (S i) K) : ∀ i, SLoop P calm d fid n b (S i) K := by
  intro i
  generalize hm : μ i = m
  induction m using Nat.strongRecOn generalizing i with
  | _ m ih =>
    have h := round i fun j hj => ih (μ j) (hm ▸ hj) j rfl
    rw [SX_eq] at h
    have := (sem_pre hP hC).loop d fid n b (S i) K h
    exact ⟨this.1, this.2⟩
variable {o : Oper} {env : Env} {h : Heap} {k : AV → Prop} {e : Prop} {t u : TypeId} {x i : Operand} {n : Int} {len sz : Nat} {g : Nat → AV} {s : ByteArray}
theorem st_some {v : AV} (he : evalOp P o env h = some v) (hk : k v) : (match evalOp P o env h with | some v => k v | none => e) := by
  rw [he]; exact hk
theorem room8 {m : Nat} (h : m ≤ 1000000) : roomOK m 8 = true := by
  simp [roomOK]; omega
theorem loop_to {d : Nat} {fid : FuncId} {n : Nat} {b : Code} {st : St} {K : Ex → St → Prop} {ι : Type} {μ : ι → Nat} {S : ι → St} {m : Nat} (ih : ∀ j, μ j < m → SLoop P calm d fid n b (S j) K) (j : ι) (hm : μ j < m) (hs : st = S j) : SLoop P calm d fid n b st K :=
  hs ▸ ih j hm
theorem wrap64 {x : Int} (h : -9223372036854775808 ≤ x ∧ x ≤ 9223372036854775807) : IntKind.i64.wrap x = x := by
  have : (Lit.int .i64 x).wf = true := by simp [Lit.wf, IntKind.min, IntKind.max, IntKind.signed, IntKind.bits]; omega
  simp [IntKind.wrap, IntKind.signed, IntKind.bits]
  omega
def Same (a a' : AV) : Prop := ∀ (w : World) (F : Nat → Prop) (U : Nat → Nat) (bl : Blocks) (v : Value), Rep w F U bl a v → Rep w F U bl a' v
theorem Same.refl (a : AV) : Same a a := fun _ _ _ _ _ h => h
theorem Same.vec {sz n : Nat} {g g' : Nat → AV} (h : ∀ i, i < n → g i = g' i) : Same (.vec sz n g) (.vec sz n g') := by
  intro w F U bl v hr
  cases hr with
  | vec hcap vals hz hs ho h1 =>
    exact .vec hcap vals hz (fun i hi => by rw [← h i hi]; exact hs i hi) ho (fun i j c hi hc => h1 i j c hi (by rw [h i hi]; exact hc))
theorem Same.wide {sz n m : Nat} {g g' : Nat → AV} (h : ∀ i, i < n → g i = g' i) : Same (.wide sz n m g) (.vec sz n g') :=
  fun w F U bl v hr => Same.vec h w F U bl v (wide_vec hr)
inductive SameL : List AV → List AV → Prop
  | nil : SameL [] []
  | cons {a a' l l'} (h : Same a a') (hl : SameL l l') : SameL (a :: l) (a' :: l')
theorem SameL.rep {l l' : List AV} (h : SameL l l') {w : World} {F : Nat → Prop} {U : Nat → Nat} {bl : Blocks} : ∀ {vs : List Value}, RepL w F U bl l vs → RepL w F U bl l' vs := by
  induction h with
  | nil => exact fun h => h
  | @cons a a' l l' h hl ih =>
    intro vs hr
    cases vs with
    | nil => exact absurd hr.1 (by simp)
    | cons v vs =>
      have h1 := hr.2 0 a v rfl rfl
      have h2 : RepL w F U bl l vs := ⟨by have := hr.1; simpa using this, fun i x y hx hy => hr.2 (i + 1) x y (by simpa using hx) (by simpa using hy)⟩
      exact .cons (h _ _ _ _ _ h1) (ih h2)
theorem ok_same {f : FuncId} {a a' : List AV} {Q : AV → Prop} (hs : SameL a a') (h : CallOK P f a' Q) : CallOK P f a Q :=
  ⟨h.1, fun w F U vs hF ha => h.2 w F U vs hF (hs.rep ha)⟩
end
end Ax

namespace Ax
open Go Go.RowKit
section
variable {P : Program} {cx : Ctx} {calm : List Oper → Bool}
variable {o : Oper} {env : Env} {h : Heap} {k : AV → Prop} {e : Prop} {t u : TypeId} {x i : Operand} {n : Int} {len sz : Nat} {g : Nat → AV} {s : ByteArray}
theorem st_bin {op : BinOp} {y : Operand} {yt : TypeId} {a b v : AV} (ho : o.op = .binOp op t x y yt) (hx : (evo P t env x).strip = a) (hy : (evo P yt env y).strip = b) (hv : binAV P op t a b = some v) (hk : k v) : (match evalOp P o env h with | some v => k v | none => e) := by
  refine st_some (v := v) ?_ hk
  unfold evalOp
  simp only [ho, hx, hy, hv]
section
variable {A : Option Nat → AV → Heap → Prop} {B : Option Nat → AV → Prop} {C : Prop}
end
end
inductive F2 {α β : Type} (R : α → β → Prop) : List α → List β → Prop
  | nil : F2 R [] []
  | cons {a b l m} (h : R a b) (r : F2 R l m) : F2 R (a :: l) (b :: m)
section
variable {α β : Type} {R R' : α → β → Prop}
theorem F2.len {l : List α} {m : List β} (h : F2 R l m) : m.length = l.length := by
  induction h with
  | nil => rfl
  | cons _ _ ih => simp [ih]
theorem F2.at {l : List α} {m : List β} (h : F2 R l m) {j : Nat} {a : α} (hj : l[j]? = some a) : ∃ b, m[j]? = some b ∧ R a b := by
  induction h generalizing j with
  | nil => simp at hj
  | cons h _ ih =>
    cases j with
    | zero => simp at hj; subst hj; exact ⟨_, rfl, h⟩
    | succ j => exact ih hj
theorem F2.mono {l : List α} {m : List β} (h : F2 R l m) (hr : ∀ a b, a ∈ l → R a b → R' a b) : F2 R' l m := by
  induction h with
  | nil => exact .nil
  | cons h _ ih => exact .cons (hr _ _ List.mem_cons_self h) (ih fun a b ha => hr a b (List.mem_cons_of_mem _ ha))
end
end Ax

namespace Ax
open Go Go.RowKit
section
variable {P : Program} {cx : Ctx} {calm : List Oper → Bool}
variable {o : Oper} {env : Env} {h : Heap} {k : AV → Prop} {e : Prop} {t u : TypeId} {x i : Operand} {n : Int} {len sz : Nat} {g : Nat → AV} {s : ByteArray}
end
theorem loop_start {P : Program} {calm : List Oper → Bool} {d : Nat} {fid : FuncId} {n : Nat} {b : Code} {st st' : St} {K : Ex → St → Prop} (h : st = st') (hl : SLoop P calm d fid n b st' K) : SLoop P calm d fid n b st K := h ▸ hl
end Ax

namespace Ax
open Go Go.RowKit
section
variable {P : Program}
theorem bT {b : Bool} {y n : Prop} (hb : b = true) (h1 : y) : BrP b y n := branch_true hb h1
theorem bF {b : Bool} {y n : Prop} (hb : b = false) (h1 : n) : BrP b y n := branch_false hb h1
theorem bD {p : Prop} [Decidable p] {y n : Prop} (h1 : p → y) (h2 : ¬ p → n) : BrP (decide p) y n := ⟨fun h => h1 (of_decide_eq_true h), fun h => h2 (of_decide_eq_false h)⟩
theorem bN {p : Prop} [Decidable p] {y n : Prop} (h1 : ¬ p → y) (h2 : p → n) : BrP (!decide p) y n := ⟨fun h => h1 (by simpa using h), fun h => h2 (by simpa using h)⟩
theorem bB {b : Bool} {y n : Prop} (h1 : b = true → y) (h2 : b = false → n) : BrP b y n := ⟨h1, h2⟩
theorem iR {i : Int} {n : Nat} (h : 0 ≤ i ∧ i < n) : inRange i n = true := decide_eq_true h
theorem bDt {p : Prop} [Decidable p] {y n : Prop} (h : p) (h1 : y) : BrP (decide p) y n := bT (decide_eq_true h) h1
theorem bDf {p : Prop} [Decidable p] {y n : Prop} (h : ¬ p) (h1 : n) : BrP (decide p) y n := bF (decide_eq_false h) h1
theorem bNt {p : Prop} [Decidable p] {y n : Prop} (h : ¬ p) (h1 : y) : BrP (!decide p) y n := bT (by simp [h]) h1
theorem bNf {p : Prop} [Decidable p] {y n : Prop} (h : p) (h1 : n) : BrP (!decide p) y n := bF (by simp [h]) h1
theorem uNN (x : Int) : (!decide (IntKind.u64.wrap x < 0)) = true := by
  have : ¬ IntKind.u64.wrap x < 0 := by simp [IntKind.wrap, IntKind.signed, IntKind.bits]; omega
  simp [this]
theorem iR8 (x : Int) : inRange (IntKind.u8.wrap x) 256 = true := iR (by simp [IntKind.wrap, IntKind.signed, IntKind.bits]; omega)
def ixNeed (P : Program) (t : TypeId) (x : AV) (i : Int) : Option (Bool × AV) :=
  match tyD P t, x with
  | .slice e, .vec sz n g => bif Nat.beq sz (tySz P e) then some (inRange i n, .cptr (g i.toNat)) else none
  | .slice e, .own (.vec sz n g) => bif Nat.beq sz (tySz P e) then some (inRange i n, .cptr (g i.toNat)) else none
  | .slice e, .wide sz n _ g => bif Nat.beq sz (tySz P e) then some (inRange i n, .cptr (g i.toNat)) else none
  | .slice e, .row id sz lo n => bif Nat.beq sz (tySz P e) && Nat.blt 0 sz then some (inRange i n, .eptr id sz (lo + i.toNat) 0) else none
  | .array n e, .ptr id off => bif Nat.ble n 1 then none else bif Nat.blt 0 (tySz P e) then some (inRange i n, .ptr id (off + i.toNat * tySz P e)) else none
  | _, _ => none
theorem ixNeed_ok {t : TypeId} {x : AV} {i : Int} {c : Bool} {v : AV} (h : ixNeed P t x i = some (c, v)) (hc : c = true) : indexAddrAV P t x i = some v := by
  unfold ixNeed at h
  unfold indexAddrAV
  split at h
  · rename_i ht; rw [ht]; dsimp only
    cases hb : Nat.beq _ (tySz P _) <;> rw [hb] at h <;> simp at h ⊢
    obtain ⟨rfl, rfl⟩ := h; rw [hc]; rfl
  · rename_i ht; rw [ht]; dsimp only
    cases hb : Nat.beq _ (tySz P _) <;> rw [hb] at h <;> simp at h ⊢
    obtain ⟨rfl, rfl⟩ := h; rw [hc]; rfl
  · rename_i ht; rw [ht]; dsimp only
    cases hb : Nat.beq _ (tySz P _) <;> rw [hb] at h <;> simp at h ⊢
    obtain ⟨rfl, rfl⟩ := h; rw [hc]; rfl
  · rename_i ht; rw [ht]; dsimp only
    cases hb : Nat.beq _ (tySz P _) <;> rw [hb] at h <;> simp only [Bool.false_and, Bool.true_and, cond_false, cond_true] at h ⊢
    · cases h
    · cases hz : Nat.blt 0 _ <;> rw [hz] at h <;> simp at h ⊢
      obtain ⟨rfl, rfl⟩ := h; rw [hc]; rfl
  · rename_i ht; rw [ht]; dsimp only
    cases hb : Nat.ble _ 1 <;> rw [hb] at h <;> simp only [cond_false, cond_true] at h ⊢
    · cases hz : Nat.blt 0 (tySz P _) <;> rw [hz] at h <;> simp at h ⊢
      obtain ⟨rfl, rfl⟩ := h; rw [hc]; rfl
    · cases h
  · cases h
def bdNeed (d : Nat) : Option AV → Option (Bool × Nat)
  | none => some (true, d)
  | some (.int _ i) => some (decide (0 ≤ i), i.toNat)
  | some _ => none
theorem bdNeed_ok {d : Nat} {x : Option AV} {c : Bool} {n : Nat} (h : bdNeed d x = some (c, n)) (hc : c = true) : boundOf d x = some n := by
  unfold bdNeed at h
  split at h
  · simp at h; obtain ⟨rfl, rfl⟩ := h; rfl
  · simp at h; obtain ⟨rfl, rfl⟩ := h; simp only [boundOf, hc, cond_true]
  · cases h
def slNeed (P : Program) (t : TypeId) (x : AV) (lo hi mx : Option AV) : Option (Bool × AV) :=
  match mx with
  | some _ => none
  | none =>
  match tyD P t, x.strip with
  | .string, .str s =>
    match bdNeed 0 lo, bdNeed s.size hi with
    | some (a, l), some (b, h) => some (a && b && (Nat.ble l h && Nat.ble h s.size), .str (s.extract l h))
    | _, _ => none
  | .slice e, .vec sz n g =>
    match bdNeed 0 lo, bdNeed n hi with
    | some (a, l), some (b, h) =>
      bif Nat.beq sz (tySz P e) && Nat.blt 0 sz then some (a && b && (Nat.ble l h && Nat.ble h n), bif x.isOwn then .wide sz (h - l) (n - l) (vsub (zeroElem P e) g l (n - l)) else .vec sz (h - l) (vsub (zeroElem P e) g l (h - l))) else none
    | _, _ => none
  | .slice e, .wide sz n m g =>
    match bdNeed 0 lo, bdNeed n hi with
    | some (a, l), some (b, h) => bif Nat.beq sz (tySz P e) && Nat.blt 0 sz then some (a && b && (Nat.ble l h && Nat.ble h m), .vec sz (h - l) (vsub (zeroElem P e) g l (h - l))) else none
    | _, _ => none
  | .slice e, .row id sz l0 n =>
    match bdNeed 0 lo, bdNeed n hi with
    | some (a, l), some (b, h) => bif Nat.beq sz (tySz P e) && Nat.blt 0 sz then some (a && b && (Nat.ble l h && Nat.ble h n), .row id sz (l0 + l) (h - l)) else none
    | _, _ => none
  | _, _ => none
theorem slNeed_ok {t : TypeId} {x : AV} {lo hi mx : Option AV} {c : Bool} {v : AV} (h : slNeed P t x lo hi mx = some (c, v)) (hc : c = true) : sliceAV P t x lo hi mx = some v := by
  unfold slNeed at h
  split at h
  · cases h
  unfold sliceAV
  split at h
  · rename_i ht hx; rw [ht, hx]; dsimp only
    split at h
    · rename_i a l b q h1 h2
      simp at h; obtain ⟨rfl, rfl⟩ := h
      simp only [Bool.and_eq_true] at hc
      rw [bdNeed_ok h1 hc.1.1, bdNeed_ok h2 hc.1.2]
      simp only [hc.2.1, hc.2.2, Bool.and_self, cond_true]
    · cases h
  · rename_i ht hx; rw [ht, hx]; dsimp only
    split at h
    · rename_i a l b q h1 h2
      cases hb : (Nat.beq _ (tySz P _) && Nat.blt 0 _) <;> rw [hb] at h <;> simp only [cond_true, cond_false] at h
      · cases h
      simp only [Option.some.injEq, Prod.mk.injEq] at h; obtain ⟨rfl, rfl⟩ := h
      simp only [Bool.and_eq_true] at hc
      rw [bdNeed_ok h1 hc.1.1, bdNeed_ok h2 hc.1.2]
      simp only [hc.2.1, hc.2.2, hb, Bool.and_self, cond_true]
    · cases h
  · rename_i ht hx; rw [ht, hx]; dsimp only
    split at h
    · rename_i a l b q h1 h2
      cases hb : (Nat.beq _ (tySz P _) && Nat.blt 0 _) <;> rw [hb] at h <;> simp only [cond_true, cond_false] at h
      · cases h
      simp only [Option.some.injEq, Prod.mk.injEq] at h; obtain ⟨rfl, rfl⟩ := h
      simp only [Bool.and_eq_true] at hc
      rw [bdNeed_ok h1 hc.1.1, bdNeed_ok h2 hc.1.2]
      simp only [hc.2.1, hc.2.2, hb, Bool.and_self, cond_true]
    · cases h
  · rename_i ht hx; rw [ht, hx]; dsimp only
    split at h
    · rename_i a l b q h1 h2
      cases hb : (Nat.beq _ (tySz P _) && Nat.blt 0 _) <;> rw [hb] at h <;> simp only [cond_true, cond_false] at h
      · cases h
      simp only [Option.some.injEq, Prod.mk.injEq] at h; obtain ⟨rfl, rfl⟩ := h
      simp only [Bool.and_eq_true] at hc
      rw [bdNeed_ok h1 hc.1.1, bdNeed_ok h2 hc.1.2]
      simp only [hc.2.1, hc.2.2, hb, Bool.and_self, cond_true]
    · cases h
  · cases h
def ldNeed (P : Program) (h : Heap) (t : TypeId) (p : AV) : Option (Bool × AV) :=
  match p with
  | .eptr id sz i off =>
    match h.get id with
    | .arr sz' n g =>
      bif Nat.beq sz sz' then
        match partAV P t (g i).cells off with
        | some v => some (Nat.blt i n, v.strip)
        | none => none
      else none
    | _ => none
  | _ => none
theorem ldNeed_ok {h : Heap} {t : TypeId} {p : AV} {c : Bool} {v : AV} (he : ldNeed P h t p = some (c, v)) (hc : c = true) : (loadAV P h t p).map AV.strip = some v := by
  unfold ldNeed at he
  split at he
  · rename_i id sz i off
    split at he
    · rename_i sz' n g hg
      cases hb : Nat.beq sz sz' <;> rw [hb] at he <;> simp only [cond_true, cond_false] at he
      · cases he
      split at he
      · rename_i v0 hp
        simp only [Option.some.injEq, Prod.mk.injEq] at he; obtain ⟨rfl, rfl⟩ := he
        simp only [loadAV, readCells, hg, hb, hc, Bool.and_self, cond_true, hp, Option.map_some]
      · cases he
    · cases he
  · cases he
def biNeed (P : Program) (op : BinOp) (x y : AV) : Option (Bool × AV) :=
  match x, y with
  | .int k x, .int k' y =>
    match op with
    | .quo => bif decide (k = k') then some (!decide (y = 0), .int k (k.wrap (x.tdiv y))) else none
    | .rem => bif decide (k = k') then some (!decide (y = 0), .int k (x.tmod y)) else none
    | .shl => some (!decide (y < 0), .int k (k.wrap (x * 2 ^ (min y.toNat k.bits))))
    | .shr => some (!decide (y < 0), .int k (x.fdiv (2 ^ (min y.toNat k.bits))))
    | _ => none
  | .str x, .str y =>
    match op with
    | .add => some (decide (x.size + y.size ≤ 4611686018427387904), .str (x ++ y))
    | _ => none
  | _, _ => none
theorem biNeed_ok {op : BinOp} {t : TypeId} {x y : AV} {c : Bool} {v : AV} (h : biNeed P op x y = some (c, v)) (hc : c = true) : binAV P op t x y = some v := by
  unfold biNeed at h
  split at h
  · rename_i k1 a1 k2 b1
    split at h
    · cases hk : decide (k1 = k2) <;> rw [hk] at h <;> simp only [cond_true, cond_false] at h
      · cases h
      simp only [Option.some.injEq, Prod.mk.injEq] at h; obtain ⟨rfl, rfl⟩ := h
      simp only [Bool.not_eq_true'] at hc
      simp only [binAV, hk, cond_true, intOp, hc, cond_false]
    · cases hk : decide (k1 = k2) <;> rw [hk] at h <;> simp only [cond_true, cond_false] at h
      · cases h
      simp only [Option.some.injEq, Prod.mk.injEq] at h; obtain ⟨rfl, rfl⟩ := h
      simp only [Bool.not_eq_true'] at hc
      simp only [binAV, hk, cond_true, intOp, hc, cond_false]
    · simp only [Option.some.injEq, Prod.mk.injEq] at h; obtain ⟨rfl, rfl⟩ := h
      simp only [Bool.not_eq_true'] at hc
      simp only [binAV, hc, cond_false]
    · simp only [Option.some.injEq, Prod.mk.injEq] at h; obtain ⟨rfl, rfl⟩ := h
      simp only [Bool.not_eq_true'] at hc
      simp only [binAV, hc, cond_false]
    · cases h
  · split at h
    · simp only [Option.some.injEq, Prod.mk.injEq] at h; obtain ⟨rfl, rfl⟩ := h
      simp only [binAV, strOp, hc, cond_true]
    · cases h
  · cases h
def stNeed (P : Program) (t : TypeId) (x : AV) (i : Int) : Option (Bool × AV) :=
  match tyD P t, x with
  | .string, .str s => some (inRange i s.size, wordB s i.toNat)
  | _, _ => none
def needOf (P : Program) (o : Oper) (env : Env) (h : Heap) : Option (Bool × AV) :=
  match o.op with
  | .indexAddr t x i =>
    match intNat (evo P 0 env i) with
    | some i => ixNeed P t (evo P t env x) i
    | none => none
  | .index t x i =>
    match intNat (evo P 0 env i) with
    | some i => stNeed P t (evo P t env x).strip i
    | none => none
  | .slice t x lo hi mx => slNeed P t (evo P t env x) (lo.map (evo P 3 env)) (hi.map (evo P 3 env)) (mx.map (evo P 3 env))
  | .load t p => ldNeed P h t (evo P 0 env p)
  | .binOp op t x y yt => biNeed P op (evo P t env x).strip (evo P yt env y).strip
  | _ => none
theorem needOf_ok {o : Oper} {env : Env} {h : Heap} {c : Bool} {v : AV} (he : needOf P o env h = some (c, v)) (hc : c = true) : evalOp P o env h = some v := by
  unfold needOf at he
  unfold evalOp
  split at he
  · rename_i ho; rw [ho]; dsimp only
    split at he
    · rename_i hi; rw [hi]; exact ixNeed_ok he hc
    · cases he
  · rename_i ho; rw [ho]; dsimp only
    split at he
    · rename_i hi; rw [hi]; dsimp only
      unfold stNeed at he
      split at he
      · rename_i ht hx
        simp only [Option.some.injEq, Prod.mk.injEq] at he; obtain ⟨rfl, rfl⟩ := he
        simp only [indexAV, ht, hx, hc, cond_true, Option.map_some, wordB, AV.strip]
      · cases he
    · cases he
  · rename_i ho; rw [ho]; exact slNeed_ok he hc
  · rename_i ho; rw [ho]; exact ldNeed_ok he hc
  · rename_i ho; rw [ho]; exact biNeed_ok he hc
  · cases he
theorem sN {o : Oper} {env : Env} {h : Heap} {k : AV → Prop} {e : Prop} (hk : match needOf P o env h with | some (c, v) => BrP c (k v) False | none => False) : (match evalOp P o env h with | some v => k v | none => e) := by
  split at hk
  · rename_i c v he
    cases hc : c with
    | true => rw [needOf_ok he hc]; exact hk.yes hc
    | false => exact (hk.no hc).elim
  · exact hk.elim
def apNeed (P : Program) (t u : TypeId) (h : Heap) (b x : AV) : Option (Bool × AV) :=
  bif !isSliceT P u then none else
  match tyD P t with
  | .slice e =>
    match b, srcOf P e h x with
    | .own (.vec sz n g), some (m, g') =>
      bif Nat.beq sz (tySz P e) && Nat.blt 0 sz && zeroFits P e && Nat.blt 0 (tyBy P e) then some (roomOK (n + m) (tyBy P e), .own (.vec sz (n + m) (vapp (zeroElem P e) g n g' m))) else none
    | .uni (.vec sz n g), some (m, g') =>
      bif Nat.beq sz (tySz P e) && Nat.blt 0 sz && zeroFits P e && Nat.blt 0 (tyBy P e) then some (roomOK (n + m) (tyBy P e), .uni (.vec sz (n + m) (vapp (zeroElem P e) g n g' m))) else none
    | _, _ => none
  | _ => none
theorem sA {t u : TypeId} {h : Heap} {b x : AV} {k : AV → Prop} {e : Prop} (hk : match apNeed P t u h b x with | some (c, v) => BrP c (k v) False | none => False) : (match appendAV P t u h b x with | some v => k v | none => e) := by
  split at hk
  · rename_i c v he
    cases hc : c with
    | false => exact (hk.no hc).elim
    | true =>
      have : appendAV P t u h b x = some v := by
        unfold apNeed at he
        unfold appendAV
        cases hu : (!isSliceT P u) <;> rw [hu] at he <;> simp only [cond_true, cond_false] at he ⊢
        · split at he
          · rename_i ht; rw [ht]; dsimp only
            split at he
            · rename_i hb hs
              rw [hs]; dsimp only
              cases hz : (Nat.beq _ (tySz P _) && Nat.blt 0 _ && zeroFits P _ && Nat.blt 0 (tyBy P _)) <;> rw [hz] at he <;> simp only [cond_true, cond_false] at he ⊢
              · cases he
              simp only [Option.some.injEq, Prod.mk.injEq] at he; obtain ⟨rfl, rfl⟩ := he
              rw [hc]; rfl
            · rename_i hb hs
              rw [hs]; dsimp only
              cases hz : (Nat.beq _ (tySz P _) && Nat.blt 0 _ && zeroFits P _ && Nat.blt 0 (tyBy P _)) <;> rw [hz] at he <;> simp only [cond_true, cond_false] at he ⊢
              · cases he
              simp only [Option.some.injEq, Prod.mk.injEq] at he; obtain ⟨rfl, rfl⟩ := he
              rw [hc]; rfl
            · cases he
          · cases he
        · cases he
      rw [this]; exact hk.yes hc
  · exact hk.elim
def srNeed (P : Program) (h : Heap) (t : TypeId) (p v : AV) : Option (Bool × Heap) :=
  bif !(Nat.beq v.cells.length (tySz P t)) || !(v.cells.all AV.scal) then none else
  match p with
  | .eptr id sz i off =>
    match h.get id with
    | .arr sz' n g => bif Nat.beq sz sz' && Nat.ble (off + v.cells.length) sz && v.isData then some (Nat.blt i n, h.set id (.arr sz n (upd g i (setElem (g i) off sz v.strip)))) else none
    | _ => none
  | .ptr id off =>
    match h.get id with
    | .cells cs => some (Nat.ble (off + tySz P t) cs.length, h.set id (.cells (setRange cs off v.cells)))
    | _ => none
  | _ => none
theorem sS {t : TypeId} {h : Heap} {p x : AV} {A : Heap → Prop} {C : Prop} (hk : match srNeed P h t p x with | some (c, h') => BrP c (A h') False | none => False) : (match storeAV P h t p x with | some h => A h | none => C) := by
  split at hk
  · rename_i c v he
    cases hc : c with
    | false => exact (hk.no hc).elim
    | true =>
      have : storeAV P h t p x = some v := by
        unfold srNeed at he
        unfold storeAV
        cases hu : (!(Nat.beq x.cells.length (tySz P t)) || !(x.cells.all AV.scal)) <;> rw [hu] at he <;> simp only [cond_true, cond_false] at he ⊢
        · split at he
          · dsimp only
            split at he
            · rename_i hg
              unfold storeArr
              rw [hg]; dsimp only
              cases hz : (Nat.beq _ _ && Nat.ble _ _ && x.isData) <;> rw [hz] at he <;> simp only [cond_true, cond_false] at he
              · cases he
              simp only [Option.some.injEq, Prod.mk.injEq] at he; obtain ⟨rfl, rfl⟩ := he
              simp only [Bool.and_eq_true] at hz
              simp only [hz.1.1, hz.1.2, hz.2, hc, Bool.and_self, cond_true]
            · cases he
          · dsimp only
            split at he
            · rename_i hg
              rw [hg]; dsimp only
              simp only [Option.some.injEq, Prod.mk.injEq] at he; obtain ⟨rfl, rfl⟩ := he
              rw [hc]; rfl
            · cases he
          · cases he
        · cases he
      rw [this]; exact hk.yes hc
  · exact hk.elim
theorem roomL {m b : Nat} (h1 : m ≤ 1000000) (h2 : Nat.ble b 10000 = true) : roomOK m b = true := by
  have h2 : b ≤ 10000 := Nat.le_of_ble_eq_true h2
  simp only [roomOK, Bool.and_eq_true, Nat.ble_eq]
  refine ⟨?_, by omega⟩
  calc (m + (m + 768) / 4 + 512) * b ≤ 2000000 * 10000 := Nat.mul_le_mul (by omega) h2
    _ ≤ 281474976710656 := by decide
theorem nBlt {a b : Nat} (h : a < b) : Nat.blt a b = true := by rw [Nat.blt_eq]; exact h
theorem nBle {a b : Nat} (h : a ≤ b) : Nat.ble a b = true := Nat.ble_eq_true_of_le h
theorem andT {a b : Bool} (h1 : a = true) (h2 : b = true) : (a && b) = true := by rw [h1, h2]; rfl
end
end Ax

namespace Ax
open Go Go.RowKit
section
variable {P : Program}
def mkNeed (P : Program) (o : Oper) (env : Env) : Option (Bool × AV) :=
  match o.op with
  | .makeSlice t l c =>
    match tyD P t, evo P 3 env l, evo P 3 env c with
    | .slice e, .int .i64 n, .int .i64 m =>
      bif Nat.blt 0 (tySz P e) && hasZero P e && (zeroAV P e).isData && (zeroAV P e).cells.all AV.scal && Nat.beq (zeroAV P e).cells.length (tySz P e) then
        some (decide (0 ≤ n ∧ n ≤ m ∧ m ≤ 1099511627776) && Nat.ble (m.toNat * tyBy P e) 281474976710656, .uni (.vec (tySz P e) n.toNat fun _ => zeroElem P e)) else none
    | _, _, _ => none
  | _ => none
theorem sM {o : Oper} {env : Env} {h : Heap} {A : Option Nat → AV → Heap → Prop} {B : Option Nat → AV → Prop} {C : Prop} (hk : match mkNeed P o env with | some (c, v) => BrP c (B none v) False | none => False) :
    (match extOp P o env h with | some (s, v, some h) => A s v h | some (s, v, none) => B s v | none => C) := by
  unfold mkNeed at hk
  unfold extOp
  split at hk
  · rename_i c v he
    cases hc : c with
    | false => exact (hk.no hc).elim
    | true =>
      have hb := hk.yes hc
      split at he
      · rename_i t l k ho
        rw [ho]; dsimp only
        unfold makeSliceAV
        split at he
        · rename_i e n m ht hl hk2
          rw [ht, hl, hk2]; dsimp only
          cases hr : (Nat.blt 0 (tySz P e) && hasZero P e && (zeroAV P e).isData && (zeroAV P e).cells.all AV.scal && Nat.beq (zeroAV P e).cells.length (tySz P e)) with
          | false => rw [hr] at he; cases he
          | true =>
            rw [hr] at he
            simp only [cond_true, Option.some.injEq, Prod.mk.injEq] at he
            obtain ⟨h1, h2⟩ := he
            rw [← h1] at hc
            simp only [Bool.and_eq_true] at hr hc
            obtain ⟨⟨⟨⟨r1, r2⟩, r3⟩, r4⟩, r5⟩ := hr
            rw [hc.1, hc.2, r1, r2, r3, r4, r5]
            simp only [Bool.and_self, cond_true, Option.map_some]
            rw [h2]; exact hb
        · cases he
      · cases he
  · exact hk.elim
def cpNeed (P : Program) (o : Oper) (env : Env) (h : Heap) : Option (Bool × AV × Heap) :=
  match o.op with
  | .call { callee := .builtin .copy, args, argTypes } =>
    match args.toList, argTypes.toList with
    | [d, x], [t, u] =>
      match tyD P t with
      | .slice e =>
        match evo P t env d, srcOf P e h (evo P u env x) with
        | .row id sz lo n, some (m, g') =>
          match h.get id with
          | .arr sz' n' g => bif isSliceT P u && Nat.beq sz sz' && Nat.beq sz (tySz P e) && Nat.blt 0 sz then some (Nat.ble (lo + n) n', .int .i64 ((min m n : Nat) : Int), h.set id (.arr sz n' (splice g lo (min m n) g'))) else none
          | _ => none
        | _, _ => none
      | _ => none
    | _, _ => none
  | _ => none
theorem sC {o : Oper} {env : Env} {h : Heap} {A : Option Nat → AV → Heap → Prop} {B : Option Nat → AV → Prop} {C : Prop} (hk : match cpNeed P o env h with | some (c, v, h') => BrP c (A none v h') False | none => False) :
    (match extOp P o env h with | some (s, v, some h) => A s v h | some (s, v, none) => B s v | none => C) := by
  unfold cpNeed at hk
  unfold extOp
  split at hk
  · rename_i c v h' he
    cases hc : c with
    | false => exact (hk.no hc).elim
    | true =>
      have hb := hk.yes hc
      split at he
      · rename_i args ats ho
        rw [ho]; dsimp only
        split at he
        · rename_i d x t u ha hat
          rw [ha, hat]; dsimp only
          unfold copyAV
          split at he
          · rename_i e ht
            rw [ht]; dsimp only
            split at he
            · rename_i id sz lo n m g' hd hx
              rw [hd, hx]; dsimp only
              split at he
              · rename_i sz' n' g hg
                rw [hg]; dsimp only
                cases hr : (isSliceT P u && Nat.beq sz sz' && Nat.beq sz (tySz P e) && Nat.blt 0 sz) with
                | false => rw [hr] at he; cases he
                | true =>
                  rw [hr] at he
                  simp only [cond_true, Option.some.injEq, Prod.mk.injEq] at he
                  obtain ⟨h1, h2, h3⟩ := he
                  rw [← h1] at hc
                  simp only [Bool.and_eq_true] at hr
                  obtain ⟨⟨⟨r1, r2⟩, r3⟩, r4⟩ := hr
                  rw [hc, r1, r2, r3, r4]
                  simp only [Bool.and_self, cond_true, Option.map_some]
                  rw [h2, h3]; exact hb
              · cases he
            · cases he
          · cases he
        · cases he
      · cases he
  · exact hk.elim
theorem mkOK {n m : Int} {b : Nat} (h1 : 0 ≤ n) (h2 : n ≤ m) (h3 : m ≤ 2000000000) (hb : Nat.ble b 100000 = true) : (decide (0 ≤ n ∧ n ≤ m ∧ m ≤ 1099511627776) && Nat.ble (m.toNat * b) 281474976710656) = true := by
  refine andT (decide_eq_true ⟨h1, h2, by omega⟩) (nBle ?_)
  exact Nat.le_trans (Nat.mul_le_mul (show m.toNat ≤ 2000000000 by omega) (Nat.le_of_ble_eq_true hb)) (by decide)
end
end Ax
