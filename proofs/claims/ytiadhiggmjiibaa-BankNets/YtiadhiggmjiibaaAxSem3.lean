import Derived.Test.YtiadhiggmjiibaaMM
/- More steps: rows that are written and lent, loops that begin elsewhere, objects that go out. -/
set_option linter.unusedVariables false
set_option linter.unusedSimpArgs false
namespace Ax
open Go Go.RowKit
section
variable {P : Program} {cx : Ctx} {calm : List Oper → Bool}
variable {o : Oper} {env : Env} {h : Heap} {k : AV → Prop} {e : Prop} {t u : TypeId} {x i : Operand} {n : Int} {len sz : Nat} {g : Nat → AV} {s : ByteArray}
theorem st_load_ef {p : Operand} {id j off : Nat} {cs : List AV} {v : AV} (ho : o.op = .load t p) (hp : evo P 0 env p = .eptr id sz j off) (hh : h.get id = .arr sz len g) (hj : j < len) (hg : g j = .agg cs) (ht : tyAgg P t = false) (hu : ((P.underlying t).isSome && Nat.beq (tySz P t) 1) = true) (hv : oneAV cs[off]? = some v) (hk : k v.strip) :
    (match evalOp P o env h with | some v => k v | none => e) := by
  refine st_some (v := v.strip) ?_ hk
  have e1 : Nat.beq sz sz = true := Nat.beq_refl sz
  have e2 : Nat.blt j len = true := by rw [Nat.blt_eq]; exact hj
  simp only [Bool.and_eq_true] at hu
  unfold evalOp
  simp only [ho, hp, loadAV, readCells, hh, e1, e2, Bool.and_self, cond_true, hg, AV.cells, partAV, ht, cond_false, hu.1, hu.2, hv, Option.map_some]
theorem st_store_off {A : Heap → Prop} {C : Prop} {id j off : Nat} {pv x : AV} (hp : pv = .eptr id sz j off) (hh : h.get id = .arr sz len g) (hj : j < len) (hc : (!(Nat.beq x.cells.length (tySz P t)) || !(x.cells.all AV.scal)) = false) (hd : (Nat.ble (off + x.cells.length) sz && x.isData) = true)
    (hk : A (h.set id (.arr sz len (upd g j (setElem (g j) off sz x.strip))))) : (match storeAV P h t pv x with | some h => A h | none => C) := by
  have e1 : Nat.beq sz sz = true := Nat.beq_refl sz
  have e2 : Nat.blt j len = true := by rw [Nat.blt_eq]; exact hj
  simp only [Bool.and_eq_true] at hd
  have : storeAV P h t pv x = some (h.set id (.arr sz len (upd g j (setElem (g j) off sz x.strip)))) := by
    unfold storeAV
    rw [hc, hp]
    simp only [cond_false, storeArr, hh, e1, e2, hd.1, hd.2, Bool.and_self, cond_true]
  rw [this]; exact hk
theorem st_slice_row {lo hi : Option Operand} {id l0 l m : Nat} (ho : o.op = .slice t x lo hi none) (hx : (evo P t env x).strip = .row id sz l0 len) (ht : tyD P t = .slice u) (hl : boundOf 0 (lo.map (evo P 3 env)) = some l) (hm : boundOf len (hi.map (evo P 3 env)) = some m) (h1 : l ≤ m) (h2 : m ≤ len)
    (hs : (Nat.beq sz (tySz P u) && Nat.blt 0 sz) = true) (hk : k (.row id sz (l0 + l) (m - l))) : (match evalOp P o env h with | some v => k v | none => e) := by
  refine st_some (v := .row id sz (l0 + l) (m - l)) ?_ hk
  have e1 : Nat.ble l m = true := Nat.ble_eq_true_of_le h1
  have e2 : Nat.ble m len = true := Nat.ble_eq_true_of_le h2
  unfold evalOp
  simp only [ho, sliceAV, hx, ht, hl, hm, hs, e1, e2, Bool.and_self, cond_true, Option.map_none]
theorem st_clear {A : Option Nat → AV → Heap → Prop} {B : Option Nat → AV → Prop} {C : Prop} {args : Array Operand} {tys : Array TypeId} {d : Operand} {id lo m n' : Nat} (ho : o.op = .call { callee := .builtin .clear, args := args, argTypes := tys }) (ha : args.toList = [d]) (hy : tys.toList = [t]) (hd : evo P t env d = .row id sz lo m) (ht : tyD P t = .slice u)
    (hh : h.get id = .arr sz n' g) (hle : lo + m ≤ n') (hc : (Nat.beq sz (tySz P u) && Nat.blt 0 sz && hasZero P u && (zeroAV P u).isData && (zeroAV P u).cells.all AV.scal && Nat.beq (zeroAV P u).cells.length sz) = true)
    (hk : A none (.tup []) (h.set id (.arr sz n' (splice g lo m fun _ => zeroElem P u)))) : (match extOp P o env h with | some (s, v, some h) => A s v h | some (s, v, none) => B s v | none => C) := by
  refine st_ext ?_ hk
  have e1 : Nat.beq sz sz = true := Nat.beq_refl sz
  have e2 : Nat.ble (lo + m) n' = true := Nat.ble_eq_true_of_le hle
  simp only [Bool.and_eq_true] at hc
  obtain ⟨⟨⟨⟨⟨c1, c2⟩, c3⟩, c4⟩, c5⟩, c6⟩ := hc
  unfold extOp
  simp only [ho, ha, hy, hd, clearAV, ht, hh, e1, e2, c1, c2, c3, c4, c5, c6, Bool.and_self, cond_true, Option.map_some]
theorem st_ghosts {A : Env → Heap → Prop} {C : Prop} {l : List Ghost} {env' : Env} {h' : Heap} (he : ghosts l env h = some (env', h')) (hk : A env' h') : (match ghosts l env h with | some (env, heap) => A env heap | none => C) := by
  rw [he]; exact hk
theorem ghost_freeze {q id lo m n' : Nat} (hq : env.get q = .row id sz lo m) (hh : h.get id = .arr sz n' g) (hle : lo + m ≤ n') : ghosts [.freeze q] env h = some (env.set q (.vec sz m (fun j => g (lo + j))), h.set id .dead) := by
  have e1 : Nat.beq sz sz = true := Nat.beq_refl sz
  have e2 : Nat.ble (lo + m) n' = true := Nat.ble_eq_true_of_le hle
  simp only [ghosts, ghost1, hq, hh, e1, e2, Bool.and_self, cond_true]
end
theorem force_by {v v' : AV} {k : AV → Prop} (h : v = v') (hk : k v') : v.force k := by rw [AV.force_eq]; exact h ▸ hk
theorem lend_row {h : Heap} {id sz n n' : Nat} {g : Nat → AV} (hh : h.get id = .arr sz n' g) (hn : n ≤ n') : lendAV h (.row id sz 0 n) = .vec sz n (fun j => g (0 + j)) := by
  unfold lendAV
  simp only [hh, Nat.beq_refl, Nat.zero_add, Nat.ble_eq_true_of_le hn, Bool.and_self, cond_true]
theorem loop_mono {P : Program} {calm : List Oper → Bool} {d : Nat} {fid : FuncId} {n : Nat} {b : Code} {st : St} (K' : Ex → St → Prop) {K : Ex → St → Prop} (h : ∀ e s, K' e s → K e s) (hl : SLoop P calm d fid n b st K') : SLoop P calm d fid n b st K :=
  ⟨loopOK_mono h hl.ok, let ⟨e, s, hs⟩ := hl.some; ⟨e, s, h e s hs⟩⟩
theorem loop_start {P : Program} {calm : List Oper → Bool} {d : Nat} {fid : FuncId} {n : Nat} {b : Code} {st st' : St} {K : Ex → St → Prop} (h : st = st') (hl : SLoop P calm d fid n b st' K) : SLoop P calm d fid n b st K := h ▸ hl
theorem give_row {X : Rec Prop} {cx : Ctx} {f : FuncId} {Q : AV → Prop} {h : Heap} {id sz n n' : Nat} {g : Nat → AV} {vs : List AV} (ho : cx.ow f = true) (hh : h.get id = .arr sz n' g) (hle : n ≤ n') (hv : AV.isDataL vs = true) (hq : Q (.tup (.uni (.wide sz n n g) :: vs))) :
    giveOut X cx f Q (.tup (.row id sz 0 n :: vs)) h := by
  unfold giveOut giveOut2
  have e : release h (.tup (.row id sz 0 n :: vs)) = .tup (.uni (.wide sz n n g) :: vs) := by
    simp only [release, release1, hh, Nat.beq_refl, Nat.ble_eq_true_of_le hle, Bool.and_self, cond_true]
  rw [ho]
  simp only [cond_true, e]
  have hd : (AV.tup (.uni (.wide sz n n g) :: vs)).isData = true := by simp only [AV.isData, AV.isDataL, hv, Bool.and_self]
  rw [hd, cond_true, AV.force_eq]
  exact hq
theorem give_row1 {X : Rec Prop} {cx : Ctx} {f : FuncId} {Q : AV → Prop} {h : Heap} {id sz n n' : Nat} {g : Nat → AV} (ho : cx.ow f = true) (hh : h.get id = .arr sz n' g) (hle : n ≤ n') (hq : Q (.uni (.wide sz n n g))) :
    giveOut X cx f Q (.row id sz 0 n) h := by
  unfold giveOut giveOut2
  have e : release h (.row id sz 0 n) = .uni (.wide sz n n g) := by
    simp only [release, release1, hh, Nat.beq_refl, Nat.ble_eq_true_of_le hle, Bool.and_self, cond_true]
  rw [ho]
  simp only [cond_true, e]
  have hd : (AV.uni (.wide sz n n g)).isData = true := rfl
  rw [hd, cond_true, AV.force_eq]
  exact hq
end Ax
