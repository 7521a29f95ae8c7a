import Derived.Test.YthjpknhibboboaaLO
set_option linter.unusedVariables false
set_option linter.unusedSimpArgs false
namespace Ax
open Go Go.RowKit
section
variable {P : Program} {cx : Ctx} {calm : List Oper → Bool}
variable {o : Oper} {env : Env} {h : Heap} {k : AV → Prop} {e : Prop} {t u : TypeId} {x i : Operand} {n : Int} {len sz : Nat} {g : Nat → AV} {s : ByteArray}
theorem st_slice_row {lo hi : Option Operand} {id l0 l m : Nat} (ho : o.op = .slice t x lo hi none) (hx : (evo P t env x).strip = .row id sz l0 len) (ht : tyD P t = .slice u) (hl : boundOf 0 (lo.map (evo P 3 env)) = some l) (hm : boundOf len (hi.map (evo P 3 env)) = some m) (h1 : l ≤ m) (h2 : m ≤ len)
    (hs : (Nat.beq sz (tySz P u) && Nat.blt 0 sz) = true) (hk : k (.row id sz (l0 + l) (m - l))) : (match evalOp P o env h with | some v => k v | none => e) := by
  refine st_some (v := .row id sz (l0 + l) (m - l)) ?_ hk
  have e1 : Nat.ble l m = true := Nat.ble_eq_true_of_le h1
  have e2 : Nat.ble m len = true := Nat.ble_eq_true_of_le h2
  unfold evalOp
  simp only [ho, sliceAV, hx, ht, hl, hm, hs, e1, e2, Bool.and_self, cond_true, Option.map_none]
theorem st_clear {A : Option Nat → AV → Heap → Prop} {B : Option Nat → AV → Prop} {C : Prop} {args : Array Operand} {tys : Array TypeId} {d : Operand} {id lo m n' : Nat} (ho : o.op = .call { callee := .builtin .clear, args := args, argTypes := tys }) (ha : args.toList = [d]) (hy : tys.toList = [t]) (hd : evo P t env d = .row id sz lo m) (ht : tyD P t = .slice u)
    (hh : h.get id = .arr sz n' g) (hle : lo + m ≤ n') (hc : (Nat.beq sz (tySz P u) && Nat.blt 0 sz && hasZero P u && (zeroAV P u).isData && (zeroAV P u).cells.all AV.scal && Nat.beq (zeroAV P u).cells.length sz) = true)
    (hk : A none (.tup []) (h.set id (.arr sz n' (splice g lo m fun _ => zeroElem P u)))) : (match extOp P o env h with | some (s, v, some h) => A s v h | some (s, v, none) => B s v | none => C) := by
  refine st_ext ?_ hk
  have e1 : Nat.beq sz sz = true := Nat.beq_refl sz
  have e2 : Nat.ble (lo + m) n' = true := Nat.ble_eq_true_of_le hle
  simp only [Bool.and_eq_true] at hc
  obtain ⟨⟨⟨⟨⟨c1, c2⟩, c3⟩, c4⟩, c5⟩, c6⟩ := hc
  unfold extOp
  simp only [ho, ha, hy, hd, clearAV, ht, hh, e1, e2, c1, c2, c3, c4, c5, c6, Bool.and_self, cond_true, Option.map_some]
theorem st_ghosts {A : Env → Heap → Prop} {C : Prop} {l : List Ghost} {env' : Env} {h' : Heap} (he : ghosts l env h = some (env', h')) (hk : A env' h') : (match ghosts l env h with | some (env, heap) => A env heap | none => C) := by
  rw [he]; exact hk
theorem ghost_freeze {q id lo m n' : Nat} (hq : env.get q = .row id sz lo m) (hh : h.get id = .arr sz n' g) (hle : lo + m ≤ n') : ghosts [.freeze q] env h = some (env.set q (.vec sz m (fun j => g (lo + j))), h.set id .dead) := by
  have e1 : Nat.beq sz sz = true := Nat.beq_refl sz
  have e2 : Nat.ble (lo + m) n' = true := Nat.ble_eq_true_of_le hle
  simp only [ghosts, ghost1, hq, hh, e1, e2, Bool.and_self, cond_true]
end
theorem force_by {v v' : AV} {k : AV → Prop} (h : v = v') (hk : k v') : v.force k := by rw [AV.force_eq]; exact h ▸ hk
theorem lend_row {h : Heap} {id sz n n' : Nat} {g : Nat → AV} (hh : h.get id = .arr sz n' g) (hn : n ≤ n') : lendAV h (.row id sz 0 n) = .vec sz n (fun j => g (0 + j)) := by
  unfold lendAV
  simp only [hh, Nat.beq_refl, Nat.zero_add, Nat.ble_eq_true_of_le hn, Bool.and_self, cond_true]
theorem loop_mono {P : Program} {calm : List Oper → Bool} {d : Nat} {fid : FuncId} {n : Nat} {b : Code} {st : St} (K' : Ex → St → Prop) {K : Ex → St → Prop} (h : ∀ e s, K' e s → K e s) (hl : SLoop P calm d fid n b st K') : SLoop P calm d fid n b st K :=
  ⟨loopOK_mono h hl.ok, let ⟨e, s, hs⟩ := hl.some; ⟨e, s, h e s hs⟩⟩
end Ax
namespace Ax
open Go
theorem loop_start {P : Program} {calm : List Oper → Bool} {d : Nat} {fid : FuncId} {n : Nat} {b : Code} {st st' : St} {K : Ex → St → Prop} (h : st = st') (hl : SLoop P calm d fid n b st' K) : SLoop P calm d fid n b st K := h ▸ hl
end Ax
namespace Go.Proofs
open Ax Go
set_option maxRecDepth 10000
def ghL (f r : Nat) : List Ghost := match f, r with
  | 15, 7 => [.fresh 9]
  | 15, 14 => [.adopt 9]
  | 15, 23 => [.freeze 6]
  | _, _ => []
def gfL (f : Nat) : List Ghost := match f with
  | 24 => [.fresh 2, .adopt 2]
  | 35 => [.freeze 4]
  | _ => []
def xfL (f r o : Nat) : Bool := match f, r, o with
  | 24, 3, 2 => true
  | _, _, _ => false
noncomputable def cxL : Ctx where
  P := Try.prog
  inl := fun f => memN f [24, 35, 45]
  keep := keepT
  keepX := keepXT
  xf := xfL
  ow := fun _ => false
  gh := ghL
  gf := gfL
  ln := fun f => memN f [30, 36, 37, 58]
  srt := srtT
theorem okL {f a Q} (h : stepCall (SX Try.prog yesCalm) cxL yesCalm f a Q) : CallOK Try.prog f a Q := okOf (cx := cxL) rfl progOK h
def gone (on : Int) (c : Cl) : Bool := decide (IntKind.i64.wrap (lack c) = 0) || decide (on ≤ c.d)
def gone0 (c : Cl) : Bool := decide (IntKind.i64.wrap (lack c) = 0)
theorem lateF (on : Int) (c : Cl) : CallOK Try.prog 36 [encC c, .cptr (.int .i64 on)] (fun r => r = .bool (gone on c)) := by
  refine okP ?_
  conv => whnf
  repeat ((first | with_reducible refine branch_true rfl ?_ | with_reducible refine branch_false rfl ?_); conv => whnf)
  refine call_is (lacks c) ?_
  conv => whnf
  repeat ((first | with_reducible refine branch_true rfl ?_ | with_reducible refine branch_false rfl ?_); conv => whnf)
  refine branch_of (fun h1 => ?_) (fun h1 => ?_)
  · have h1 : IntKind.i64.wrap (lack c) = 0 := of_decide_eq_true h1
    conv => whnf
    repeat ((first | with_reducible refine branch_true rfl ?_ | with_reducible refine branch_false rfl ?_); conv => whnf)
    simp [gone, h1]
  · have h1 : ¬ IntKind.i64.wrap (lack c) = 0 := of_decide_eq_false h1
    conv => whnf
    repeat ((first | with_reducible refine branch_true rfl ?_ | with_reducible refine branch_false rfl ?_); conv => whnf)
    simp [gone, h1]
theorem cleanF (c : Cl) : CallOK Try.prog 37 [encC c] (fun r => r = .bool (gone0 c)) := by
  refine okP ?_
  conv => whnf
  repeat ((first | with_reducible refine branch_true rfl ?_ | with_reducible refine branch_false rfl ?_); conv => whnf)
  refine call_is (lacks c) ?_
  conv => whnf
  repeat ((first | with_reducible refine branch_true rfl ?_ | with_reducible refine branch_false rfl ?_); conv => whnf)
  rfl
def IdxR (p : Cl → Bool) (l : List Cl) (r : AV) : Prop := (r = .int .i64 (-1) ∧ ∀ j, j < l.length → p (atC l j) = false) ∨ ∃ k : Nat, k < l.length ∧ r = .int .i64 k ∧ p (atC l k) = true ∧ ∀ j, j < k → p (atC l j) = false
theorem idxR_some (p : Cl → Bool) (l : List Cl) : ∃ r, IdxR p l r := by
  by_cases h : ∃ k : Nat, k < l.length ∧ p (atC l k) = true
  · obtain ⟨k, hk⟩ := h
    induction k using Nat.strongRecOn with
    | _ k ih =>
      by_cases h2 : ∃ j, j < k ∧ p (atC l j) = true
      · obtain ⟨j, h3, h4⟩ := h2
        exact ih j h3 ⟨by omega, h4⟩
      · exact ⟨_, .inr ⟨k, hk.1, rfl, hk.2, fun j hj => by
          cases h5 : p (atC l j) with
          | false => rfl
          | true => exact absurd ⟨j, hj, h5⟩ h2⟩⟩
  · exact ⟨_, .inl ⟨rfl, fun j hj => by
      cases h5 : p (atC l j) with
      | false => rfl
      | true => exact absurd ⟨j, hj, h5⟩ h⟩⟩
/-- What stands at the head of DeleteFunc's loop. -/
structure DfHd (q : Cl → Bool) (l : List Cl) where
  j : Nat
  i : Nat
  e : Nat → AV
  hj : j ≤ l.length
  hi : i = ((l.take j).filter q).length
  hij : i < j
  h1 : ∀ k, k < i → e k = encC (atC ((l.take j).filter q) k)
  h2 : ∀ k, j ≤ k → k < l.length → e k = encC (atC l k)
  h3 : ∀ k, k < l.length → ∃ c, e k = encC c
theorem dfFirst {q : Cl → Bool} {l : List Cl} {k : Nat} (hk : k < l.length) (hq : q (atC l k) = false) (hj : ∀ j, j < k → q (atC l j) = true) : (l.take (k + 1)).filter q = l.take k := by
  rw [filt_no hk hq]
  refine List.filter_eq_self.2 fun c hc => ?_
  obtain ⟨j, hj2⟩ := List.getElem?_of_mem hc
  rw [List.getElem?_take] at hj2
  split at hj2
  · rename_i hlt
    have := hj j hlt
    rw [atC, List.getD, hj2] at this
    exact this
  · cases hj2
theorem atC_take {l : List Cl} {k j : Nat} (h : j < k) : atC (l.take k) j = atC l j := by
  unfold atC
  rw [List.getD, List.getD, List.getElem?_take, if_pos h]
theorem dfKeep {q : Cl → Bool} {l : List Cl} {x : DfHd q l} (hj : x.j < l.length) (hq : q (atC l x.j) = true) : ∃ y : DfHd q l, y.j = x.j + 1 ∧ y.i = x.i + 1 ∧ y.e = upd x.e (0 + x.i) (setElem (x.e (0 + x.i)) 0 6 (encC (atC l x.j)).strip) := by
  obtain ⟨j, i, e, hj0, hi, hij, h1, h2, h3⟩ := x
  simp only at hj hq
  have hset : setElem (e (0 + i)) 0 6 (encC (atC l j)).strip = encC (atC l j) := by
    obtain ⟨c, hc⟩ := h3 (0 + i) (by omega)
    rw [hc]; rfl
  have hne : ∀ k, k ≠ i → upd e (0 + i) (encC (atC l j)) k = e k := fun k hk => by
    unfold upd
    rw [show Nat.beq k (0 + i) = false by rw [Bool.eq_false_iff, ne_eq, Nat.beq_eq]; omega, cond_false]
  have hat : upd e (0 + i) (encC (atC l j)) i = encC (atC l j) := by
    unfold upd
    rw [show Nat.beq i (0 + i) = true by rw [Nat.beq_eq]; omega, cond_true]
  refine ⟨⟨j + 1, i + 1, upd e (0 + i) (encC (atC l j)), hj, by rw [filt_yes hj hq, List.length_append, hi]; rfl, by omega, fun k hk => ?_, fun k hk1 hk2 => ?_, fun k hk => ?_⟩, rfl, rfl, by simp only [hset]⟩
  · rw [filt_yes hj hq]
    rcases Nat.lt_or_ge k i with h | h
    · rw [hne k (by omega), h1 k h, atC_left (by omega)]
    · obtain rfl : k = i := by omega
      have := atC_right (l := (l.take j).filter q) (r := [atC l j]) (i := 0)
      rw [Nat.add_zero, ← hi] at this
      rw [hat, this]; rfl
  · rw [hne k (by omega), h2 k (by omega) hk2]
  · by_cases h : k = i
    · subst h; exact ⟨_, hat⟩
    · rw [hne k h]; exact h3 k hk
theorem dfSkip {q : Cl → Bool} {l : List Cl} {x : DfHd q l} (hj : x.j < l.length) (hq : q (atC l x.j) = false) : ∃ y : DfHd q l, y.j = x.j + 1 ∧ y.i = x.i ∧ y.e = x.e := by
  obtain ⟨j, i, e, hj0, hi, hij, h1, h2, h3⟩ := x
  simp only at hj hq
  exact ⟨⟨j + 1, i, e, hj, by rw [filt_no hj hq]; exact hi, by omega, by rw [filt_no hj hq]; exact h1, fun k hk1 hk2 => h2 k (by omega) hk2, h3⟩, rfl, rfl, rfl⟩
theorem dfEnd {q : Cl → Bool} {l : List Cl} {x : DfHd q l} (hj : x.j = l.length) {m : Nat} {z : Nat → AV} : CallsAt (l.filter q) (x.i - 0) (fun k => splice x.e (0 + x.i) m z (0 + 0 + k)) := by
  obtain ⟨j, i, e, hj0, hi, hij, h1, h2, h3⟩ := x
  simp only at hj
  subst hj
  rw [List.take_length] at hi h1
  refine ⟨by simp only; omega, fun k hk => ?_⟩
  have e1 : Nat.ble (0 + i) (0 + 0 + k) = false := by rw [Bool.eq_false_iff, ne_eq, Nat.ble_eq]; omega
  simp only [splice, e1, Bool.false_and, cond_false]
  rw [show 0 + 0 + k = k by omega]
  exact h1 k (by omega)
theorem filt_gone {l : List Cl} (h : checkL l = 0) (on : Int) : l.filter (lateP on) = l.filter fun c => !gone on c := by
  refine List.filter_congr fun c hc => ?_
  have := good_at h hc
  unfold lateP gone
  rw [wrap64 (by unfold lack; omega)]
  unfold lack
  by_cases a1 : c.t < c.n <;> by_cases a2 : c.d < on <;> simp [a1, a2] <;> omega
theorem filt_gone0 {l : List Cl} (h : checkL l = 0) : l.filter cleanP = l.filter fun c => !gone0 c := by
  refine List.filter_congr fun c hc => ?_
  have := good_at h hc
  unfold cleanP gone0
  rw [wrap64 (by unfold lack; omega)]
  unfold lack
  by_cases a1 : c.t < c.n <;> simp [a1] <;> omega
end Go.Proofs

