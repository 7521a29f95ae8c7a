import Derived.Test.YtiadhiggmjiibaaMM
import Derived.Lib.Strings
import Derived.Test.YtiadhiggmjiibaaLJ
set_option linter.unusedVariables false
namespace Go.Proofs
open Ax Go
/-! The order of keys: a member's name, then a currency. -/
theorem bless : ∀ (x y : List UInt8), Op.bytesLess x y = decide (x < y)
  | [], [] => by simp [Op.bytesLess]
  | _ :: _, [] => by simp [Op.bytesLess]
  | [], _ :: _ => by simp [Op.bytesLess]
  | a :: x, b :: y => by
    rw [Op.bytesLess, bless x y]
    simp only [List.cons_lt_cons_iff]
    by_cases h1 : a < b <;> by_cases h2 : a = b <;> by_cases h3 : x < y <;> simp [h1, h2, h3]
theorem strLt_iff {x y : ByteArray} : strLt x y = true ↔ x.data.toList < y.data.toList := by
  unfold strLt; rw [bless, Lib.toList_data, Lib.toList_data, decide_eq_true_eq]
theorem data_inj {x y : ByteArray} (h : x.data.toList = y.data.toList) : x = y := by
  cases x; cases y; congr; exact Array.toList_inj.1 h
theorem strLt_irr (x : ByteArray) : strLt x x = false := by
  rw [Bool.eq_false_iff, ne_eq, strLt_iff]; exact List.lt_irrefl _
theorem strLt_tr {x y z : ByteArray} (h1 : strLt x y = true) (h2 : strLt y z = true) : strLt x z = true := by
  rw [strLt_iff] at *; exact List.lt_trans h1 h2
theorem strLt_tri {x y : ByteArray} (h1 : strLt x y = false) (h2 : x ≠ y) : strLt y x = true := by
  cases h3 : strLt y x with
  | true => rfl
  | false =>
    rw [Bool.eq_false_iff, ne_eq, strLt_iff, List.not_lt] at h1 h3
    exact absurd (data_inj (List.le_antisymm h3 h1)) h2
abbrev Key := ByteArray × Int
def cmpS (x y : ByteArray) : Int := if strLt x y = true then -1 else if x = y then 0 else 1
def cmpI (a b : Int) : Int := if a < b then -1 else if b < a then 1 else 0
def cmpK (a b : Key) : Int := if a.1 = b.1 then cmpI a.2 b.2 else cmpS a.1 b.1
theorem cmpK_lt {a b : Key} : cmpK a b < 0 ↔ strLt a.1 b.1 = true ∨ a.1 = b.1 ∧ a.2 < b.2 := by
  unfold cmpK cmpS cmpI
  by_cases h1 : a.1 = b.1
  · rw [if_pos h1]
    rw [h1, strLt_irr]
    by_cases h2 : a.2 < b.2
    · simp [h2]
    · by_cases h3 : b.2 < a.2 <;> simp [h2, h3]
  · rw [if_neg h1]
    cases h2 : strLt a.1 b.1 <;> simp [h1]
theorem ltK_irr (a : Key) : ¬ cmpK a a < 0 := by
  rw [cmpK_lt, strLt_irr]; simp
theorem ltK_tr {a b d : Key} (h1 : cmpK a b < 0) (h2 : cmpK b d < 0) : cmpK a d < 0 := by
  rw [cmpK_lt] at *
  rcases h1 with h1 | ⟨h1, h3⟩ <;> rcases h2 with h2 | ⟨h2, h4⟩
  · exact .inl (strLt_tr h1 h2)
  · exact .inl (h2 ▸ h1)
  · exact .inl (h1 ▸ h2)
  · exact .inr ⟨h1.trans h2, by omega⟩
theorem ltK_tri {a b : Key} (h1 : ¬ cmpK a b < 0) (h2 : a ≠ b) : cmpK b a < 0 := by
  rw [cmpK_lt] at *
  by_cases h : a.1 = b.1
  · refine .inr ⟨h.symm, ?_⟩
    have h3 : a.2 ≠ b.2 := fun e => h2 (Prod.ext h e)
    have h4 : ¬ a.2 < b.2 := fun e => h1 (.inr ⟨h, e⟩)
    omega
  · refine .inl (strLt_tri ?_ h)
    cases h3 : strLt a.1 b.1 with
    | false => rfl
    | true => exact absurd (.inl h3) h1
theorem ltK_ntr {a b d : Key} (h1 : ¬ cmpK a b < 0) (h2 : ¬ cmpK b d < 0) : ¬ cmpK a d < 0 := by
  by_cases e1 : a = b
  · rw [e1]; exact h2
  · by_cases e2 : b = d
    · rw [← e2]; exact h1
    · have := ltK_tr (ltK_tri h2 e2) (ltK_tri h1 e1)
      exact fun h => ltK_irr _ (ltK_tr this h)
def encK (k : Key) : AV := .agg [.str k.1, .int .i64 k.2]
def decK : AV → Key
  | .agg [.str m, .int _ c] => (m, c)
  | _ => (ByteArray.empty, 0)
theorem decK_enc (k : Key) : decK (encK k) = k := rfl
def cAV (a b : AV) : Int := cmpK (decK a) (decK b)
theorem swoK : Swo cAV := ⟨fun a => ltK_irr _, fun a b d h1 h2 => ltK_tr h1 h2, fun a b d h1 h2 => ltK_ntr h1 h2⟩
/-- Rising keys, each once. -/
abbrev RiseK (l : List Key) : Prop := l.Pairwise fun a b => cmpK a b < 0
theorem rise_eq {l l' : List Key} (h : RiseK l) (h' : RiseK l') (hp : l.Perm l') : l = l' :=
  List.Perm.eq_of_pairwise (fun a b _ _ h1 h2 => absurd (ltK_tr h1 h2) (ltK_irr _)) h h' hp
/-- Whatever a sort of distinct keys gives is the one rising order of them. -/
theorem sorted_eq {ks l : List Key} {l' : List AV} (hr : RiseK ks) (hk : ks.Perm l) (hp : l'.Perm (l.map encK)) (hs : l'.Pairwise fun a b => ¬ cAV b a < 0) : l' = ks.map encK := by
  have e1 : ∀ a ∈ l', encK (decK a) = a := fun a ha => by
    obtain ⟨k, _, rfl⟩ := List.mem_map.1 (hp.mem_iff.1 ha); rfl
  have e2 : (l'.map decK).map encK = l' := by
    rw [List.map_map]
    calc l'.map (encK ∘ decK) = l'.map id := List.map_congr_left e1
      _ = l' := List.map_id _
  have e3 : (l'.map decK).Perm l := by
    have := hp.map decK
    rw [List.map_map, show decK ∘ encK = id from funext decK_enc, List.map_id] at this
    exact this
  have nd : (l'.map decK).Nodup := (e3.trans hk.symm).nodup_iff.2 (hr.imp fun h e => by subst e; exact ltK_irr _ h)
  have rs : RiseK (l'.map decK) := by
    have h1 : (l'.map decK).Pairwise fun a b => ¬ cmpK b a < 0 := List.pairwise_map.2 hs
    refine (h1.and nd).imp ?_
    rintro a b ⟨h2, h3⟩
    exact ltK_tri h2 (Ne.symm h3)
  rw [← e2, rise_eq rs hr (e3.trans hk.symm)]
theorem exists_rise (l : List Key) (hn : l.Nodup) : ∃ ks, RiseK ks ∧ ks.Perm l := by
  induction l with
  | nil => exact ⟨[], List.Pairwise.nil, .refl _⟩
  | cons k l ih =>
    obtain ⟨ks, h1, h2⟩ := ih (List.nodup_cons.1 hn).2
    have hk : k ∉ ks := fun h => (List.nodup_cons.1 hn).1 (h2.mem_iff.1 h)
    have ins : ∀ ks : List Key, RiseK ks → k ∉ ks → ∃ t, RiseK t ∧ t.Perm (k :: ks) := by
      intro ks
      induction ks with
      | nil => exact fun _ _ => ⟨[k], List.pairwise_singleton _ _, .refl _⟩
      | cons a r ihr =>
        intro hr hk
        have hka : k ≠ a := fun e => hk (e ▸ List.mem_cons_self)
        by_cases h : cmpK k a < 0
        · refine ⟨k :: a :: r, List.pairwise_cons.2 ⟨fun b hb => ?_, hr⟩, .refl _⟩
          rcases List.mem_cons.1 hb with rfl | hb
          · exact h
          · exact ltK_tr h ((List.pairwise_cons.1 hr).1 b hb)
        · obtain ⟨t, ht, hp⟩ := ihr (List.pairwise_cons.1 hr).2 (fun h => hk (List.mem_cons_of_mem _ h))
          refine ⟨a :: t, List.pairwise_cons.2 ⟨fun b hb => ?_, ht⟩, ?_⟩
          · rcases List.mem_cons.1 (hp.mem_iff.1 hb) with rfl | hb
            · exact ltK_tri h hka
            · exact (List.pairwise_cons.1 hr).1 b hb
          · exact (List.Perm.cons a hp).trans (List.Perm.swap _ _ _)
    obtain ⟨t, ht, hp⟩ := ins ks h1 hk
    exact ⟨t, ht, hp.trans (List.Perm.cons _ h2)⟩
end Go.Proofs


set_option linter.unusedVariables false
namespace Go.Proofs
open Ax Go
def keepT (f r : Nat) : Option (List Nat) := match f, r with
  | 30, 4 => some [0, 18, 19]
  | 51, 2 => some [0, 3]
  | 34, 3 => some [0, 4, 5, 9, 10]
  | 38, 3 => some [0, 4, 5, 6]
  | 11, 5 => some [3, 9, 10, 11]
  | 12, 5 => some [0, 3, 4]
  | 13, 4 => some [0, 1, 5]
  | 15, 8 => some [1, 7, 8, 22, 23, 24]
  | 22, 9 => some [0, 1, 8, 9, 10]
  | 23, 2 => some [1, 4, 7, 8, 9]
  | 24, 3 => some [0, 1, 5, 6]
  | _, _ => none
def keepXT (f r : Nat) : Option (List Nat) := match f, r with
  | 30, 4 => some [0, 2]
  | 51, 2 => some [0, 2]
  | 34, 3 => some [2, 3, 4, 5]
  | 38, 3 => some [2, 3, 4, 5]
  | 11, 5 => some [2]
  | 12, 5 => some [2]
  | 13, 4 => some [4]
  | 15, 8 => some [7, 8]
  | 22, 9 => some [8, 9]
  | 23, 2 => some [4]
  | 24, 3 => some [5]
  | _, _ => none
def xfP (f r o : Nat) : Bool := match f, r, o with
  | 27, 3, 2 => true
  | 23, 7, 0 => true
  | _, _, _ => false
def ghP (f r : Nat) : List Ghost := match f, r with
  | 23, 1 => [.fresh 4]
  | _, _ => []
def gfP (f : Nat) : List Ghost := match f with
  | 27 => [.fresh 2]
  | _ => []
noncomputable def cxP : Ctx where
  P := Try.prog
  inl := fun _ => false
  keep := keepT
  keepX := keepXT
  xf := xfP
  ow := fun f => memN f [23, 27]
  gh := ghP
  gf := gfP
  ln := fun _ => false
  srt := srtT
theorem okP {f a Q} (h : stepCall (SX Try.prog calmT) cxP calmT f a Q) : CallOK Try.prog f a Q := okOf (cx := cxP) rfl progOK h
set_option maxRecDepth 10000
end Go.Proofs


namespace Go.Proofs
open Ax Go
set_option maxRecDepth 10000
theorem letter (c : Int) : CallOK Try.prog 49 [.int .u8 c] (fun r => r = .bool (decide (97 ≤ c) && decide (c ≤ 122))) := by
  refine okP ?_
  conv => whnf
  repeat ((first | with_reducible refine branch_true rfl ?_ | with_reducible refine branch_false rfl ?_); conv => whnf)
  refine branch_of (fun h => ?_) (fun h => ?_)
  · conv => whnf
    repeat ((first | with_reducible refine branch_true rfl ?_ | with_reducible refine branch_false rfl ?_); conv => whnf)
    simp [h]
  · conv => whnf
    repeat ((first | with_reducible refine branch_true rfl ?_ | with_reducible refine branch_false rfl ?_); conv => whnf)
    simp [h]
theorem digit (c : Int) : CallOK Try.prog 50 [.int .u8 c] (fun r => r = .bool (decide (48 ≤ c) && decide (c ≤ 57))) := by
  refine okP ?_
  conv => whnf
  repeat ((first | with_reducible refine branch_true rfl ?_ | with_reducible refine branch_false rfl ?_); conv => whnf)
  refine branch_of (fun h => ?_) (fun h => ?_)
  · conv => whnf
    repeat ((first | with_reducible refine branch_true rfl ?_ | with_reducible refine branch_false rfl ?_); conv => whnf)
    simp [h]
  · conv => whnf
    repeat ((first | with_reducible refine branch_true rfl ?_ | with_reducible refine branch_false rfl ?_); conv => whnf)
    simp [h]
theorem fits (n : Int) : CallOK Try.prog 31 [.int .i64 n] (fun r => r = .bool (decide (-1152921504606846976 ≤ n) && decide (n ≤ 1152921504606846976))) := by
  refine okP ?_
  conv => whnf
  repeat ((first | with_reducible refine branch_true rfl ?_ | with_reducible refine branch_false rfl ?_); conv => whnf)
  refine branch_of (fun h => ?_) (fun h => ?_)
  · conv => whnf
    repeat ((first | with_reducible refine branch_true rfl ?_ | with_reducible refine branch_false rfl ?_); conv => whnf)
    simp [h]
  · conv => whnf
    repeat ((first | with_reducible refine branch_true rfl ?_ | with_reducible refine branch_false rfl ?_); conv => whnf)
    simp [h]
def fitsI (n : Int) : Bool := decide (-1152921504606846976 ≤ n) && decide (n ≤ 1152921504606846976)
theorem fitting (n : Int) : CallOK Try.prog 53 [.int .i64 n] (fun r => r = bif fitsI n then .tup [.int .i64 n, .int .i64 0] else .tup [.int .i64 0, .int .i64 3]) := by
  refine okP ?_
  conv => whnf
  repeat ((first | with_reducible refine branch_true rfl ?_ | with_reducible refine branch_false rfl ?_); conv => whnf)
  refine call_is (v := .bool (fitsI n)) (fits n) ?_
  conv => whnf
  repeat ((first | with_reducible refine branch_true rfl ?_ | with_reducible refine branch_false rfl ?_); conv => whnf)
  refine branch_of (fun h => ?_) (fun h => ?_)
  · conv => whnf
    repeat ((first | with_reducible refine branch_true rfl ?_ | with_reducible refine branch_false rfl ?_); conv => whnf)
    simp_all
  · conv => whnf
    repeat ((first | with_reducible refine branch_true rfl ?_ | with_reducible refine branch_false rfl ?_); conv => whnf)
    simp_all
def isLow (c : Int) : Bool := decide (97 ≤ c) && decide (c ≤ 122)
def isDig (c : Int) : Bool := decide (48 ≤ c) && decide (c ≤ 57)
def byteAt (s : ByteArray) (i : Nat) : Int := ((s.data.getD i 0).toNat : Int)
def nameOK (s : ByteArray) : Bool := !(decide (s = ByteArray.empty)) && decide (s.size ≤ 12) && isLow (byteAt s 0) && (List.range s.size).all fun i => isLow (byteAt s i) || isDig (byteAt s i)
theorem name (s : ByteArray) : CallOK Try.prog 30 [.str s] (fun r => r = .bool (nameOK s)) := by
  have hbad : nameOK s = false → AV.bool false = AV.bool (nameOK s) := fun h => by rw [h]
  refine okP ?_
  conv => whnf
  repeat ((first | with_reducible refine branch_true rfl ?_ | with_reducible refine branch_false rfl ?_); conv => whnf)
  refine branch_of (fun h1 => ?_) (fun h1 => ?_)
  · conv => whnf
    repeat ((first | with_reducible refine branch_true rfl ?_ | with_reducible refine branch_false rfl ?_); conv => whnf)
    refine hbad ?_
    have h1 : s = ByteArray.empty := of_decide_eq_true h1
    subst h1; rfl
  · have h1 : s ≠ ByteArray.empty := of_decide_eq_false h1
    conv => whnf
    repeat ((first | with_reducible refine branch_true rfl ?_ | with_reducible refine branch_false rfl ?_); conv => whnf)
    refine branch_of (fun h2 => ?_) (fun h2 => ?_)
    · conv => whnf
      repeat ((first | with_reducible refine branch_true rfl ?_ | with_reducible refine branch_false rfl ?_); conv => whnf)
      refine hbad ?_
      have h2 : 12 < s.size := by simp at h2; omega
      simp [nameOK, show ¬ s.size ≤ 12 by omega]
    · conv => whnf
      repeat ((first | with_reducible refine branch_true rfl ?_ | with_reducible refine branch_false rfl ?_); conv => whnf)
      have h2 : s.size ≤ 12 := by simp at h2; omega
      have h0 : 0 < s.size := by
        rcases Nat.eq_zero_or_pos s.size with h | h
        · refine absurd ?_ h1
          cases s with | mk d => simp [ByteArray.size] at h; subst h; rfl
        · exact h
      refine st_index (s := s) (n := 0) rfl rfl rfl rfl (by simp [inRange, h0]) ?_
      conv => whnf
      repeat ((first | with_reducible refine branch_true rfl ?_ | with_reducible refine branch_false rfl ?_); conv => whnf)
      refine call_is (v := .bool (isLow (byteAt s 0))) (letter _) ?_
      conv => whnf
      repeat ((first | with_reducible refine branch_true rfl ?_ | with_reducible refine branch_false rfl ?_); conv => whnf)
      refine branch_of (fun h3 => ?_) (fun h3 => ?_)
      · conv => whnf
        repeat ((first | with_reducible refine branch_true rfl ?_ | with_reducible refine branch_false rfl ?_); conv => whnf)
        refine hbad ?_
        have h3 : isLow (byteAt s 0) = false := by simpa using h3
        simp [nameOK, h3]
      · have h3 : isLow (byteAt s 0) = true := by simpa using h3
        conv => whnf
        repeat ((first | with_reducible refine branch_true rfl ?_ | with_reducible refine branch_false rfl ?_); conv => whnf)
        refine loop_by (cx := cxP) rfl progOK (ι := {i : Nat // i ≤ s.size ∧ ∀ j, j < i → (isLow (byteAt s j) || isDig (byteAt s j)) = true}) (fun i => s.size - i.1) (fun i => ⟨[(0, .str s), (18, .int .i64 s.size), (19, .int .i64 i.1)], [], [], none⟩) ?_ ⟨0, Nat.zero_le _, fun j hj => absurd hj (by omega)⟩
        rintro ⟨i, hi, hj⟩ ih
        conv => whnf
        repeat ((first | with_reducible refine branch_true rfl ?_ | with_reducible refine branch_false rfl ?_); conv => whnf)
        refine branch_of (fun g1 => ?_) (fun g1 => ?_)
        · conv => whnf
          repeat ((first | with_reducible refine branch_true rfl ?_ | with_reducible refine branch_false rfl ?_); conv => whnf)
          have g2 : i < s.size := by simpa using g1
          have next : (isLow (byteAt s i) || isDig (byteAt s i)) = true → ∀ j, j < i + 1 → (isLow (byteAt s j) || isDig (byteAt s j)) = true := fun h j hj' => by
            rcases Nat.lt_or_ge j i with h' | h'
            · exact hj j h'
            · rw [show j = i by omega]; exact h
          have hw : IntKind.i64.wrap ((i : Int) + 1) = ((i + 1 : Nat) : Int) := by rw [wrap64 (by omega)]; omega
          refine st_index (s := s) (n := i) rfl rfl rfl rfl (in_range g2) ?_
          conv => whnf
          repeat ((first | with_reducible refine branch_true rfl ?_ | with_reducible refine branch_false rfl ?_); conv => whnf)
          refine call_is (v := .bool (isLow (byteAt s i))) (letter _) ?_
          conv => whnf
          repeat ((first | with_reducible refine branch_true rfl ?_ | with_reducible refine branch_false rfl ?_); conv => whnf)
          refine branch_of (fun g3 => ?_) (fun g3 => ?_)
          · have g3 : isLow (byteAt s i) = false := by simpa using g3
            conv => whnf
            repeat ((first | with_reducible refine branch_true rfl ?_ | with_reducible refine branch_false rfl ?_); conv => whnf)
            refine st_index (s := s) (n := i) rfl rfl rfl rfl (in_range g2) ?_
            conv => whnf
            repeat ((first | with_reducible refine branch_true rfl ?_ | with_reducible refine branch_false rfl ?_); conv => whnf)
            refine call_is (v := .bool (isDig (byteAt s i))) (digit _) ?_
            conv => whnf
            repeat ((first | with_reducible refine branch_true rfl ?_ | with_reducible refine branch_false rfl ?_); conv => whnf)
            refine branch_of (fun g4 => ?_) (fun g4 => ?_)
            · have g4 : isDig (byteAt s i) = false := by simpa using g4
              conv => whnf
              repeat ((first | with_reducible refine branch_true rfl ?_ | with_reducible refine branch_false rfl ?_); conv => whnf)
              refine hbad ?_
              have : ((List.range s.size).all fun i => isLow (byteAt s i) || isDig (byteAt s i)) = false := by
                rw [List.all_eq_false]; exact ⟨i, List.mem_range.2 g2, by simp [g3, g4]⟩
              simp [nameOK, this]
            · have g4 : isDig (byteAt s i) = true := by simpa using g4
              conv => whnf
              repeat ((first | with_reducible refine branch_true rfl ?_ | with_reducible refine branch_false rfl ?_); conv => whnf)
              refine loop_to ih ⟨i + 1, g2, next (by rw [g4, Bool.or_true])⟩ (show s.size - (i + 1) < s.size - i by omega) ?_
              simp only [hw]
          · have g3 : isLow (byteAt s i) = true := by simpa using g3
            conv => whnf
            repeat ((first | with_reducible refine branch_true rfl ?_ | with_reducible refine branch_false rfl ?_); conv => whnf)
            refine loop_to ih ⟨i + 1, g2, next (by rw [g3, Bool.true_or])⟩ (show s.size - (i + 1) < s.size - i by omega) ?_
            simp only [hw]
        · conv => whnf
          repeat ((first | with_reducible refine branch_true rfl ?_ | with_reducible refine branch_false rfl ?_); conv => whnf)
          have g2 : s.size ≤ i := by simpa using g1
          have : ((List.range s.size).all fun i => isLow (byteAt s i) || isDig (byteAt s i)) = true := by
            rw [List.all_eq_true]; exact fun j hj' => hj j (by have := List.mem_range.1 hj'; omega)
          have h1' : decide (s = ByteArray.empty) = false := decide_eq_false h1
          simp only [nameOK, h1', h3, this, decide_eq_true h2, Bool.not_false, Bool.and_self]
end Go.Proofs


namespace Go.Proofs
open Ax Go
theorem mask32 (x : Int) : IntKind.i64.wrap ((BitVec.ofInt 64 x &&& BitVec.ofInt 64 4294967295).toNat : Int) = x % 4294967296 := by
  have e : (BitVec.ofInt 64 x &&& BitVec.ofInt 64 4294967295).toNat = (x % 18446744073709551616).toNat % 4294967296 := by
    rw [BitVec.toNat_and, BitVec.toNat_ofInt, BitVec.toNat_ofInt]
    exact Nat.and_two_pow_sub_one_eq_mod _ 32
  rw [e]
  have h : 0 ≤ x % 18446744073709551616 := Int.emod_nonneg _ (by decide)
  simp [IntKind.wrap, IntKind.signed, IntKind.bits]
  omega
def sumZ (z : Nat → Int) : Nat → Int
  | 0 => 0
  | n + 1 => sumZ z n + z n
def highF (z : Nat → Int) : Nat → Int
  | 0 => 0
  | n + 1 => highF z n + z n / 4294967296
def lowF (z : Nat → Int) : Nat → Int
  | 0 => 0
  | n + 1 => lowF z n + z n % 4294967296
theorem parts (z : Nat → Int) (n : Nat) : sumZ z n = highF z n * 4294967296 + lowF z n := by
  induction n with
  | zero => rfl
  | succ n ih => simp only [sumZ, highF, lowF]; omega
theorem highF_b (z : Nat → Int) (n : Nat) (h : ∀ i, i < n → -1152921504606846976 ≤ z i ∧ z i ≤ 1152921504606846976) : -268435456 * (n : Int) ≤ highF z n ∧ highF z n ≤ 268435456 * (n : Int) := by
  induction n with
  | zero => simp [highF]
  | succ n ih =>
    have h1 := ih fun i hi => h i (by omega)
    have h2 := h n (by omega)
    simp only [highF]
    omega
theorem lowF_b (z : Nat → Int) (n : Nat) : 0 ≤ lowF z n ∧ lowF z n ≤ 4294967295 * (n : Int) := by
  induction n with
  | zero => simp [lowF]
  | succ n ih => simp only [lowF]; omega
def highR (z : Nat → Int) : Nat → Int
  | 0 => 0
  | n + 1 => highR z n + z n / 1073741824
def lowR (z : Nat → Int) : Nat → Int
  | 0 => 0
  | n + 1 => lowR z n + z n % 1073741824
theorem partsR (z : Nat → Int) (n : Nat) : sumZ z n = highR z n * 1073741824 + lowR z n := by
  induction n with
  | zero => rfl
  | succ n ih => simp only [sumZ, highR, lowR]; omega
theorem highR_b (z : Nat → Int) (n : Nat) (h : ∀ i, i < n → -1152921504606846976 ≤ z i ∧ z i ≤ 1152921504606846976) : -1073741824 * (n : Int) ≤ highR z n ∧ highR z n ≤ 1073741824 * (n : Int) := by
  induction n with
  | zero => simp [highR]
  | succ n ih =>
    have h1 := ih fun i hi => h i (by omega)
    have h2 := h n (by omega)
    simp only [highR]
    omega
theorem lowR_b (z : Nat → Int) (n : Nat) : 0 ≤ lowR z n ∧ lowR z n ≤ 1073741823 * (n : Int) := by
  induction n with
  | zero => simp [lowR]
  | succ n ih => simp only [lowR]; omega
set_option maxRecDepth 10000
def sumR (s : Int) : AV := bif fitsI s then .tup [.int .i64 s, .int .i64 0] else .tup [.int .i64 0, .int .i64 3]
theorem fitsI_iff {n : Int} : fitsI n = true ↔ -1152921504606846976 ≤ n ∧ n ≤ 1152921504606846976 := by simp [fitsI]
theorem fitsI_not {n : Int} : fitsI n = false ↔ n < -1152921504606846976 ∨ 1152921504606846976 < n := by simp [fitsI]; omega
theorem st5 {v w : AV} {a a' b b' c c' : Int} (h1 : a = a') (h2 : b = b') (h3 : c = c') : St.mk [(0, v), (4, .int .i64 a), (5, .int .i64 b), (9, w), (10, .int .i64 c)] [] [] none = St.mk [(0, v), (4, .int .i64 a'), (5, .int .i64 b'), (9, w), (10, .int .i64 c')] [] [] none := by
  subst h1; subst h2; subst h3; rfl
theorem shr32 (x : Int) : x.fdiv (2 ^ min (Int.toNat 32) IntKind.i64.bits) = x / 4294967296 := Int.fdiv_eq_ediv_of_nonneg x (by decide)
theorem centsSum (z : Nat → Int) (n : Nat) (hn : n ≤ 1024) (hz : ∀ i, i < n → fitsI (z i) = true) : CallOK Try.prog 34 [.vec 1 n fun i => .int .i64 (z i)] (fun r => r = sumR (sumZ z n)) := by
  have hzb : ∀ i, i < n → -1152921504606846976 ≤ z i ∧ z i ≤ 1152921504606846976 := fun i hi => fitsI_iff.1 (hz i hi)
  refine okP ?_
  conv => whnf
  repeat ((first | with_reducible refine branch_true rfl ?_ | with_reducible refine branch_false rfl ?_); conv => whnf)
  refine loop_by (cx := cxP) rfl progOK (ι := {i : Nat // i ≤ n}) (fun i => n - i.1) (fun i => ⟨[(0, .vec 1 n fun i => .int .i64 (z i)), (4, .int .i64 (highF z i.1)), (5, .int .i64 (lowF z i.1)), (9, .int .i64 n), (10, .int .i64 i.1)], [], [], none⟩) ?_ ⟨0, Nat.zero_le _⟩
  rintro ⟨i, hi⟩ ih
  have hb1 := highF_b z i (fun j hj => hzb j (by omega))
  have hb2 := lowF_b z i
  conv => whnf
  repeat ((first | with_reducible refine branch_true rfl ?_ | with_reducible refine branch_false rfl ?_); conv => whnf)
  refine branch_of (fun g1 => ?_) (fun g1 => ?_)
  · have g2 : i < n := by simpa using g1
    have hw : IntKind.i64.wrap ((i : Int) + 1) = ((i + 1 : Nat) : Int) := by rw [wrap64 (by omega)]; omega
    have hzi := hzb i g2
    have e1 : IntKind.i64.wrap (highF z i + (z i).fdiv (2 ^ min (Int.toNat 32) IntKind.i64.bits)) = highF z (i + 1) := by
      rw [shr32, wrap64 (by omega)]; rfl
    have e2 : IntKind.i64.wrap (lowF z i + IntKind.i64.wrap ((BitVec.ofInt 64 (z i) &&& BitVec.ofInt 64 4294967295).toNat : Int)) = lowF z (i + 1) := by
      rw [mask32, wrap64 (by omega)]; rfl
    conv => whnf
    repeat ((first | with_reducible refine branch_true rfl ?_ | with_reducible refine branch_false rfl ?_); conv => whnf)
    refine st_addr (sz := 1) (len := n) (n := i) (u := 3) (g := fun i => .int .i64 (z i)) rfl rfl rfl rfl rfl (in_range g2) ?_
    conv => whnf
    repeat ((first | with_reducible refine branch_true rfl ?_ | with_reducible refine branch_false rfl ?_); conv => whnf)
    refine call_is (v := .bool (fitsI (z i))) (fits _) ?_
    conv => whnf
    repeat ((first | with_reducible refine branch_true rfl ?_ | with_reducible refine branch_false rfl ?_); conv => whnf)
    refine branch_false (by rw [hz i g2]; rfl) ?_
    conv => whnf
    repeat ((first | with_reducible refine branch_true rfl ?_ | with_reducible refine branch_false rfl ?_); conv => whnf)
    refine st_addr (sz := 1) (len := n) (n := i) (u := 3) (g := fun i => .int .i64 (z i)) rfl rfl rfl rfl rfl (in_range g2) ?_
    conv => whnf
    repeat ((first | with_reducible refine branch_true rfl ?_ | with_reducible refine branch_false rfl ?_); conv => whnf)
    refine st_addr (sz := 1) (len := n) (n := i) (u := 3) (g := fun i => .int .i64 (z i)) rfl rfl rfl rfl rfl (in_range g2) ?_
    conv => whnf
    repeat ((first | with_reducible refine branch_true rfl ?_ | with_reducible refine branch_false rfl ?_); conv => whnf)
    exact loop_to ih ⟨i + 1, g2⟩ (show n - (i + 1) < n - i by omega) (st5 e1 e2 hw)
  · have g2 : i = n := by simp at g1; omega
    subst g2
    have hs := parts z i
    have e1 : IntKind.i64.wrap (highF z i + (lowF z i).fdiv (2 ^ min (Int.toNat 32) IntKind.i64.bits)) = highF z i + lowF z i / 4294967296 := by
      rw [shr32, wrap64 (by omega)]
    have e0 : IntKind.i64.wrap (0 - 268435456) = -268435456 := by rw [wrap64 (by omega)]; omega
    conv => whnf
    repeat ((first | with_reducible refine branch_true rfl ?_ | with_reducible refine branch_false rfl ?_); conv => whnf)
    refine branch_of (fun g3 => ?_) (fun g3 => ?_)
    · have g3 : highF z i + lowF z i / 4294967296 < -268435456 := by
        have := of_decide_eq_true g3
        rw [← e1, ← e0]; exact this
      conv => whnf
      repeat ((first | with_reducible refine branch_true rfl ?_ | with_reducible refine branch_false rfl ?_); conv => whnf)
      have : fitsI (sumZ z i) = false := fitsI_not.2 (.inl (by omega))
      rw [sumR, this]; rfl
    · have g3 : ¬ highF z i + lowF z i / 4294967296 < -268435456 := by
        have := of_decide_eq_false g3
        rw [← e1, ← e0]; exact this
      conv => whnf
      repeat ((first | with_reducible refine branch_true rfl ?_ | with_reducible refine branch_false rfl ?_); conv => whnf)
      refine branch_of (fun g4 => ?_) (fun g4 => ?_)
      · have g4 : 268435456 < highF z i + lowF z i / 4294967296 := by
          have : decide (268435456 < IntKind.i64.wrap (highF z i + (lowF z i).fdiv (2 ^ min (Int.toNat 32) IntKind.i64.bits))) = true := g4
          rw [e1] at this
          exact of_decide_eq_true this
        conv => whnf
        repeat ((first | with_reducible refine branch_true rfl ?_ | with_reducible refine branch_false rfl ?_); conv => whnf)
        have : fitsI (sumZ z i) = false := fitsI_not.2 (.inr (by omega))
        rw [sumR, this]; rfl
      · have g4 : ¬ 268435456 < highF z i + lowF z i / 4294967296 := by
          have : decide (268435456 < IntKind.i64.wrap (highF z i + (lowF z i).fdiv (2 ^ min (Int.toNat 32) IntKind.i64.bits))) = false := g4
          rw [e1] at this
          exact of_decide_eq_false this
        conv => whnf
        repeat ((first | with_reducible refine branch_true rfl ?_ | with_reducible refine branch_false rfl ?_); conv => whnf)
        have e3 : IntKind.i64.wrap (IntKind.i64.wrap (IntKind.i64.wrap (highF z i + (lowF z i).fdiv (2 ^ min (Int.toNat 32) IntKind.i64.bits)) * 2 ^ min (Int.toNat 32) IntKind.i64.bits) + IntKind.i64.wrap ((BitVec.ofInt 64 (lowF z i) &&& BitVec.ofInt 64 4294967295).toNat : Int)) = sumZ z i := by
          rw [e1, mask32, show ((2 : Int) ^ min (Int.toNat 32) IntKind.i64.bits) = 4294967296 by decide, wrap64 (x := _ * _) (by omega), wrap64 (by omega)]
          omega
        have hc := fitting (sumZ z i)
        rw [← e3] at hc
        cases hf : fitsI (sumZ z i) with
        | false =>
          rw [e3, hf] at hc
          rw [← e3] at hc
          refine call_is (v := .tup [.int .i64 0, .int .i64 3]) hc ?_
          conv => whnf
          repeat ((first | with_reducible refine branch_true rfl ?_ | with_reducible refine branch_false rfl ?_); conv => whnf)
          rw [sumR, hf]; rfl
        | true =>
          rw [e3, hf] at hc
          refine call_is (v := .tup [.int .i64 (sumZ z i), .int .i64 0]) (e3 ▸ hc) ?_
          conv => whnf
          repeat ((first | with_reducible refine branch_true rfl ?_ | with_reducible refine branch_false rfl ?_); conv => whnf)
          rw [sumR, hf]; rfl
end Go.Proofs


set_option linter.unusedVariables false
namespace Go.Proofs
open Ax Go
set_option maxRecDepth 10000
abbrev big : Nat := 9223372036854775807
theorem refFits (n : Int) : CallOK Try.prog 52 [.int .i64 n] (fun r => r = .bool (fitsI n)) := by
  refine okP ?_
  conv => whnf
  repeat ((first | with_reducible refine branch_true rfl ?_ | with_reducible refine branch_false rfl ?_); conv => whnf)
  refine branch_of (fun h => ?_) (fun h => ?_)
  · conv => whnf
    repeat ((first | with_reducible refine branch_true rfl ?_ | with_reducible refine branch_false rfl ?_); conv => whnf)
    have h : -1152921504606846976 ≤ n := of_decide_eq_true h
    simp [fitsI, h]
  · conv => whnf
    repeat ((first | with_reducible refine branch_true rfl ?_ | with_reducible refine branch_false rfl ?_); conv => whnf)
    have h : ¬ -1152921504606846976 ≤ n := of_decide_eq_false h
    simp [fitsI, h]
theorem isLow_of {c : Int} (h1 : 97 ≤ c) (h2 : c ≤ 122) : isLow c = true := by simp [isLow]; omega
theorem not_low {c : Int} (h : c < 97 ∨ 122 < c) : isLow c = false := by simp [isLow]; omega
theorem isDig_of {c : Int} (h1 : 48 ≤ c) (h2 : c ≤ 57) : isDig c = true := by simp [isDig]; omega
theorem not_dig {c : Int} (h : c < 48 ∨ 57 < c) : isDig c = false := by simp [isDig]; omega
theorem all_next {p : Nat → Prop} {i : Nat} (hj : ∀ j, j < i → p j) (h : p i) : ∀ j, j < i + 1 → p j := fun j hj' => by
  rcases Nat.lt_or_ge j i with h' | h'
  · exact hj j h'
  · rw [show j = i by omega]; exact h
abbrev goodAt (s : ByteArray) (j : Nat) : Prop := (isLow (byteAt s j) || (decide (j ≠ 0) && isDig (byteAt s j))) = true
theorem refName (s : ByteArray) (hs : s.size ≤ big) : CallOK Try.prog 51 [.str s] (fun r => r = .bool (nameOK s)) := by
  have hs : s.size ≤ 9223372036854775807 := hs
  refine okP ?_
  conv => whnf
  repeat ((first | with_reducible refine branch_true rfl ?_ | with_reducible refine branch_false rfl ?_); conv => whnf)
  refine loop_by (cx := cxP) rfl progOK (ι := {i : Nat // i ≤ s.size ∧ ∀ j, j < i → goodAt s j}) (fun i => s.size - i.1) (fun i => ⟨[(0, .str s), (3, .int .i64 i.1)], [], [], none⟩) ?_ ⟨0, Nat.zero_le _, fun j hj => absurd hj (by omega)⟩
  rintro ⟨i, hi, hj⟩ ih
  conv => whnf
  repeat ((first | with_reducible refine branch_true rfl ?_ | with_reducible refine branch_false rfl ?_); conv => whnf)
  refine branch_of (fun g1 => ?_) (fun g1 => ?_)
  · have g2 : i < s.size := by simpa using g1
    have next : goodAt s i → ∀ K : St → Prop, (∀ j : {i : Nat // i ≤ s.size ∧ ∀ j, j < i → goodAt s j}, s.size - j.1 < s.size - i → K (St.mk [(0, .str s), (3, .int .i64 j.1)] [] [] none)) → K (St.mk [(0, .str s), (3, .int .i64 (IntKind.i64.wrap ((i : Int) + 1)))] [] [] none) := by
      intro h K hK
      rw [wrap64 (by omega)]
      exact hK ⟨i + 1, g2, all_next hj h⟩ (show s.size - (i + 1) < s.size - i by omega)
    have stop : isLow (byteAt s i) = false → isDig (byteAt s i) = false → AV.bool false = AV.bool (nameOK s) := fun q1 q2 => by
      have : ((List.range s.size).all fun i => isLow (byteAt s i) || isDig (byteAt s i)) = false := by
        rw [List.all_eq_false]; exact ⟨i, List.mem_range.2 g2, by simp [q1, q2]⟩
      simp [nameOK, this]
    have stop0 : isLow (byteAt s 0) = false → AV.bool false = AV.bool (nameOK s) := fun q1 => by
      simp [nameOK, q1]
    conv => whnf
    repeat ((first | with_reducible refine branch_true rfl ?_ | with_reducible refine branch_false rfl ?_); conv => whnf)
    refine st_index (s := s) (n := i) rfl rfl rfl rfl (in_range g2) ?_
    conv => whnf
    repeat ((first | with_reducible refine branch_true rfl ?_ | with_reducible refine branch_false rfl ?_); conv => whnf)
    refine branch_of (fun g3 => ?_) (fun g3 => ?_)
    · have g3 : 97 ≤ byteAt s i := of_decide_eq_true g3
      conv => whnf
      repeat ((first | with_reducible refine branch_true rfl ?_ | with_reducible refine branch_false rfl ?_); conv => whnf)
      refine st_index (s := s) (n := i) rfl rfl rfl rfl (in_range g2) ?_
      conv => whnf
      repeat ((first | with_reducible refine branch_true rfl ?_ | with_reducible refine branch_false rfl ?_); conv => whnf)
      refine branch_of (fun g4 => ?_) (fun g4 => ?_)
      · have g4 : ¬ byteAt s i ≤ 122 := by
          have : (!decide (byteAt s i ≤ 122)) = true := g4
          simpa using this
        have low := not_low (c := byteAt s i) (.inr (by omega))
        conv => whnf
        repeat ((first | with_reducible refine branch_true rfl ?_ | with_reducible refine branch_false rfl ?_); conv => whnf)
        refine branch_of (fun g5 => ?_) (fun g5 => ?_)
        · have g5 : i = 0 := by have : (i : Int) = 0 := of_decide_eq_true g5; omega
          subst g5
          conv => whnf
          repeat ((first | with_reducible refine branch_true rfl ?_ | with_reducible refine branch_false rfl ?_); conv => whnf)
          exact stop0 low
        · have g5 : i ≠ 0 := by have : ¬ (i : Int) = 0 := of_decide_eq_false g5; omega
          conv => whnf
          repeat ((first | with_reducible refine branch_true rfl ?_ | with_reducible refine branch_false rfl ?_); conv => whnf)
          refine st_index (s := s) (n := i) rfl rfl rfl rfl (in_range g2) ?_
          conv => whnf
          repeat ((first | with_reducible refine branch_true rfl ?_ | with_reducible refine branch_false rfl ?_); conv => whnf)
          refine branch_of (fun g6 => ?_) (fun g6 => ?_)
          · have g6 : byteAt s i < 48 := of_decide_eq_true g6
            conv => whnf
            repeat ((first | with_reducible refine branch_true rfl ?_ | with_reducible refine branch_false rfl ?_); conv => whnf)
            exact stop low (not_dig (.inl g6))
          · have g6 : ¬ byteAt s i < 48 := of_decide_eq_false g6
            conv => whnf
            repeat ((first | with_reducible refine branch_true rfl ?_ | with_reducible refine branch_false rfl ?_); conv => whnf)
            refine st_index (s := s) (n := i) rfl rfl rfl rfl (in_range g2) ?_
            conv => whnf
            repeat ((first | with_reducible refine branch_true rfl ?_ | with_reducible refine branch_false rfl ?_); conv => whnf)
            refine branch_of (fun g7 => ?_) (fun g7 => ?_)
            · have g7 : 57 < byteAt s i := of_decide_eq_true g7
              conv => whnf
              repeat ((first | with_reducible refine branch_true rfl ?_ | with_reducible refine branch_false rfl ?_); conv => whnf)
              exact stop low (not_dig (.inr g7))
            · have g7 : ¬ 57 < byteAt s i := of_decide_eq_false g7
              conv => whnf
              repeat ((first | with_reducible refine branch_true rfl ?_ | with_reducible refine branch_false rfl ?_); conv => whnf)
              exact next (by unfold goodAt; rw [isDig_of (by omega) (by omega)]; simp [g5]) (fun s => SLoop _ _ _ _ _ _ s _) ih
      · have g4 : byteAt s i ≤ 122 := by
          have : (!decide (byteAt s i ≤ 122)) = false := g4
          simpa using this
        conv => whnf
        repeat ((first | with_reducible refine branch_true rfl ?_ | with_reducible refine branch_false rfl ?_); conv => whnf)
        exact next (by rw [goodAt, isLow_of (by omega) (by omega), Bool.true_or]) (fun s => SLoop _ _ _ _ _ _ s _) ih
    · have g3 : ¬ 97 ≤ byteAt s i := of_decide_eq_false g3
      have low := not_low (c := byteAt s i) (.inl (by omega))
      conv => whnf
      repeat ((first | with_reducible refine branch_true rfl ?_ | with_reducible refine branch_false rfl ?_); conv => whnf)
      refine branch_of (fun g5 => ?_) (fun g5 => ?_)
      · have g5 : i = 0 := by have : (i : Int) = 0 := of_decide_eq_true g5; omega
        subst g5
        conv => whnf
        repeat ((first | with_reducible refine branch_true rfl ?_ | with_reducible refine branch_false rfl ?_); conv => whnf)
        exact stop0 low
      · have g5 : i ≠ 0 := by have : ¬ (i : Int) = 0 := of_decide_eq_false g5; omega
        conv => whnf
        repeat ((first | with_reducible refine branch_true rfl ?_ | with_reducible refine branch_false rfl ?_); conv => whnf)
        refine st_index (s := s) (n := i) rfl rfl rfl rfl (in_range g2) ?_
        conv => whnf
        repeat ((first | with_reducible refine branch_true rfl ?_ | with_reducible refine branch_false rfl ?_); conv => whnf)
        refine branch_of (fun g6 => ?_) (fun g6 => ?_)
        · have g6 : byteAt s i < 48 := of_decide_eq_true g6
          conv => whnf
          repeat ((first | with_reducible refine branch_true rfl ?_ | with_reducible refine branch_false rfl ?_); conv => whnf)
          exact stop low (not_dig (.inl g6))
        · have g6 : ¬ byteAt s i < 48 := of_decide_eq_false g6
          conv => whnf
          repeat ((first | with_reducible refine branch_true rfl ?_ | with_reducible refine branch_false rfl ?_); conv => whnf)
          refine st_index (s := s) (n := i) rfl rfl rfl rfl (in_range g2) ?_
          conv => whnf
          repeat ((first | with_reducible refine branch_true rfl ?_ | with_reducible refine branch_false rfl ?_); conv => whnf)
          refine branch_of (fun g7 => ?_) (fun g7 => ?_)
          · have g7 : 57 < byteAt s i := of_decide_eq_true g7
            conv => whnf
            repeat ((first | with_reducible refine branch_true rfl ?_ | with_reducible refine branch_false rfl ?_); conv => whnf)
            exact stop low (not_dig (.inr g7))
          · have g7 : ¬ 57 < byteAt s i := of_decide_eq_false g7
            conv => whnf
            repeat ((first | with_reducible refine branch_true rfl ?_ | with_reducible refine branch_false rfl ?_); conv => whnf)
            exact next (by unfold goodAt; rw [isDig_of (by omega) (by omega)]; simp [g5]) (fun s => SLoop _ _ _ _ _ _ s _) ih
  · have g2 : i = s.size := by
      have : ¬ i < s.size := by simpa using g1
      omega
    subst g2
    have hall : ((List.range s.size).all fun i => isLow (byteAt s i) || isDig (byteAt s i)) = true := by
      rw [List.all_eq_true]
      intro j hj2
      have := hj j (List.mem_range.1 hj2)
      unfold goodAt at this
      simp only [Bool.or_eq_true, Bool.and_eq_true] at this ⊢
      exact this.elim .inl fun h => .inr h.2
    have e0 : 0 < s.size → isLow (byteAt s 0) = true := fun h => by
      have := hj 0 h
      unfold goodAt at this
      simpa using this
    have he : decide (s = ByteArray.empty) = decide (s.size = 0) := by
      apply decide_eq_decide.2
      constructor
      · rintro rfl; rfl
      · intro h
        exact ByteArray.size_eq_zero_iff.1 h
    conv => whnf
    repeat ((first | with_reducible refine branch_true rfl ?_ | with_reducible refine branch_false rfl ?_); conv => whnf)
    refine branch_of (fun g3 => ?_) (fun g3 => ?_)
    · have g3 : 0 < s.size := by have := of_decide_eq_true g3; omega
      conv => whnf
      repeat ((first | with_reducible refine branch_true rfl ?_ | with_reducible refine branch_false rfl ?_); conv => whnf)
      simp only [nameOK, hall, e0 g3, he]
      simp [show ¬ s.size = 0 by omega]
      omega
    · have g3 : s.size = 0 := by have := of_decide_eq_false g3; omega
      conv => whnf
      repeat ((first | with_reducible refine branch_true rfl ?_ | with_reducible refine branch_false rfl ?_); conv => whnf)
      simp [nameOK, he, g3]
end Go.Proofs


set_option linter.unusedVariables false
namespace Go.Proofs
open Ax Go
set_option maxRecDepth 10000
structure Py where
  id : Int
  m : ByteArray
  c : Int
  n : Int
  s : Int
def encP (p : Py) : AV := .agg [.int .i64 p.id, .str p.m, .int .i64 p.c, .int .i64 p.n, .int .i64 p.s]
def p0 : Py := ⟨0, ByteArray.empty, 0, 0, 0⟩
def atP (l : List Py) (i : Nat) : Py := l.getD i p0
abbrev encL (l : List Py) : AV := .vec 5 l.length fun i => encP (atP l i)
def PaysAt (l : List Py) (len : Nat) (g : Nat → AV) : Prop := len = l.length ∧ ∀ i, i < l.length → g i = encP (atP l i)
theorem paysAt_same {l : List Py} {len : Nat} {g : Nat → AV} (h : PaysAt l len g) : Same (.vec 5 len g) (encL l) := by
  obtain ⟨rfl, h⟩ := h
  exact .vec h
theorem paysAt_self (l : List Py) : PaysAt l l.length fun i => encP (atP l i) := ⟨rfl, fun i _ => rfl⟩
theorem drop_at {l : List Py} {i : Nat} (h : i < l.length) : l.drop i = atP l i :: l.drop (i + 1) := by
  rw [List.drop_eq_getElem_cons h, atP, List.getD, List.getElem?_eq_getElem h]; rfl
def Sized (l : List Py) : Prop := ∀ c ∈ l, c.m.size ≤ big
theorem sized_at {l : List Py} {i : Nat} (h : Sized l) (hi : i < l.length) : (atP l i).m.size ≤ big := by
  rw [atP, List.getD, List.getElem?_eq_getElem hi]
  exact h _ (List.getElem_mem hi)
def restE (p : Py) : Int := bif nameOK p.m then (bif decide (0 ≤ p.c) && decide (p.c ≤ 7) then (bif !decide (p.n = 0) && fitsI p.n then (bif decide (1 ≤ p.s) && decide (p.s ≤ 4) then 0 else 13) else 2) else 25) else 10
def oneE (last : Int) (p : Py) : Int := bif decide (last < p.id) && decide (p.id ≤ 1152921504606846976) then restE p else 2
def checkFrom (last : Int) : List Py → Int
  | [] => 0
  | c :: r => bif decide (oneE last c = 0) then checkFrom c.id r else oneE last c
def checkL (l : List Py) : Int := bif decide (1024 < l.length) then 8 else checkFrom 0 l
theorem checkL_long {l : List Py} (h : 1024 < l.length) : checkL l = 8 := by rw [checkL, decide_eq_true h]; rfl
theorem checkL_from {l : List Py} (h : l.length ≤ 1024) : checkL l = checkFrom 0 l := by rw [checkL, decide_eq_false (by omega)]; rfl
theorem from_good {last : Int} {c : Py} {r : List Py} (h : oneE last c = 0) : checkFrom last (c :: r) = checkFrom c.id r := by rw [checkFrom, decide_eq_true h]; rfl
theorem from_bad {last : Int} {c : Py} {r : List Py} (h : oneE last c ≠ 0) : checkFrom last (c :: r) = oneE last c := by rw [checkFrom, decide_eq_false h]; rfl
theorem one_low {last : Int} {p : Py} (h : ¬ last < p.id) : oneE last p = 2 := by simp [oneE, h]
theorem one_high {last : Int} {p : Py} (h : ¬ p.id ≤ 1152921504606846976) : oneE last p = 2 := by simp [oneE, h]
theorem one_mid {last : Int} {p : Py} (h1 : last < p.id) (h2 : p.id ≤ 1152921504606846976) : oneE last p = restE p := by simp [oneE, h1, h2]
/-- What stands at the head of a check. -/
structure ChkHd (l : List Py) where
  i : Nat
  last : Int
  hi : i ≤ l.length
  hc : checkFrom 0 l = checkFrom last (l.drop i)
theorem check (l : List Py) : CallOK Try.prog 11 [encL l] (fun r => r = .int .i64 (checkL l)) := by
  refine okP ?_
  conv => whnf
  repeat ((first | with_reducible refine branch_true rfl ?_ | with_reducible refine branch_false rfl ?_); conv => whnf)
  refine branch_of (fun g0 => ?_) (fun g0 => ?_)
  · have g0 : 1024 < l.length := by have := of_decide_eq_true g0; omega
    conv => whnf
    repeat ((first | with_reducible refine branch_true rfl ?_ | with_reducible refine branch_false rfl ?_); conv => whnf)
    rw [checkL_long g0]
  · have g0 : l.length ≤ 1024 := by have := of_decide_eq_false g0; omega
    rw [checkL_from g0]
    conv => whnf
    repeat ((first | with_reducible refine branch_true rfl ?_ | with_reducible refine branch_false rfl ?_); conv => whnf)
    refine loop_by (cx := cxP) rfl progOK (ι := ChkHd l) (fun x => l.length - x.i) (fun x => ⟨[(3, .int .i64 x.last), (9, encL l), (10, .int .i64 l.length), (11, .int .i64 x.i)], [], [], none⟩) ?_ ⟨0, 0, Nat.zero_le _, rfl⟩
    rintro ⟨i, last, hi, hc⟩ ih
    conv => whnf
    repeat ((first | with_reducible refine branch_true rfl ?_ | with_reducible refine branch_false rfl ?_); conv => whnf)
    refine branch_of (fun g1 => ?_) (fun g1 => ?_)
    · have g2 : i < l.length := by simpa using g1
      have hw : IntKind.i64.wrap ((i : Int) + 1) = ((i + 1 : Nat) : Int) := by rw [wrap64 (by omega)]; omega
      rw [drop_at g2] at hc
      have bad : ∀ e : Int, oneE last (atP l i) = e → e ≠ 0 → AV.int .i64 e = .int .i64 (checkFrom 0 l) := fun e h he => by
        rw [hc, from_bad (by rw [h]; exact he), h]
      conv => whnf
      repeat ((first | with_reducible refine branch_true rfl ?_ | with_reducible refine branch_false rfl ?_); conv => whnf)
      refine st_addr (sz := 5) (len := l.length) (n := i) (u := 51) (g := fun i => encP (atP l i)) rfl rfl rfl rfl rfl (in_range g2) ?_
      conv => whnf
      repeat ((first | with_reducible refine branch_true rfl ?_ | with_reducible refine branch_false rfl ?_); conv => whnf)
      refine branch_of (fun g3 => ?_) (fun g3 => ?_)
      · have g3 : (atP l i).id ≤ last := of_decide_eq_true g3
        conv => whnf
        repeat ((first | with_reducible refine branch_true rfl ?_ | with_reducible refine branch_false rfl ?_); conv => whnf)
        exact bad 2 (one_low (by omega)) (by decide)
      · have g3 : ¬ (atP l i).id ≤ last := of_decide_eq_false g3
        conv => whnf
        repeat ((first | with_reducible refine branch_true rfl ?_ | with_reducible refine branch_false rfl ?_); conv => whnf)
        refine branch_of (fun g4 => ?_) (fun g4 => ?_)
        · have g4 : 1152921504606846976 < (atP l i).id := of_decide_eq_true g4
          conv => whnf
          repeat ((first | with_reducible refine branch_true rfl ?_ | with_reducible refine branch_false rfl ?_); conv => whnf)
          exact bad 2 (one_high (by omega)) (by decide)
        · have g4 : ¬ 1152921504606846976 < (atP l i).id := of_decide_eq_false g4
          have hk := one_mid (last := last) (p := atP l i) (by omega) (by omega)
          conv => whnf
          repeat ((first | with_reducible refine branch_true rfl ?_ | with_reducible refine branch_false rfl ?_); conv => whnf)
          refine call_is (name (atP l i).m) ?_
          conv => whnf
          repeat ((first | with_reducible refine branch_true rfl ?_ | with_reducible refine branch_false rfl ?_); conv => whnf)
          cases h1 : nameOK (atP l i).m with
          | false =>
            conv => whnf
            repeat ((first | with_reducible refine branch_true rfl ?_ | with_reducible refine branch_false rfl ?_); conv => whnf)
            exact bad 10 (by rw [hk]; simp [restE, h1]) (by decide)
          | true =>
            conv => whnf
            repeat ((first | with_reducible refine branch_true rfl ?_ | with_reducible refine branch_false rfl ?_); conv => whnf)
            refine branch_of (fun g5 => ?_) (fun g5 => ?_)
            · have g5 : (atP l i).c < 0 := of_decide_eq_true g5
              conv => whnf
              repeat ((first | with_reducible refine branch_true rfl ?_ | with_reducible refine branch_false rfl ?_); conv => whnf)
              exact bad 25 (by rw [hk]; simp [restE, h1, show ¬ 0 ≤ (atP l i).c by omega]) (by decide)
            · have g5 : ¬ (atP l i).c < 0 := of_decide_eq_false g5
              conv => whnf
              repeat ((first | with_reducible refine branch_true rfl ?_ | with_reducible refine branch_false rfl ?_); conv => whnf)
              refine branch_of (fun g6 => ?_) (fun g6 => ?_)
              · have g6 : 8 ≤ (atP l i).c := of_decide_eq_true g6
                conv => whnf
                repeat ((first | with_reducible refine branch_true rfl ?_ | with_reducible refine branch_false rfl ?_); conv => whnf)
                exact bad 25 (by rw [hk]; simp [restE, h1, show ¬ (atP l i).c ≤ 7 by omega]) (by decide)
              · have g6 : ¬ 8 ≤ (atP l i).c := of_decide_eq_false g6
                conv => whnf
                repeat ((first | with_reducible refine branch_true rfl ?_ | with_reducible refine branch_false rfl ?_); conv => whnf)
                refine branch_of (fun g7 => ?_) (fun g7 => ?_)
                · have g7 : (atP l i).n = 0 := of_decide_eq_true g7
                  conv => whnf
                  repeat ((first | with_reducible refine branch_true rfl ?_ | with_reducible refine branch_false rfl ?_); conv => whnf)
                  exact bad 2 (by rw [hk]; simp [restE, h1, g7, show 0 ≤ (atP l i).c by omega, show (atP l i).c ≤ 7 by omega]) (by decide)
                · have g7 : ¬ (atP l i).n = 0 := of_decide_eq_false g7
                  conv => whnf
                  repeat ((first | with_reducible refine branch_true rfl ?_ | with_reducible refine branch_false rfl ?_); conv => whnf)
                  refine call_is (v := .bool (fitsI (atP l i).n)) (fits _) ?_
                  conv => whnf
                  repeat ((first | with_reducible refine branch_true rfl ?_ | with_reducible refine branch_false rfl ?_); conv => whnf)
                  cases h2 : fitsI (atP l i).n with
                  | false =>
                    conv => whnf
                    repeat ((first | with_reducible refine branch_true rfl ?_ | with_reducible refine branch_false rfl ?_); conv => whnf)
                    exact bad 2 (by rw [hk]; simp [restE, h1, h2, show 0 ≤ (atP l i).c by omega, show (atP l i).c ≤ 7 by omega]) (by decide)
                  | true =>
                    conv => whnf
                    repeat ((first | with_reducible refine branch_true rfl ?_ | with_reducible refine branch_false rfl ?_); conv => whnf)
                    refine branch_of (fun g8 => ?_) (fun g8 => ?_)
                    · have g8 : (atP l i).s < 1 := of_decide_eq_true g8
                      conv => whnf
                      repeat ((first | with_reducible refine branch_true rfl ?_ | with_reducible refine branch_false rfl ?_); conv => whnf)
                      exact bad 13 (by rw [hk]; simp [restE, h1, h2, g7, show ¬ 1 ≤ (atP l i).s by omega, show 0 ≤ (atP l i).c by omega, show (atP l i).c ≤ 7 by omega]) (by decide)
                    · have g8 : ¬ (atP l i).s < 1 := of_decide_eq_false g8
                      conv => whnf
                      repeat ((first | with_reducible refine branch_true rfl ?_ | with_reducible refine branch_false rfl ?_); conv => whnf)
                      refine branch_of (fun g9 => ?_) (fun g9 => ?_)
                      · have g9 : 4 < (atP l i).s := of_decide_eq_true g9
                        conv => whnf
                        repeat ((first | with_reducible refine branch_true rfl ?_ | with_reducible refine branch_false rfl ?_); conv => whnf)
                        exact bad 13 (by rw [hk]; simp [restE, h1, h2, g7, show ¬ (atP l i).s ≤ 4 by omega, show 0 ≤ (atP l i).c by omega, show (atP l i).c ≤ 7 by omega]) (by decide)
                      · have g9 : ¬ 4 < (atP l i).s := of_decide_eq_false g9
                        have hz : oneE last (atP l i) = 0 := by rw [hk]; simp [restE, h1, h2, g7, show 1 ≤ (atP l i).s by omega, show (atP l i).s ≤ 4 by omega, show 0 ≤ (atP l i).c by omega, show (atP l i).c ≤ 7 by omega]
                        conv => whnf
                        repeat ((first | with_reducible refine branch_true rfl ?_ | with_reducible refine branch_false rfl ?_); conv => whnf)
                        exact loop_to ih ⟨i + 1, (atP l i).id, g2, by rw [hc, from_good hz]⟩ (show l.length - (i + 1) < l.length - i by omega) (congrArg (fun q => St.mk [(3, .int .i64 (atP l i).id), (9, encL l), (10, .int .i64 l.length), (11, .int .i64 q)] [] [] none) hw)
    · have g2 : i = l.length := by simp at g1; omega
      subst g2
      conv => whnf
      repeat ((first | with_reducible refine branch_true rfl ?_ | with_reducible refine branch_false rfl ?_); conv => whnf)
      rw [hc, List.drop_length]; rfl
theorem refOne (p : Py) (hp : p.m.size ≤ big) (last : Int) : CallOK Try.prog 32 [encP p, .int .i64 last] (fun r => r = .int .i64 (oneE last p)) := by
  have bad : ∀ e : Int, oneE last p = e → AV.int .i64 e = .int .i64 (oneE last p) := fun e h => by rw [h]
  refine okP ?_
  conv => whnf
  repeat ((first | with_reducible refine branch_true rfl ?_ | with_reducible refine branch_false rfl ?_); conv => whnf)
  refine branch_of (fun g3 => ?_) (fun g3 => ?_)
  · have g3 : p.id ≤ last := of_decide_eq_true g3
    conv => whnf
    repeat ((first | with_reducible refine branch_true rfl ?_ | with_reducible refine branch_false rfl ?_); conv => whnf)
    exact bad 2 (one_low (by omega))
  · have g3 : ¬ p.id ≤ last := of_decide_eq_false g3
    conv => whnf
    repeat ((first | with_reducible refine branch_true rfl ?_ | with_reducible refine branch_false rfl ?_); conv => whnf)
    refine branch_of (fun g4 => ?_) (fun g4 => ?_)
    · have g4 : 1152921504606846976 < p.id := of_decide_eq_true g4
      conv => whnf
      repeat ((first | with_reducible refine branch_true rfl ?_ | with_reducible refine branch_false rfl ?_); conv => whnf)
      exact bad 2 (one_high (by omega))
    · have g4 : ¬ 1152921504606846976 < p.id := of_decide_eq_false g4
      have hk := one_mid (last := last) (p := p) (by omega) (by omega)
      conv => whnf
      repeat ((first | with_reducible refine branch_true rfl ?_ | with_reducible refine branch_false rfl ?_); conv => whnf)
      refine call_is (refName p.m hp) ?_
      conv => whnf
      repeat ((first | with_reducible refine branch_true rfl ?_ | with_reducible refine branch_false rfl ?_); conv => whnf)
      cases h1 : nameOK p.m with
      | false =>
        conv => whnf
        repeat ((first | with_reducible refine branch_true rfl ?_ | with_reducible refine branch_false rfl ?_); conv => whnf)
        exact bad 10 (by rw [hk]; simp [restE, h1])
      | true =>
        conv => whnf
        repeat ((first | with_reducible refine branch_true rfl ?_ | with_reducible refine branch_false rfl ?_); conv => whnf)
        refine branch_of (fun g5 => ?_) (fun g5 => ?_)
        · have g5 : p.c < 0 := of_decide_eq_true g5
          conv => whnf
          repeat ((first | with_reducible refine branch_true rfl ?_ | with_reducible refine branch_false rfl ?_); conv => whnf)
          exact bad 25 (by rw [hk]; simp [restE, h1, show ¬ 0 ≤ p.c by omega])
        · have g5 : ¬ p.c < 0 := of_decide_eq_false g5
          conv => whnf
          repeat ((first | with_reducible refine branch_true rfl ?_ | with_reducible refine branch_false rfl ?_); conv => whnf)
          refine branch_of (fun g6 => ?_) (fun g6 => ?_)
          · have g6 : 7 < p.c := of_decide_eq_true g6
            conv => whnf
            repeat ((first | with_reducible refine branch_true rfl ?_ | with_reducible refine branch_false rfl ?_); conv => whnf)
            exact bad 25 (by rw [hk]; simp [restE, h1, show ¬ p.c ≤ 7 by omega])
          · have g6 : ¬ 7 < p.c := of_decide_eq_false g6
            conv => whnf
            repeat ((first | with_reducible refine branch_true rfl ?_ | with_reducible refine branch_false rfl ?_); conv => whnf)
            refine branch_of (fun g7 => ?_) (fun g7 => ?_)
            · have g7 : p.n = 0 := of_decide_eq_true g7
              conv => whnf
              repeat ((first | with_reducible refine branch_true rfl ?_ | with_reducible refine branch_false rfl ?_); conv => whnf)
              exact bad 2 (by rw [hk]; simp [restE, h1, g7, show 0 ≤ p.c by omega, show p.c ≤ 7 by omega])
            · have g7 : ¬ p.n = 0 := of_decide_eq_false g7
              conv => whnf
              repeat ((first | with_reducible refine branch_true rfl ?_ | with_reducible refine branch_false rfl ?_); conv => whnf)
              refine call_is (v := .bool (fitsI p.n)) (refFits _) ?_
              conv => whnf
              repeat ((first | with_reducible refine branch_true rfl ?_ | with_reducible refine branch_false rfl ?_); conv => whnf)
              cases h2 : fitsI p.n with
              | false =>
                conv => whnf
                repeat ((first | with_reducible refine branch_true rfl ?_ | with_reducible refine branch_false rfl ?_); conv => whnf)
                exact bad 2 (by rw [hk]; simp [restE, h1, h2, show 0 ≤ p.c by omega, show p.c ≤ 7 by omega])
              | true =>
                conv => whnf
                repeat ((first | with_reducible refine branch_true rfl ?_ | with_reducible refine branch_false rfl ?_); conv => whnf)
                refine branch_of (fun g8 => ?_) (fun g8 => ?_)
                · have g8 : p.s < 1 := of_decide_eq_true g8
                  conv => whnf
                  repeat ((first | with_reducible refine branch_true rfl ?_ | with_reducible refine branch_false rfl ?_); conv => whnf)
                  exact bad 13 (by rw [hk]; simp [restE, h1, h2, g7, show ¬ 1 ≤ p.s by omega, show 0 ≤ p.c by omega, show p.c ≤ 7 by omega])
                · have g8 : ¬ p.s < 1 := of_decide_eq_false g8
                  conv => whnf
                  repeat ((first | with_reducible refine branch_true rfl ?_ | with_reducible refine branch_false rfl ?_); conv => whnf)
                  refine branch_of (fun g9 => ?_) (fun g9 => ?_)
                  · have g9 : 4 < p.s := of_decide_eq_true g9
                    conv => whnf
                    repeat ((first | with_reducible refine branch_true rfl ?_ | with_reducible refine branch_false rfl ?_); conv => whnf)
                    exact bad 13 (by rw [hk]; simp [restE, h1, h2, g7, show ¬ p.s ≤ 4 by omega, show 0 ≤ p.c by omega, show p.c ≤ 7 by omega])
                  · have g9 : ¬ 4 < p.s := of_decide_eq_false g9
                    have hz : oneE last p = 0 := by rw [hk]; simp [restE, h1, h2, g7, show 1 ≤ p.s by omega, show p.s ≤ 4 by omega, show 0 ≤ p.c by omega, show p.c ≤ 7 by omega]
                    conv => whnf
                    repeat ((first | with_reducible refine branch_true rfl ?_ | with_reducible refine branch_false rfl ?_); conv => whnf)
                    exact bad 0 hz
theorem refCheck (l : List Py) (hs : Sized l) : CallOK Try.prog 12 [encL l] (fun r => r = .int .i64 (checkL l)) := by
  refine okP ?_
  conv => whnf
  repeat ((first | with_reducible refine branch_true rfl ?_ | with_reducible refine branch_false rfl ?_); conv => whnf)
  refine branch_of (fun g0 => ?_) (fun g0 => ?_)
  · have g0 : 1024 < l.length := by have := of_decide_eq_true g0; omega
    conv => whnf
    repeat ((first | with_reducible refine branch_true rfl ?_ | with_reducible refine branch_false rfl ?_); conv => whnf)
    rw [checkL_long g0]
  · have g0 : l.length ≤ 1024 := by have := of_decide_eq_false g0; omega
    rw [checkL_from g0]
    conv => whnf
    repeat ((first | with_reducible refine branch_true rfl ?_ | with_reducible refine branch_false rfl ?_); conv => whnf)
    refine loop_by (cx := cxP) rfl progOK (ι := ChkHd l) (fun x => l.length - x.i) (fun x => ⟨[(0, encL l), (3, .int .i64 x.last), (4, .int .i64 x.i)], [], [], none⟩) ?_ ⟨0, 0, Nat.zero_le _, rfl⟩
    rintro ⟨i, last, hi, hc⟩ ih
    conv => whnf
    repeat ((first | with_reducible refine branch_true rfl ?_ | with_reducible refine branch_false rfl ?_); conv => whnf)
    refine branch_of (fun g1 => ?_) (fun g1 => ?_)
    · have g2 : i < l.length := by simpa using g1
      have hw : IntKind.i64.wrap ((i : Int) + 1) = ((i + 1 : Nat) : Int) := by rw [wrap64 (by omega)]; omega
      rw [drop_at g2] at hc
      have z1 := sized_at hs g2
      conv => whnf
      repeat ((first | with_reducible refine branch_true rfl ?_ | with_reducible refine branch_false rfl ?_); conv => whnf)
      refine st_addr (sz := 5) (len := l.length) (n := i) (u := 51) (g := fun i => encP (atP l i)) rfl rfl rfl rfl rfl (in_range g2) ?_
      conv => whnf
      repeat ((first | with_reducible refine branch_true rfl ?_ | with_reducible refine branch_false rfl ?_); conv => whnf)
      refine call_is (v := .int .i64 (oneE last (atP l i))) (refOne _ z1 _) ?_
      conv => whnf
      repeat ((first | with_reducible refine branch_true rfl ?_ | with_reducible refine branch_false rfl ?_); conv => whnf)
      refine branch_of (fun g5 => ?_) (fun g5 => ?_)
      · have g5 : oneE last (atP l i) ≠ 0 := by simpa using g5
        conv => whnf
        repeat ((first | with_reducible refine branch_true rfl ?_ | with_reducible refine branch_false rfl ?_); conv => whnf)
        rw [hc, from_bad g5]
      · have g5 : oneE last (atP l i) = 0 := by simpa using g5
        conv => whnf
        repeat ((first | with_reducible refine branch_true rfl ?_ | with_reducible refine branch_false rfl ?_); conv => whnf)
        refine st_addr (sz := 5) (len := l.length) (n := i) (u := 51) (g := fun i => encP (atP l i)) rfl rfl rfl rfl rfl (in_range g2) ?_
        conv => whnf
        repeat ((first | with_reducible refine branch_true rfl ?_ | with_reducible refine branch_false rfl ?_); conv => whnf)
        exact loop_to ih ⟨i + 1, (atP l i).id, g2, by rw [hc, from_good g5]⟩ (show l.length - (i + 1) < l.length - i by omega) (congrArg (fun q => St.mk [(0, encL l), (3, .int .i64 (atP l i).id), (4, .int .i64 q)] [] [] none) hw)
    · have g2 : i = l.length := by simp at g1; omega
      subst g2
      conv => whnf
      repeat ((first | with_reducible refine branch_true rfl ?_ | with_reducible refine branch_false rfl ?_); conv => whnf)
      rw [hc, List.drop_length]; rfl
end Go.Proofs


set_option linter.unusedVariables false
namespace Go.Proofs
open Ax Go
set_option maxRecDepth 10000
theorem tparts (z : Int) : z.tdiv 1073741824 * 1073741824 + z.tmod 1073741824 = z ∧ -1073741824 < z.tmod 1073741824 ∧ z.tmod 1073741824 < 1073741824 := by
  by_cases h : z < 0
  · have e : z = -(-z) := by omega
    have h' : 0 ≤ -z := by omega
    rw [e, Int.neg_tdiv, Int.neg_tmod, Int.tdiv_eq_ediv_of_nonneg h', Int.tmod_eq_emod_of_nonneg h']
    omega
  · have h' : 0 ≤ z := by omega
    rw [Int.tdiv_eq_ediv_of_nonneg h', Int.tmod_eq_emod_of_nonneg h']
    omega
def highT (z : Nat → Int) : Nat → Int
  | 0 => 0
  | n + 1 => highT z n + (z n).tdiv 1073741824
def lowT (z : Nat → Int) : Nat → Int
  | 0 => 0
  | n + 1 => lowT z n + (z n).tmod 1073741824
theorem partsT (z : Nat → Int) (n : Nat) : sumZ z n = highT z n * 1073741824 + lowT z n := by
  induction n with
  | zero => rfl
  | succ n ih =>
    have := (tparts (z n)).1
    simp only [sumZ, highT, lowT]; omega
theorem highT_b (z : Nat → Int) (n : Nat) (h : ∀ i, i < n → -1152921504606846976 ≤ z i ∧ z i ≤ 1152921504606846976) : -1073741824 * (n : Int) ≤ highT z n ∧ highT z n ≤ 1073741824 * (n : Int) := by
  induction n with
  | zero => simp [highT]
  | succ n ih =>
    have h1 := ih fun i hi => h i (by omega)
    have h2 := h n (by omega)
    have := tparts (z n)
    simp only [highT]
    omega
theorem lowT_b (z : Nat → Int) (n : Nat) : -1073741823 * (n : Int) ≤ lowT z n ∧ lowT z n ≤ 1073741823 * (n : Int) := by
  induction n with
  | zero => simp [lowT]
  | succ n ih =>
    have := tparts (z n)
    simp only [lowT]; omega
theorem st4 {v : AV} {a a' b b' c c' : Int} (h1 : a = a') (h2 : b = b') (h3 : c = c') : St.mk [(0, v), (4, .int .i64 a), (5, .int .i64 b), (6, .int .i64 c)] [] [] none = St.mk [(0, v), (4, .int .i64 a'), (5, .int .i64 b'), (6, .int .i64 c')] [] [] none := by
  subst h1; subst h2; subst h3; rfl
theorem refSum (z : Nat → Int) (n : Nat) (hn : n ≤ 1024) (hz : ∀ i, i < n → fitsI (z i) = true) : CallOK Try.prog 38 [.vec 1 n fun i => .int .i64 (z i)] (fun r => r = sumR (sumZ z n)) := by
  have hzb : ∀ i, i < n → -1152921504606846976 ≤ z i ∧ z i ≤ 1152921504606846976 := fun i hi => fitsI_iff.1 (hz i hi)
  refine okP ?_
  conv => whnf
  repeat ((first | with_reducible refine branch_true rfl ?_ | with_reducible refine branch_false rfl ?_); conv => whnf)
  refine loop_by (cx := cxP) rfl progOK (ι := {i : Nat // i ≤ n}) (fun i => n - i.1) (fun i => ⟨[(0, .vec 1 n fun i => .int .i64 (z i)), (4, .int .i64 (highT z i.1)), (5, .int .i64 (lowT z i.1)), (6, .int .i64 i.1)], [], [], none⟩) ?_ ⟨0, Nat.zero_le _⟩
  rintro ⟨i, hi⟩ ih
  have hb1 := highT_b z i (fun j hj => hzb j (by omega))
  have hb2 := lowT_b z i
  conv => whnf
  repeat ((first | with_reducible refine branch_true rfl ?_ | with_reducible refine branch_false rfl ?_); conv => whnf)
  refine branch_of (fun g1 => ?_) (fun g1 => ?_)
  · have g2 : i < n := by simpa using g1
    have hw : IntKind.i64.wrap ((i : Int) + 1) = ((i + 1 : Nat) : Int) := by rw [wrap64 (by omega)]; omega
    have hzi := hzb i g2
    have ht := tparts (z i)
    have e1 : IntKind.i64.wrap (highT z i + IntKind.i64.wrap ((z i).tdiv 1073741824)) = highT z (i + 1) := by
      rw [wrap64 (x := (z i).tdiv 1073741824) (by omega), wrap64 (by omega)]; rfl
    have e2 : IntKind.i64.wrap (lowT z i + (z i).tmod 1073741824) = lowT z (i + 1) := by
      rw [wrap64 (by omega)]; rfl
    conv => whnf
    repeat ((first | with_reducible refine branch_true rfl ?_ | with_reducible refine branch_false rfl ?_); conv => whnf)
    refine st_addr (sz := 1) (len := n) (n := i) (u := 3) (g := fun i => .int .i64 (z i)) rfl rfl rfl rfl rfl (in_range g2) ?_
    conv => whnf
    repeat ((first | with_reducible refine branch_true rfl ?_ | with_reducible refine branch_false rfl ?_); conv => whnf)
    refine call_is (v := .bool (fitsI (z i))) (refFits _) ?_
    conv => whnf
    repeat ((first | with_reducible refine branch_true rfl ?_ | with_reducible refine branch_false rfl ?_); conv => whnf)
    refine branch_false (by rw [hz i g2]; rfl) ?_
    conv => whnf
    repeat ((first | with_reducible refine branch_true rfl ?_ | with_reducible refine branch_false rfl ?_); conv => whnf)
    refine st_addr (sz := 1) (len := n) (n := i) (u := 3) (g := fun i => .int .i64 (z i)) rfl rfl rfl rfl rfl (in_range g2) ?_
    conv => whnf
    repeat ((first | with_reducible refine branch_true rfl ?_ | with_reducible refine branch_false rfl ?_); conv => whnf)
    refine st_addr (sz := 1) (len := n) (n := i) (u := 3) (g := fun i => .int .i64 (z i)) rfl rfl rfl rfl rfl (in_range g2) ?_
    conv => whnf
    repeat ((first | with_reducible refine branch_true rfl ?_ | with_reducible refine branch_false rfl ?_); conv => whnf)
    exact loop_to ih ⟨i + 1, g2⟩ (show n - (i + 1) < n - i by omega) (st4 e1 e2 hw)
  · have g2 : i = n := by simp at g1; omega
    subst g2
    have hs := partsT z i
    have ht := tparts (lowT z i)
    have e1 : IntKind.i64.wrap (highT z i + IntKind.i64.wrap ((lowT z i).tdiv 1073741824)) = highT z i + (lowT z i).tdiv 1073741824 := by
      rw [wrap64 (x := (lowT z i).tdiv 1073741824) (by omega), wrap64 (by omega)]
    conv => whnf
    repeat ((first | with_reducible refine branch_true rfl ?_ | with_reducible refine branch_false rfl ?_); conv => whnf)
    refine branch_of (fun g3 => ?_) (fun g3 => ?_)
    · have g3 : highT z i + (lowT z i).tdiv 1073741824 < -1073741825 := by
        have := of_decide_eq_true g3
        rw [← e1]; exact this
      conv => whnf
      repeat ((first | with_reducible refine branch_true rfl ?_ | with_reducible refine branch_false rfl ?_); conv => whnf)
      have : fitsI (sumZ z i) = false := fitsI_not.2 (.inl (by omega))
      rw [sumR, this]; rfl
    · have g3 : ¬ highT z i + (lowT z i).tdiv 1073741824 < -1073741825 := by
        have := of_decide_eq_false g3
        rw [← e1]; exact this
      conv => whnf
      repeat ((first | with_reducible refine branch_true rfl ?_ | with_reducible refine branch_false rfl ?_); conv => whnf)
      refine branch_of (fun g4 => ?_) (fun g4 => ?_)
      · have g4 : 1073741825 < highT z i + (lowT z i).tdiv 1073741824 := by
          have : decide (1073741825 < IntKind.i64.wrap (highT z i + IntKind.i64.wrap ((lowT z i).tdiv 1073741824))) = true := g4
          rw [e1] at this
          exact of_decide_eq_true this
        conv => whnf
        repeat ((first | with_reducible refine branch_true rfl ?_ | with_reducible refine branch_false rfl ?_); conv => whnf)
        have : fitsI (sumZ z i) = false := fitsI_not.2 (.inr (by omega))
        rw [sumR, this]; rfl
      · have g4 : ¬ 1073741825 < highT z i + (lowT z i).tdiv 1073741824 := by
          have : decide (1073741825 < IntKind.i64.wrap (highT z i + IntKind.i64.wrap ((lowT z i).tdiv 1073741824))) = false := g4
          rw [e1] at this
          exact of_decide_eq_false this
        have e3 : IntKind.i64.wrap (IntKind.i64.wrap (IntKind.i64.wrap (highT z i + IntKind.i64.wrap ((lowT z i).tdiv 1073741824)) * 1073741824) + (lowT z i).tmod 1073741824) = sumZ z i := by
          rw [e1, wrap64 (x := _ * _) (by omega), wrap64 (by omega)]
          omega
        conv => whnf
        repeat ((first | with_reducible refine branch_true rfl ?_ | with_reducible refine branch_false rfl ?_); conv => whnf)
        have hc := refFits (sumZ z i)
        rw [← e3] at hc
        cases hf : fitsI (sumZ z i) with
        | false =>
          rw [e3, hf] at hc
          rw [← e3] at hc
          refine call_is (v := .bool false) hc ?_
          conv => whnf
          repeat ((first | with_reducible refine branch_true rfl ?_ | with_reducible refine branch_false rfl ?_); conv => whnf)
          rw [sumR, hf]; rfl
        | true =>
          rw [e3, hf] at hc
          rw [← e3] at hc
          refine call_is (v := .bool true) hc ?_
          conv => whnf
          repeat ((first | with_reducible refine branch_true rfl ?_ | with_reducible refine branch_false rfl ?_); conv => whnf)
          rw [e3, sumR, hf]; rfl
end Go.Proofs


set_option linter.unusedVariables false
namespace Go.Proofs
open Ax Go
set_option maxRecDepth 10000
def comes (p : Py) : Bool := decide (p.s = 1) || decide (p.s = 4)
theorem coming (p : Py) : CallOK Try.prog 33 [encP p] (fun r => r = .bool (comes p)) := by
  refine okP ?_
  conv => whnf
  repeat ((first | with_reducible refine branch_true rfl ?_ | with_reducible refine branch_false rfl ?_); conv => whnf)
  refine branch_of (fun h => ?_) (fun h => ?_)
  · have h : p.s = 1 := of_decide_eq_true h
    conv => whnf
    repeat ((first | with_reducible refine branch_true rfl ?_ | with_reducible refine branch_false rfl ?_); conv => whnf)
    simp [comes, h]
  · have h : ¬ p.s = 1 := of_decide_eq_false h
    conv => whnf
    repeat ((first | with_reducible refine branch_true rfl ?_ | with_reducible refine branch_false rfl ?_); conv => whnf)
    simp [comes, h]
theorem waits (p : Py) : CallOK Try.prog 37 [encP p] (fun r => r = .bool (comes p)) := by
  refine okP ?_
  conv => whnf
  repeat ((first | with_reducible refine branch_true rfl ?_ | with_reducible refine branch_false rfl ?_); conv => whnf)
  refine branch_of (fun h => ?_) (fun h => ?_)
  · have h : p.s = 1 := of_decide_eq_true h
    conv => whnf
    repeat ((first | with_reducible refine branch_true rfl ?_ | with_reducible refine branch_false rfl ?_); conv => whnf)
    simp [comes, h]
  · have h : ¬ p.s = 1 := of_decide_eq_false h
    conv => whnf
    repeat ((first | with_reducible refine branch_true rfl ?_ | with_reducible refine branch_false rfl ?_); conv => whnf)
    simp [comes, h]
def payQ (cur : Int) (p : Py) : Bool := decide (p.c = cur) && comes p && decide (p.n < 0)
def getQ (cur : Int) (p : Py) : Bool := decide (p.c = cur) && comes p && !decide (p.n < 0)
def payL (cur : Int) (l : List Py) : List Int := (l.filter (payQ cur)).map fun p => -p.n
def getL (cur : Int) (l : List Py) : List Int := (l.filter (getQ cur)).map Py.n
def sumL (l : List Int) : Int := sumZ (fun j => l.getD j 0) l.length
def openS (l : List Py) (cur : Int) : Int × Int × Int :=
  bif decide (checkL l ≠ 0) then (0, 0, checkL l) else bif decide (cur < 0) || decide (7 < cur) then (0, 0, 25) else
  bif fitsI (sumL (payL cur l)) && fitsI (sumL (getL cur l)) then (sumL (payL cur l), sumL (getL cur l), 0) else (0, 0, 3)
def tup3 (p : Int × Int × Int) : AV := .tup [.int .i64 p.1, .int .i64 p.2.1, .int .i64 p.2.2]
theorem takeP {l : List Py} {i : Nat} (h : i < l.length) : l.take (i + 1) = l.take i ++ [atP l i] := by
  rw [List.take_add_one, List.getElem?_eq_getElem h, atP, List.getD, List.getElem?_eq_getElem h]; rfl
theorem pay_yes {cur : Int} {l : List Py} {i : Nat} (hi : i < l.length) (h : payQ cur (atP l i) = true) : payL cur (l.take (i + 1)) = payL cur (l.take i) ++ [-(atP l i).n] := by
  rw [payL, takeP hi, List.filter_append, List.map_append]; simp [h, payL]
theorem pay_no {cur : Int} {l : List Py} {i : Nat} (hi : i < l.length) (h : payQ cur (atP l i) = false) : payL cur (l.take (i + 1)) = payL cur (l.take i) := by
  rw [payL, takeP hi, List.filter_append, List.map_append]; simp [h, payL]
theorem get_yes {cur : Int} {l : List Py} {i : Nat} (hi : i < l.length) (h : getQ cur (atP l i) = true) : getL cur (l.take (i + 1)) = getL cur (l.take i) ++ [(atP l i).n] := by
  rw [getL, takeP hi, List.filter_append, List.map_append]; simp [h, getL]
theorem get_no {cur : Int} {l : List Py} {i : Nat} (hi : i < l.length) (h : getQ cur (atP l i) = false) : getL cur (l.take (i + 1)) = getL cur (l.take i) := by
  rw [getL, takeP hi, List.filter_append, List.map_append]; simp [h, getL]
theorem pay_len (cur : Int) (l : List Py) : (payL cur l).length ≤ l.length := by
  rw [payL, List.length_map]; exact List.length_filter_le _ _
theorem get_len (cur : Int) (l : List Py) : (getL cur l).length ≤ l.length := by
  rw [getL, List.length_map]; exact List.length_filter_le _ _
theorem rest_ok {p : Py} (h : restE p = 0) : nameOK p.m = true ∧ 0 ≤ p.c ∧ p.c ≤ 7 ∧ p.n ≠ 0 ∧ fitsI p.n = true ∧ 1 ≤ p.s ∧ p.s ≤ 4 := by
  unfold restE at h
  cases h1 : nameOK p.m <;> simp [h1] at h
  by_cases a1 : 0 ≤ p.c <;> by_cases a2 : p.c ≤ 7 <;> simp [a1, a2] at h
  by_cases a3 : p.n = 0 <;> cases h2 : fitsI p.n <;> simp [a3, h2] at h
  by_cases a4 : 1 ≤ p.s <;> by_cases a5 : p.s ≤ 4 <;> simp [a4, a5] at h
  exact ⟨rfl, a1, a2, a3, rfl, a4, a5⟩
theorem one_ok {last : Int} {p : Py} (h : oneE last p = 0) : last < p.id ∧ p.id ≤ 1152921504606846976 ∧ restE p = 0 := by
  by_cases h1 : last < p.id
  · by_cases h2 : p.id ≤ 1152921504606846976
    · rw [one_mid h1 h2] at h; exact ⟨h1, h2, h⟩
    · rw [one_high h2] at h; cases h
  · rw [one_low h1] at h; cases h
theorem from_ids {l : List Py} {last : Int} (h : checkFrom last l = 0) : (∀ c ∈ l, last < c.id ∧ c.id ≤ 1152921504606846976 ∧ restE c = 0) ∧ l.Pairwise fun a b => a.id < b.id := by
  induction l generalizing last with
  | nil => exact ⟨fun c hc => by simp at hc, List.Pairwise.nil⟩
  | cons c r ih =>
    by_cases hk : oneE last c = 0
    · rw [from_good hk] at h
      obtain ⟨h1, h2⟩ := ih h
      have h3 := one_ok hk
      refine ⟨fun q hq => ?_, List.pairwise_cons.2 ⟨fun q hq => (h1 q hq).1, h2⟩⟩
      rcases List.mem_cons.1 hq with rfl | hq
      · exact h3
      · obtain ⟨b1, b2⟩ := h1 q hq
        exact ⟨by omega, b2⟩
    · rw [from_bad hk] at h; exact absurd h hk
theorem check_good {l : List Py} (h : checkL l = 0) : l.length ≤ 1024 ∧ (∀ c ∈ l, 0 < c.id ∧ c.id ≤ 1152921504606846976 ∧ restE c = 0) ∧ l.Pairwise fun a b => a.id < b.id := by
  by_cases h1 : 1024 < l.length
  · rw [checkL_long h1] at h; cases h
  · rw [checkL_from (by omega)] at h
    obtain ⟨h2, h3⟩ := from_ids h
    exact ⟨by omega, fun c hc => h2 c hc, h3⟩
theorem atP_mem {l : List Py} {i : Nat} (h : i < l.length) : atP l i ∈ l := by
  rw [atP, List.getD, List.getElem?_eq_getElem h]; exact List.getElem_mem h
theorem good_n {l : List Py} (h : checkL l = 0) {c : Py} (hc : c ∈ l) : -1152921504606846976 ≤ c.n ∧ c.n ≤ 1152921504606846976 :=
  fitsI_iff.1 (rest_ok ((check_good h).2.1 c hc).2.2).2.2.2.2.1
theorem pay_fit {l : List Py} (h : checkL l = 0) (cur : Int) : ∀ i, i < (payL cur l).length → fitsI ((payL cur l).getD i 0) = true := by
  intro i hi
  rw [List.getD, List.getElem?_eq_getElem hi]
  obtain ⟨c, hc, e⟩ := List.mem_map.1 (List.getElem_mem hi)
  have := good_n h (List.mem_filter.1 hc).1
  show fitsI ((payL cur l)[i]) = true
  rw [← e]
  exact fitsI_iff.2 (by omega)
theorem get_fit {l : List Py} (h : checkL l = 0) (cur : Int) : ∀ i, i < (getL cur l).length → fitsI ((getL cur l).getD i 0) = true := by
  intro i hi
  rw [List.getD, List.getElem?_eq_getElem hi]
  obtain ⟨c, hc, e⟩ := List.mem_map.1 (List.getElem_mem hi)
  have := good_n h (List.mem_filter.1 hc).1
  show fitsI ((getL cur l)[i]) = true
  rw [← e]
  exact fitsI_iff.2 this
def IntsAt (L : List Int) (len : Nat) (g : Nat → AV) : Prop := len = L.length ∧ ∀ j, j < L.length → g j = .int .i64 (L.getD j 0)
theorem ints_nil {g : Nat → AV} : IntsAt [] 0 g := ⟨rfl, fun j hj => by simp at hj⟩
theorem ints_app {L : List Int} {w : Int} {z a : AV} {len : Nat} {g : Nat → AV} (h : IntsAt L len g) : IntsAt (L ++ [w]) (len + 1) (vapp z g len (vlist a [.int .i64 w]) 1) := by
  obtain ⟨h1, h2⟩ := h
  exact ⟨by rw [h1]; simp, vapp_at (a := .undef) h2 h1 rfl⟩
structure OpHd (l : List Py) (cur : Int) where
  i : Nat
  len : Nat
  g : Nat → AV
  len' : Nat
  g' : Nat → AV
  hi : i ≤ l.length
  hp : IntsAt (payL cur (l.take i)) len g
  hg : IntsAt (getL cur (l.take i)) len' g'
theorem op_pay {l : List Py} {cur : Int} (h : checkL l = 0) (x : OpHd l cur) (hi : x.i < l.length) (h1 : (atP l x.i).c = cur) (h2 : comes (atP l x.i) = true) (h3 : (atP l x.i).n < 0) {z a : AV} : ∃ y : OpHd l cur, y.i = x.i + 1 ∧ y.len = x.len + 1 ∧ y.g = vapp z x.g x.len (vlist a [.int .i64 (IntKind.i64.wrap (0 - (atP l x.i).n))]) 1 ∧ y.len' = x.len' ∧ y.g' = x.g' := by
  obtain ⟨i, len, g, len', g', hi0, hp, hg⟩ := x
  simp only at hi h1 h2 h3
  have hb := good_n h (atP_mem hi)
  have e : IntKind.i64.wrap (0 - (atP l i).n) = -(atP l i).n := by rw [wrap64 (by omega)]; omega
  rw [e]
  exact ⟨⟨i + 1, len + 1, _, len', g', hi, by rw [pay_yes hi (by simp [payQ, h1, h2, h3])]; exact ints_app hp, by rw [get_no hi (by simp [getQ, h3])]; exact hg⟩, rfl, rfl, rfl, rfl, rfl⟩
theorem op_get {l : List Py} {cur : Int} (x : OpHd l cur) (hi : x.i < l.length) (h1 : (atP l x.i).c = cur) (h2 : comes (atP l x.i) = true) (h3 : ¬ (atP l x.i).n < 0) {z a : AV} : ∃ y : OpHd l cur, y.i = x.i + 1 ∧ y.len = x.len ∧ y.g = x.g ∧ y.len' = x.len' + 1 ∧ y.g' = vapp z x.g' x.len' (vlist a [.int .i64 (atP l x.i).n]) 1 := by
  obtain ⟨i, len, g, len', g', hi0, hp, hg⟩ := x
  simp only at hi h1 h2 h3
  exact ⟨⟨i + 1, len, g, len' + 1, _, hi, by rw [pay_no hi (by simp [payQ, h3])]; exact hp, by rw [get_yes hi (by simp [getQ, h1, h2, h3])]; exact ints_app hg⟩, rfl, rfl, rfl, rfl, rfl⟩
theorem op_no {l : List Py} {cur : Int} (x : OpHd l cur) (hi : x.i < l.length) (h : ¬ ((atP l x.i).c = cur ∧ comes (atP l x.i) = true)) : ∃ y : OpHd l cur, y.i = x.i + 1 ∧ y.len = x.len ∧ y.g = x.g ∧ y.len' = x.len' ∧ y.g' = x.g' := by
  obtain ⟨i, len, g, len', g', hi0, hp, hg⟩ := x
  simp only at hi h
  have h0 : (decide ((atP l i).c = cur) && comes (atP l i)) = false := by
    by_cases h1 : (atP l i).c = cur
    · have : comes (atP l i) = false := by cases h2 : comes (atP l i) with | false => rfl | true => exact absurd ⟨h1, h2⟩ h
      simp [this]
    · simp [h1]
  exact ⟨⟨i + 1, len, g, len', g', hi, by rw [pay_no hi (by rw [payQ, h0]; rfl)]; exact hp, by rw [get_no hi (by rw [getQ, h0]; rfl)]; exact hg⟩, rfl, rfl, rfl, rfl, rfl⟩
theorem openOK (l : List Py) (cur : Int) : CallOK Try.prog 15 [encL l, .int .i64 cur] (fun r => r = tup3 (openS l cur)) := by
  refine okP ?_
  conv => whnf
  repeat ((first | with_reducible refine branch_true rfl ?_ | with_reducible refine branch_false rfl ?_); conv => whnf)
  refine call_is (check l) ?_
  conv => whnf
  repeat ((first | with_reducible refine branch_true rfl ?_ | with_reducible refine branch_false rfl ?_); conv => whnf)
  refine branch_of (fun h1 => ?_) (fun h1 => ?_)
  · have h1 : checkL l ≠ 0 := by simpa using h1
    conv => whnf
    repeat ((first | with_reducible refine branch_true rfl ?_ | with_reducible refine branch_false rfl ?_); conv => whnf)
    simp [openS, h1, tup3]
  · have h1 : checkL l = 0 := by simpa using h1
    have hn := (check_good h1).1
    have far : (cur < 0 ∨ 7 < cur) → AV.tup [.int .i64 0, .int .i64 0, .int .i64 25] = tup3 (openS l cur) := fun h => by
      have : (decide (cur < 0) || decide (7 < cur)) = true := by simpa using h
      simp only [openS, h1, this]; rfl
    conv => whnf
    repeat ((first | with_reducible refine branch_true rfl ?_ | with_reducible refine branch_false rfl ?_); conv => whnf)
    refine branch_of (fun h2 => ?_) (fun h2 => ?_)
    · have h2 : cur < 0 := of_decide_eq_true h2
      conv => whnf
      repeat ((first | with_reducible refine branch_true rfl ?_ | with_reducible refine branch_false rfl ?_); conv => whnf)
      exact far (.inl h2)
    · have h2 : ¬ cur < 0 := of_decide_eq_false h2
      conv => whnf
      repeat ((first | with_reducible refine branch_true rfl ?_ | with_reducible refine branch_false rfl ?_); conv => whnf)
      refine branch_of (fun h3 => ?_) (fun h3 => ?_)
      · have h3 : 8 ≤ cur := of_decide_eq_true h3
        conv => whnf
        repeat ((first | with_reducible refine branch_true rfl ?_ | with_reducible refine branch_false rfl ?_); conv => whnf)
        exact far (.inr (by omega))
      · have h3 : ¬ 8 ≤ cur := of_decide_eq_false h3
        have hS : openS l cur = bif fitsI (sumL (payL cur l)) && fitsI (sumL (getL cur l)) then (sumL (payL cur l), sumL (getL cur l), 0) else (0, 0, 3) := by
          have : (decide (cur < 0) || decide (7 < cur)) = false := by simp; omega
          simp only [openS, h1, this]; rfl
        conv => whnf
        repeat ((first | with_reducible refine branch_true rfl ?_ | with_reducible refine branch_false rfl ?_); conv => whnf)
        refine loop_by (cx := cxP) rfl progOK (ι := OpHd l cur) (fun x => l.length - x.i) (fun x => ⟨[(1, .int .i64 cur), (7, .own (.vec 1 x.len x.g)), (8, .own (.vec 1 x.len' x.g')), (22, encL l), (23, .int .i64 l.length), (24, .int .i64 x.i)], [], [], none⟩) ?_ ⟨0, 0, _, 0, _, Nat.zero_le _, ints_nil, ints_nil⟩
        intro x ih
        have hxi := x.hi
        have hp1 := x.hp.1
        have hp2 := pay_len cur (l.take x.i)
        have hg1 := x.hg.1
        have hg2 := get_len cur (l.take x.i)
        have ht := List.length_take_le x.i l
        conv => whnf
        repeat ((first | with_reducible refine branch_true rfl ?_ | with_reducible refine branch_false rfl ?_); conv => whnf)
        refine branch_of (fun g1 => ?_) (fun g1 => ?_)
        · have g2 : x.i < l.length := by simpa using g1
          have hw : IntKind.i64.wrap ((x.i : Int) + 1) = ((x.i + 1 : Nat) : Int) := by rw [wrap64 (by omega)]; omega
          have next : ∀ (y : OpHd l cur) {len len' : Nat} {g g' : Nat → AV}, y.i = x.i + 1 → y.len = len → y.g = g → y.len' = len' → y.g' = g' → ∀ K : St → Prop, (∀ j : OpHd l cur, l.length - j.i < l.length - x.i → K (St.mk [(1, .int .i64 cur), (7, .own (.vec 1 j.len j.g)), (8, .own (.vec 1 j.len' j.g')), (22, encL l), (23, .int .i64 l.length), (24, .int .i64 j.i)] [] [] none)) → K (St.mk [(1, .int .i64 cur), (7, .own (.vec 1 len g)), (8, .own (.vec 1 len' g')), (22, encL l), (23, .int .i64 l.length), (24, .int .i64 (IntKind.i64.wrap ((x.i : Int) + 1)))] [] [] none) := by
            intro y len len' g g' e1 e2 e3 e4 e5 K hK
            subst e2 e3 e4 e5
            rw [hw, ← e1]
            exact hK y (by omega)
          conv => whnf
          repeat ((first | with_reducible refine branch_true rfl ?_ | with_reducible refine branch_false rfl ?_); conv => whnf)
          refine st_addr (sz := 5) (len := l.length) (n := x.i) (u := 51) (g := fun i => encP (atP l i)) rfl rfl rfl rfl rfl (in_range g2) ?_
          conv => whnf
          repeat ((first | with_reducible refine branch_true rfl ?_ | with_reducible refine branch_false rfl ?_); conv => whnf)
          refine branch_of (fun g3 => ?_) (fun g3 => ?_)
          · have g3 : ¬ (atP l x.i).c = cur := by
              have : (!decide ((atP l x.i).c = cur)) = true := g3
              simpa using this
            conv => whnf
            repeat ((first | with_reducible refine branch_true rfl ?_ | with_reducible refine branch_false rfl ?_); conv => whnf)
            obtain ⟨y, e1, e2, e3, e4, e5⟩ := op_no x g2 (fun h => g3 h.1)
            exact next y e1 e2 e3 e4 e5 (fun s => SLoop _ _ _ _ _ _ s _) ih
          · have g3 : (atP l x.i).c = cur := by
              have : (!decide ((atP l x.i).c = cur)) = false := g3
              simpa using this
            conv => whnf
            repeat ((first | with_reducible refine branch_true rfl ?_ | with_reducible refine branch_false rfl ?_); conv => whnf)
            refine call_is (coming (atP l x.i)) ?_
            conv => whnf
            repeat ((first | with_reducible refine branch_true rfl ?_ | with_reducible refine branch_false rfl ?_); conv => whnf)
            cases g4 : comes (atP l x.i) with
            | false =>
              conv => whnf
              repeat ((first | with_reducible refine branch_true rfl ?_ | with_reducible refine branch_false rfl ?_); conv => whnf)
              obtain ⟨y, e1, e2, e3, e4, e5⟩ := op_no x g2 (fun h => by rw [g4] at h; exact absurd h.2 (by decide))
              exact next y e1 e2 e3 e4 e5 (fun s => SLoop _ _ _ _ _ _ s _) ih
            | true =>
              conv => whnf
              repeat ((first | with_reducible refine branch_true rfl ?_ | with_reducible refine branch_false rfl ?_); conv => whnf)
              refine branch_of (fun g5 => ?_) (fun g5 => ?_)
              · have g5 : (atP l x.i).n < 0 := of_decide_eq_true g5
                conv => whnf
                repeat ((first | with_reducible refine branch_true rfl ?_ | with_reducible refine branch_false rfl ?_); conv => whnf)
                refine st_append (sz := 1) (len := x.len) (g := x.g) (u := 3) (m := 1) (gg := vlist (zeroElem Try.prog 3) [.int .i64 (IntKind.i64.wrap (0 - (atP l x.i).n))]) rfl rfl rfl rfl rfl (room8 (by omega)) ?_
                conv => whnf
                repeat ((first | with_reducible refine branch_true rfl ?_ | with_reducible refine branch_false rfl ?_); conv => whnf)
                obtain ⟨y, e1, e2, e3, e4, e5⟩ := op_pay h1 x g2 g3 g4 g5 (z := zeroElem Try.prog 3) (a := zeroElem Try.prog 3)
                exact next y e1 e2 e3 e4 e5 (fun s => SLoop _ _ _ _ _ _ s _) ih
              · have g5 : ¬ (atP l x.i).n < 0 := of_decide_eq_false g5
                conv => whnf
                repeat ((first | with_reducible refine branch_true rfl ?_ | with_reducible refine branch_false rfl ?_); conv => whnf)
                refine st_append (sz := 1) (len := x.len') (g := x.g') (u := 3) (m := 1) (gg := vlist (zeroElem Try.prog 3) [.int .i64 (atP l x.i).n]) rfl rfl rfl rfl rfl (room8 (by omega)) ?_
                conv => whnf
                repeat ((first | with_reducible refine branch_true rfl ?_ | with_reducible refine branch_false rfl ?_); conv => whnf)
                obtain ⟨y, e1, e2, e3, e4, e5⟩ := op_get x g2 g3 g4 g5 (z := zeroElem Try.prog 3) (a := zeroElem Try.prog 3)
                exact next y e1 e2 e3 e4 e5 (fun s => SLoop _ _ _ _ _ _ s _) ih
        · have g2 : x.i = l.length := by simp at g1; omega
          have hP := x.hp
          have hG := x.hg
          rw [g2, List.take_length] at hP hG
          obtain ⟨p1, p2⟩ := hP
          obtain ⟨q1, q2⟩ := hG
          have hp3 := pay_len cur l
          have hg3 := get_len cur l
          conv => whnf
          repeat ((first | with_reducible refine branch_true rfl ?_ | with_reducible refine branch_false rfl ?_); conv => whnf)
          have hs1 := ok_same (.cons (.vec (g := x.g) p2) .nil) (centsSum (fun j => (payL cur l).getD j 0) (payL cur l).length (by omega) (pay_fit h1 cur))
          have hs2 := ok_same (.cons (.vec (g := x.g') q2) .nil) (centsSum (fun j => (getL cur l).getD j 0) (getL cur l).length (by omega) (get_fit h1 cur))
          rw [← p1, show sumZ (fun j => (payL cur l).getD j 0) x.len = sumL (payL cur l) by rw [p1]; rfl] at hs1
          rw [← q1, show sumZ (fun j => (getL cur l).getD j 0) x.len' = sumL (getL cur l) by rw [q1]; rfl] at hs2
          cases f1 : fitsI (sumL (payL cur l)) with
          | false =>
            rw [sumR, f1] at hs1
            refine call_is (v := .tup [.int .i64 0, .int .i64 3]) hs1 ?_
            conv => whnf
            repeat ((first | with_reducible refine branch_true rfl ?_ | with_reducible refine branch_false rfl ?_); conv => whnf)
            rw [hS, f1]; rfl
          | true =>
            rw [sumR, f1] at hs1
            refine call_is (v := .tup [.int .i64 (sumL (payL cur l)), .int .i64 0]) hs1 ?_
            conv => whnf
            repeat ((first | with_reducible refine branch_true rfl ?_ | with_reducible refine branch_false rfl ?_); conv => whnf)
            cases f2 : fitsI (sumL (getL cur l)) with
            | false =>
              rw [sumR, f2] at hs2
              refine call_is (v := .tup [.int .i64 0, .int .i64 3]) hs2 ?_
              conv => whnf
              repeat ((first | with_reducible refine branch_true rfl ?_ | with_reducible refine branch_false rfl ?_); conv => whnf)
              rw [hS, f1, f2]; rfl
            | true =>
              rw [sumR, f2] at hs2
              refine call_is (v := .tup [.int .i64 (sumL (getL cur l)), .int .i64 0]) hs2 ?_
              conv => whnf
              repeat ((first | with_reducible refine branch_true rfl ?_ | with_reducible refine branch_false rfl ?_); conv => whnf)
              rw [hS, f1, f2]; rfl
end Go.Proofs

