import Derived.Test.YtemajhloddkifaaLO
import Derived.Test.YtemajhloddkifaaAxSem2
import Derived.Test.YtemajhloddkifaaLK
import Derived.Test.YtemajhloddkifaaLL
import Derived.Test.YtemajhloddkifaaLwGoes
set_option linter.unusedVariables false
namespace Go.Proofs
open Ax Go
set_option maxRecDepth 10000
def keyOf (f : Fl) : Key := (f.m, f.c)
open Classical in
noncomputable def keysF (fl : Nat → Fl) : Nat → List Key
  | 0 => []
  | n + 1 => if keyOf (fl n) ∈ keysF fl n then keysF fl n else keysF fl n ++ [keyOf (fl n)]
abbrev selK (k : Key) (fl : Nat → Fl) (n : Nat) : List Int := sel (selP false k.1 k.2) fl n
abbrev totK (k : Key) (fl : Nat → Fl) (n : Nat) : Int := tot (selP false k.1 k.2) fl n
theorem selP_key {k : Key} {f : Fl} : selP false k.1 k.2 f = true ↔ keyOf f = k := by
  unfold selP keyOf
  constructor
  · intro h; simp at h; exact Prod.ext h.2 h.1
  · rintro rfl; simp
theorem selP_key_not {k : Key} {f : Fl} (h : keyOf f ≠ k) : selP false k.1 k.2 f = false := by
  rw [Bool.eq_false_iff, ne_eq, selP_key]; exact h
theorem keysF_in {fl : Nat → Fl} {n : Nat} (h : keyOf (fl n) ∈ keysF fl n) : keysF fl (n + 1) = keysF fl n := by rw [keysF, if_pos h]
theorem keysF_new {fl : Nat → Fl} {n : Nat} (h : keyOf (fl n) ∉ keysF fl n) : keysF fl (n + 1) = keysF fl n ++ [keyOf (fl n)] := by rw [keysF, if_neg h]
theorem mem_keysF {fl : Nat → Fl} {n : Nat} {k : Key} : k ∈ keysF fl n ↔ ∃ j, j < n ∧ keyOf (fl j) = k := by
  induction n with
  | zero => simp [keysF]
  | succ n ih =>
    by_cases h : keyOf (fl n) ∈ keysF fl n
    · rw [keysF_in h, ih]
      constructor
      · rintro ⟨j, h1, h2⟩; exact ⟨j, by omega, h2⟩
      · rintro ⟨j, h1, h2⟩
        rcases Nat.lt_or_ge j n with h3 | h3
        · exact ⟨j, h3, h2⟩
        · have : j = n := by omega
          subst this
          rw [h2] at h; exact ih.1 h
    · rw [keysF_new h, List.mem_append, ih, List.mem_singleton]
      constructor
      · rintro (⟨j, h1, h2⟩ | rfl)
        · exact ⟨j, by omega, h2⟩
        · exact ⟨n, by omega, rfl⟩
      · rintro ⟨j, h1, h2⟩
        rcases Nat.lt_or_ge j n with h3 | h3
        · exact .inl ⟨j, h3, h2⟩
        · have : j = n := by omega
          subst this
          exact .inr h2.symm
theorem keysF_nodup (fl : Nat → Fl) (n : Nat) : (keysF fl n).Nodup := by
  induction n with
  | zero => exact List.nodup_nil
  | succ n ih =>
    by_cases h : keyOf (fl n) ∈ keysF fl n
    · rw [keysF_in h]; exact ih
    · rw [keysF_new h]
      exact List.nodup_append.2 ⟨ih, List.pairwise_singleton _ _, fun a ha b hb => by simp at hb; subst hb; exact fun e => h (e ▸ ha)⟩
theorem keysF_len (fl : Nat → Fl) (n : Nat) : (keysF fl n).length ≤ n := by
  induction n with
  | zero => simp [keysF]
  | succ n ih =>
    by_cases h : keyOf (fl n) ∈ keysF fl n
    · rw [keysF_in h]; omega
    · rw [keysF_new h, List.length_append]; simp; omega
theorem selK_none {fl : Nat → Fl} {n : Nat} {k : Key} (h : k ∉ keysF fl n) : selK k fl n = [] := by
  rw [mem_keysF] at h
  induction n with
  | zero => rfl
  | succ n ih =>
    show sel _ _ _ = _
    rw [sel_not (selP_key_not fun e => h ⟨n, by omega, e⟩)]
    exact ih fun ⟨j, h1, h2⟩ => h ⟨j, by omega, h2⟩
theorem selK_pos {fl : Nat → Fl} {n : Nat} {k : Key} (h : k ∈ keysF fl n) : 0 < (selK k fl n).length := by
  rw [mem_keysF] at h
  obtain ⟨j, h1, h2⟩ := h
  induction n with
  | zero => omega
  | succ n ih =>
    show 0 < (sel _ _ _).length
    rcases Nat.lt_or_ge j n with h3 | h3
    · have := ih h3
      by_cases h4 : keyOf (fl n) = k
      · rw [sel_at (selP_key.2 h4)]; simp
      · rw [sel_not (selP_key_not h4)]; exact this
    · have : j = n := by omega
      subst this
      rw [sel_at (selP_key.2 h2)]; simp
theorem eqKey_enc (a b : Key) : eqKey Try.prog 54 (encK a) (encK b) = true ↔ a = b := by
  have e : eqKey Try.prog 54 (encK a) (encK b) = (decide (a.1 = b.1) && (decide (a.2 = b.2) && true)) := by kernel_rfl
  rw [e]
  constructor
  · intro h; simp at h; exact Prod.ext h.1 h.2
  · rintro rfl; simp
/-- An entry of the sums: a key, and the cents of its flows. -/
def EntAt (fl : Nat → Fl) (n : Nat) (k : Key) (p : AV × AV) : Prop := p.1 = encK k ∧ ∃ g, p.2 = .own (.vec 1 (selK k fl n).length g) ∧ ∀ i, i < (selK k fl n).length → g i = .int .i64 ((selK k fl n).getD i 0)
theorem entAt_key {fl : Nat → Fl} {n : Nat} (k : Key) (p : AV × AV) (h : EntAt fl n k p) : p.1 = encK k := h.1
theorem entAt_keep {fl : Nat → Fl} {n : Nat} {k : Key} {p : AV × AV} (hk : k ≠ keyOf (fl n)) (h : EntAt fl n k p) : EntAt fl (n + 1) k p := by
  have : selK k fl (n + 1) = selK k fl n := sel_not (selP_key_not (Ne.symm hk))
  unfold EntAt
  rw [this]; exact h
noncomputable abbrev zero3 : AV := zeroElem Try.prog 3
theorem entAt_more {fl : Nat → Fl} {n : Nat} {p : AV × AV} {len : Nat} {g v : Nat → AV} (hp : p.1 = encK (keyOf (fl n))) (hl : len = (selK (keyOf (fl n)) fl n).length) (hg : ∀ i, i < (selK (keyOf (fl n)) fl n).length → g i = .int .i64 ((selK (keyOf (fl n)) fl n).getD i 0)) (hv : v 0 = .int .i64 (fl n).n) :
    EntAt fl (n + 1) (keyOf (fl n)) (p.1, .own (.vec 1 (len + 1) (vapp zero3 g len v 1))) := by
  have : selK (keyOf (fl n)) fl (n + 1) = selK (keyOf (fl n)) fl n ++ [(fl n).n] := sel_at (selP_key.2 rfl)
  unfold EntAt
  rw [this]
  refine ⟨hp, vapp zero3 g len v 1, ?_, vapp_at (z := zero3) (a := .undef) hg hl hv⟩
  rw [List.length_append, hl]; rfl
/-- The keys, as they stand in the list. -/
def KeysAt (l : List Key) (len : Nat) (g : Nat → AV) : Prop := len = l.length ∧ ∀ j k, l[j]? = some k → g j = encK k
theorem keysAt_snoc {l : List Key} {len : Nat} {g v : Nat → AV} {k : Key} {z : AV} (h : KeysAt l len g) (hv : v 0 = encK k) : KeysAt (l ++ [k]) (len + 1) (vapp z g len v 1) := by
  obtain ⟨h1, h2⟩ := h
  refine ⟨by simp [h1], fun j q hj => ?_⟩
  unfold vapp
  by_cases h3 : j < len
  · rw [show Nat.blt j len = true by rw [Nat.blt_eq]; exact h3, cond_true]
    rw [List.getElem?_append_left (by omega)] at hj
    exact h2 j q hj
  · have e : Nat.blt j len = false := by rw [Bool.eq_false_iff, ne_eq, Nat.blt_eq]; omega
    have hj' := (List.getElem?_eq_some_iff.1 hj).1
    simp at hj'
    have : j = len := by omega
    subst this
    rw [e, cond_false, show Nat.blt j (j + 1) = true by rw [Nat.blt_eq]; omega, cond_true, Nat.sub_self, hv]
    rw [h1, List.getElem?_append_right (by omega)] at hj
    simp at hj
    rw [hj]
theorem keysAt_list {l : List Key} {len : Nat} {g : Nat → AV} (h : KeysAt l len g) : ((List.range len).map fun i => oneOf 2 (g i)) = l.map encK := by
  obtain ⟨h1, h2⟩ := h
  apply List.ext_getElem?
  intro i
  by_cases hi : i < l.length
  · have e := h2 i l[i] (List.getElem?_eq_getElem hi)
    simp [h1, hi, e]; rfl
  · simp [h1, hi]
/-! ### what is netted -/
def netF (fl : Nat → Fl) (n : Nat) (ks : List Key) : List Fl := ks.filterMap fun k => if totK k fl n = 0 then none else some ⟨k.1, k.2, totK k fl n, 0⟩
def netOK (fl : Nat → Fl) (n : Nat) (ks : List Key) : Bool := ks.all fun k => fitsI (totK k fl n)
def netE (fl : Nat → Fl) (n : Nat) (ks : List Key) : Int := if checkE fl n ≠ 0 then checkE fl n else bif netOK fl n ks then 0 else 3
def netL (fl : Nat → Fl) (n : Nat) (ks : List Key) : List Fl := if netE fl n ks = 0 then netF fl n ks else []
/-- A list of flows, as it stands in a slice. -/
def FlowsAt (l : List Fl) (len : Nat) (g : Nat → AV) : Prop := len = l.length ∧ ∀ j f, l[j]? = some f → g j = encF f
theorem flowsAt_snoc {l : List Fl} {len : Nat} {g v : Nat → AV} {k : Fl} {z : AV} (h : FlowsAt l len g) (hv : v 0 = encF k) : FlowsAt (l ++ [k]) (len + 1) (vapp z g len v 1) := by
  obtain ⟨h1, h2⟩ := h
  refine ⟨by simp [h1], fun j q hj => ?_⟩
  unfold vapp
  by_cases h3 : j < len
  · rw [show Nat.blt j len = true by rw [Nat.blt_eq]; exact h3, cond_true]
    rw [List.getElem?_append_left (by omega)] at hj
    exact h2 j q hj
  · have e : Nat.blt j len = false := by rw [Bool.eq_false_iff, ne_eq, Nat.blt_eq]; omega
    have hj' := (List.getElem?_eq_some_iff.1 hj).1
    simp at hj'
    have : j = len := by omega
    subst this
    rw [e, cond_false, show Nat.blt j (j + 1) = true by rw [Nat.blt_eq]; omega, cond_true, Nat.sub_self, hv]
    rw [h1, List.getElem?_append_right (by omega)] at hj
    simp at hj
    rw [hj]
theorem netF_len (fl : Nat → Fl) (n : Nat) (ks : List Key) : (netF fl n ks).length ≤ ks.length := List.length_filterMap_le _ _
theorem netF_snoc_zero {fl : Nat → Fl} {n : Nat} {ks : List Key} {k : Key} (h : totK k fl n = 0) : netF fl n (ks ++ [k]) = netF fl n ks := by
  unfold netF; rw [List.filterMap_append]; simp [h]
theorem netF_snoc {fl : Nat → Fl} {n : Nat} {ks : List Key} {k : Key} (h : totK k fl n ≠ 0) : netF fl n (ks ++ [k]) = netF fl n ks ++ [⟨k.1, k.2, totK k fl n, 0⟩] := by
  unfold netF; rw [List.filterMap_append]; simp [h]
theorem take_snoc {ks : List Key} {i : Nat} {k : Key} (h : ks[i]? = some k) : ks.take (i + 1) = ks.take i ++ [k] := by
  rw [List.take_add_one, h]; rfl
end Go.Proofs


set_option linter.unusedVariables false
namespace Go.Proofs
open Ax Go
set_option maxRecDepth 10000
def ghN (f r : Nat) : List Ghost := match f, r with | 11, 6 => [.fresh 5] | 11, 14 => [.adopt 5] | _, _ => []
def keepN (f r : Nat) : Option (List Nat) := match f, r with
  | 11, 7 => some [2, 4, 5, 19, 20, 21]
  | 11, 16 => some [2, 4, 51, 52, 53]
  | 24, 2 => some [2, 5, 6, 7]
  | 13, 4 => some [0, 1, 5]
  | _, _ => none
def keepXN (f r : Nat) : Option (List Nat) := match f, r with
  | 11, 7 => some [2, 4, 5]
  | 11, 16 => some [2, 3]
  | 24, 2 => some [2]
  | 13, 4 => some [4]
  | _, _ => none
noncomputable def cxN : Ctx where
  P := Try.prog
  inl := fun _ => false
  keep := keepN
  keepX := keepXN
  xf := fun _ _ _ => false
  ow := fun _ => false
  gh := ghN
  gf := fun _ => []
  ln := fun _ => false
  srt := srtT
theorem okN {f a Q} (h : stepCall (SX Try.prog yesCalm) cxN yesCalm f a Q) : CallOK Try.prog f a Q := okOf (cx := cxN) rfl progOK h
theorem nanS (s : ByteArray) : CallOK Try.prog 50 [.str s] (fun r => r = .bool false) := by
  refine okN ?_
  conv => whnf
  repeat ((first | with_reducible refine branch_true rfl ?_ | with_reducible refine branch_false rfl ?_); conv => whnf)
  simp
theorem nanI (s : Int) : CallOK Try.prog 51 [.int .i64 s] (fun r => r = .bool false) := by
  refine okN ?_
  conv => whnf
  repeat ((first | with_reducible refine branch_true rfl ?_ | with_reducible refine branch_false rfl ?_); conv => whnf)
  simp
theorem cmpStr (x y : ByteArray) : CallOK Try.prog 33 [.str x, .str y] (fun r => r = .int .i64 (cmpS x y)) := by
  refine okN ?_
  conv => whnf
  repeat ((first | with_reducible refine branch_true rfl ?_ | with_reducible refine branch_false rfl ?_); conv => whnf)
  refine call_is (nanS x) ?_
  conv => whnf
  repeat ((first | with_reducible refine branch_true rfl ?_ | with_reducible refine branch_false rfl ?_); conv => whnf)
  refine call_is (nanS y) ?_
  conv => whnf
  repeat ((first | with_reducible refine branch_true rfl ?_ | with_reducible refine branch_false rfl ?_); conv => whnf)
  refine branch_of (fun h1 => ?_) (fun h1 => ?_)
  · conv => whnf
    repeat ((first | with_reducible refine branch_true rfl ?_ | with_reducible refine branch_false rfl ?_); conv => whnf)
    have h1 : strLt x y = true := h1
    simp [cmpS, h1]
  · conv => whnf
    repeat ((first | with_reducible refine branch_true rfl ?_ | with_reducible refine branch_false rfl ?_); conv => whnf)
    have h1 : strLt x y = false := h1
    refine branch_of (fun h2 => ?_) (fun h2 => ?_)
    · conv => whnf
      repeat ((first | with_reducible refine branch_true rfl ?_ | with_reducible refine branch_false rfl ?_); conv => whnf)
      have h2 : (strLt x y || decide (x = y)) = false := by simpa using h2
      rw [h1] at h2
      have h2 : ¬ x = y := by simpa using h2
      simp [cmpS, h1, h2]
    · conv => whnf
      repeat ((first | with_reducible refine branch_true rfl ?_ | with_reducible refine branch_false rfl ?_); conv => whnf)
      have h2 : (!(strLt x y || decide (x = y))) = false := h2
      rw [h1] at h2
      have h2 : x = y := by simpa using h2
      subst h2
      simp [cmpS, strLt_irr]
theorem cmpInt (x y : Int) : CallOK Try.prog 34 [.int .i64 x, .int .i64 y] (fun r => r = .int .i64 (cmpI x y)) := by
  refine okN ?_
  conv => whnf
  repeat ((first | with_reducible refine branch_true rfl ?_ | with_reducible refine branch_false rfl ?_); conv => whnf)
  refine call_is (nanI x) ?_
  conv => whnf
  repeat ((first | with_reducible refine branch_true rfl ?_ | with_reducible refine branch_false rfl ?_); conv => whnf)
  refine call_is (nanI y) ?_
  conv => whnf
  repeat ((first | with_reducible refine branch_true rfl ?_ | with_reducible refine branch_false rfl ?_); conv => whnf)
  refine branch_of (fun h1 => ?_) (fun h1 => ?_)
  · conv => whnf
    repeat ((first | with_reducible refine branch_true rfl ?_ | with_reducible refine branch_false rfl ?_); conv => whnf)
    have h1 : x < y := of_decide_eq_true h1
    simp [cmpI, h1]
  · conv => whnf
    repeat ((first | with_reducible refine branch_true rfl ?_ | with_reducible refine branch_false rfl ?_); conv => whnf)
    have h1 : ¬ x < y := of_decide_eq_false h1
    refine branch_of (fun h2 => ?_) (fun h2 => ?_)
    · conv => whnf
      repeat ((first | with_reducible refine branch_true rfl ?_ | with_reducible refine branch_false rfl ?_); conv => whnf)
      have h2 : y < x := of_decide_eq_true h2
      simp [cmpI, h1, h2]
    · conv => whnf
      repeat ((first | with_reducible refine branch_true rfl ?_ | with_reducible refine branch_false rfl ?_); conv => whnf)
      have h2 : ¬ y < x := of_decide_eq_false h2
      simp [cmpI, h1, h2]
theorem cmpKey (a b : Key) : CallOK Try.prog 32 [encK a, encK b] (fun r => r = .int .i64 (cmpK a b)) := by
  refine okN ?_
  conv => whnf
  repeat ((first | with_reducible refine branch_true rfl ?_ | with_reducible refine branch_false rfl ?_); conv => whnf)
  refine branch_of (fun h1 => ?_) (fun h1 => ?_)
  · conv => whnf
    repeat ((first | with_reducible refine branch_true rfl ?_ | with_reducible refine branch_false rfl ?_); conv => whnf)
    have h1 : ¬ a.1 = b.1 := by simpa using h1
    refine call_is (cmpStr a.1 b.1) ?_
    conv => whnf
    repeat ((first | with_reducible refine branch_true rfl ?_ | with_reducible refine branch_false rfl ?_); conv => whnf)
    rw [cmpK, if_neg h1]
  · conv => whnf
    repeat ((first | with_reducible refine branch_true rfl ?_ | with_reducible refine branch_false rfl ?_); conv => whnf)
    have h1 : a.1 = b.1 := by simpa using h1
    refine call_is (cmpInt a.2 b.2) ?_
    conv => whnf
    repeat ((first | with_reducible refine branch_true rfl ?_ | with_reducible refine branch_false rfl ?_); conv => whnf)
    rw [cmpK, if_pos h1]
end Go.Proofs


set_option linter.unusedVariables false
namespace Go.Proofs
open Ax Go
set_option maxRecDepth 10000
noncomputable abbrev nil4 : AV := .own (.vec 4 0 fun _ => zeroElem Try.prog 34)
/-- What stands at the head of the loop over the flows. -/
structure NetHd (fl : Nat → Fl) (n : Nat) where
  i : Nat
  len : Nat
  g : Nat → AV
  ents : List (AV × AV)
  hi : i ≤ n
  hk : KeysAt (keysF fl i) len g
  he : F2 (EntAt fl i) (keysF fl i) ents
noncomputable def netS (fl : Nat → Fl) (n : Nat) (x : NetHd fl n) : St := ⟨[(2, nil4), (4, .mapr 0), (5, .uni (.vec 2 x.len x.g)), (19, encL fl n), (20, .int .i64 n), (21, .int .i64 x.i)], [.map 54 true x.ents], [], none⟩
/-- What stands at the head of the loop over the keys. -/
structure NetHe (fl : Nat → Fl) (n : Nat) (ks : List Key) where
  i : Nat
  len : Nat
  g : Nat → AV
  hi : i ≤ ks.length
  hf : FlowsAt (netF fl n (ks.take i)) len g
  ho : ∀ k ∈ ks.take i, fitsI (totK k fl n) = true
noncomputable def netT (fl : Nat → Fl) (n : Nat) (ks : List Key) (ents : List (AV × AV)) (e : Nat → AV) (len : Nat) (x : NetHe fl n ks) : St := ⟨[(2, .own (.vec 4 x.len x.g)), (4, .mapr 0), (51, .row 1 2 0 len), (52, .int .i64 len), (53, .int .i64 x.i)], [.map 54 true ents, .arr 2 len e], [], none⟩
theorem room24 {m : Nat} (h : m ≤ 1000000) : roomOK m 24 = true := by
  simp [roomOK]; omega
theorem room40 {m : Nat} (h : m ≤ 1000000) : roomOK m 40 = true := by
  simp [roomOK]; omega
theorem keyLook (k : Key) : (keyOk Try.prog 54 (encK k) && hasZero Try.prog 55) = true := by kernel_rfl
theorem keyOk54 (k : Key) : keyOk Try.prog 54 (encK k) = true := by kernel_rfl
theorem keyEnt {k : Key} {h : Heap} (hn : noIter 0 h = true) : (keyOk Try.prog 54 (encK k) && noIter 0 h && hasZero Try.prog 55 && (zeroAV Try.prog 55).isData) = true := by
  rw [keyOk54, hn, show hasZero Try.prog 55 = true by kernel_rfl, show (zeroAV Try.prog 55).isData = true by kernel_rfl]; rfl
theorem flowNet (fl : Nat → Fl) (n : Nat) (ks : List Key) (hr : RiseK ks) (hp : ks.Perm (keysF fl n)) : CallOK Try.prog 11 [encL fl n] (fun r => ∃ len g, r = .tup [.vec 4 len g, .int .i64 (netE fl n ks)] ∧ FlowsAt (netL fl n ks) len g) := by
  refine okN ?_
  conv => whnf
  repeat ((first | with_reducible refine branch_true rfl ?_ | with_reducible refine branch_false rfl ?_); conv => whnf)
  refine call_is (check fl n) ?_
  conv => whnf
  repeat ((first | with_reducible refine branch_true rfl ?_ | with_reducible refine branch_false rfl ?_); conv => whnf)
  refine branch_of (fun h1 => ?_) (fun h1 => ?_)
  · have h1 : checkE fl n ≠ 0 := by simpa using h1
    conv => whnf
    repeat ((first | with_reducible refine branch_true rfl ?_ | with_reducible refine branch_false rfl ?_); conv => whnf)
    have e : netE fl n ks = checkE fl n := by rw [netE, if_pos h1]
    exact ⟨0, _, congrArg (fun q => AV.tup [AV.vec 4 0 _, AV.int .i64 q]) e.symm, by rw [netL, if_neg (by rw [e]; exact h1)]; exact ⟨rfl, fun j f hj => by simp at hj⟩⟩
  · have h1 : checkE fl n = 0 := by simpa using h1
    obtain ⟨hn, hall⟩ := check_ok h1
    conv => whnf
    repeat ((first | with_reducible refine branch_true rfl ?_ | with_reducible refine branch_false rfl ?_); conv => whnf)
    refine loop_by (cx := cxN) rfl progOK (ι := NetHd fl n) (fun x => n - x.i) (netS fl n) ?_ ⟨0, 0, _, [], Nat.zero_le _, ⟨rfl, fun j k hj => by simp [keysF] at hj⟩, .nil⟩
    rintro ⟨i, len, g, ents, hi, hk, he⟩ ih
    have hlen := keysF_len fl i
    have hk0 := hk.1
    have helen := he.len
    conv => whnf
    repeat ((first | with_reducible refine branch_true rfl ?_ | with_reducible refine branch_false rfl ?_); conv => whnf)
    refine branch_of (fun g1 => ?_) (fun g1 => ?_)
    · have g2 : i < n := by simpa using g1
      have hw : IntKind.i64.wrap ((i : Int) + 1) = ((i + 1 : Nat) : Int) := by rw [wrap64 (by omega)]; omega
      conv => whnf
      repeat ((first | with_reducible refine branch_true rfl ?_ | with_reducible refine branch_false rfl ?_); conv => whnf)
      refine st_addr (sz := 4) (len := n) (n := i) (u := 34) (g := fun i => encF (fl i)) rfl rfl rfl rfl rfl (in_range g2) ?_
      conv => whnf
      repeat ((first | with_reducible refine branch_true rfl ?_ | with_reducible refine branch_false rfl ?_); conv => whnf)
      by_cases hin : keyOf (fl i) ∈ keysF fl i
      · obtain ⟨j, hj⟩ := List.getElem?_of_mem hin
        obtain ⟨p, hpj, hpk, gg, hpv, hpg⟩ := he.at hj
        have hpos := selK_pos hin
        have hsl : (selK (keyOf (fl i)) fl i).length ≤ i := sel_len _ _ _
        have hm : mpos Try.prog 54 ents (encK (keyOf (fl i))) = some j := mpos_at entAt_key eqKey_enc he (keysF_nodup fl i) hj
        have hv : mval .undef ents j = .own (.vec 1 (selK (keyOf (fl i)) fl i).length gg) := by rw [mval_at hpj, hpv]
        have hjl : j < ents.length := by rw [helen]; exact (List.getElem?_eq_some_iff.1 hj).1
        refine st_look (kt := 54) (et := 55) (id := 0) (j := j) (ents := ents) (reg := true) rfl rfl rfl rfl (keyLook (keyOf (fl i))) hm hv ?_
        conv => whnf
        repeat ((first | with_reducible refine branch_true rfl ?_ | with_reducible refine branch_false rfl ?_); conv => whnf)
        refine branch_false (decide_eq_false (by omega)) ?_
        conv => whnf
        repeat ((first | with_reducible refine branch_true rfl ?_ | with_reducible refine branch_false rfl ?_); conv => whnf)
        refine st_entry (kt := 54) (et := 55) (id := 0) (j := j) (ents := ents) rfl rfl rfl rfl (keyEnt (k := keyOf (fl i)) rfl) hm hv ?_
        conv => whnf
        repeat ((first | with_reducible refine branch_true rfl ?_ | with_reducible refine branch_false rfl ?_); conv => whnf)
        refine st_append (sz := 1) (len := (selK (keyOf (fl i)) fl i).length) (g := gg) (u := 3) (m := 1) (gg := vlist (zeroElem Try.prog 3) [.int .i64 (fl i).n]) rfl rfl rfl rfl rfl (room8 (by omega)) ?_
        conv => whnf
        repeat ((first | with_reducible refine branch_true rfl ?_ | with_reducible refine branch_false rfl ?_); conv => whnf)
        refine st_estore (kt := 54) (kk := .i64) (n := (j : Int)) (id := 0) rfl rfl rfl rfl (in_range (by rw [msetAt_len]; exact hjl)) rfl rfl ?_
        conv => whnf
        repeat ((first | with_reducible refine branch_true rfl ?_ | with_reducible refine branch_false rfl ?_); conv => whnf)
        refine loop_to ih ⟨i + 1, len, g, _, g2, by rw [keysF_in hin]; exact hk, ?_⟩ (show n - (i + 1) < n - i by omega) (congrArg (fun q => St.mk [(2, nil4), (4, .mapr 0), (5, .uni (.vec 2 len g)), (19, encL fl n), (20, .int .i64 n), (21, .int .i64 q)] [.map 54 true _] [] none) hw)
        rw [keysF_in hin, show ((j : Int).toNat) = j from rfl, msetAt_twice]
        refine he.setAt (keysF_nodup fl i) hj (fun b q hb hq => entAt_keep hb hq) fun q hq => ?_
        exact entAt_more hq.1 rfl hpg rfl
      · have hm : mpos Try.prog 54 ents (encK (keyOf (fl i))) = none := mpos_no entAt_key (fun a b => (eqKey_enc a b).1) he hin
        refine st_look_no (kt := 54) (et := 55) (id := 0) (ents := ents) (reg := true) rfl rfl rfl rfl (keyLook (keyOf (fl i))) hm ?_
        conv => whnf
        repeat ((first | with_reducible refine branch_true rfl ?_ | with_reducible refine branch_false rfl ?_); conv => whnf)
        refine st_append_uni (sz := 2) (len := len) (g := g) (u := 54) (m := 1) (gg := vlist (zeroElem Try.prog 54) [encK (keyOf (fl i))]) rfl rfl rfl rfl rfl (room24 (by omega)) ?_
        conv => whnf
        repeat ((first | with_reducible refine branch_true rfl ?_ | with_reducible refine branch_false rfl ?_); conv => whnf)
        refine st_entry_no (kt := 54) (et := 55) (id := 0) (ents := ents) rfl rfl rfl rfl (keyEnt (k := keyOf (fl i)) rfl) hm ?_
        conv => whnf
        repeat ((first | with_reducible refine branch_true rfl ?_ | with_reducible refine branch_false rfl ?_); conv => whnf)
        refine st_estore (kt := 54) (kk := .i64) (n := (ents.length : Int)) (id := 0) rfl rfl rfl rfl (in_range (by simp)) rfl rfl ?_
        conv => whnf
        repeat ((first | with_reducible refine branch_true rfl ?_ | with_reducible refine branch_false rfl ?_); conv => whnf)
        refine loop_to ih ⟨i + 1, len + 1, _, _, g2, ?_, ?_⟩ (show n - (i + 1) < n - i by omega) (congrArg (fun q => St.mk [(2, nil4), (4, .mapr 0), (5, .uni (.vec 2 (len + 1) _)), (19, encL fl n), (20, .int .i64 n), (21, .int .i64 q)] [.map 54 true _] [] none) hw)
        · rw [keysF_new hin]; exact keysAt_snoc hk rfl
        · rw [keysF_new hin, show ((ents.length : Int).toNat) = ents.length from rfl, msetAt_last]
          refine (he.mono fun a q ha hq => entAt_keep (fun e => hin (e ▸ ha)) hq).snoc ?_
          refine entAt_more (p := (encK (keyOf (fl i)), .undef)) rfl ?_ ?_ rfl
          · rw [selK_none hin]; rfl
          · rw [selK_none hin]; intro i hi; simp at hi
    · have g2 : i = n := by simp at g1; omega
      subst g2
      clear ih
      conv => whnf
      repeat ((first | with_reducible refine branch_true rfl ?_ | with_reducible refine branch_false rfl ?_); conv => whnf)
      refine cond_t (show (Nat.beq 2 2 && Nat.beq 2 2 && Nat.beq 0 0 && Nat.beq len len) = true by simp) ?_
      have hl : (List.range len).map (fun i => oneOf 2 (g i)) = (keysF fl i).map encK := keysAt_list hk
      refine ⟨?_, cAV, ?_, swoK, ?_⟩
      · show ((List.range len).map (fun i => oneOf 2 (g i))).length < _
        simp; omega
      · intro a ha b hb
        replace ha : a ∈ (List.range len).map (fun i => oneOf 2 (g i)) := ha
        replace hb : b ∈ (List.range len).map (fun i => oneOf 2 (g i)) := hb
        rw [hl] at ha hb
        obtain ⟨ka, _, rfl⟩ := List.mem_map.1 ha
        obtain ⟨kb, _, rfl⟩ := List.mem_map.1 hb
        exact call_is (v := .int .i64 (cmpK ka kb)) (cmpKey ka kb) rfl
      · intro l' hp' hs'
        replace hp' : l'.Perm ((List.range len).map (fun i => oneOf 2 (g i))) := hp'
        rw [hl] at hp'
        obtain rfl := sorted_eq hr hp hp' hs'
        have hks : len = ks.length := by rw [hk0, hp.length_eq]
        have hes : ∀ j k, ks[j]? = some k → splice g 0 len (vlist .undef (ks.map encK)) (0 + j) = encK k := by
          intro j k hj
          have hj2 := (List.getElem?_eq_some_iff.1 hj).1
          have e1 : Nat.blt j (0 + len) = true := by rw [Nat.blt_eq]; omega
          rw [Nat.zero_add]
          unfold splice
          rw [e1, show Nat.ble 0 j = true from Nat.ble_eq_true_of_le (Nat.zero_le _)]
          simp only [Bool.and_self, cond_true, vlist, Nat.sub_zero]
          rw [List.getD, List.getElem?_map, hj]; rfl
        generalize splice g 0 len (vlist .undef (ks.map encK)) = e at hes
        conv => whnf
        repeat ((first | with_reducible refine branch_true rfl ?_ | with_reducible refine branch_false rfl ?_); conv => whnf)
        refine loop_by (cx := cxN) rfl progOK (ι := NetHe fl i ks) (fun x => ks.length - x.i) (netT fl i ks ents e len) ?_ ⟨0, 0, _, Nat.zero_le _, ⟨by simp [netF], fun j k hj => by simp [netF] at hj⟩, by simp⟩
        rintro ⟨j, m, gf, hj, hf, ho⟩ ih
        conv => whnf
        repeat ((first | with_reducible refine branch_true rfl ?_ | with_reducible refine branch_false rfl ?_); conv => whnf)
        refine branch_of (fun g3 => ?_) (fun g3 => ?_)
        · have g4 : j < ks.length := by
            have := of_decide_eq_true g3
            simp at this; omega
          have hw : IntKind.i64.wrap ((j : Int) + 1) = ((j + 1 : Nat) : Int) := by rw [wrap64 (by omega)]; omega
          obtain ⟨k, hk1⟩ : ∃ k, ks[j]? = some k := ⟨_, List.getElem?_eq_getElem g4⟩
          have hkm : k ∈ keysF fl i := hp.mem_iff.1 (List.mem_of_getElem? hk1)
          obtain ⟨q, hq⟩ := List.getElem?_of_mem hkm
          obtain ⟨p, hpj, hpk, gg, hpv, hpg⟩ := he.at hq
          have hsl : (selK k fl i).length ≤ i := sel_len _ _ _
          have hm : mpos Try.prog 54 ents (encK k) = some q := mpos_at entAt_key eqKey_enc he (keysF_nodup fl i) hq
          have hv : mval .undef ents q = .own (.vec 1 (selK k fl i).length gg) := by rw [mval_at hpj, hpv]
          have hml := hf.1
          have hml2 := netF_len fl i (ks.take j)
          have hml3 : (ks.take j).length ≤ j := List.length_take_le _ _
          conv => whnf
          repeat ((first | with_reducible refine branch_true rfl ?_ | with_reducible refine branch_false rfl ?_); conv => whnf)
          refine st_addr_row (u := 54) (id := 1) (sz := 2) (lo := 0) (len := len) (n := (j : Int)) rfl rfl rfl rfl rfl (in_range (by omega)) ?_
          conv => whnf
          repeat ((first | with_reducible refine branch_true rfl ?_ | with_reducible refine branch_false rfl ?_); conv => whnf)
          refine st_load_e (id := 1) (sz := 2) (j := 0 + j) (len := len) (g := e) (cs := [.str k.1, .int .i64 k.2]) rfl rfl rfl (by omega) (hes j k hk1) rfl rfl ?_
          conv => whnf
          repeat ((first | with_reducible refine branch_true rfl ?_ | with_reducible refine branch_false rfl ?_); conv => whnf)
          refine st_look (kt := 54) (et := 55) (id := 0) (j := q) (ents := ents) (reg := true) rfl rfl rfl rfl (keyLook k) hm hv ?_
          conv => whnf
          repeat ((first | with_reducible refine branch_true rfl ?_ | with_reducible refine branch_false rfl ?_); conv => whnf)
          have hS := ok_same (.cons (.vec hpg) .nil) (centsSum (fun j => (selK k fl i).getD j 0) (selK k fl i).length (by omega) (sel_fits hall))
          have hT : sumZ (fun j => (selK k fl i).getD j 0) (selK k fl i).length = totK k fl i := rfl
          cases hfit : fitsI (totK k fl i) with
          | true =>
            rw [hT, sumR, hfit] at hS
            refine call_is (v := .tup [.int .i64 (totK k fl i), .int .i64 0]) hS ?_
            conv => whnf
            repeat ((first | with_reducible refine branch_true rfl ?_ | with_reducible refine branch_false rfl ?_); conv => whnf)
            have ho2 : ∀ k' ∈ ks.take (j + 1), fitsI (totK k' fl i) = true := by
              intro k' hk'
              rw [take_snoc hk1, List.mem_append, List.mem_singleton] at hk'
              rcases hk' with hk' | rfl
              · exact ho k' hk'
              · exact hfit
            refine branch_of (fun g5 => ?_) (fun g5 => ?_)
            · have g5 : totK k fl i ≠ 0 := by simpa using g5
              conv => whnf
              repeat ((first | with_reducible refine branch_true rfl ?_ | with_reducible refine branch_false rfl ?_); conv => whnf)
              refine st_append (sz := 4) (len := m) (g := gf) (u := 34) (m := 1) (gg := vlist (zeroElem Try.prog 34) [encF ⟨k.1, k.2, totK k fl i, 0⟩]) rfl rfl rfl rfl rfl (room40 (by omega)) ?_
              conv => whnf
              repeat ((first | with_reducible refine branch_true rfl ?_ | with_reducible refine branch_false rfl ?_); conv => whnf)
              refine loop_to ih ⟨j + 1, m + 1, _, g4, ?_, ho2⟩ (show ks.length - (j + 1) < ks.length - j by omega) (congrArg (fun q => St.mk [(2, .own (.vec 4 (m + 1) _)), (4, .mapr 0), (51, .row 1 2 0 len), (52, .int .i64 len), (53, .int .i64 q)] [.map 54 true ents, .arr 2 len e] [] none) hw)
              rw [take_snoc hk1, netF_snoc g5]
              exact flowsAt_snoc hf rfl
            · have g5 : totK k fl i = 0 := by simpa using g5
              conv => whnf
              repeat ((first | with_reducible refine branch_true rfl ?_ | with_reducible refine branch_false rfl ?_); conv => whnf)
              refine loop_to ih ⟨j + 1, m, gf, g4, ?_, ho2⟩ (show ks.length - (j + 1) < ks.length - j by omega) (congrArg (fun q => St.mk [(2, .own (.vec 4 m gf)), (4, .mapr 0), (51, .row 1 2 0 len), (52, .int .i64 len), (53, .int .i64 q)] [.map 54 true ents, .arr 2 len e] [] none) hw)
              rw [take_snoc hk1, netF_snoc_zero g5]
              exact hf
          | false =>
            rw [hT, sumR, hfit] at hS
            refine call_is (v := .tup [.int .i64 0, .int .i64 3]) hS ?_
            conv => whnf
            repeat ((first | with_reducible refine branch_true rfl ?_ | with_reducible refine branch_false rfl ?_); conv => whnf)
            have hno : netOK fl i ks = false := List.all_eq_false.2 ⟨k, List.mem_of_getElem? hk1, by simp [hfit]⟩
            have e : netE fl i ks = 3 := by rw [netE, if_neg (by simp [h1]), hno]; rfl
            exact ⟨0, _, congrArg (fun q => AV.tup [AV.vec 4 0 _, AV.int .i64 q]) e.symm, by rw [netL, if_neg (by simp [e])]; exact ⟨rfl, fun j f hj => by simp at hj⟩⟩
        · have g4 : j = ks.length := by
            have := of_decide_eq_false g3
            simp at this
            have hj : j ≤ ks.length := hj
            omega
          subst g4
          conv => whnf
          repeat ((first | with_reducible refine branch_true rfl ?_ | with_reducible refine branch_false rfl ?_); conv => whnf)
          rw [List.take_length] at hf ho
          have hyes : netOK fl i ks = true := List.all_eq_true.2 ho
          have e : netE fl i ks = 0 := by rw [netE, if_neg (by simp [h1]), hyes]; rfl
          exact ⟨m, gf, congrArg (fun q => AV.tup [AV.vec 4 m gf, AV.int .i64 q]) e.symm, by rw [netL, if_pos e]; exact hf⟩
end Go.Proofs


set_option linter.unusedVariables false
namespace Go.Proofs
open Ax Go
set_option maxRecDepth 10000
/-! ### flows as lists -/
def d0 : Fl := ⟨ByteArray.empty, 0, 0, 0⟩
def toL (fl : Nat → Fl) (n : Nat) : List Fl := (List.range n).map fl
def flOf (l : List Fl) (i : Nat) : Fl := l.getD i d0
theorem toL_flOf (l : List Fl) : toL (flOf l) l.length = l := by
  apply List.ext_getElem?
  intro i
  unfold toL flOf
  by_cases h : i < l.length <;> simp [h, List.getD]
theorem toL_succ (fl : Nat → Fl) (n : Nat) : toL fl (n + 1) = toL fl n ++ [fl n] := by
  unfold toL; rw [List.range_succ, List.map_append]; rfl
theorem mem_toL {fl : Nat → Fl} {n : Nat} {f : Fl} : f ∈ toL fl n ↔ ∃ j, j < n ∧ fl j = f := by simp [toL]
theorem toL_len (fl : Nat → Fl) (n : Nat) : (toL fl n).length = n := by simp [toL]
def sumI : List Int → Int
  | [] => 0
  | x :: r => x + sumI r
theorem sumI_app (a b : List Int) : sumI (a ++ b) = sumI a + sumI b := by
  induction a with
  | nil => simp [sumI]
  | cons x r ih => simp only [List.cons_append, sumI, ih]; omega
theorem sumI_perm {a b : List Int} (h : a.Perm b) : sumI a = sumI b := by
  induction h with
  | nil => rfl
  | cons x _ ih => simp only [sumI, ih]
  | swap x y l => simp only [sumI]; omega
  | trans _ _ h1 h2 => exact h1.trans h2
theorem sumZ_list (l : List Int) : sumZ (fun i => l.getD i 0) l.length = sumI l := by
  induction l with
  | nil => rfl
  | cons x r ih =>
    have := sumZ_app [x] r
    rw [ih] at this
    simp only [List.singleton_append] at this
    rw [this]
    simp [sumZ, sumI]
theorem sel_toL (p : Fl → Bool) (fl : Nat → Fl) (n : Nat) : sel p fl n = ((toL fl n).filter p).map Fl.n := by
  induction n with
  | zero => rfl
  | succ n ih =>
    rw [toL_succ, List.filter_append, List.map_append]
    cases h : p (fl n) with
    | true => rw [sel_at h, ih]; simp [h]
    | false => rw [sel_not h, ih]; simp [h]
theorem tot_toL (p : Fl → Bool) (fl : Nat → Fl) (n : Nat) : tot p fl n = sumI (((toL fl n).filter p).map Fl.n) := by
  unfold tot; rw [sumZ_list, sel_toL]
theorem mem_keysL {fl : Nat → Fl} {n : Nat} {k : Key} : k ∈ keysF fl n ↔ ∃ f ∈ toL fl n, keyOf f = k := by
  rw [mem_keysF]
  constructor
  · rintro ⟨j, h1, h2⟩; exact ⟨fl j, mem_toL.2 ⟨j, h1, rfl⟩, h2⟩
  · rintro ⟨f, h1, h2⟩
    obtain ⟨j, h3, rfl⟩ := mem_toL.1 h1
    exact ⟨j, h3, h2⟩
theorem checkE_zero {fl : Nat → Fl} {n : Nat} : checkE fl n = 0 ↔ n ≤ 1024 ∧ ∀ f ∈ toL fl n, chk f = 0 := by
  constructor
  · intro h
    obtain ⟨h1, h2⟩ := check_ok h
    refine ⟨h1, fun f hf => ?_⟩
    obtain ⟨j, h3, rfl⟩ := mem_toL.1 hf
    exact h2 j h3
  · rintro ⟨h1, h2⟩
    rw [checkE, if_neg (by omega)]
    exact firstE_zero fun j hj => h2 _ (mem_toL.2 ⟨j, hj, rfl⟩)
section
variable {fl fl' : Nat → Fl} {n n' : Nat}
theorem tot_perm (h : (toL fl n).Perm (toL fl' n')) (p : Fl → Bool) : tot p fl n = tot p fl' n' := by
  rw [tot_toL, tot_toL]; exact sumI_perm ((h.filter p).map _)
theorem keys_perm (h : (toL fl n).Perm (toL fl' n')) : (keysF fl n).Perm (keysF fl' n') := by
  rw [List.perm_ext_iff_of_nodup (keysF_nodup _ _) (keysF_nodup _ _)]
  intro k
  rw [mem_keysL, mem_keysL]
  exact ⟨fun ⟨f, h1, h2⟩ => ⟨f, h.mem_iff.1 h1, h2⟩, fun ⟨f, h1, h2⟩ => ⟨f, h.mem_iff.2 h1, h2⟩⟩
theorem check_perm (h : (toL fl n).Perm (toL fl' n')) : checkE fl n = 0 ↔ checkE fl' n' = 0 := by
  have hl := h.length_eq
  rw [toL_len, toL_len] at hl
  subst hl
  rw [checkE_zero, checkE_zero]
  exact and_congr Iff.rfl ⟨fun g f hf => g f (h.mem_iff.2 hf), fun g f hf => g f (h.mem_iff.1 hf)⟩
theorem netOK_perm (h : (toL fl n).Perm (toL fl' n')) (ks : List Key) : netOK fl n ks = netOK fl' n' ks := by
  unfold netOK; congr; funext k; rw [totK, totK, tot_perm h]
theorem netF_perm (h : (toL fl n).Perm (toL fl' n')) (ks : List Key) : netF fl n ks = netF fl' n' ks := by
  unfold netF; congr; funext k; rw [totK, totK, tot_perm h]
theorem netE_zero {ks : List Key} : netE fl n ks = 0 ↔ checkE fl n = 0 ∧ netOK fl n ks = true := by
  unfold netE
  by_cases h : checkE fl n = 0
  · rw [if_neg (by simp [h])]
    cases netOK fl n ks <;> simp [h]
  · rw [if_pos h]
    exact ⟨fun e => absurd e h, fun e => absurd e.1 h⟩
theorem netE_perm (h : (toL fl n).Perm (toL fl' n')) (ks : List Key) : netE fl n ks = 0 ↔ netE fl' n' ks = 0 := by
  rw [netE_zero, netE_zero, check_perm h, netOK_perm h]
theorem netL_perm (h : (toL fl n).Perm (toL fl' n')) (ks : List Key) : netL fl n ks = netL fl' n' ks := by
  unfold netL
  by_cases e : netE fl n ks = 0
  · rw [if_pos e, if_pos ((netE_perm h ks).1 e), netF_perm h]
  · rw [if_neg e, if_neg fun e' => e ((netE_perm h ks).2 e')]
end
/-! ### netted flows, netted again -/
section
variable {fl : Nat → Fl} {n : Nat} {ks : List Key}
theorem mem_netF {f : Fl} : f ∈ netF fl n ks ↔ ∃ k ∈ ks, totK k fl n ≠ 0 ∧ f = ⟨k.1, k.2, totK k fl n, 0⟩ := by
  unfold netF
  rw [List.mem_filterMap]
  constructor
  · rintro ⟨k, h1, h2⟩
    by_cases h : totK k fl n = 0
    · simp [h] at h2
    · simp [h] at h2; exact ⟨k, h1, h, h2.symm⟩
  · rintro ⟨k, h1, h2, rfl⟩
    exact ⟨k, h1, by simp [h2]⟩
theorem selP_n {all : Bool} {m : ByteArray} {c : Int} {k : Key} {x y : Int} : selP all m c ⟨k.1, k.2, x, y⟩ = selP all m c ⟨k.1, k.2, 0, 0⟩ := rfl
theorem sum_netF (all : Bool) (m : ByteArray) (c : Int) : sumI (((netF fl n ks).filter (selP all m c)).map Fl.n) = sumI ((ks.filter fun k => selP all m c ⟨k.1, k.2, 0, 0⟩).map fun k => totK k fl n) := by
  induction ks with
  | nil => rfl
  | cons k r ih =>
    have e : netF fl n (k :: r) = (if totK k fl n = 0 then [] else [⟨k.1, k.2, totK k fl n, 0⟩]) ++ netF fl n r := by
      unfold netF
      by_cases h : totK k fl n = 0 <;> simp [h]
    rw [e, List.filter_append, List.map_append, sumI_app, ih, List.filter_cons]
    cases hp : selP all m c ⟨k.1, k.2, 0, 0⟩ with
    | true =>
      simp only [if_true, List.map_cons, sumI]
      by_cases h : totK k fl n = 0
      · rw [if_pos h]; simp [sumI, h]
      · rw [if_neg h]; simp [sumI, selP_n, hp]
    | false =>
      by_cases h : totK k fl n = 0
      · rw [if_pos h]; simp [sumI]
      · rw [if_neg h]; simp [sumI, selP_n, hp]
theorem filter_key {k : Key} (hn : ks.Nodup) (hk : k ∈ ks) : (ks.filter fun q => selP false k.1 k.2 ⟨q.1, q.2, 0, 0⟩) = [k] := by
  induction ks with
  | nil => simp at hk
  | cons a r ih =>
    obtain ⟨n1, n2⟩ := List.nodup_cons.1 hn
    have hs : ∀ q : Key, selP false k.1 k.2 ⟨q.1, q.2, 0, 0⟩ = true ↔ q = k := fun q => by
      rw [selP_key]; rfl
    rw [List.filter_cons]
    by_cases h : a = k
    · subst h
      rw [if_pos ((hs a).2 rfl)]
      have : (r.filter fun q => selP false a.1 a.2 ⟨q.1, q.2, 0, 0⟩) = [] := by
        rw [List.filter_eq_nil_iff]
        intro q hq e
        exact n1 ((hs q).1 e ▸ hq)
      rw [this]
    · rw [if_neg (fun e => h ((hs a).1 e))]
      refine ih n2 ?_
      rcases List.mem_cons.1 hk with e | e
      · exact absurd e.symm h
      · exact e
/-- Each flow is counted under one key. -/
theorem sum_keys (l : List Fl) (hn : ks.Nodup) (hk : ∀ f ∈ l, keyOf f ∈ ks) (c : Int) :
    sumI ((ks.filter fun k => selP true ByteArray.empty c ⟨k.1, k.2, 0, 0⟩).map fun k => sumI ((l.filter (selP false k.1 k.2)).map Fl.n)) = sumI ((l.filter (selP true ByteArray.empty c)).map Fl.n) := by
  induction l with
  | nil =>
    have : ∀ l : List Key, sumI (l.map fun _ => (0 : Int)) = 0 := fun l => by
      induction l with
      | nil => rfl
      | cons a r ih => simp [sumI, ih]
    exact this _
  | cons f l ih =>
    replace ih := ih (fun g hg => hk g (List.mem_cons_of_mem _ hg))
    have e1 : ∀ (p : Fl → Bool), sumI (((f :: l).filter p).map Fl.n) = (if p f = true then f.n else 0) + sumI ((l.filter p).map Fl.n) := by
      intro p
      rw [List.filter_cons]
      by_cases h : p f = true
      · rw [if_pos h, if_pos h]; rfl
      · rw [if_neg h, if_neg h]; omega
    rw [e1, ← ih]
    simp only [e1]
    have e2 : ∀ (g : Key → Int) (l : List Key), sumI (l.map fun k => (if selP false k.1 k.2 f = true then f.n else 0) + g k) = sumI (l.map fun k => if selP false k.1 k.2 f = true then f.n else 0) + sumI (l.map g) := by
      intro g l
      induction l with
      | nil => rfl
      | cons a r ih => simp only [List.map_cons, sumI, ih]; omega
    rw [e2]
    congr 1
    have hf := hk f List.mem_cons_self
    clear e1 e2 ih hk
    have z : ∀ r : List Key, keyOf f ∉ r → sumI (r.map fun k => if selP false k.1 k.2 f = true then f.n else 0) = 0 := by
      intro r hr
      induction r with
      | nil => rfl
      | cons a r ih =>
        simp only [List.map_cons, sumI]
        rw [if_neg (fun e => hr (by rw [selP_key.1 e]; exact List.mem_cons_self)), ih fun h => hr (List.mem_cons_of_mem _ h)]
        omega
    induction ks with
    | nil => simp at hf
    | cons a r ih =>
      obtain ⟨n1, n2⟩ := List.nodup_cons.1 hn
      rw [List.filter_cons]
      by_cases h : keyOf f = a
      · subst h
        have hz : sumI ((r.filter fun k => selP true ByteArray.empty c ⟨k.1, k.2, 0, 0⟩).map fun k => if selP false k.1 k.2 f = true then f.n else 0) = 0 := z _ fun h => n1 (List.mem_filter.1 h).1
        have hs : selP true ByteArray.empty c ⟨(keyOf f).1, (keyOf f).2, 0, 0⟩ = selP true ByteArray.empty c f := rfl
        rw [hs]
        by_cases hp : selP true ByteArray.empty c f = true
        · rw [if_pos hp, if_pos hp]
          simp only [List.map_cons, sumI]
          rw [hz, if_pos (selP_key.2 rfl)]; omega
        · rw [if_neg hp, if_neg hp]; exact hz
      · have hf' : keyOf f ∈ r := by
          rcases List.mem_cons.1 hf with e | e
          · exact absurd e h
          · exact e
        by_cases hp : selP true ByteArray.empty c ⟨a.1, a.2, 0, 0⟩ = true
        · rw [if_pos hp]
          simp only [List.map_cons, sumI]
          rw [if_neg (fun e => h (selP_key.1 e)), ih n2 hf']; omega
        · rw [if_neg hp]; exact ih n2 hf'
variable (hr : RiseK ks) (hp : ks.Perm (keysF fl n))
include hr in
theorem rise_nodup : ks.Nodup := hr.imp fun h e => by subst e; exact ltK_irr _ h
abbrev again (fl : Nat → Fl) (n : Nat) (ks : List Key) : Nat → Fl := flOf (netF fl n ks)
abbrev againN (fl : Nat → Fl) (n : Nat) (ks : List Key) : Nat := (netF fl n ks).length
noncomputable abbrev againK (fl : Nat → Fl) (n : Nat) (ks : List Key) : List Key := ks.filter fun k => decide (totK k fl n ≠ 0)
include hr in
theorem again_tot {k : Key} (hk : k ∈ ks) : totK k (again fl n ks) (againN fl n ks) = totK k fl n := by
  rw [totK, tot_toL, toL_flOf, sum_netF, filter_key (rise_nodup hr) hk]
  simp [sumI]
include hr hp in
theorem again_sum (c : Int) : tot (selP true ByteArray.empty c) (again fl n ks) (againN fl n ks) = tot (selP true ByteArray.empty c) fl n := by
  rw [tot_toL, toL_flOf, sum_netF, tot_toL, ← sum_keys (toL fl n) (rise_nodup hr) (fun f hf => hp.mem_iff.2 (mem_keysL.2 ⟨f, hf, rfl⟩))]
  congr 2
  funext k
  rw [totK, tot_toL]
include hr in
theorem again_rise : RiseK (againK fl n ks) := List.Pairwise.filter _ hr
include hr in
theorem again_keys : (againK fl n ks).Perm (keysF (again fl n ks) (againN fl n ks)) := by
  rw [List.perm_ext_iff_of_nodup (rise_nodup (again_rise hr)) (keysF_nodup _ _)]
  intro k
  rw [mem_keysL, toL_flOf, List.mem_filter]
  constructor
  · rintro ⟨h1, h2⟩
    exact ⟨_, mem_netF.2 ⟨k, h1, by simpa using h2, rfl⟩, rfl⟩
  · rintro ⟨f, h1, rfl⟩
    obtain ⟨k, h2, h3, rfl⟩ := mem_netF.1 h1
    exact ⟨h2, decide_eq_true h3⟩
theorem chk_split {f : Fl} : chk f = 0 ↔ nameOK f.m = true ∧ curOK f.c = true ∧ fitsI f.n = true := by
  unfold chk
  cases nameOK f.m <;> cases curOK f.c <;> cases fitsI f.n <;> simp
include hp in
theorem again_check (h : netE fl n ks = 0) : checkE (again fl n ks) (againN fl n ks) = 0 := by
  obtain ⟨h1, h2⟩ := netE_zero.1 h
  rw [checkE_zero] at h1 ⊢
  have := netF_len fl n ks
  have := hp.length_eq
  have := keysF_len fl n
  refine ⟨by unfold againN; omega, fun f hf => ?_⟩
  rw [toL_flOf] at hf
  obtain ⟨k, hk, hz, rfl⟩ := mem_netF.1 hf
  obtain ⟨q, hq, rfl⟩ := mem_keysL.1 (hp.mem_iff.1 hk)
  obtain ⟨c1, c2, _⟩ := chk_split.1 (h1.2 q hq)
  exact chk_split.2 ⟨c1, c2, List.all_eq_true.1 h2 _ hk⟩
include hr hp in
theorem again_netE (h : netE fl n ks = 0) : netE (again fl n ks) (againN fl n ks) (againK fl n ks) = 0 := by
  refine netE_zero.2 ⟨again_check hp h, List.all_eq_true.2 fun k hk => ?_⟩
  have hk' := (List.mem_filter.1 hk).1
  rw [again_tot hr hk']
  exact List.all_eq_true.1 (netE_zero.1 h).2 k hk'
include hr hp in
theorem again_netL (h : netE fl n ks = 0) : netL (again fl n ks) (againN fl n ks) (againK fl n ks) = netF fl n ks := by
  rw [netL, if_pos (again_netE hr hp h)]
  have : ∀ l : List Key, (∀ k ∈ l, k ∈ ks) → netF (again fl n ks) (againN fl n ks) (l.filter fun k => decide (totK k fl n ≠ 0)) = netF fl n l := by
    intro l hl
    induction l with
    | nil => rfl
    | cons k r ih =>
      have ih := ih fun q hq => hl q (List.mem_cons_of_mem _ hq)
      have e := again_tot (fl := fl) (n := n) hr (hl k List.mem_cons_self)
      rw [List.filter_cons]
      by_cases h : totK k fl n = 0
      · rw [if_neg (by simp [h]), ih]
        unfold netF
        rw [List.filterMap_cons]
        simp [h]
      · rw [if_pos (by simp [h])]
        unfold netF at ih ⊢
        rw [List.filterMap_cons, List.filterMap_cons, e, ih]
  exact this ks fun k hk => hk
end
/-! ### flows, and the same turned -/
def turnF (f : Fl) : Fl := ⟨f.m, f.c, IntKind.i64.wrap (0 - f.n), f.w⟩
theorem turn_n {f : Fl} (h : chk f = 0) : (turnF f).n = -f.n := by
  have := fitsI_iff.1 (chk_split.1 h).2.2
  show IntKind.i64.wrap (0 - f.n) = _
  rw [wrap64 (by omega)]; omega
theorem turn_chk {f : Fl} (h : chk f = 0) : chk (turnF f) = 0 := by
  have e := turn_n h
  obtain ⟨h1, h2, h3⟩ := chk_split.1 h
  refine chk_split.2 ⟨h1, h2, ?_⟩
  rw [e]
  have := fitsI_iff.1 h3
  exact fitsI_iff.2 (by omega)
theorem turn_sum {l : List Fl} (h : ∀ f ∈ l, chk f = 0) (all : Bool) (m : ByteArray) (c : Int) : sumI (((l ++ l.map turnF).filter (selP all m c)).map Fl.n) = 0 := by
  rw [List.filter_append, List.map_append, sumI_app]
  induction l with
  | nil => rfl
  | cons f r ih =>
    have ih := ih fun g hg => h g (List.mem_cons_of_mem _ hg)
    have e := turn_n (h f List.mem_cons_self)
    rw [List.map_cons, List.filter_cons, List.filter_cons]
    have hs : selP all m c (turnF f) = selP all m c f := rfl
    rw [hs]
    by_cases hp : selP all m c f = true
    · rw [if_pos hp, if_pos hp]
      simp only [List.map_cons, sumI, e]
      omega
    · rw [if_neg hp, if_neg hp]; exact ih
section
variable {fl al : Nat → Fl} {n : Nat} (hn : n ≤ 100) (hc : checkE fl n = 0) (ha : toL al (n + n) = toL fl n ++ (toL fl n).map turnF)
include hc ha in
theorem turned_tot (all : Bool) (m : ByteArray) (c : Int) : tot (selP all m c) al (n + n) = 0 := by
  rw [tot_toL, ha]
  exact turn_sum (checkE_zero.1 hc).2 all m c
include hn hc ha in
theorem turned_check : checkE al (n + n) = 0 := by
  rw [checkE_zero, ha]
  refine ⟨by omega, fun f hf => ?_⟩
  rcases List.mem_append.1 hf with hf | hf
  · exact (checkE_zero.1 hc).2 f hf
  · obtain ⟨g, hg, rfl⟩ := List.mem_map.1 hf
    exact turn_chk ((checkE_zero.1 hc).2 g hg)
include hn hc ha in
theorem turned_net (ks : List Key) : netE al (n + n) ks = 0 ∧ netL al (n + n) ks = [] := by
  have e : netE al (n + n) ks = 0 := by
    refine netE_zero.2 ⟨turned_check hn hc ha, List.all_eq_true.2 fun k _ => ?_⟩
    rw [totK, turned_tot hc ha]; rfl
  refine ⟨e, ?_⟩
  rw [netL, if_pos e]
  unfold netF
  rw [List.filterMap_eq_nil_iff]
  intro k _
  rw [totK, turned_tot hc ha]; rfl
include hn hc ha in
theorem turned_zero : zeroV al (n + n) = true := by
  refine zero_good fun c hcc => ?_
  have hcur : curOK (c : Int) = true := by simp [curOK]; omega
  rw [totV, if_neg (by simp [turned_check hn hc ha]), hcur, turned_tot hc ha]
  exact ⟨rfl, rfl⟩
end
end Go.Proofs


set_option linter.unusedVariables false
namespace Go.Proofs
open Ax Go
set_option maxRecDepth 10000
theorem vapp_fn {z : AV} {g v F : Nat → AV} {i : Nat} (h : ∀ j, j < i → g j = F j) (hv : v 0 = F i) : ∀ j, j < i + 1 → vapp z g i v 1 j = F j := by
  intro j hj
  unfold vapp
  by_cases h3 : j < i
  · rw [show Nat.blt j i = true by rw [Nat.blt_eq]; exact h3, cond_true, h j h3]
  · have e : Nat.blt j i = false := by rw [Bool.eq_false_iff, ne_eq, Nat.blt_eq]; omega
    have : j = i := by omega
    subst this
    rw [e, cond_false, show Nat.blt j (j + 1) = true by rw [Nat.blt_eq]; omega, cond_true, Nat.sub_self, hv]
theorem vapp_two {z : AV} {g v F : Nat → AV} {i m : Nat} (h : ∀ j, j < i → g j = F j) (hv : ∀ j, j < m → v j = F (i + j)) : ∀ j, j < i + m → vapp z g i v m j = F j := by
  intro j hj
  unfold vapp
  by_cases h3 : j < i
  · rw [show Nat.blt j i = true by rw [Nat.blt_eq]; exact h3, cond_true, h j h3]
  · have e : Nat.blt j i = false := by rw [Bool.eq_false_iff, ne_eq, Nat.blt_eq]; omega
    rw [e, cond_false, show Nat.blt j (i + m) = true by rw [Nat.blt_eq]; omega, cond_true, hv _ (by omega), show i + (j - i) = j by omega]
structure TurnHd (fl : Nat → Fl) (n : Nat) where
  i : Nat
  g : Nat → AV
  hi : i ≤ n
  hg : ∀ j, j < i → g j = encF (turnF (fl j))
theorem flowTurned (fl : Nat → Fl) (n : Nat) (hn : n ≤ 100000) : CallOK Try.prog 24 [encL fl n] (fun r => ∃ g, r = .vec 4 n g ∧ ∀ i, i < n → g i = encF (turnF (fl i))) := by
  refine okN ?_
  conv => whnf
  repeat ((first | with_reducible refine branch_true rfl ?_ | with_reducible refine branch_false rfl ?_); conv => whnf)
  refine loop_by (cx := cxN) rfl progOK (ι := TurnHd fl n) (fun x => n - x.i) (fun x => ⟨[(2, .own (.vec 4 x.i x.g)), (5, encL fl n), (6, .int .i64 n), (7, .int .i64 x.i)], [], [], none⟩) ?_ ⟨0, _, Nat.zero_le _, fun j hj => absurd hj (by omega)⟩
  rintro ⟨i, g, hi, hg⟩ ih
  conv => whnf
  repeat ((first | with_reducible refine branch_true rfl ?_ | with_reducible refine branch_false rfl ?_); conv => whnf)
  refine branch_of (fun g1 => ?_) (fun g1 => ?_)
  · have g2 : i < n := by simpa using g1
    have hw : IntKind.i64.wrap ((i : Int) + 1) = ((i + 1 : Nat) : Int) := by rw [wrap64 (by omega)]; omega
    conv => whnf
    repeat ((first | with_reducible refine branch_true rfl ?_ | with_reducible refine branch_false rfl ?_); conv => whnf)
    refine st_addr (sz := 4) (len := n) (n := i) (u := 34) (g := fun i => encF (fl i)) rfl rfl rfl rfl rfl (in_range g2) ?_
    conv => whnf
    repeat ((first | with_reducible refine branch_true rfl ?_ | with_reducible refine branch_false rfl ?_); conv => whnf)
    refine st_append (sz := 4) (len := i) (g := g) (u := 34) (m := 1) (gg := vlist (zeroElem Try.prog 34) [encF (turnF (fl i))]) rfl rfl rfl rfl rfl (room40 (by omega)) ?_
    conv => whnf
    repeat ((first | with_reducible refine branch_true rfl ?_ | with_reducible refine branch_false rfl ?_); conv => whnf)
    refine loop_to ih ⟨i + 1, _, g2, vapp_fn (F := fun j => encF (turnF (fl j))) hg rfl⟩ (show n - (i + 1) < n - i by omega) (congrArg (fun q => St.mk [(2, .own (.vec 4 (i + 1) _)), (5, encL fl n), (6, .int .i64 n), (7, .int .i64 q)] [] [] none) hw)
  · have g2 : i = n := by simp at g1; omega
    subst g2
    conv => whnf
    repeat ((first | with_reducible refine branch_true rfl ?_ | with_reducible refine branch_false rfl ?_); conv => whnf)
    exact ⟨g, rfl, hg⟩
theorem neqFl (a b : Fl) : binAV Try.prog .neq 34 (encF a) (encF b) = some (.bool (!(decide (a.m = b.m) && (decide (a.c = b.c) && (decide (a.n = b.n) && (decide (a.w = b.w) && true)))))) := by kernel_rfl
theorem neqFl_same (a : Fl) : binAV Try.prog .neq 34 (encF a) (encF a) = some (.bool false) := by rw [neqFl]; simp
theorem same_self (fl : Nat → Fl) (n : Nat) (hn : n ≤ 100000) : CallOK Try.prog 13 [encL fl n, encL fl n] (fun r => r = .bool true) := by
  refine okN ?_
  conv => whnf
  repeat ((first | with_reducible refine branch_true rfl ?_ | with_reducible refine branch_false rfl ?_); conv => whnf)
  refine branch_false (by simp) ?_
  conv => whnf
  repeat ((first | with_reducible refine branch_true rfl ?_ | with_reducible refine branch_false rfl ?_); conv => whnf)
  refine loop_by (cx := cxN) rfl progOK (ι := {i : Nat // i ≤ n}) (fun x => n - x.1) (fun x => ⟨[(0, encL fl n), (1, encL fl n), (5, .int .i64 x.1)], [], [], none⟩) ?_ ⟨0, Nat.zero_le _⟩
  rintro ⟨i, hi⟩ ih
  conv => whnf
  repeat ((first | with_reducible refine branch_true rfl ?_ | with_reducible refine branch_false rfl ?_); conv => whnf)
  refine branch_of (fun g1 => ?_) (fun g1 => ?_)
  · have g2 : i < n := by simpa using g1
    have hw : IntKind.i64.wrap ((i : Int) + 1) = ((i + 1 : Nat) : Int) := by rw [wrap64 (by omega)]; omega
    conv => whnf
    repeat ((first | with_reducible refine branch_true rfl ?_ | with_reducible refine branch_false rfl ?_); conv => whnf)
    refine st_addr (sz := 4) (len := n) (n := i) (u := 34) (g := fun i => encF (fl i)) rfl rfl rfl rfl rfl (in_range g2) ?_
    conv => whnf
    repeat ((first | with_reducible refine branch_true rfl ?_ | with_reducible refine branch_false rfl ?_); conv => whnf)
    refine st_addr (sz := 4) (len := n) (n := i) (u := 34) (g := fun i => encF (fl i)) rfl rfl rfl rfl rfl (in_range g2) ?_
    conv => whnf
    repeat ((first | with_reducible refine branch_true rfl ?_ | with_reducible refine branch_false rfl ?_); conv => whnf)
    refine st_bin (a := encF (fl i)) (b := encF (fl i)) rfl rfl rfl (neqFl_same (fl i)) ?_
    conv => whnf
    repeat ((first | with_reducible refine branch_true rfl ?_ | with_reducible refine branch_false rfl ?_); conv => whnf)
    refine loop_to ih ⟨i + 1, g2⟩ (show n - (i + 1) < n - i by omega) (congrArg (fun q => St.mk [(0, encL fl n), (1, encL fl n), (5, .int .i64 q)] [] [] none) hw)
  · conv => whnf
    repeat ((first | with_reducible refine branch_true rfl ?_ | with_reducible refine branch_false rfl ?_); conv => whnf)
/-- Two slices with the same flows are the same. -/
theorem same_at {l : List Fl} {len : Nat} {g g' : Nat → AV} (h : FlowsAt l len g) (h' : FlowsAt l len g') (hn : l.length ≤ 100000) : CallOK Try.prog 13 [.vec 4 len g, .vec 4 len g'] (fun r => r = .bool true) := by
  have e : ∀ {g}, FlowsAt l len g → ∀ i, i < len → g i = encF (flOf l i) := fun h i hi => by
    have hi' : i < l.length := h.1 ▸ hi
    rw [h.2 i l[i] (List.getElem?_eq_getElem hi'), flOf, List.getD, List.getElem?_eq_getElem hi']; rfl
  exact ok_same (.cons (.vec (e h)) (.cons (.vec (e h')) .nil)) (same_self (flOf l) len (h.1 ▸ hn))
end Go.Proofs


set_option linter.unusedVariables false
namespace Go.Proofs
open Ax Go
set_option maxRecDepth 10000
theorem toL_two {fl al : Nat → Fl} {n m : Nat} {gl : Nat → Fl} (h1 : ∀ i, i < n → al i = fl i) (h2 : ∀ i, i < m → al (n + i) = gl i) : toL al (n + m) = toL fl n ++ toL gl m := by
  apply List.ext_getElem?
  intro i
  unfold toL
  by_cases hi : i < n
  · rw [List.getElem?_append_left (by simpa using hi)]
    simp [hi, h1 i hi, show i < n + m by omega]
  · rw [List.getElem?_append_right (by simpa using hi)]
    by_cases hj : i < n + m
    · have := h2 (i - n) (by omega)
      rw [show n + (i - n) = i by omega] at this
      simp [hj, this, show i - n < m by omega]
    · simp [hj, show ¬ i - n < m by omega]
theorem lawTurned : ∀ xs, TypedArgs Try.prog 8 Try.f7.params.toList xs → CallOK Try.prog 7 xs (fun r => r = .bool true) := by
  intro xs h
  rw [Try.params7] at h
  obtain ⟨a0, r0, rfl, h0, rfl⟩ := h
  obtain ⟨fl, n, hs, hn, hok⟩ := arg_flows (d := 5) h0
  refine ok_same (.cons hs .nil) ?_
  refine okN ?_
  conv => whnf
  repeat ((first | with_reducible refine branch_true rfl ?_ | with_reducible refine branch_false rfl ?_); conv => whnf)
  refine branch_of (fun g1 => ?_) (fun g1 => ?_)
  · conv => whnf
    repeat ((first | with_reducible refine branch_true rfl ?_ | with_reducible refine branch_false rfl ?_); conv => whnf)
    refine call_is goesOK ?_
    conv => whnf
    repeat ((first | with_reducible refine branch_true rfl ?_ | with_reducible refine branch_false rfl ?_); conv => whnf)
  · conv => whnf
    repeat ((first | with_reducible refine branch_true rfl ?_ | with_reducible refine branch_false rfl ?_); conv => whnf)
    have g1 : n ≤ 100 := by have := of_decide_eq_false g1; omega
    refine call_is (check fl n) ?_
    conv => whnf
    repeat ((first | with_reducible refine branch_true rfl ?_ | with_reducible refine branch_false rfl ?_); conv => whnf)
    refine branch_of (fun g2 => ?_) (fun g2 => ?_)
    · conv => whnf
      repeat ((first | with_reducible refine branch_true rfl ?_ | with_reducible refine branch_false rfl ?_); conv => whnf)
      refine call_is goesOK ?_
      conv => whnf
      repeat ((first | with_reducible refine branch_true rfl ?_ | with_reducible refine branch_false rfl ?_); conv => whnf)
    · have g2 : checkE fl n = 0 := by simpa using g2
      conv => whnf
      repeat ((first | with_reducible refine branch_true rfl ?_ | with_reducible refine branch_false rfl ?_); conv => whnf)
      refine st_append (sz := 4) (len := 0) (u := 34) (m := n) (gg := fun i => encF (fl i)) rfl rfl rfl rfl rfl (room40 (by omega)) ?_
      conv => whnf
      repeat ((first | with_reducible refine branch_true rfl ?_ | with_reducible refine branch_false rfl ?_); conv => whnf)
      refine call_by (flowTurned fl n (by omega)) ⟨_, _, rfl, fun i hi => rfl⟩ ?_
      rintro r ⟨g, rfl, hg⟩
      conv => whnf
      repeat ((first | with_reducible refine branch_true rfl ?_ | with_reducible refine branch_false rfl ?_); conv => whnf)
      refine st_append (sz := 4) (len := 0 + n) (u := 34) (m := n) (gg := g) rfl rfl rfl rfl rfl (room40 (by omega)) ?_
      obtain ⟨al, hal⟩ : ∃ al : Nat → Fl, al = fun i => if i < n then fl i else turnF (fl (i - n)) := ⟨_, rfl⟩
      have e1 : ∀ i, i < n → al i = fl i := fun i hi => by rw [hal]; simp [hi]
      have e2 : ∀ i, i < n → al (n + i) = turnF (fl i) := fun i hi => by rw [hal]; simp only; rw [if_neg (by omega), show n + i - n = i by omega]
      have ha : toL al (n + n) = toL fl n ++ (toL fl n).map turnF := by
        rw [toL_two (gl := fun i => turnF (fl i)) e1 e2]
        congr 1
        unfold toL
        rw [List.map_map]; rfl
      have hG : ∀ z z' (g0 : Nat → AV) j, j < 0 + n + n → vapp z (vapp z' g0 0 (fun i => encF (fl i)) n) (0 + n) g n j = encF (al j) := by
        intro z z' g0
        rw [Nat.zero_add]
        refine vapp_two (F := fun j => encF (al j)) (fun j hj => ?_) (fun j hj => ?_)
        · have := vapp_two (z := z') (g := g0) (v := fun i => encF (fl i)) (F := fun j => encF (al j)) (i := 0) (m := n) (fun j hj => absurd hj (by omega)) (fun j hj => by rw [Nat.zero_add, e1 j hj]) j (by omega)
          exact this
        · rw [hg j hj, e2 j hj]
      have hG := hG (zeroElem Try.prog 34) (zeroElem Try.prog 34) (fun _ => zeroElem Try.prog 34)
      obtain ⟨ks, hr, hp⟩ := exists_rise (keysF al (n + n)) (keysF_nodup _ _)
      have hN := flowNet al (n + n) ks hr hp
      obtain ⟨t1, t2⟩ := turned_net g1 g2 ha ks
      rw [t1, t2] at hN
      have hnn : encL al (0 + n + n) = encL al (n + n) := by rw [Nat.zero_add]
      rw [← hnn] at hN
      conv => whnf
      repeat ((first | with_reducible refine branch_true rfl ?_ | with_reducible refine branch_false rfl ?_); conv => whnf)
      refine call_by (ok_same (.cons (.vec hG) .nil) hN) ⟨_, 0, fun _ => .undef, rfl, rfl, fun j f hj => by simp at hj⟩ ?_
      rintro r ⟨len, gn, rfl, hf⟩
      obtain rfl : len = 0 := hf.1
      conv => whnf
      repeat ((first | with_reducible refine branch_true rfl ?_ | with_reducible refine branch_false rfl ?_); conv => whnf)
      have hZ := flowZero al (n + n)
      rw [turned_zero g1 g2 ha, ← hnn] at hZ
      refine call_is (ok_same (.cons (.vec hG) .nil) hZ) ?_
      conv => whnf
      repeat ((first | with_reducible refine branch_true rfl ?_ | with_reducible refine branch_false rfl ?_); conv => whnf)
      refine call_is goesOK ?_
      conv => whnf
      repeat ((first | with_reducible refine branch_true rfl ?_ | with_reducible refine branch_false rfl ?_); conv => whnf)
      rfl
end Go.Proofs


set_option linter.unusedVariables false
namespace Go.Proofs
open Ax Go
set_option maxRecDepth 10000
/-- Flows moved round. -/
theorem flowMoved (fl : Nat → Fl) (n : Nat) (hn : n ≤ 1000) (q : Int) (hq : -9223372036854775808 ≤ q ∧ q ≤ 9223372036854775807) : CallOK Try.prog 17 [encL fl n, .int .i64 q] (fun r => ∃ g fl', r = .vec 4 n g ∧ (∀ i, i < n → g i = encF (fl' i)) ∧ (toL fl' n).Perm (toL fl n)) := by
  refine okN ?_
  conv => whnf
  repeat ((first | with_reducible refine branch_true rfl ?_ | with_reducible refine branch_false rfl ?_); conv => whnf)
  refine branch_of (fun g1 => ?_) (fun g1 => ?_)
  · have g1 : n = 0 := by have := of_decide_eq_true g1; omega
    subst g1
    conv => whnf
    repeat ((first | with_reducible refine branch_true rfl ?_ | with_reducible refine branch_false rfl ?_); conv => whnf)
    exact ⟨_, fl, rfl, fun i hi => absurd hi (by omega), .refl _⟩
  · have g1 : n ≠ 0 := by have := of_decide_eq_false g1; omega
    conv => whnf
    repeat ((first | with_reducible refine branch_true rfl ?_ | with_reducible refine branch_false rfl ?_); conv => whnf)
    have e1 : IntKind.u64.wrap (n : Int) = (n : Int) := by
      simp [IntKind.wrap, IntKind.signed, IntKind.bits]
      omega
    have e2 : 0 ≤ IntKind.u64.wrap q := by
      simp [IntKind.wrap, IntKind.signed, IntKind.bits]
      omega
    obtain ⟨k, hk, hkn⟩ : ∃ k : Nat, (IntKind.u64.wrap q).tmod (IntKind.u64.wrap (n : Int)) = (k : Int) ∧ k < n := by
      rw [e1, Int.tmod_eq_emod_of_nonneg e2]
      have q1 := Int.emod_nonneg (IntKind.u64.wrap q) (show (n : Int) ≠ 0 by omega)
      have q2 := Int.emod_lt_of_pos (IntKind.u64.wrap q) (show (0 : Int) < (n : Int) by omega)
      exact ⟨(IntKind.u64.wrap q % (n : Int)).toNat, by omega, by omega⟩
    refine st_rem (kk := .u64) rfl rfl rfl (by rw [e1]; omega) hk ?_
    conv => whnf
    repeat ((first | with_reducible refine branch_true rfl ?_ | with_reducible refine branch_false rfl ?_); conv => whnf)
    have hbk : ∀ d, boundOf d (some (.int .i64 (IntKind.i64.wrap (k : Int)))) = some k := fun d => by
      rw [wrap64 (by omega)]
      simp [boundOf]
    refine st_slice (sz := 4) (len := n) (g := fun i => encF (fl i)) (u := 34) (l := k) (m := n) rfl rfl rfl (hbk 0) rfl (by omega) (Nat.le_refl _) rfl rfl ?_
    conv => whnf
    repeat ((first | with_reducible refine branch_true rfl ?_ | with_reducible refine branch_false rfl ?_); conv => whnf)
    refine st_append (sz := 4) (len := 0) (u := 34) (m := n - k) rfl rfl rfl rfl rfl (room40 (by omega)) ?_
    conv => whnf
    repeat ((first | with_reducible refine branch_true rfl ?_ | with_reducible refine branch_false rfl ?_); conv => whnf)
    refine st_slice (sz := 4) (len := n) (g := fun i => encF (fl i)) (u := 34) (l := 0) (m := k) rfl rfl rfl rfl (hbk n) (Nat.zero_le _) (by omega) rfl rfl ?_
    conv => whnf
    repeat ((first | with_reducible refine branch_true rfl ?_ | with_reducible refine branch_false rfl ?_); conv => whnf)
    refine st_append (sz := 4) (len := 0 + (n - k)) (u := 34) (m := k - 0) rfl rfl rfl rfl rfl (room40 (by omega)) ?_
    conv => whnf
    repeat ((first | with_reducible refine branch_true rfl ?_ | with_reducible refine branch_false rfl ?_); conv => whnf)
    obtain ⟨al, hal⟩ : ∃ al : Nat → Fl, al = fun i => if i < n - k then fl (k + i) else fl (i - (n - k)) := ⟨_, rfl⟩
    have a1 : ∀ i, i < n - k → al i = fl (k + i) := fun i hi => by rw [hal]; simp [hi]
    have a2 : ∀ i, i < k → al ((n - k) + i) = fl i := fun i hi => by rw [hal]; simp only; rw [if_neg (by omega), show n - k + i - (n - k) = i by omega]
    have hn2 : 0 + (n - k) + (k - 0) = n := by omega
    refine ⟨_, al, congrArg (fun q => AV.vec 4 q _) hn2, fun i hi => ?_, ?_⟩
    · refine vapp_two (F := fun j => encF (al j)) (i := 0 + (n - k)) (m := k - 0) (fun j hj => ?_) (fun j hj => ?_) i (by omega)
      · refine vapp_two (F := fun j => encF (al j)) (i := 0) (m := n - k) (fun j hj => absurd hj (by omega)) (fun j hj => ?_) j (by omega)
        rw [vsub_at j (by omega), Nat.zero_add, a1 j hj]
      · rw [vsub_at j (by omega), Nat.zero_add, Nat.zero_add, a2 j (by omega)]
    · have e : toL al n = toL (fun i => fl (k + i)) (n - k) ++ toL fl k := by
        have := toL_two (n := n - k) (m := k) (fl := fun i => fl (k + i)) (gl := fl) a1 a2
        rw [show n - k + k = n by omega] at this
        exact this
      have e' : toL fl n = toL fl k ++ toL (fun i => fl (k + i)) (n - k) := by
        have := toL_two (n := k) (m := n - k) (fl := fl) (al := fl) (gl := fun i => fl (k + i)) (fun i _ => rfl) (fun i _ => rfl)
        rw [show k + (n - k) = n by omega] at this
        exact this
      rw [e, e']
      exact List.perm_append_comm
theorem flowsAt_enc {l : List Fl} {len : Nat} {g : Nat → AV} (h : FlowsAt l len g) : len = l.length ∧ ∀ i, i < len → g i = encF (flOf l i) := by
  refine ⟨h.1, fun i hi => ?_⟩
  have hi' : i < l.length := h.1 ▸ hi
  rw [h.2 i l[i] (List.getElem?_eq_getElem hi'), flOf, List.getD, List.getElem?_eq_getElem hi']; rfl
theorem flowsAt_self (l : List Fl) : FlowsAt l l.length fun i => encF (flOf l i) := ⟨rfl, fun j f hj => by
  simp only [flOf, List.getD, hj]; rfl⟩
theorem lawOrder : ∀ xs, TypedArgs Try.prog 8 Try.f4.params.toList xs → CallOK Try.prog 4 xs (fun r => r = .bool true) := by
  intro xs h
  rw [Try.params4] at h
  obtain ⟨a0, r0, rfl, h0, a1, r1, rfl, h1, a2, r2, rfl, h2, rfl⟩ := h
  obtain ⟨fl, n, hs, hn, hok⟩ := arg_flows (d := 5) h0
  obtain ⟨at', rfl, hat⟩ := arg_int (d := 7) h1
  obtain ⟨c, rfl, hc⟩ := arg_int (d := 7) h2
  refine ok_same (.cons hs (.cons (.refl _) (.cons (.refl _) .nil))) ?_
  refine okN ?_
  conv => whnf
  repeat ((first | with_reducible refine branch_true rfl ?_ | with_reducible refine branch_false rfl ?_); conv => whnf)
  refine branch_of (fun g1 => ?_) (fun g1 => ?_)
  · conv => whnf
    repeat ((first | with_reducible refine branch_true rfl ?_ | with_reducible refine branch_false rfl ?_); conv => whnf)
    refine call_is goesOK ?_
    conv => whnf
    repeat ((first | with_reducible refine branch_true rfl ?_ | with_reducible refine branch_false rfl ?_); conv => whnf)
  · conv => whnf
    repeat ((first | with_reducible refine branch_true rfl ?_ | with_reducible refine branch_false rfl ?_); conv => whnf)
    have g1 : n ≤ 100 := by have := of_decide_eq_false g1; omega
    obtain ⟨ks, hr, hp⟩ := exists_rise (keysF fl n) (keysF_nodup _ _)
    have hkl := hp.length_eq
    have hkl2 := keysF_len fl n
    have hfl := netF_len fl n ks
    have hLlen : (netL fl n ks).length ≤ 100 := by
      unfold netL; split
      · omega
      · simp
    refine call_by (flowNet fl n ks hr hp) ⟨_, _, _, rfl, flowsAt_self _⟩ ?_
    rintro r ⟨len, g, rfl, hf⟩
    conv => whnf
    repeat ((first | with_reducible refine branch_true rfl ?_ | with_reducible refine branch_false rfl ?_); conv => whnf)
    refine call_by (flowMoved fl n (by omega) at' (by simp [Lit.wf, IntKind.min, IntKind.max, IntKind.signed, IntKind.bits] at hat; omega)) ⟨_, _, fl, rfl, fun i hi => rfl, .refl _⟩ ?_
    rintro r ⟨g', fl', rfl, hg', hperm⟩
    conv => whnf
    repeat ((first | with_reducible refine branch_true rfl ?_ | with_reducible refine branch_false rfl ?_); conv => whnf)
    have hN := flowNet fl' n ks hr (hp.trans (keys_perm hperm.symm))
    have hL : netL fl' n ks = netL fl n ks := netL_perm hperm ks
    have hE : netE fl n ks = 0 ↔ netE fl' n ks = 0 := (netE_perm hperm ks).symm
    rw [hL] at hN
    refine call_by (ok_same (.cons (.vec hg') .nil) hN) ⟨_, _, _, rfl, flowsAt_self _⟩ ?_
    rintro r ⟨len', gn, rfl, hf'⟩
    obtain rfl : len' = len := hf'.1.trans hf.1.symm
    have hnz : netE fl n ks ≠ 0 → netL fl n ks = [] := fun h => by rw [netL, if_neg h]
    have hzz : netE fl n ks = 0 → netL fl n ks = netF fl n ks := fun h => by rw [netL, if_pos h]
    have hA1 := fun h : netE fl n ks = 0 => again_netE hr hp h
    have hA2 := fun h : netE fl n ks = 0 => again_netL hr hp h
    have hA3 := fun h : netE fl n ks = 0 => again_check hp h
    have hA4 := fun h : netE fl n ks = 0 => (netE_zero.1 h).1
    generalize hv1 : netE fl n ks = v1 at *
    generalize hv2 : netE fl' n ks = v2 at *
    conv => whnf
    repeat ((first | with_reducible refine branch_true rfl ?_ | with_reducible refine branch_false rfl ?_); conv => whnf)
    refine branch_false (by simp [hE]) ?_
    conv => whnf
    repeat ((first | with_reducible refine branch_true rfl ?_ | with_reducible refine branch_false rfl ?_); conv => whnf)
    refine call_is (same_at hf hf' (by omega)) ?_
    conv => whnf
    repeat ((first | with_reducible refine branch_true rfl ?_ | with_reducible refine branch_false rfl ?_); conv => whnf)
    refine branch_of (fun c1 => ?_) (fun c1 => ?_)
    · have c1 : v1 ≠ 0 := by simpa using c1
      rw [hnz c1] at hf
      obtain rfl : len' = 0 := hf.1
      conv => whnf
      repeat ((first | with_reducible refine branch_true rfl ?_ | with_reducible refine branch_false rfl ?_); conv => whnf)
      refine call_is goesOK ?_
      conv => whnf
      repeat ((first | with_reducible refine branch_true rfl ?_ | with_reducible refine branch_false rfl ?_); conv => whnf)
      rfl
    · have c1 : v1 = 0 := by simpa using c1
      rw [hzz c1] at hf
      obtain ⟨rfl, hge⟩ := flowsAt_enc hf
      have hN2 := flowNet (again fl n ks) (againN fl n ks) (againK fl n ks) (again_rise hr) (again_keys hr)
      rw [hA1 c1, hA2 c1] at hN2
      conv => whnf
      repeat ((first | with_reducible refine branch_true rfl ?_ | with_reducible refine branch_false rfl ?_); conv => whnf)
      refine call_by (ok_same (.cons (.vec hge) .nil) hN2) ⟨_, _, _, rfl, flowsAt_self _⟩ ?_
      rintro r ⟨len2, g2, rfl, hf2⟩
      obtain rfl : len2 = (netF fl n ks).length := hf2.1
      have eV : totV true ByteArray.empty c (again fl n ks) (againN fl n ks) = totV true ByteArray.empty c fl n := by
        unfold totV
        rw [if_neg (by rw [hA3 c1]; simp), if_neg (by rw [hA4 c1]; simp), again_sum hr hp]
      have hS1 := flowSum fl n c
      have hS2 := flowSum (again fl n ks) (againN fl n ks) c
      rw [eV] at hS2
      generalize totV true ByteArray.empty c fl n = V at hS1 hS2
      conv => whnf
      repeat ((first | with_reducible refine branch_true rfl ?_ | with_reducible refine branch_false rfl ?_); conv => whnf)
      refine call_is (v := pairV V) hS1 ?_
      conv => whnf
      repeat ((first | with_reducible refine branch_true rfl ?_ | with_reducible refine branch_false rfl ?_); conv => whnf)
      refine call_is (v := pairV V) (ok_same (.cons (.vec hge) (.cons (.refl _) .nil)) hS2) ?_
      conv => whnf
      repeat ((first | with_reducible refine branch_true rfl ?_ | with_reducible refine branch_false rfl ?_); conv => whnf)
      refine call_is (same_at hf hf2 (by omega)) ?_
      conv => whnf
      repeat ((first | with_reducible refine branch_true rfl ?_ | with_reducible refine branch_false rfl ?_); conv => whnf)
      refine branch_true (decide_eq_true rfl) ?_
      conv => whnf
      repeat ((first | with_reducible refine branch_true rfl ?_ | with_reducible refine branch_false rfl ?_); conv => whnf)
      refine branch_true (decide_eq_true rfl) ?_
      conv => whnf
      repeat ((first | with_reducible refine branch_true rfl ?_ | with_reducible refine branch_false rfl ?_); conv => whnf)
      refine call_is goesOK ?_
      conv => whnf
      repeat ((first | with_reducible refine branch_true rfl ?_ | with_reducible refine branch_false rfl ?_); conv => whnf)
      rfl
end Go.Proofs

