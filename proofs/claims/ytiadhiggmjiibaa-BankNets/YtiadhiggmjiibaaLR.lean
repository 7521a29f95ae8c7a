import Derived.Test.YtiadhiggmjiibaaLQ
set_option linter.unusedVariables false
set_option linter.unusedSimpArgs false
namespace Go.Proofs.Fw
open Ax Go Go.Proofs
set_option maxRecDepth 10000
def keyOf (f : Fl) : Key := (f.m, f.c)
open Classical in
noncomputable def keysF (fl : Nat → Fl) : Nat → List Key
  | 0 => []
  | n + 1 => if keyOf (fl n) ∈ keysF fl n then keysF fl n else keysF fl n ++ [keyOf (fl n)]
abbrev selK (k : Key) (fl : Nat → Fl) (n : Nat) : List Int := sel (selP false k.1 k.2) fl n
abbrev totK (k : Key) (fl : Nat → Fl) (n : Nat) : Int := tot (selP false k.1 k.2) fl n
theorem selP_key {k : Key} {f : Fl} : selP false k.1 k.2 f = true ↔ keyOf f = k := by
  unfold selP keyOf
  constructor
  · intro h; simp at h; exact Prod.ext h.2 h.1
  · rintro rfl; simp
theorem selP_key_not {k : Key} {f : Fl} (h : keyOf f ≠ k) : selP false k.1 k.2 f = false := by
  rw [Bool.eq_false_iff, ne_eq, selP_key]; exact h
theorem keysF_in {fl : Nat → Fl} {n : Nat} (h : keyOf (fl n) ∈ keysF fl n) : keysF fl (n + 1) = keysF fl n := by rw [keysF, if_pos h]
theorem keysF_new {fl : Nat → Fl} {n : Nat} (h : keyOf (fl n) ∉ keysF fl n) : keysF fl (n + 1) = keysF fl n ++ [keyOf (fl n)] := by rw [keysF, if_neg h]
theorem mem_keysF {fl : Nat → Fl} {n : Nat} {k : Key} : k ∈ keysF fl n ↔ ∃ j, j < n ∧ keyOf (fl j) = k := by
  induction n with
  | zero => simp [keysF]
  | succ n ih =>
    by_cases h : keyOf (fl n) ∈ keysF fl n
    · rw [keysF_in h, ih]
      constructor
      · rintro ⟨j, h1, h2⟩; exact ⟨j, by omega, h2⟩
      · rintro ⟨j, h1, h2⟩
        rcases Nat.lt_or_ge j n with h3 | h3
        · exact ⟨j, h3, h2⟩
        · have : j = n := by omega
          subst this
          rw [h2] at h; exact ih.1 h
    · rw [keysF_new h, List.mem_append, ih, List.mem_singleton]
      constructor
      · rintro (⟨j, h1, h2⟩ | rfl)
        · exact ⟨j, by omega, h2⟩
        · exact ⟨n, by omega, rfl⟩
      · rintro ⟨j, h1, h2⟩
        rcases Nat.lt_or_ge j n with h3 | h3
        · exact .inl ⟨j, h3, h2⟩
        · have : j = n := by omega
          subst this
          exact .inr h2.symm
theorem keysF_nodup (fl : Nat → Fl) (n : Nat) : (keysF fl n).Nodup := by
  induction n with
  | zero => exact List.nodup_nil
  | succ n ih =>
    by_cases h : keyOf (fl n) ∈ keysF fl n
    · rw [keysF_in h]; exact ih
    · rw [keysF_new h]
      exact List.nodup_append.2 ⟨ih, List.pairwise_singleton _ _, fun a ha b hb => by simp at hb; subst hb; exact fun e => h (e ▸ ha)⟩
theorem keysF_len (fl : Nat → Fl) (n : Nat) : (keysF fl n).length ≤ n := by
  induction n with
  | zero => simp [keysF]
  | succ n ih =>
    by_cases h : keyOf (fl n) ∈ keysF fl n
    · rw [keysF_in h]; omega
    · rw [keysF_new h, List.length_append]; simp; omega
theorem selK_none {fl : Nat → Fl} {n : Nat} {k : Key} (h : k ∉ keysF fl n) : selK k fl n = [] := by
  rw [mem_keysF] at h
  induction n with
  | zero => rfl
  | succ n ih =>
    show sel _ _ _ = _
    rw [sel_not (selP_key_not fun e => h ⟨n, by omega, e⟩)]
    exact ih fun ⟨j, h1, h2⟩ => h ⟨j, by omega, h2⟩
theorem selK_pos {fl : Nat → Fl} {n : Nat} {k : Key} (h : k ∈ keysF fl n) : 0 < (selK k fl n).length := by
  rw [mem_keysF] at h
  obtain ⟨j, h1, h2⟩ := h
  induction n with
  | zero => omega
  | succ n ih =>
    show 0 < (sel _ _ _).length
    rcases Nat.lt_or_ge j n with h3 | h3
    · have := ih h3
      by_cases h4 : keyOf (fl n) = k
      · rw [sel_at (selP_key.2 h4)]; simp
      · rw [sel_not (selP_key_not h4)]; exact this
    · have : j = n := by omega
      subst this
      rw [sel_at (selP_key.2 h2)]; simp
theorem eqKey_enc (a b : Key) : eqKey Try.prog 78 (encK a) (encK b) = true ↔ a = b := by
  have e : eqKey Try.prog 78 (encK a) (encK b) = (decide (a.1 = b.1) && (decide (a.2 = b.2) && true)) := by kernel_rfl
  rw [e]
  constructor
  · intro h; simp at h; exact Prod.ext h.1 h.2
  · rintro rfl; simp
/-- An entry of the sums: a key, and the cents of its flows. -/
def EntAt (fl : Nat → Fl) (n : Nat) (k : Key) (p : AV × AV) : Prop := p.1 = encK k ∧ ∃ g, p.2 = .own (.vec 1 (selK k fl n).length g) ∧ ∀ i, i < (selK k fl n).length → g i = .int .i64 ((selK k fl n).getD i 0)
theorem entAt_key {fl : Nat → Fl} {n : Nat} (k : Key) (p : AV × AV) (h : EntAt fl n k p) : p.1 = encK k := h.1
theorem entAt_keep {fl : Nat → Fl} {n : Nat} {k : Key} {p : AV × AV} (hk : k ≠ keyOf (fl n)) (h : EntAt fl n k p) : EntAt fl (n + 1) k p := by
  have : selK k fl (n + 1) = selK k fl n := sel_not (selP_key_not (Ne.symm hk))
  unfold EntAt
  rw [this]; exact h
noncomputable abbrev zero3 : AV := zeroElem Try.prog 3
theorem entAt_more {fl : Nat → Fl} {n : Nat} {p : AV × AV} {len : Nat} {g v : Nat → AV} (hp : p.1 = encK (keyOf (fl n))) (hl : len = (selK (keyOf (fl n)) fl n).length) (hg : ∀ i, i < (selK (keyOf (fl n)) fl n).length → g i = .int .i64 ((selK (keyOf (fl n)) fl n).getD i 0)) (hv : v 0 = .int .i64 (fl n).n) :
    EntAt fl (n + 1) (keyOf (fl n)) (p.1, .own (.vec 1 (len + 1) (vapp zero3 g len v 1))) := by
  have : selK (keyOf (fl n)) fl (n + 1) = selK (keyOf (fl n)) fl n ++ [(fl n).n] := sel_at (selP_key.2 rfl)
  unfold EntAt
  rw [this]
  refine ⟨hp, vapp zero3 g len v 1, ?_, vapp_at (z := zero3) (a := .undef) hg hl hv⟩
  rw [List.length_append, hl]; rfl
/-- The keys, as they stand in the list. -/
def KeysAt (l : List Key) (len : Nat) (g : Nat → AV) : Prop := len = l.length ∧ ∀ j k, l[j]? = some k → g j = encK k
theorem keysAt_snoc {l : List Key} {len : Nat} {g v : Nat → AV} {k : Key} {z : AV} (h : KeysAt l len g) (hv : v 0 = encK k) : KeysAt (l ++ [k]) (len + 1) (vapp z g len v 1) := by
  obtain ⟨h1, h2⟩ := h
  refine ⟨by simp [h1], fun j q hj => ?_⟩
  unfold vapp
  by_cases h3 : j < len
  · rw [show Nat.blt j len = true by rw [Nat.blt_eq]; exact h3, cond_true]
    rw [List.getElem?_append_left (by omega)] at hj
    exact h2 j q hj
  · have e : Nat.blt j len = false := by rw [Bool.eq_false_iff, ne_eq, Nat.blt_eq]; omega
    have hj' := (List.getElem?_eq_some_iff.1 hj).1
    simp at hj'
    have : j = len := by omega
    subst this
    rw [e, cond_false, show Nat.blt j (j + 1) = true by rw [Nat.blt_eq]; omega, cond_true, Nat.sub_self, hv]
    rw [h1, List.getElem?_append_right (by omega)] at hj
    simp at hj
    rw [hj]
theorem keysAt_list {l : List Key} {len : Nat} {g : Nat → AV} (h : KeysAt l len g) : ((List.range len).map fun i => oneOf 2 (g i)) = l.map encK := by
  obtain ⟨h1, h2⟩ := h
  apply List.ext_getElem?
  intro i
  by_cases hi : i < l.length
  · have e := h2 i l[i] (List.getElem?_eq_getElem hi)
    simp [h1, hi, e]; rfl
  · simp [h1, hi]
/-! ### what is netted -/
def netF (fl : Nat → Fl) (n : Nat) (ks : List Key) : List Fl := ks.filterMap fun k => if totK k fl n = 0 then none else some ⟨k.1, k.2, totK k fl n, 0⟩
def netOK (fl : Nat → Fl) (n : Nat) (ks : List Key) : Bool := ks.all fun k => fitsI (totK k fl n)
def netE (fl : Nat → Fl) (n : Nat) (ks : List Key) : Int := if checkE fl n ≠ 0 then checkE fl n else bif netOK fl n ks then 0 else 3
def netL (fl : Nat → Fl) (n : Nat) (ks : List Key) : List Fl := if netE fl n ks = 0 then netF fl n ks else []
/-- A list of flows, as it stands in a slice. -/
def FlowsAt (l : List Fl) (len : Nat) (g : Nat → AV) : Prop := len = l.length ∧ ∀ j f, l[j]? = some f → g j = encF f
theorem flowsAt_snoc {l : List Fl} {len : Nat} {g v : Nat → AV} {k : Fl} {z : AV} (h : FlowsAt l len g) (hv : v 0 = encF k) : FlowsAt (l ++ [k]) (len + 1) (vapp z g len v 1) := by
  obtain ⟨h1, h2⟩ := h
  refine ⟨by simp [h1], fun j q hj => ?_⟩
  unfold vapp
  by_cases h3 : j < len
  · rw [show Nat.blt j len = true by rw [Nat.blt_eq]; exact h3, cond_true]
    rw [List.getElem?_append_left (by omega)] at hj
    exact h2 j q hj
  · have e : Nat.blt j len = false := by rw [Bool.eq_false_iff, ne_eq, Nat.blt_eq]; omega
    have hj' := (List.getElem?_eq_some_iff.1 hj).1
    simp at hj'
    have : j = len := by omega
    subst this
    rw [e, cond_false, show Nat.blt j (j + 1) = true by rw [Nat.blt_eq]; omega, cond_true, Nat.sub_self, hv]
    rw [h1, List.getElem?_append_right (by omega)] at hj
    simp at hj
    rw [hj]
theorem netF_len (fl : Nat → Fl) (n : Nat) (ks : List Key) : (netF fl n ks).length ≤ ks.length := List.length_filterMap_le _ _
theorem netF_snoc_zero {fl : Nat → Fl} {n : Nat} {ks : List Key} {k : Key} (h : totK k fl n = 0) : netF fl n (ks ++ [k]) = netF fl n ks := by
  unfold netF; rw [List.filterMap_append]; simp [h]
theorem netF_snoc {fl : Nat → Fl} {n : Nat} {ks : List Key} {k : Key} (h : totK k fl n ≠ 0) : netF fl n (ks ++ [k]) = netF fl n ks ++ [⟨k.1, k.2, totK k fl n, 0⟩] := by
  unfold netF; rw [List.filterMap_append]; simp [h]
theorem take_snoc {ks : List Key} {i : Nat} {k : Key} (h : ks[i]? = some k) : ks.take (i + 1) = ks.take i ++ [k] := by
  rw [List.take_add_one, h]; rfl
end Go.Proofs.Fw


set_option linter.unusedVariables false
set_option linter.unusedSimpArgs false
namespace Go.Proofs.Fw
open Ax Go Go.Proofs
set_option maxRecDepth 10000
def ghN (f r : Nat) : List Ghost := match f, r with | 26, 6 => [.fresh 5] | 26, 14 => [.adopt 5] | _, _ => []
def keepN (f r : Nat) : Option (List Nat) := match f, r with
  | 26, 7 => some [2, 4, 5, 19, 20, 21]
  | 26, 16 => some [2, 4, 51, 52, 53]
  | 924, 2 => some [2, 5, 6, 7]
  | 913, 4 => some [0, 1, 5]
  | _, _ => none
def keepXN (f r : Nat) : Option (List Nat) := match f, r with
  | 26, 7 => some [2, 4, 5]
  | 26, 16 => some [2, 3]
  | 924, 2 => some [2]
  | 913, 4 => some [4]
  | _, _ => none
noncomputable def cxN : Ctx where
  P := Try.prog
  inl := fun _ => false
  keep := keepN
  keepX := keepXN
  xf := fun _ _ _ => false
  ow := fun _ => false
  gh := ghN
  gf := fun _ => []
  ln := fun _ => false
  srt := srtT
theorem okN {f a Q} (h : stepCall (SX Try.prog calmT) cxN calmT f a Q) : CallOK Try.prog f a Q := okOf (cx := cxN) rfl progOK h
theorem nanS (s : ByteArray) : CallOK Try.prog 58 [.str s] (fun r => r = .bool false) := by
  refine okN ?_
  conv => whnf
  repeat ((first | with_reducible refine branch_true rfl ?_ | with_reducible refine branch_false rfl ?_); conv => whnf)
  simp
theorem nanI (s : Int) : CallOK Try.prog 59 [.int .i64 s] (fun r => r = .bool false) := by
  refine okN ?_
  conv => whnf
  repeat ((first | with_reducible refine branch_true rfl ?_ | with_reducible refine branch_false rfl ?_); conv => whnf)
  simp
theorem cmpStr (x y : ByteArray) : CallOK Try.prog 42 [.str x, .str y] (fun r => r = .int .i64 (cmpS x y)) := by
  refine okN ?_
  conv => whnf
  repeat ((first | with_reducible refine branch_true rfl ?_ | with_reducible refine branch_false rfl ?_); conv => whnf)
  refine call_is (nanS x) ?_
  conv => whnf
  repeat ((first | with_reducible refine branch_true rfl ?_ | with_reducible refine branch_false rfl ?_); conv => whnf)
  refine call_is (nanS y) ?_
  conv => whnf
  repeat ((first | with_reducible refine branch_true rfl ?_ | with_reducible refine branch_false rfl ?_); conv => whnf)
  refine branch_of (fun h1 => ?_) (fun h1 => ?_)
  · conv => whnf
    repeat ((first | with_reducible refine branch_true rfl ?_ | with_reducible refine branch_false rfl ?_); conv => whnf)
    have h1 : strLt x y = true := h1
    simp [cmpS, h1]
  · conv => whnf
    repeat ((first | with_reducible refine branch_true rfl ?_ | with_reducible refine branch_false rfl ?_); conv => whnf)
    have h1 : strLt x y = false := h1
    refine branch_of (fun h2 => ?_) (fun h2 => ?_)
    · conv => whnf
      repeat ((first | with_reducible refine branch_true rfl ?_ | with_reducible refine branch_false rfl ?_); conv => whnf)
      have h2 : (strLt x y || decide (x = y)) = false := by simpa using h2
      rw [h1] at h2
      have h2 : ¬ x = y := by simpa using h2
      simp [cmpS, h1, h2]
    · conv => whnf
      repeat ((first | with_reducible refine branch_true rfl ?_ | with_reducible refine branch_false rfl ?_); conv => whnf)
      have h2 : (!(strLt x y || decide (x = y))) = false := h2
      rw [h1] at h2
      have h2 : x = y := by simpa using h2
      subst h2
      simp [cmpS, strLt_irr]
theorem cmpInt (x y : Int) : CallOK Try.prog 43 [.int .i64 x, .int .i64 y] (fun r => r = .int .i64 (cmpI x y)) := by
  refine okN ?_
  conv => whnf
  repeat ((first | with_reducible refine branch_true rfl ?_ | with_reducible refine branch_false rfl ?_); conv => whnf)
  refine call_is (nanI x) ?_
  conv => whnf
  repeat ((first | with_reducible refine branch_true rfl ?_ | with_reducible refine branch_false rfl ?_); conv => whnf)
  refine call_is (nanI y) ?_
  conv => whnf
  repeat ((first | with_reducible refine branch_true rfl ?_ | with_reducible refine branch_false rfl ?_); conv => whnf)
  refine branch_of (fun h1 => ?_) (fun h1 => ?_)
  · conv => whnf
    repeat ((first | with_reducible refine branch_true rfl ?_ | with_reducible refine branch_false rfl ?_); conv => whnf)
    have h1 : x < y := of_decide_eq_true h1
    simp [cmpI, h1]
  · conv => whnf
    repeat ((first | with_reducible refine branch_true rfl ?_ | with_reducible refine branch_false rfl ?_); conv => whnf)
    have h1 : ¬ x < y := of_decide_eq_false h1
    refine branch_of (fun h2 => ?_) (fun h2 => ?_)
    · conv => whnf
      repeat ((first | with_reducible refine branch_true rfl ?_ | with_reducible refine branch_false rfl ?_); conv => whnf)
      have h2 : y < x := of_decide_eq_true h2
      simp [cmpI, h1, h2]
    · conv => whnf
      repeat ((first | with_reducible refine branch_true rfl ?_ | with_reducible refine branch_false rfl ?_); conv => whnf)
      have h2 : ¬ y < x := of_decide_eq_false h2
      simp [cmpI, h1, h2]
theorem cmpKey (a b : Key) : CallOK Try.prog 41 [encK a, encK b] (fun r => r = .int .i64 (cmpK a b)) := by
  refine okN ?_
  conv => whnf
  repeat ((first | with_reducible refine branch_true rfl ?_ | with_reducible refine branch_false rfl ?_); conv => whnf)
  refine branch_of (fun h1 => ?_) (fun h1 => ?_)
  · conv => whnf
    repeat ((first | with_reducible refine branch_true rfl ?_ | with_reducible refine branch_false rfl ?_); conv => whnf)
    have h1 : ¬ a.1 = b.1 := by simpa using h1
    refine call_is (cmpStr a.1 b.1) ?_
    conv => whnf
    repeat ((first | with_reducible refine branch_true rfl ?_ | with_reducible refine branch_false rfl ?_); conv => whnf)
    rw [cmpK, if_neg h1]
  · conv => whnf
    repeat ((first | with_reducible refine branch_true rfl ?_ | with_reducible refine branch_false rfl ?_); conv => whnf)
    have h1 : a.1 = b.1 := by simpa using h1
    refine call_is (cmpInt a.2 b.2) ?_
    conv => whnf
    repeat ((first | with_reducible refine branch_true rfl ?_ | with_reducible refine branch_false rfl ?_); conv => whnf)
    rw [cmpK, if_pos h1]
end Go.Proofs.Fw


set_option linter.unusedVariables false
set_option linter.unusedSimpArgs false
namespace Go.Proofs.Fw
open Ax Go Go.Proofs
set_option maxRecDepth 10000
noncomputable abbrev nil4 : AV := .own (.vec 4 0 fun _ => zeroElem Try.prog 38)
/-- What stands at the head of the loop over the flows. -/
structure NetHd (fl : Nat → Fl) (n : Nat) where
  i : Nat
  len : Nat
  g : Nat → AV
  ents : List (AV × AV)
  hi : i ≤ n
  hk : KeysAt (keysF fl i) len g
  he : F2 (EntAt fl i) (keysF fl i) ents
noncomputable def netS (fl : Nat → Fl) (n : Nat) (x : NetHd fl n) : St := ⟨[(2, nil4), (4, .mapr 0), (5, .uni (.vec 2 x.len x.g)), (19, encL fl n), (20, .int .i64 n), (21, .int .i64 x.i)], [.map 78 true x.ents], [], none⟩
/-- What stands at the head of the loop over the keys. -/
structure NetHe (fl : Nat → Fl) (n : Nat) (ks : List Key) where
  i : Nat
  len : Nat
  g : Nat → AV
  hi : i ≤ ks.length
  hf : FlowsAt (netF fl n (ks.take i)) len g
  ho : ∀ k ∈ ks.take i, fitsI (totK k fl n) = true
noncomputable def netT (fl : Nat → Fl) (n : Nat) (ks : List Key) (ents : List (AV × AV)) (e : Nat → AV) (len : Nat) (x : NetHe fl n ks) : St := ⟨[(2, .own (.vec 4 x.len x.g)), (4, .mapr 0), (51, .row 1 2 0 len), (52, .int .i64 len), (53, .int .i64 x.i)], [.map 78 true ents, .arr 2 len e], [], none⟩
theorem room24 {m : Nat} (h : m ≤ 1000000) : roomOK m 24 = true := by
  simp [roomOK]; omega
theorem room40 {m : Nat} (h : m ≤ 1000000) : roomOK m 40 = true := by
  simp [roomOK]; omega
theorem keyLook (k : Key) : (keyOk Try.prog 78 (encK k) && hasZero Try.prog 66) = true := by kernel_rfl
theorem keyOk54 (k : Key) : keyOk Try.prog 78 (encK k) = true := by kernel_rfl
theorem keyEnt {k : Key} {h : Heap} (hn : noIter 0 h = true) : (keyOk Try.prog 78 (encK k) && noIter 0 h && hasZero Try.prog 66 && (zeroAV Try.prog 66).isData) = true := by
  rw [keyOk54, hn, show hasZero Try.prog 66 = true by kernel_rfl, show (zeroAV Try.prog 66).isData = true by kernel_rfl]; rfl
theorem flowNet (fl : Nat → Fl) (n : Nat) (ks : List Key) (hr : RiseK ks) (hp : ks.Perm (keysF fl n)) : CallOK Try.prog 26 [encL fl n] (fun r => ∃ len g, r = .tup [.vec 4 len g, .int .i64 (netE fl n ks)] ∧ FlowsAt (netL fl n ks) len g) := by
  refine okN ?_
  conv => whnf
  repeat ((first | with_reducible refine branch_true rfl ?_ | with_reducible refine branch_false rfl ?_); conv => whnf)
  refine call_is (check fl n) ?_
  conv => whnf
  repeat ((first | with_reducible refine branch_true rfl ?_ | with_reducible refine branch_false rfl ?_); conv => whnf)
  refine branch_of (fun h1 => ?_) (fun h1 => ?_)
  · have h1 : checkE fl n ≠ 0 := by simpa using h1
    conv => whnf
    repeat ((first | with_reducible refine branch_true rfl ?_ | with_reducible refine branch_false rfl ?_); conv => whnf)
    have e : netE fl n ks = checkE fl n := by rw [netE, if_pos h1]
    exact ⟨0, _, congrArg (fun q => AV.tup [AV.vec 4 0 _, AV.int .i64 q]) e.symm, by rw [netL, if_neg (by rw [e]; exact h1)]; exact ⟨rfl, fun j f hj => by simp at hj⟩⟩
  · have h1 : checkE fl n = 0 := by simpa using h1
    obtain ⟨hn, hall⟩ := check_ok h1
    conv => whnf
    repeat ((first | with_reducible refine branch_true rfl ?_ | with_reducible refine branch_false rfl ?_); conv => whnf)
    refine loop_by (cx := cxN) rfl progOK (ι := NetHd fl n) (fun x => n - x.i) (netS fl n) ?_ ⟨0, 0, _, [], Nat.zero_le _, ⟨rfl, fun j k hj => by simp [keysF] at hj⟩, .nil⟩
    rintro ⟨i, len, g, ents, hi, hk, he⟩ ih
    have hlen := keysF_len fl i
    have hk0 := hk.1
    have helen := he.len
    conv => whnf
    repeat ((first | with_reducible refine branch_true rfl ?_ | with_reducible refine branch_false rfl ?_); conv => whnf)
    refine branch_of (fun g1 => ?_) (fun g1 => ?_)
    · have g2 : i < n := by simpa using g1
      have hw : IntKind.i64.wrap ((i : Int) + 1) = ((i + 1 : Nat) : Int) := by rw [wrap64 (by omega)]; omega
      conv => whnf
      repeat ((first | with_reducible refine branch_true rfl ?_ | with_reducible refine branch_false rfl ?_); conv => whnf)
      refine st_addr (sz := 4) (len := n) (n := i) (u := 38) (g := fun i => encF (fl i)) rfl rfl rfl rfl rfl (in_range g2) ?_
      conv => whnf
      repeat ((first | with_reducible refine branch_true rfl ?_ | with_reducible refine branch_false rfl ?_); conv => whnf)
      by_cases hin : keyOf (fl i) ∈ keysF fl i
      · obtain ⟨j, hj⟩ := List.getElem?_of_mem hin
        obtain ⟨p, hpj, hpk, gg, hpv, hpg⟩ := he.at hj
        have hpos := selK_pos hin
        have hsl : (selK (keyOf (fl i)) fl i).length ≤ i := sel_len _ _ _
        have hm : mpos Try.prog 78 ents (encK (keyOf (fl i))) = some j := mpos_at entAt_key eqKey_enc he (keysF_nodup fl i) hj
        have hv : mval .undef ents j = .own (.vec 1 (selK (keyOf (fl i)) fl i).length gg) := by rw [mval_at hpj, hpv]
        have hjl : j < ents.length := by rw [helen]; exact (List.getElem?_eq_some_iff.1 hj).1
        refine st_look (kt := 78) (et := 66) (id := 0) (j := j) (ents := ents) (reg := true) rfl rfl rfl rfl (keyLook (keyOf (fl i))) hm hv ?_
        conv => whnf
        repeat ((first | with_reducible refine branch_true rfl ?_ | with_reducible refine branch_false rfl ?_); conv => whnf)
        refine branch_false (decide_eq_false (by omega)) ?_
        conv => whnf
        repeat ((first | with_reducible refine branch_true rfl ?_ | with_reducible refine branch_false rfl ?_); conv => whnf)
        refine st_entry (kt := 78) (et := 66) (id := 0) (j := j) (ents := ents) rfl rfl rfl rfl (keyEnt (k := keyOf (fl i)) rfl) hm hv ?_
        conv => whnf
        repeat ((first | with_reducible refine branch_true rfl ?_ | with_reducible refine branch_false rfl ?_); conv => whnf)
        refine st_append (sz := 1) (len := (selK (keyOf (fl i)) fl i).length) (g := gg) (u := 3) (m := 1) (gg := vlist (zeroElem Try.prog 3) [.int .i64 (fl i).n]) rfl rfl rfl rfl rfl (room8 (by omega)) ?_
        conv => whnf
        repeat ((first | with_reducible refine branch_true rfl ?_ | with_reducible refine branch_false rfl ?_); conv => whnf)
        refine st_estore (kt := 78) (kk := .i64) (n := (j : Int)) (id := 0) rfl rfl rfl rfl (in_range (by rw [msetAt_len]; exact hjl)) rfl rfl ?_
        conv => whnf
        repeat ((first | with_reducible refine branch_true rfl ?_ | with_reducible refine branch_false rfl ?_); conv => whnf)
        refine loop_to ih ⟨i + 1, len, g, _, g2, by rw [keysF_in hin]; exact hk, ?_⟩ (show n - (i + 1) < n - i by omega) (congrArg (fun q => St.mk [(2, nil4), (4, .mapr 0), (5, .uni (.vec 2 len g)), (19, encL fl n), (20, .int .i64 n), (21, .int .i64 q)] [.map 78 true _] [] none) hw)
        rw [keysF_in hin, show ((j : Int).toNat) = j from rfl, msetAt_twice]
        refine he.setAt (keysF_nodup fl i) hj (fun b q hb hq => entAt_keep hb hq) fun q hq => ?_
        exact entAt_more hq.1 rfl hpg rfl
      · have hm : mpos Try.prog 78 ents (encK (keyOf (fl i))) = none := mpos_no entAt_key (fun a b => (eqKey_enc a b).1) he hin
        refine st_look_no (kt := 78) (et := 66) (id := 0) (ents := ents) (reg := true) rfl rfl rfl rfl (keyLook (keyOf (fl i))) hm ?_
        conv => whnf
        repeat ((first | with_reducible refine branch_true rfl ?_ | with_reducible refine branch_false rfl ?_); conv => whnf)
        refine st_append_uni (sz := 2) (len := len) (g := g) (u := 78) (m := 1) (gg := vlist (zeroElem Try.prog 78) [encK (keyOf (fl i))]) rfl rfl rfl rfl rfl (room24 (by omega)) ?_
        conv => whnf
        repeat ((first | with_reducible refine branch_true rfl ?_ | with_reducible refine branch_false rfl ?_); conv => whnf)
        refine st_entry_no (kt := 78) (et := 66) (id := 0) (ents := ents) rfl rfl rfl rfl (keyEnt (k := keyOf (fl i)) rfl) hm ?_
        conv => whnf
        repeat ((first | with_reducible refine branch_true rfl ?_ | with_reducible refine branch_false rfl ?_); conv => whnf)
        refine st_estore (kt := 78) (kk := .i64) (n := (ents.length : Int)) (id := 0) rfl rfl rfl rfl (in_range (by simp)) rfl rfl ?_
        conv => whnf
        repeat ((first | with_reducible refine branch_true rfl ?_ | with_reducible refine branch_false rfl ?_); conv => whnf)
        refine loop_to ih ⟨i + 1, len + 1, _, _, g2, ?_, ?_⟩ (show n - (i + 1) < n - i by omega) (congrArg (fun q => St.mk [(2, nil4), (4, .mapr 0), (5, .uni (.vec 2 (len + 1) _)), (19, encL fl n), (20, .int .i64 n), (21, .int .i64 q)] [.map 78 true _] [] none) hw)
        · rw [keysF_new hin]; exact keysAt_snoc hk rfl
        · rw [keysF_new hin, show ((ents.length : Int).toNat) = ents.length from rfl, msetAt_last]
          refine (he.mono fun a q ha hq => entAt_keep (fun e => hin (e ▸ ha)) hq).snoc ?_
          refine entAt_more (p := (encK (keyOf (fl i)), .undef)) rfl ?_ ?_ rfl
          · rw [selK_none hin]; rfl
          · rw [selK_none hin]; intro i hi; simp at hi
    · have g2 : i = n := by simp at g1; omega
      subst g2
      clear ih
      conv => whnf
      repeat ((first | with_reducible refine branch_true rfl ?_ | with_reducible refine branch_false rfl ?_); conv => whnf)
      refine cond_t (show (Nat.beq 2 2 && Nat.beq 2 2 && Nat.beq 0 0 && Nat.beq len len) = true by simp) ?_
      have hl : (List.range len).map (fun i => oneOf 2 (g i)) = (keysF fl i).map encK := keysAt_list hk
      refine ⟨?_, cAV, ?_, swoK, ?_⟩
      · show ((List.range len).map (fun i => oneOf 2 (g i))).length < _
        simp; omega
      · intro a ha b hb
        replace ha : a ∈ (List.range len).map (fun i => oneOf 2 (g i)) := ha
        replace hb : b ∈ (List.range len).map (fun i => oneOf 2 (g i)) := hb
        rw [hl] at ha hb
        obtain ⟨ka, _, rfl⟩ := List.mem_map.1 ha
        obtain ⟨kb, _, rfl⟩ := List.mem_map.1 hb
        exact call_is (v := .int .i64 (cmpK ka kb)) (cmpKey ka kb) rfl
      · intro l' hp' hs'
        replace hp' : l'.Perm ((List.range len).map (fun i => oneOf 2 (g i))) := hp'
        rw [hl] at hp'
        obtain rfl := sorted_eq hr hp hp' hs'
        have hks : len = ks.length := by rw [hk0, hp.length_eq]
        have hes : ∀ j k, ks[j]? = some k → splice g 0 len (vlist .undef (ks.map encK)) (0 + j) = encK k := by
          intro j k hj
          have hj2 := (List.getElem?_eq_some_iff.1 hj).1
          have e1 : Nat.blt j (0 + len) = true := by rw [Nat.blt_eq]; omega
          rw [Nat.zero_add]
          unfold splice
          rw [e1, show Nat.ble 0 j = true from Nat.ble_eq_true_of_le (Nat.zero_le _)]
          simp only [Bool.and_self, cond_true, vlist, Nat.sub_zero]
          rw [List.getD, List.getElem?_map, hj]; rfl
        generalize splice g 0 len (vlist .undef (ks.map encK)) = e at hes
        conv => whnf
        repeat ((first | with_reducible refine branch_true rfl ?_ | with_reducible refine branch_false rfl ?_); conv => whnf)
        refine loop_by (cx := cxN) rfl progOK (ι := NetHe fl i ks) (fun x => ks.length - x.i) (netT fl i ks ents e len) ?_ ⟨0, 0, _, Nat.zero_le _, ⟨by simp [netF], fun j k hj => by simp [netF] at hj⟩, by simp⟩
        rintro ⟨j, m, gf, hj, hf, ho⟩ ih
        conv => whnf
        repeat ((first | with_reducible refine branch_true rfl ?_ | with_reducible refine branch_false rfl ?_); conv => whnf)
        refine branch_of (fun g3 => ?_) (fun g3 => ?_)
        · have g4 : j < ks.length := by
            have := of_decide_eq_true g3
            simp at this; omega
          have hw : IntKind.i64.wrap ((j : Int) + 1) = ((j + 1 : Nat) : Int) := by rw [wrap64 (by omega)]; omega
          obtain ⟨k, hk1⟩ : ∃ k, ks[j]? = some k := ⟨_, List.getElem?_eq_getElem g4⟩
          have hkm : k ∈ keysF fl i := hp.mem_iff.1 (List.mem_of_getElem? hk1)
          obtain ⟨q, hq⟩ := List.getElem?_of_mem hkm
          obtain ⟨p, hpj, hpk, gg, hpv, hpg⟩ := he.at hq
          have hsl : (selK k fl i).length ≤ i := sel_len _ _ _
          have hm : mpos Try.prog 78 ents (encK k) = some q := mpos_at entAt_key eqKey_enc he (keysF_nodup fl i) hq
          have hv : mval .undef ents q = .own (.vec 1 (selK k fl i).length gg) := by rw [mval_at hpj, hpv]
          have hml := hf.1
          have hml2 := netF_len fl i (ks.take j)
          have hml3 : (ks.take j).length ≤ j := List.length_take_le _ _
          conv => whnf
          repeat ((first | with_reducible refine branch_true rfl ?_ | with_reducible refine branch_false rfl ?_); conv => whnf)
          refine st_addr_row (u := 78) (id := 1) (sz := 2) (lo := 0) (len := len) (n := (j : Int)) rfl rfl rfl rfl rfl (in_range (by omega)) ?_
          conv => whnf
          repeat ((first | with_reducible refine branch_true rfl ?_ | with_reducible refine branch_false rfl ?_); conv => whnf)
          refine st_load_e (id := 1) (sz := 2) (j := 0 + j) (len := len) (g := e) (cs := [.str k.1, .int .i64 k.2]) rfl rfl rfl (by omega) (hes j k hk1) rfl rfl ?_
          conv => whnf
          repeat ((first | with_reducible refine branch_true rfl ?_ | with_reducible refine branch_false rfl ?_); conv => whnf)
          refine st_look (kt := 78) (et := 66) (id := 0) (j := q) (ents := ents) (reg := true) rfl rfl rfl rfl (keyLook k) hm hv ?_
          conv => whnf
          repeat ((first | with_reducible refine branch_true rfl ?_ | with_reducible refine branch_false rfl ?_); conv => whnf)
          have hS := ok_same (.cons (.vec hpg) .nil) (centsSum (fun j => (selK k fl i).getD j 0) (selK k fl i).length (by omega) (sel_fits hall))
          have hT : sumZ (fun j => (selK k fl i).getD j 0) (selK k fl i).length = totK k fl i := rfl
          cases hfit : fitsI (totK k fl i) with
          | true =>
            rw [hT, sumR, hfit] at hS
            refine call_is (v := .tup [.int .i64 (totK k fl i), .int .i64 0]) hS ?_
            conv => whnf
            repeat ((first | with_reducible refine branch_true rfl ?_ | with_reducible refine branch_false rfl ?_); conv => whnf)
            have ho2 : ∀ k' ∈ ks.take (j + 1), fitsI (totK k' fl i) = true := by
              intro k' hk'
              rw [take_snoc hk1, List.mem_append, List.mem_singleton] at hk'
              rcases hk' with hk' | rfl
              · exact ho k' hk'
              · exact hfit
            refine branch_of (fun g5 => ?_) (fun g5 => ?_)
            · have g5 : totK k fl i ≠ 0 := by simpa using g5
              conv => whnf
              repeat ((first | with_reducible refine branch_true rfl ?_ | with_reducible refine branch_false rfl ?_); conv => whnf)
              refine st_append (sz := 4) (len := m) (g := gf) (u := 38) (m := 1) (gg := vlist (zeroElem Try.prog 38) [encF ⟨k.1, k.2, totK k fl i, 0⟩]) rfl rfl rfl rfl rfl (room40 (by omega)) ?_
              conv => whnf
              repeat ((first | with_reducible refine branch_true rfl ?_ | with_reducible refine branch_false rfl ?_); conv => whnf)
              refine loop_to ih ⟨j + 1, m + 1, _, g4, ?_, ho2⟩ (show ks.length - (j + 1) < ks.length - j by omega) (congrArg (fun q => St.mk [(2, .own (.vec 4 (m + 1) _)), (4, .mapr 0), (51, .row 1 2 0 len), (52, .int .i64 len), (53, .int .i64 q)] [.map 78 true ents, .arr 2 len e] [] none) hw)
              rw [take_snoc hk1, netF_snoc g5]
              exact flowsAt_snoc hf rfl
            · have g5 : totK k fl i = 0 := by simpa using g5
              conv => whnf
              repeat ((first | with_reducible refine branch_true rfl ?_ | with_reducible refine branch_false rfl ?_); conv => whnf)
              refine loop_to ih ⟨j + 1, m, gf, g4, ?_, ho2⟩ (show ks.length - (j + 1) < ks.length - j by omega) (congrArg (fun q => St.mk [(2, .own (.vec 4 m gf)), (4, .mapr 0), (51, .row 1 2 0 len), (52, .int .i64 len), (53, .int .i64 q)] [.map 78 true ents, .arr 2 len e] [] none) hw)
              rw [take_snoc hk1, netF_snoc_zero g5]
              exact hf
          | false =>
            rw [hT, sumR, hfit] at hS
            refine call_is (v := .tup [.int .i64 0, .int .i64 3]) hS ?_
            conv => whnf
            repeat ((first | with_reducible refine branch_true rfl ?_ | with_reducible refine branch_false rfl ?_); conv => whnf)
            have hno : netOK fl i ks = false := List.all_eq_false.2 ⟨k, List.mem_of_getElem? hk1, by simp [hfit]⟩
            have e : netE fl i ks = 3 := by rw [netE, if_neg (by simp [h1]), hno]; rfl
            exact ⟨0, _, congrArg (fun q => AV.tup [AV.vec 4 0 _, AV.int .i64 q]) e.symm, by rw [netL, if_neg (by simp [e])]; exact ⟨rfl, fun j f hj => by simp at hj⟩⟩
        · have g4 : j = ks.length := by
            have := of_decide_eq_false g3
            simp at this
            have hj : j ≤ ks.length := hj
            omega
          subst g4
          conv => whnf
          repeat ((first | with_reducible refine branch_true rfl ?_ | with_reducible refine branch_false rfl ?_); conv => whnf)
          rw [List.take_length] at hf ho
          have hyes : netOK fl i ks = true := List.all_eq_true.2 ho
          have e : netE fl i ks = 0 := by rw [netE, if_neg (by simp [h1]), hyes]; rfl
          exact ⟨m, gf, congrArg (fun q => AV.tup [AV.vec 4 m gf, AV.int .i64 q]) e.symm, by rw [netL, if_pos e]; exact hf⟩
end Go.Proofs.Fw


set_option linter.unusedVariables false
set_option linter.unusedSimpArgs false
namespace Go.Proofs.Fw
open Ax Go Go.Proofs
set_option maxRecDepth 10000
theorem sel_split (p : Fl → Bool) (fl : Nat → Fl) (k j : Nat) : sel p fl (k + j) = sel p fl k ++ sel p (fun i => fl (k + i)) j := by
  induction j with
  | zero => simp [sel]
  | succ j ih =>
    rw [Nat.add_succ, sel, sel, ih]
    split <;> simp
theorem sumZ_congr {z z' : Nat → Int} {n : Nat} (h : ∀ i, i < n → z i = z' i) : sumZ z n = sumZ z' n := by
  induction n with
  | zero => rfl
  | succ n ih => simp only [sumZ]; rw [ih fun i hi => h i (by omega), h n (by omega)]
theorem sumZ_app (a b : List Int) : sumZ (fun i => (a ++ b).getD i 0) (a ++ b).length = sumZ (fun i => a.getD i 0) a.length + sumZ (fun i => b.getD i 0) b.length := by
  have key : ∀ j, j ≤ b.length → sumZ (fun i => (a ++ b).getD i 0) (a.length + j) = sumZ (fun i => a.getD i 0) a.length + sumZ (fun i => b.getD i 0) j := by
    intro j
    induction j with
    | zero =>
      intro _
      simp only [Nat.add_zero, sumZ, Int.add_zero]
      refine sumZ_congr fun i hi => ?_
      simp [List.getD, List.getElem?_append_left hi]
    | succ j ih =>
      intro hj
      rw [Nat.add_succ, sumZ, sumZ, ih (by omega)]
      have : (a ++ b).getD (a.length + j) 0 = b.getD j 0 := by simp [List.getD, List.getElem?_append_right (Nat.le_add_right _ _)]
      rw [this, Int.add_assoc]
  rw [List.length_append]
  exact key _ (Nat.le_refl _)
theorem tot_split (p : Fl → Bool) (fl : Nat → Fl) (k j : Nat) : tot p fl (k + j) = tot p fl k + tot p (fun i => fl (k + i)) j := by
  unfold tot
  rw [sel_split, sumZ_app]
end Go.Proofs.Fw


set_option linter.unusedVariables false
set_option linter.unusedSimpArgs false
namespace Go.Proofs.Fw
open Ax Go Go.Proofs
set_option maxRecDepth 10000
/-! ### flows as lists -/
def d0 : Fl := ⟨ByteArray.empty, 0, 0, 0⟩
def toL (fl : Nat → Fl) (n : Nat) : List Fl := (List.range n).map fl
def flOf (l : List Fl) (i : Nat) : Fl := l.getD i d0
theorem toL_flOf (l : List Fl) : toL (flOf l) l.length = l := by
  apply List.ext_getElem?
  intro i
  unfold toL flOf
  by_cases h : i < l.length <;> simp [h, List.getD]
theorem toL_succ (fl : Nat → Fl) (n : Nat) : toL fl (n + 1) = toL fl n ++ [fl n] := by
  unfold toL; rw [List.range_succ, List.map_append]; rfl
theorem mem_toL {fl : Nat → Fl} {n : Nat} {f : Fl} : f ∈ toL fl n ↔ ∃ j, j < n ∧ fl j = f := by simp [toL]
theorem toL_len (fl : Nat → Fl) (n : Nat) : (toL fl n).length = n := by simp [toL]
def sumI : List Int → Int
  | [] => 0
  | x :: r => x + sumI r
theorem sumI_app (a b : List Int) : sumI (a ++ b) = sumI a + sumI b := by
  induction a with
  | nil => simp [sumI]
  | cons x r ih => simp only [List.cons_append, sumI, ih]; omega
theorem sumI_perm {a b : List Int} (h : a.Perm b) : sumI a = sumI b := by
  induction h with
  | nil => rfl
  | cons x _ ih => simp only [sumI, ih]
  | swap x y l => simp only [sumI]; omega
  | trans _ _ h1 h2 => exact h1.trans h2
theorem sumZ_list (l : List Int) : sumZ (fun i => l.getD i 0) l.length = sumI l := by
  induction l with
  | nil => rfl
  | cons x r ih =>
    have := sumZ_app [x] r
    rw [ih] at this
    simp only [List.singleton_append] at this
    rw [this]
    simp [sumZ, sumI]
theorem sel_toL (p : Fl → Bool) (fl : Nat → Fl) (n : Nat) : sel p fl n = ((toL fl n).filter p).map Fl.n := by
  induction n with
  | zero => rfl
  | succ n ih =>
    rw [toL_succ, List.filter_append, List.map_append]
    cases h : p (fl n) with
    | true => rw [sel_at h, ih]; simp [h]
    | false => rw [sel_not h, ih]; simp [h]
theorem tot_toL (p : Fl → Bool) (fl : Nat → Fl) (n : Nat) : tot p fl n = sumI (((toL fl n).filter p).map Fl.n) := by
  unfold tot; rw [sumZ_list, sel_toL]
theorem mem_keysL {fl : Nat → Fl} {n : Nat} {k : Key} : k ∈ keysF fl n ↔ ∃ f ∈ toL fl n, keyOf f = k := by
  rw [mem_keysF]
  constructor
  · rintro ⟨j, h1, h2⟩; exact ⟨fl j, mem_toL.2 ⟨j, h1, rfl⟩, h2⟩
  · rintro ⟨f, h1, h2⟩
    obtain ⟨j, h3, rfl⟩ := mem_toL.1 h1
    exact ⟨j, h3, h2⟩
theorem checkE_zero {fl : Nat → Fl} {n : Nat} : checkE fl n = 0 ↔ n ≤ 1024 ∧ ∀ f ∈ toL fl n, chk f = 0 := by
  constructor
  · intro h
    obtain ⟨h1, h2⟩ := check_ok h
    refine ⟨h1, fun f hf => ?_⟩
    obtain ⟨j, h3, rfl⟩ := mem_toL.1 hf
    exact h2 j h3
  · rintro ⟨h1, h2⟩
    rw [checkE, if_neg (by omega)]
    exact firstE_zero fun j hj => h2 _ (mem_toL.2 ⟨j, hj, rfl⟩)
section
variable {fl fl' : Nat → Fl} {n n' : Nat}
theorem tot_perm (h : (toL fl n).Perm (toL fl' n')) (p : Fl → Bool) : tot p fl n = tot p fl' n' := by
  rw [tot_toL, tot_toL]; exact sumI_perm ((h.filter p).map _)
theorem keys_perm (h : (toL fl n).Perm (toL fl' n')) : (keysF fl n).Perm (keysF fl' n') := by
  rw [List.perm_ext_iff_of_nodup (keysF_nodup _ _) (keysF_nodup _ _)]
  intro k
  rw [mem_keysL, mem_keysL]
  exact ⟨fun ⟨f, h1, h2⟩ => ⟨f, h.mem_iff.1 h1, h2⟩, fun ⟨f, h1, h2⟩ => ⟨f, h.mem_iff.2 h1, h2⟩⟩
theorem check_perm (h : (toL fl n).Perm (toL fl' n')) : checkE fl n = 0 ↔ checkE fl' n' = 0 := by
  have hl := h.length_eq
  rw [toL_len, toL_len] at hl
  subst hl
  rw [checkE_zero, checkE_zero]
  exact and_congr Iff.rfl ⟨fun g f hf => g f (h.mem_iff.2 hf), fun g f hf => g f (h.mem_iff.1 hf)⟩
theorem netOK_perm (h : (toL fl n).Perm (toL fl' n')) (ks : List Key) : netOK fl n ks = netOK fl' n' ks := by
  unfold netOK; congr; funext k; rw [totK, totK, tot_perm h]
theorem netF_perm (h : (toL fl n).Perm (toL fl' n')) (ks : List Key) : netF fl n ks = netF fl' n' ks := by
  unfold netF; congr; funext k; rw [totK, totK, tot_perm h]
theorem netE_zero {ks : List Key} : netE fl n ks = 0 ↔ checkE fl n = 0 ∧ netOK fl n ks = true := by
  unfold netE
  by_cases h : checkE fl n = 0
  · rw [if_neg (by simp [h])]
    cases netOK fl n ks <;> simp [h]
  · rw [if_pos h]
    exact ⟨fun e => absurd e h, fun e => absurd e.1 h⟩
theorem netE_perm (h : (toL fl n).Perm (toL fl' n')) (ks : List Key) : netE fl n ks = 0 ↔ netE fl' n' ks = 0 := by
  rw [netE_zero, netE_zero, check_perm h, netOK_perm h]
theorem netL_perm (h : (toL fl n).Perm (toL fl' n')) (ks : List Key) : netL fl n ks = netL fl' n' ks := by
  unfold netL
  by_cases e : netE fl n ks = 0
  · rw [if_pos e, if_pos ((netE_perm h ks).1 e), netF_perm h]
  · rw [if_neg e, if_neg fun e' => e ((netE_perm h ks).2 e')]
end
/-! ### netted flows, netted again -/
section
variable {fl : Nat → Fl} {n : Nat} {ks : List Key}
theorem mem_netF {f : Fl} : f ∈ netF fl n ks ↔ ∃ k ∈ ks, totK k fl n ≠ 0 ∧ f = ⟨k.1, k.2, totK k fl n, 0⟩ := by
  unfold netF
  rw [List.mem_filterMap]
  constructor
  · rintro ⟨k, h1, h2⟩
    by_cases h : totK k fl n = 0
    · simp [h] at h2
    · simp [h] at h2; exact ⟨k, h1, h, h2.symm⟩
  · rintro ⟨k, h1, h2, rfl⟩
    exact ⟨k, h1, by simp [h2]⟩
theorem selP_n {all : Bool} {m : ByteArray} {c : Int} {k : Key} {x y : Int} : selP all m c ⟨k.1, k.2, x, y⟩ = selP all m c ⟨k.1, k.2, 0, 0⟩ := rfl
theorem sum_netF (all : Bool) (m : ByteArray) (c : Int) : sumI (((netF fl n ks).filter (selP all m c)).map Fl.n) = sumI ((ks.filter fun k => selP all m c ⟨k.1, k.2, 0, 0⟩).map fun k => totK k fl n) := by
  induction ks with
  | nil => rfl
  | cons k r ih =>
    have e : netF fl n (k :: r) = (if totK k fl n = 0 then [] else [⟨k.1, k.2, totK k fl n, 0⟩]) ++ netF fl n r := by
      unfold netF
      by_cases h : totK k fl n = 0 <;> simp [h]
    rw [e, List.filter_append, List.map_append, sumI_app, ih, List.filter_cons]
    cases hp : selP all m c ⟨k.1, k.2, 0, 0⟩ with
    | true =>
      simp only [if_true, List.map_cons, sumI]
      by_cases h : totK k fl n = 0
      · rw [if_pos h]; simp [sumI, h]
      · rw [if_neg h]; simp [sumI, selP_n, hp]
    | false =>
      by_cases h : totK k fl n = 0
      · rw [if_pos h]; simp [sumI]
      · rw [if_neg h]; simp [sumI, selP_n, hp]
theorem filter_key {k : Key} (hn : ks.Nodup) (hk : k ∈ ks) : (ks.filter fun q => selP false k.1 k.2 ⟨q.1, q.2, 0, 0⟩) = [k] := by
  induction ks with
  | nil => simp at hk
  | cons a r ih =>
    obtain ⟨n1, n2⟩ := List.nodup_cons.1 hn
    have hs : ∀ q : Key, selP false k.1 k.2 ⟨q.1, q.2, 0, 0⟩ = true ↔ q = k := fun q => by
      rw [selP_key]; rfl
    rw [List.filter_cons]
    by_cases h : a = k
    · subst h
      rw [if_pos ((hs a).2 rfl)]
      have : (r.filter fun q => selP false a.1 a.2 ⟨q.1, q.2, 0, 0⟩) = [] := by
        rw [List.filter_eq_nil_iff]
        intro q hq e
        exact n1 ((hs q).1 e ▸ hq)
      rw [this]
    · rw [if_neg (fun e => h ((hs a).1 e))]
      refine ih n2 ?_
      rcases List.mem_cons.1 hk with e | e
      · exact absurd e.symm h
      · exact e
/-- Each flow is counted under one key. -/
theorem sum_keys (l : List Fl) (hn : ks.Nodup) (hk : ∀ f ∈ l, keyOf f ∈ ks) (c : Int) :
    sumI ((ks.filter fun k => selP true ByteArray.empty c ⟨k.1, k.2, 0, 0⟩).map fun k => sumI ((l.filter (selP false k.1 k.2)).map Fl.n)) = sumI ((l.filter (selP true ByteArray.empty c)).map Fl.n) := by
  induction l with
  | nil =>
    have : ∀ l : List Key, sumI (l.map fun _ => (0 : Int)) = 0 := fun l => by
      induction l with
      | nil => rfl
      | cons a r ih => simp [sumI, ih]
    exact this _
  | cons f l ih =>
    replace ih := ih (fun g hg => hk g (List.mem_cons_of_mem _ hg))
    have e1 : ∀ (p : Fl → Bool), sumI (((f :: l).filter p).map Fl.n) = (if p f = true then f.n else 0) + sumI ((l.filter p).map Fl.n) := by
      intro p
      rw [List.filter_cons]
      by_cases h : p f = true
      · rw [if_pos h, if_pos h]; rfl
      · rw [if_neg h, if_neg h]; omega
    rw [e1, ← ih]
    simp only [e1]
    have e2 : ∀ (g : Key → Int) (l : List Key), sumI (l.map fun k => (if selP false k.1 k.2 f = true then f.n else 0) + g k) = sumI (l.map fun k => if selP false k.1 k.2 f = true then f.n else 0) + sumI (l.map g) := by
      intro g l
      induction l with
      | nil => rfl
      | cons a r ih => simp only [List.map_cons, sumI, ih]; omega
    rw [e2]
    congr 1
    have hf := hk f List.mem_cons_self
    clear e1 e2 ih hk
    have z : ∀ r : List Key, keyOf f ∉ r → sumI (r.map fun k => if selP false k.1 k.2 f = true then f.n else 0) = 0 := by
      intro r hr
      induction r with
      | nil => rfl
      | cons a r ih =>
        simp only [List.map_cons, sumI]
        rw [if_neg (fun e => hr (by rw [selP_key.1 e]; exact List.mem_cons_self)), ih fun h => hr (List.mem_cons_of_mem _ h)]
        omega
    induction ks with
    | nil => simp at hf
    | cons a r ih =>
      obtain ⟨n1, n2⟩ := List.nodup_cons.1 hn
      rw [List.filter_cons]
      by_cases h : keyOf f = a
      · subst h
        have hz : sumI ((r.filter fun k => selP true ByteArray.empty c ⟨k.1, k.2, 0, 0⟩).map fun k => if selP false k.1 k.2 f = true then f.n else 0) = 0 := z _ fun h => n1 (List.mem_filter.1 h).1
        have hs : selP true ByteArray.empty c ⟨(keyOf f).1, (keyOf f).2, 0, 0⟩ = selP true ByteArray.empty c f := rfl
        rw [hs]
        by_cases hp : selP true ByteArray.empty c f = true
        · rw [if_pos hp, if_pos hp]
          simp only [List.map_cons, sumI]
          rw [hz, if_pos (selP_key.2 rfl)]; omega
        · rw [if_neg hp, if_neg hp]; exact hz
      · have hf' : keyOf f ∈ r := by
          rcases List.mem_cons.1 hf with e | e
          · exact absurd e h
          · exact e
        by_cases hp : selP true ByteArray.empty c ⟨a.1, a.2, 0, 0⟩ = true
        · rw [if_pos hp]
          simp only [List.map_cons, sumI]
          rw [if_neg (fun e => h (selP_key.1 e)), ih n2 hf']; omega
        · rw [if_neg hp]; exact ih n2 hf'
variable (hr : RiseK ks) (hp : ks.Perm (keysF fl n))
include hr in
theorem rise_nodup : ks.Nodup := hr.imp fun h e => by subst e; exact ltK_irr _ h
abbrev again (fl : Nat → Fl) (n : Nat) (ks : List Key) : Nat → Fl := flOf (netF fl n ks)
abbrev againN (fl : Nat → Fl) (n : Nat) (ks : List Key) : Nat := (netF fl n ks).length
noncomputable abbrev againK (fl : Nat → Fl) (n : Nat) (ks : List Key) : List Key := ks.filter fun k => decide (totK k fl n ≠ 0)
include hr in
theorem again_tot {k : Key} (hk : k ∈ ks) : totK k (again fl n ks) (againN fl n ks) = totK k fl n := by
  rw [totK, tot_toL, toL_flOf, sum_netF, filter_key (rise_nodup hr) hk]
  simp [sumI]
include hr hp in
theorem again_sum (c : Int) : tot (selP true ByteArray.empty c) (again fl n ks) (againN fl n ks) = tot (selP true ByteArray.empty c) fl n := by
  rw [tot_toL, toL_flOf, sum_netF, tot_toL, ← sum_keys (toL fl n) (rise_nodup hr) (fun f hf => hp.mem_iff.2 (mem_keysL.2 ⟨f, hf, rfl⟩))]
  congr 2
  funext k
  rw [totK, tot_toL]
include hr in
theorem again_rise : RiseK (againK fl n ks) := List.Pairwise.filter _ hr
include hr in
theorem again_keys : (againK fl n ks).Perm (keysF (again fl n ks) (againN fl n ks)) := by
  rw [List.perm_ext_iff_of_nodup (rise_nodup (again_rise hr)) (keysF_nodup _ _)]
  intro k
  rw [mem_keysL, toL_flOf, List.mem_filter]
  constructor
  · rintro ⟨h1, h2⟩
    exact ⟨_, mem_netF.2 ⟨k, h1, by simpa using h2, rfl⟩, rfl⟩
  · rintro ⟨f, h1, rfl⟩
    obtain ⟨k, h2, h3, rfl⟩ := mem_netF.1 h1
    exact ⟨h2, decide_eq_true h3⟩
theorem chk_split {f : Fl} : chk f = 0 ↔ nameOK f.m = true ∧ curOK f.c = true ∧ fitsI f.n = true := by
  unfold chk
  cases nameOK f.m <;> cases curOK f.c <;> cases fitsI f.n <;> simp
include hp in
theorem again_check (h : netE fl n ks = 0) : checkE (again fl n ks) (againN fl n ks) = 0 := by
  obtain ⟨h1, h2⟩ := netE_zero.1 h
  rw [checkE_zero] at h1 ⊢
  have := netF_len fl n ks
  have := hp.length_eq
  have := keysF_len fl n
  refine ⟨by unfold againN; omega, fun f hf => ?_⟩
  rw [toL_flOf] at hf
  obtain ⟨k, hk, hz, rfl⟩ := mem_netF.1 hf
  obtain ⟨q, hq, rfl⟩ := mem_keysL.1 (hp.mem_iff.1 hk)
  obtain ⟨c1, c2, _⟩ := chk_split.1 (h1.2 q hq)
  exact chk_split.2 ⟨c1, c2, List.all_eq_true.1 h2 _ hk⟩
include hr hp in
theorem again_netE (h : netE fl n ks = 0) : netE (again fl n ks) (againN fl n ks) (againK fl n ks) = 0 := by
  refine netE_zero.2 ⟨again_check hp h, List.all_eq_true.2 fun k hk => ?_⟩
  have hk' := (List.mem_filter.1 hk).1
  rw [again_tot hr hk']
  exact List.all_eq_true.1 (netE_zero.1 h).2 k hk'
include hr hp in
theorem again_netL (h : netE fl n ks = 0) : netL (again fl n ks) (againN fl n ks) (againK fl n ks) = netF fl n ks := by
  rw [netL, if_pos (again_netE hr hp h)]
  have : ∀ l : List Key, (∀ k ∈ l, k ∈ ks) → netF (again fl n ks) (againN fl n ks) (l.filter fun k => decide (totK k fl n ≠ 0)) = netF fl n l := by
    intro l hl
    induction l with
    | nil => rfl
    | cons k r ih =>
      have ih := ih fun q hq => hl q (List.mem_cons_of_mem _ hq)
      have e := again_tot (fl := fl) (n := n) hr (hl k List.mem_cons_self)
      rw [List.filter_cons]
      by_cases h : totK k fl n = 0
      · rw [if_neg (by simp [h]), ih]
        unfold netF
        rw [List.filterMap_cons]
        simp [h]
      · rw [if_pos (by simp [h])]
        unfold netF at ih ⊢
        rw [List.filterMap_cons, List.filterMap_cons, e, ih]
  exact this ks fun k hk => hk
end
end Go.Proofs.Fw


set_option linter.unusedVariables false
set_option linter.unusedSimpArgs false
namespace Go.Proofs.Fw
open Ax Go Go.Proofs
set_option maxRecDepth 10000
def keepM (f r : Nat) : Option (List Nat) := match f, r with
  | 46, 3 => some [0, 3, 4]
  | 46, 6 => some [0, 3, 4, 5]
  | 46, 11 => some [0, 3, 4, 5, 6, 7]
  | 46, 16 => some [0, 3, 4, 6, 8]
  | 29, 7 => some [0, 5, 6, 7]
  | 29, 10 => some [0, 5, 6, 7, 8]
  | _, _ => none
def keepXM (f r : Nat) : Option (List Nat) := match f, r with
  | 46, 3 => some [3]
  | 46, 6 => some [0, 3, 4, 5]
  | 46, 11 => some [0, 3, 4, 5, 6]
  | 46, 16 => some [0, 4, 6]
  | 29, 7 => some [2, 3, 6]
  | 29, 10 => some [0, 2, 3, 5, 6, 7]
  | _, _ => none
def xfM (f r o : Nat) : Bool := match f, r, o with | 46, 19, 0 => true | _, _, _ => false
noncomputable def cxM : Ctx where
  P := Try.prog
  inl := fun _ => false
  keep := keepM
  keepX := keepXM
  xf := xfM
  ow := fun _ => false
  gh := fun _ _ => []
  gf := fun _ => []
  ln := fun _ => false
  srt := srtT
theorem okM {f a Q} (h : stepCall (SX Try.prog calmT) cxM calmT f a Q) : CallOK Try.prog f a Q := okOf (cx := cxM) rfl progOK h
theorem loop_mono {P : Program} {calm : List Oper → Bool} {d : Nat} {fid : FuncId} {n : Nat} {b : Code} {st : St} (K' : Ex → St → Prop) {K : Ex → St → Prop} (h : ∀ e s, K' e s → K e s) (hl : SLoop P calm d fid n b st K') : SLoop P calm d fid n b st K :=
  ⟨loopOK_mono h hl.ok, let ⟨e, s, hs⟩ := hl.some; ⟨e, s, h e s hs⟩⟩
/-- Names, as they stand in a slice. -/
def NamesAt (l : List ByteArray) (len : Nat) (g : Nat → AV) : Prop := len = l.length ∧ ∀ j f, l[j]? = some f → g j = .str f
theorem namesAt_snoc {l : List ByteArray} {len : Nat} {g v : Nat → AV} {k : ByteArray} {z : AV} (h : NamesAt l len g) (hv : v 0 = .str k) : NamesAt (l ++ [k]) (len + 1) (vapp z g len v 1) := by
  obtain ⟨h1, h2⟩ := h
  refine ⟨by simp [h1], fun j q hj => ?_⟩
  unfold vapp
  by_cases h3 : j < len
  · rw [show Nat.blt j len = true by rw [Nat.blt_eq]; exact h3, cond_true]
    rw [List.getElem?_append_left (by omega)] at hj
    exact h2 j q hj
  · have e : Nat.blt j len = false := by rw [Bool.eq_false_iff, ne_eq, Nat.blt_eq]; omega
    have hj' := (List.getElem?_eq_some_iff.1 hj).1
    simp at hj'
    have : j = len := by omega
    subst this
    rw [e, cond_false, show Nat.blt j (j + 1) = true by rw [Nat.blt_eq]; omega, cond_true, Nat.sub_self, hv]
    rw [h1, List.getElem?_append_right (by omega)] at hj
    simp at hj
    rw [hj]
abbrev RiseN (l : List ByteArray) : Prop := l.Pairwise fun a b => strLt a b = true
theorem riseN_eq {l l' : List ByteArray} (h : RiseN l) (h' : RiseN l') (hp : ∀ m, m ∈ l ↔ m ∈ l') : l = l' := by
  have nd : ∀ {l}, RiseN l → l.Nodup := fun h => h.imp fun h e => by subst e; rw [strLt_irr] at h; cases h
  refine List.Perm.eq_of_pairwise (le := fun a b => strLt a b = true) (fun a b _ _ h1 h2 => ?_) h h' ((List.perm_ext_iff_of_nodup (nd h) (nd h')).2 hp)
  have := strLt_tr h1 h2
  rw [strLt_irr] at this; cases this
structure MemHd (fl : Nat → Fl) (n : Nat) where
  i : Nat
  l : List ByteArray
  len : Nat
  g : Nat → AV
  hi : i ≤ n
  hg : NamesAt l len g
  hr : RiseN l
  hm : ∀ m, m ∈ l ↔ ∃ j, j < i ∧ (fl j).m = m
theorem mem_len {fl : Nat → Fl} {n : Nat} {l : List ByteArray} (hr : RiseN l) (hm : ∀ m, m ∈ l → ∃ j, j < n ∧ (fl j).m = m) : l.length ≤ n := by
  have nd : l.Nodup := hr.imp fun h e => by subst e; rw [strLt_irr] at h; cases h
  have : ∀ (n : Nat) (l : List ByteArray), l.Nodup → (∀ m, m ∈ l → ∃ j, j < n ∧ (fl j).m = m) → l.length ≤ n := by
    classical
    intro n
    induction n with
    | zero => intro l _ h; cases l with
      | nil => simp
      | cons a r => obtain ⟨j, hj, _⟩ := h a List.mem_cons_self; omega
    | succ n ih =>
      intro l hl h
      have h1 := ih (l.filter fun m => decide (m ≠ (fl n).m)) (List.Pairwise.filter _ hl) (fun m hm => by
        obtain ⟨h2, h3⟩ := List.mem_filter.1 hm
        obtain ⟨j, hj, e⟩ := h m h2
        refine ⟨j, ?_, e⟩
        rcases Nat.lt_or_ge j n with h4 | h4
        · exact h4
        · have : j = n := by omega
          subst this
          simp [e] at h3)
      have h2 : ∀ l : List ByteArray, l.Nodup → l.length ≤ (l.filter fun m => decide (m ≠ (fl n).m)).length + 1 := by
        intro l hl
        induction l with
        | nil => simp
        | cons a r ih =>
          obtain ⟨n1, n2⟩ := List.nodup_cons.1 hl
          by_cases e : a = (fl n).m
          · subst e
            have : (r.filter fun m => decide (m ≠ (fl n).m)) = r := List.filter_eq_self.2 fun m hm => decide_eq_true fun e => n1 (e ▸ hm)
            rw [List.filter_cons, if_neg (by simp), this]; simp
          · rw [List.filter_cons, if_pos (by simp [e])]
            simp only [List.length_cons]
            have := ih n2
            omega
      have := h2 l hl
      omega
  exact this n l nd hm
/-- A name put in its place. -/
theorem ins_rise {l : List ByteArray} {q : Nat} {m : ByteArray} (hr : RiseN l) (h1 : ∀ j x, j < q → l[j]? = some x → strLt x m = true) (h2 : ∀ x, l[q]? = some x → strLt m x = true) : RiseN (l.take q ++ [m] ++ l.drop q) := by
  have hd : ∀ x ∈ l.drop q, strLt m x = true := by
    intro x hx
    obtain ⟨j, hj⟩ := List.getElem?_of_mem hx
    rw [List.getElem?_drop] at hj
    cases hq : l[q]? with
    | none =>
      have h3 := List.getElem?_eq_none_iff.1 hq
      have h4 := (List.getElem?_eq_some_iff.1 hj).1
      omega
    | some y =>
      have hy := h2 y hq
      rcases Nat.eq_zero_or_pos j with e | e
      · subst e
        rw [Nat.add_zero, hq] at hj
        rw [← Option.some.inj hj]; exact hy
      · have hyx : strLt y x = true := by
          obtain ⟨a1, a2⟩ := List.getElem?_eq_some_iff.1 hq
          obtain ⟨b1, b2⟩ := List.getElem?_eq_some_iff.1 hj
          rw [← a2, ← b2]
          exact List.pairwise_iff_getElem.1 hr q (q + j) a1 b1 (by omega)
        exact strLt_tr hy hyx
  have ht : ∀ x ∈ l.take q, strLt x m = true := by
    intro x hx
    obtain ⟨j, hj⟩ := List.getElem?_of_mem hx
    rw [List.getElem?_take] at hj
    split at hj
    · rename_i hjq; exact h1 j x hjq hj
    · cases hj
  refine List.pairwise_append.2 ⟨List.pairwise_append.2 ⟨List.Pairwise.sublist (List.take_sublist _ _) hr, List.pairwise_singleton _ _, fun a ha b hb => ?_⟩, List.Pairwise.sublist (List.drop_sublist _ _) hr, fun a ha b hb => ?_⟩
  · simp at hb; subst hb; exact ht a ha
  · rcases List.mem_append.1 ha with ha | ha
    · exact strLt_tr (ht a ha) (hd b hb)
    · simp at ha; subst ha; exact hd b hb
theorem ins_mem {l : List ByteArray} {q : Nat} {m x : ByteArray} : x ∈ l.take q ++ [m] ++ l.drop q ↔ x ∈ l ∨ x = m := by
  rw [List.mem_append, List.mem_append, List.mem_singleton]
  constructor
  · rintro ((h | h) | h)
    · exact .inl (List.mem_of_mem_take h)
    · exact .inr h
    · exact .inl (List.mem_of_mem_drop h)
  · rintro (h | h)
    · rw [← List.take_append_drop q l, List.mem_append] at h
      rcases h with h | h
      · exact .inl (.inl h)
      · exact .inr h
    · exact .inl (.inr h)
theorem room16 {m : Nat} (h : m ≤ 1000000) : roomOK m 16 = true := by
  simp [roomOK]; omega
theorem takeN {l : List ByteArray} {i : Nat} {k : ByteArray} (h : l[i]? = some k) : l.take (i + 1) = l.take i ++ [k] := by
  rw [List.take_add_one, h]; rfl
structure AtHd (l : List ByteArray) (m : ByteArray) where
  q : Nat
  hq : q ≤ l.length
  hl : ∀ j x, j < q → l[j]? = some x → strLt x m = true
structure CpHd (l : List ByteArray) (q : Nat) where
  k : Nat
  len : Nat
  g : Nat → AV
  hk : k ≤ q
  hg : NamesAt (l.take k) len g
structure CqHd (l : List ByteArray) (q : Nat) (m : ByteArray) where
  k : Nat
  len : Nat
  g : Nat → AV
  h1 : q ≤ k
  hk : k ≤ l.length
  hg : NamesAt (l.take q ++ [m] ++ (l.drop q).take (k - q)) len g
theorem members (fl : Nat → Fl) (n : Nat) (hn : n ≤ 1024) (ns : List ByteArray) (hns : RiseN ns) (hmem : ∀ m, m ∈ ns ↔ ∃ j, j < n ∧ (fl j).m = m) : CallOK Try.prog 46 [encL fl n] (fun r => ∃ len g, r = .vec 1 len g ∧ NamesAt ns len g) := by
  refine okM ?_
  conv => whnf
  repeat ((first | with_reducible refine branch_true rfl ?_ | with_reducible refine branch_false rfl ?_); conv => whnf)
  refine loop_by (cx := cxM) rfl progOK (ι := MemHd fl n) (fun x => n - x.i) (fun x => ⟨[(0, encL fl n), (3, .own (.vec 1 x.len x.g)), (4, .int .i64 x.i)], [], [], none⟩) ?_ ⟨0, [], 0, _, Nat.zero_le _, ⟨rfl, fun j f hj => by simp at hj⟩, List.Pairwise.nil, fun m => by simp⟩
  rintro ⟨i, l, len, g, hi, hg, hr, hm⟩ ih
  have hlen := mem_len hr (fun m h => (hm m).1 h)
  have hl0 := hg.1
  conv => whnf
  repeat ((first | with_reducible refine branch_true rfl ?_ | with_reducible refine branch_false rfl ?_); conv => whnf)
  refine branch_of (fun g1 => ?_) (fun g1 => ?_)
  · have g2 : i < n := by simpa using g1
    have hw : IntKind.i64.wrap ((i : Int) + 1) = ((i + 1 : Nat) : Int) := by rw [wrap64 (by omega)]; omega
    conv => whnf
    repeat ((first | with_reducible refine branch_true rfl ?_ | with_reducible refine branch_false rfl ?_); conv => whnf)
    refine loop_mono (fun e s => e = .exit 2 ∧ ∃ q, q ≤ l.length ∧ (∀ j x, j < q → l[j]? = some x → strLt x (fl i).m = true) ∧ (∀ x, l[q]? = some x → strLt x (fl i).m = false) ∧ s = St.mk [(0, encL fl n), (3, .own (.vec 1 len g)), (4, .int .i64 i), (5, .int .i64 q)] [] [] none) ?_ ?_
    · rintro e s ⟨rfl, q, hq, hq1, hq2, rfl⟩
      have next : ∀ l2 len2 g2', NamesAt l2 len2 g2' → RiseN l2 → (∀ m, m ∈ l2 ↔ m ∈ l ∨ m = (fl i).m) → ∀ K : St → Prop, (∀ j : MemHd fl n, n - j.i < n - i → K (St.mk [(0, encL fl n), (3, .own (.vec 1 j.len j.g)), (4, .int .i64 j.i)] [] [] none)) → K (St.mk [(0, encL fl n), (3, .own (.vec 1 len2 g2')), (4, .int .i64 (IntKind.i64.wrap ((i : Int) + 1)))] [] [] none) := by
        intro l2 len2 g2' k1 k2 k3 K hK
        rw [hw]
        refine hK ⟨i + 1, l2, len2, g2', g2, k1, k2, fun m => ?_⟩ (show n - (i + 1) < n - i by omega)
        rw [k3, hm]
        constructor
        · rintro (⟨j, h1, h2⟩ | h)
          · exact ⟨j, by omega, h2⟩
          · exact ⟨i, by omega, h.symm⟩
        · rintro ⟨j, h1, h2⟩
          rcases Nat.lt_or_ge j i with h3 | h3
          · exact .inl ⟨j, h3, h2⟩
          · obtain rfl : j = i := by omega
            exact .inr h2.symm
      conv => whnf
      repeat ((first | with_reducible refine branch_true rfl ?_ | with_reducible refine branch_false rfl ?_); conv => whnf)
      refine branch_of (fun g3 => ?_) (fun g3 => ?_)
      · have g4 : q < l.length := by
          have := of_decide_eq_true g3
          simp at this; omega
        obtain ⟨x, hx⟩ : ∃ x, l[q]? = some x := ⟨_, List.getElem?_eq_getElem g4⟩
        conv => whnf
        repeat ((first | with_reducible refine branch_true rfl ?_ | with_reducible refine branch_false rfl ?_); conv => whnf)
        refine st_addr_v (sz := 1) (len := len) (n := (q : Int)) (u := 9) (v := .str x) rfl rfl rfl rfl rfl (in_range (by omega)) (hg.2 q x hx) ?_
        conv => whnf
        repeat ((first | with_reducible refine branch_true rfl ?_ | with_reducible refine branch_false rfl ?_); conv => whnf)
        refine st_addr (sz := 4) (len := n) (n := i) (u := 38) (g := fun i => encF (fl i)) rfl rfl rfl rfl rfl (in_range g2) ?_
        conv => whnf
        repeat ((first | with_reducible refine branch_true rfl ?_ | with_reducible refine branch_false rfl ?_); conv => whnf)
        refine branch_of (fun g5 => ?_) (fun g5 => ?_)
        · have g5 : x = (fl i).m := of_decide_eq_true g5
          conv => whnf
          repeat ((first | with_reducible refine branch_true rfl ?_ | with_reducible refine branch_false rfl ?_); conv => whnf)
          exact next l len g hg hr (fun m => ⟨.inl, fun h => h.elim id fun e => by rw [e, ← g5]; exact List.mem_of_getElem? hx⟩) (fun s => SLoop _ _ _ _ _ _ s _) ih
        · have g5 : ¬ x = (fl i).m := of_decide_eq_false g5
          have hgt : ∀ x, l[q]? = some x → strLt (fl i).m x = true := fun y hy => by
            rw [hx] at hy
            rw [← Option.some.inj hy]
            exact strLt_tri (hq2 x hx) g5
          conv => whnf
          repeat ((first | with_reducible refine branch_true rfl ?_ | with_reducible refine branch_false rfl ?_); conv => whnf)
          refine loop_mono (fun e s => e = .exit 4 ∧ ∃ len2 g2', NamesAt (l.take q) len2 g2' ∧ s = St.mk [(0, encL fl n), (3, .own (.vec 1 len g)), (4, .int .i64 i), (5, .int .i64 q), (6, .own (.vec 1 len2 g2'))] [] [] none) ?_ ?_
          · rintro e s ⟨rfl, len2, g2', hg2, rfl⟩
            have hl2 := hg2.1
            have hl3 := List.length_take_le q l
            conv => whnf
            repeat ((first | with_reducible refine branch_true rfl ?_ | with_reducible refine branch_false rfl ?_); conv => whnf)
            refine st_addr (sz := 4) (len := n) (n := i) (u := 38) (g := fun i => encF (fl i)) rfl rfl rfl rfl rfl (in_range g2) ?_
            conv => whnf
            repeat ((first | with_reducible refine branch_true rfl ?_ | with_reducible refine branch_false rfl ?_); conv => whnf)
            refine st_append (sz := 1) (len := len2) (g := g2') (u := 9) (m := 1) (gg := vlist (zeroElem Try.prog 9) [.str (fl i).m]) rfl rfl rfl rfl rfl (room16 (by omega)) ?_
            conv => whnf
            repeat ((first | with_reducible refine branch_true rfl ?_ | with_reducible refine branch_false rfl ?_); conv => whnf)
            refine loop_mono (fun e s => e = .exit 6 ∧ ∃ len3 g3', NamesAt (l.take q ++ [(fl i).m] ++ l.drop q) len3 g3' ∧ s = St.mk [(0, encL fl n), (4, .int .i64 i), (6, .own (.vec 1 len3 g3'))] [] [] none) ?_ ?_
            · rintro e s ⟨rfl, len3, g3', hg3, rfl⟩
              conv => whnf
              repeat ((first | with_reducible refine branch_true rfl ?_ | with_reducible refine branch_false rfl ?_); conv => whnf)
              exact next _ _ _ hg3 (ins_rise hr hq1 hgt) (fun m => ins_mem) (fun s => SLoop _ _ _ _ _ _ s _) ih
            · refine loop_by (cx := cxM) rfl progOK (ι := CqHd l q (fl i).m) (fun x => l.length - x.k) (fun x => ⟨[(0, encL fl n), (3, .own (.vec 1 len g)), (4, .int .i64 i), (6, .own (.vec 1 x.len x.g)), (8, .int .i64 x.k)], [], [], none⟩) ?_ ⟨q, _, _, Nat.le_refl _, hq, by rw [Nat.sub_self, List.take_zero, List.append_nil]; exact namesAt_snoc hg2 rfl⟩
              rintro ⟨k, len3, g3', hk1, hk2, hg3⟩ ih3
              have hl4 := hg3.1
              have hl5 := List.length_take_le (k - q) (l.drop q)
              simp only [List.length_append, List.length_singleton] at hl4
              conv => whnf
              repeat ((first | with_reducible refine branch_true rfl ?_ | with_reducible refine branch_false rfl ?_); conv => whnf)
              refine branch_of (fun g6 => ?_) (fun g6 => ?_)
              · have g7 : k < l.length := by
                  have := of_decide_eq_true g6
                  simp at this; omega
                have hw3 : IntKind.i64.wrap ((k : Int) + 1) = ((k + 1 : Nat) : Int) := by rw [wrap64 (by omega)]; omega
                obtain ⟨x, hx⟩ : ∃ x, l[k]? = some x := ⟨_, List.getElem?_eq_getElem g7⟩
                conv => whnf
                repeat ((first | with_reducible refine branch_true rfl ?_ | with_reducible refine branch_false rfl ?_); conv => whnf)
                refine st_addr_v (sz := 1) (len := len) (n := (k : Int)) (u := 9) (v := .str x) rfl rfl rfl rfl rfl (in_range (by omega)) (hg.2 k x hx) ?_
                conv => whnf
                repeat ((first | with_reducible refine branch_true rfl ?_ | with_reducible refine branch_false rfl ?_); conv => whnf)
                refine st_append (sz := 1) (len := len3) (g := g3') (u := 9) (m := 1) (gg := vlist (zeroElem Try.prog 9) [.str x]) rfl rfl rfl rfl rfl (room16 (by omega)) ?_
                conv => whnf
                repeat ((first | with_reducible refine branch_true rfl ?_ | with_reducible refine branch_false rfl ?_); conv => whnf)
                refine loop_to ih3 ⟨k + 1, len3 + 1, _, by omega, g7, ?_⟩ (show l.length - (k + 1) < l.length - k by omega) (congrArg (fun t => St.mk [(0, encL fl n), (3, .own (.vec 1 len g)), (4, .int .i64 i), (6, .own (.vec 1 (len3 + 1) _)), (8, .int .i64 t)] [] [] none) hw3)
                have e1 : (l.drop q)[k - q]? = some x := by rw [List.getElem?_drop, show q + (k - q) = k by omega]; exact hx
                rw [show k + 1 - q = (k - q) + 1 by omega, takeN e1, ← List.append_assoc]
                exact namesAt_snoc hg3 rfl
              · have g7 : ¬ k < l.length := by
                  have := of_decide_eq_false g6
                  simp at this; omega
                conv => whnf
                repeat ((first | with_reducible refine branch_true rfl ?_ | with_reducible refine branch_false rfl ?_); conv => whnf)
                refine ⟨rfl, len3, g3', ?_, rfl⟩
                have e1 : (l.drop q).take (k - q) = l.drop q := List.take_of_length_le (by rw [List.length_drop]; omega)
                rw [e1] at hg3; exact hg3
          · refine loop_by (cx := cxM) rfl progOK (ι := CpHd l q) (fun x => q - x.k) (fun x => ⟨[(0, encL fl n), (3, .own (.vec 1 len g)), (4, .int .i64 i), (5, .int .i64 q), (6, .own (.vec 1 x.len x.g)), (7, .int .i64 x.k)], [], [], none⟩) ?_ ⟨0, 0, _, Nat.zero_le _, ⟨rfl, fun j f hj => by simp at hj⟩⟩
            rintro ⟨k, len2, g2', hk, hg2⟩ ih3
            have hl2 := hg2.1
            have hl3 := List.length_take_le k l
            conv => whnf
            repeat ((first | with_reducible refine branch_true rfl ?_ | with_reducible refine branch_false rfl ?_); conv => whnf)
            refine branch_of (fun g6 => ?_) (fun g6 => ?_)
            · have g7 : k < q := by
                have := of_decide_eq_true g6
                simp at this; omega
              have hw3 : IntKind.i64.wrap ((k : Int) + 1) = ((k + 1 : Nat) : Int) := by rw [wrap64 (by omega)]; omega
              obtain ⟨x, hx⟩ : ∃ x, l[k]? = some x := ⟨_, List.getElem?_eq_getElem (by omega)⟩
              conv => whnf
              repeat ((first | with_reducible refine branch_true rfl ?_ | with_reducible refine branch_false rfl ?_); conv => whnf)
              refine st_addr_v (sz := 1) (len := len) (n := (k : Int)) (u := 9) (v := .str x) rfl rfl rfl rfl rfl (in_range (by omega)) (hg.2 k x hx) ?_
              conv => whnf
              repeat ((first | with_reducible refine branch_true rfl ?_ | with_reducible refine branch_false rfl ?_); conv => whnf)
              refine st_append (sz := 1) (len := len2) (g := g2') (u := 9) (m := 1) (gg := vlist (zeroElem Try.prog 9) [.str x]) rfl rfl rfl rfl rfl (room16 (by omega)) ?_
              conv => whnf
              repeat ((first | with_reducible refine branch_true rfl ?_ | with_reducible refine branch_false rfl ?_); conv => whnf)
              exact loop_to ih3 ⟨k + 1, len2 + 1, _, g7, by rw [takeN hx]; exact namesAt_snoc hg2 rfl⟩ (show q - (k + 1) < q - k by omega) (congrArg (fun t => St.mk [(0, encL fl n), (3, .own (.vec 1 len g)), (4, .int .i64 i), (5, .int .i64 q), (6, .own (.vec 1 (len2 + 1) _)), (7, .int .i64 t)] [] [] none) hw3)
            · have g7 : k = q := by
                have := of_decide_eq_false g6
                simp at this; omega
              subst g7
              conv => whnf
              repeat ((first | with_reducible refine branch_true rfl ?_ | with_reducible refine branch_false rfl ?_); conv => whnf)
              exact ⟨rfl, len2, g2', hg2, rfl⟩
      · have g4 : ¬ q < l.length := by
          have := of_decide_eq_false g3
          simp at this; omega
        have hgt : ∀ x, l[q]? = some x → strLt (fl i).m x = true := fun y hy => absurd (List.getElem?_eq_some_iff.1 hy).1 g4
        conv => whnf
        repeat ((first | with_reducible refine branch_true rfl ?_ | with_reducible refine branch_false rfl ?_); conv => whnf)
        refine loop_mono (fun e s => e = .exit 4 ∧ ∃ len2 g2', NamesAt (l.take q) len2 g2' ∧ s = St.mk [(0, encL fl n), (3, .own (.vec 1 len g)), (4, .int .i64 i), (5, .int .i64 q), (6, .own (.vec 1 len2 g2'))] [] [] none) ?_ ?_
        · rintro e s ⟨rfl, len2, g2', hg2, rfl⟩
          have hl2 := hg2.1
          have hl3 := List.length_take_le q l
          conv => whnf
          repeat ((first | with_reducible refine branch_true rfl ?_ | with_reducible refine branch_false rfl ?_); conv => whnf)
          refine st_addr (sz := 4) (len := n) (n := i) (u := 38) (g := fun i => encF (fl i)) rfl rfl rfl rfl rfl (in_range g2) ?_
          conv => whnf
          repeat ((first | with_reducible refine branch_true rfl ?_ | with_reducible refine branch_false rfl ?_); conv => whnf)
          refine st_append (sz := 1) (len := len2) (g := g2') (u := 9) (m := 1) (gg := vlist (zeroElem Try.prog 9) [.str (fl i).m]) rfl rfl rfl rfl rfl (room16 (by omega)) ?_
          conv => whnf
          repeat ((first | with_reducible refine branch_true rfl ?_ | with_reducible refine branch_false rfl ?_); conv => whnf)
          refine loop_mono (fun e s => e = .exit 6 ∧ ∃ len3 g3', NamesAt (l.take q ++ [(fl i).m] ++ l.drop q) len3 g3' ∧ s = St.mk [(0, encL fl n), (4, .int .i64 i), (6, .own (.vec 1 len3 g3'))] [] [] none) ?_ ?_
          · rintro e s ⟨rfl, len3, g3', hg3, rfl⟩
            conv => whnf
            repeat ((first | with_reducible refine branch_true rfl ?_ | with_reducible refine branch_false rfl ?_); conv => whnf)
            exact next _ _ _ hg3 (ins_rise hr hq1 hgt) (fun m => ins_mem) (fun s => SLoop _ _ _ _ _ _ s _) ih
          · refine loop_by (cx := cxM) rfl progOK (ι := CqHd l q (fl i).m) (fun x => l.length - x.k) (fun x => ⟨[(0, encL fl n), (3, .own (.vec 1 len g)), (4, .int .i64 i), (6, .own (.vec 1 x.len x.g)), (8, .int .i64 x.k)], [], [], none⟩) ?_ ⟨q, _, _, Nat.le_refl _, hq, by rw [Nat.sub_self, List.take_zero, List.append_nil]; exact namesAt_snoc hg2 rfl⟩
            rintro ⟨k, len3, g3', hk1, hk2, hg3⟩ ih3
            have hl4 := hg3.1
            have hl5 := List.length_take_le (k - q) (l.drop q)
            simp only [List.length_append, List.length_singleton] at hl4
            conv => whnf
            repeat ((first | with_reducible refine branch_true rfl ?_ | with_reducible refine branch_false rfl ?_); conv => whnf)
            refine branch_of (fun g6 => ?_) (fun g6 => ?_)
            · have g7 : k < l.length := by
                have := of_decide_eq_true g6
                simp at this; omega
              have hw3 : IntKind.i64.wrap ((k : Int) + 1) = ((k + 1 : Nat) : Int) := by rw [wrap64 (by omega)]; omega
              obtain ⟨x, hx⟩ : ∃ x, l[k]? = some x := ⟨_, List.getElem?_eq_getElem g7⟩
              conv => whnf
              repeat ((first | with_reducible refine branch_true rfl ?_ | with_reducible refine branch_false rfl ?_); conv => whnf)
              refine st_addr_v (sz := 1) (len := len) (n := (k : Int)) (u := 9) (v := .str x) rfl rfl rfl rfl rfl (in_range (by omega)) (hg.2 k x hx) ?_
              conv => whnf
              repeat ((first | with_reducible refine branch_true rfl ?_ | with_reducible refine branch_false rfl ?_); conv => whnf)
              refine st_append (sz := 1) (len := len3) (g := g3') (u := 9) (m := 1) (gg := vlist (zeroElem Try.prog 9) [.str x]) rfl rfl rfl rfl rfl (room16 (by omega)) ?_
              conv => whnf
              repeat ((first | with_reducible refine branch_true rfl ?_ | with_reducible refine branch_false rfl ?_); conv => whnf)
              refine loop_to ih3 ⟨k + 1, len3 + 1, _, by omega, g7, ?_⟩ (show l.length - (k + 1) < l.length - k by omega) (congrArg (fun t => St.mk [(0, encL fl n), (3, .own (.vec 1 len g)), (4, .int .i64 i), (6, .own (.vec 1 (len3 + 1) _)), (8, .int .i64 t)] [] [] none) hw3)
              have e1 : (l.drop q)[k - q]? = some x := by rw [List.getElem?_drop, show q + (k - q) = k by omega]; exact hx
              rw [show k + 1 - q = (k - q) + 1 by omega, takeN e1, ← List.append_assoc]
              exact namesAt_snoc hg3 rfl
            · have g7 : ¬ k < l.length := by
                have := of_decide_eq_false g6
                simp at this; omega
              conv => whnf
              repeat ((first | with_reducible refine branch_true rfl ?_ | with_reducible refine branch_false rfl ?_); conv => whnf)
              refine ⟨rfl, len3, g3', ?_, rfl⟩
              have e1 : (l.drop q).take (k - q) = l.drop q := List.take_of_length_le (by rw [List.length_drop]; omega)
              rw [e1] at hg3; exact hg3
        · refine loop_by (cx := cxM) rfl progOK (ι := CpHd l q) (fun x => q - x.k) (fun x => ⟨[(0, encL fl n), (3, .own (.vec 1 len g)), (4, .int .i64 i), (5, .int .i64 q), (6, .own (.vec 1 x.len x.g)), (7, .int .i64 x.k)], [], [], none⟩) ?_ ⟨0, 0, _, Nat.zero_le _, ⟨rfl, fun j f hj => by simp at hj⟩⟩
          rintro ⟨k, len2, g2', hk, hg2⟩ ih3
          have hl2 := hg2.1
          have hl3 := List.length_take_le k l
          conv => whnf
          repeat ((first | with_reducible refine branch_true rfl ?_ | with_reducible refine branch_false rfl ?_); conv => whnf)
          refine branch_of (fun g6 => ?_) (fun g6 => ?_)
          · have g7 : k < q := by
              have := of_decide_eq_true g6
              simp at this; omega
            have hw3 : IntKind.i64.wrap ((k : Int) + 1) = ((k + 1 : Nat) : Int) := by rw [wrap64 (by omega)]; omega
            obtain ⟨x, hx⟩ : ∃ x, l[k]? = some x := ⟨_, List.getElem?_eq_getElem (by omega)⟩
            conv => whnf
            repeat ((first | with_reducible refine branch_true rfl ?_ | with_reducible refine branch_false rfl ?_); conv => whnf)
            refine st_addr_v (sz := 1) (len := len) (n := (k : Int)) (u := 9) (v := .str x) rfl rfl rfl rfl rfl (in_range (by omega)) (hg.2 k x hx) ?_
            conv => whnf
            repeat ((first | with_reducible refine branch_true rfl ?_ | with_reducible refine branch_false rfl ?_); conv => whnf)
            refine st_append (sz := 1) (len := len2) (g := g2') (u := 9) (m := 1) (gg := vlist (zeroElem Try.prog 9) [.str x]) rfl rfl rfl rfl rfl (room16 (by omega)) ?_
            conv => whnf
            repeat ((first | with_reducible refine branch_true rfl ?_ | with_reducible refine branch_false rfl ?_); conv => whnf)
            exact loop_to ih3 ⟨k + 1, len2 + 1, _, g7, by rw [takeN hx]; exact namesAt_snoc hg2 rfl⟩ (show q - (k + 1) < q - k by omega) (congrArg (fun t => St.mk [(0, encL fl n), (3, .own (.vec 1 len g)), (4, .int .i64 i), (5, .int .i64 q), (6, .own (.vec 1 (len2 + 1) _)), (7, .int .i64 t)] [] [] none) hw3)
          · have g7 : k = q := by
              have := of_decide_eq_false g6
              simp at this; omega
            subst g7
            conv => whnf
            repeat ((first | with_reducible refine branch_true rfl ?_ | with_reducible refine branch_false rfl ?_); conv => whnf)
            exact ⟨rfl, len2, g2', hg2, rfl⟩
    · refine loop_by (cx := cxM) rfl progOK (ι := AtHd l (fl i).m) (fun x => l.length - x.q) (fun x => ⟨[(0, encL fl n), (3, .own (.vec 1 len g)), (4, .int .i64 i), (5, .int .i64 x.q)], [], [], none⟩) ?_ ⟨0, Nat.zero_le _, fun j x hj => absurd hj (by omega)⟩
      rintro ⟨q, hq, hl⟩ ih2
      conv => whnf
      repeat ((first | with_reducible refine branch_true rfl ?_ | with_reducible refine branch_false rfl ?_); conv => whnf)
      refine branch_of (fun g3 => ?_) (fun g3 => ?_)
      · have g4 : q < l.length := by
          have := of_decide_eq_true g3
          simp at this; omega
        have hw2 : IntKind.i64.wrap ((q : Int) + 1) = ((q + 1 : Nat) : Int) := by rw [wrap64 (by omega)]; omega
        obtain ⟨x, hx⟩ : ∃ x, l[q]? = some x := ⟨_, List.getElem?_eq_getElem g4⟩
        conv => whnf
        repeat ((first | with_reducible refine branch_true rfl ?_ | with_reducible refine branch_false rfl ?_); conv => whnf)
        refine st_addr_v (sz := 1) (len := len) (n := (q : Int)) (u := 9) (v := .str x) rfl rfl rfl rfl rfl (in_range (by omega)) (hg.2 q x hx) ?_
        conv => whnf
        repeat ((first | with_reducible refine branch_true rfl ?_ | with_reducible refine branch_false rfl ?_); conv => whnf)
        refine st_addr (sz := 4) (len := n) (n := i) (u := 38) (g := fun i => encF (fl i)) rfl rfl rfl rfl rfl (in_range g2) ?_
        conv => whnf
        repeat ((first | with_reducible refine branch_true rfl ?_ | with_reducible refine branch_false rfl ?_); conv => whnf)
        refine branch_of (fun g5 => ?_) (fun g5 => ?_)
        · have g5 : strLt x (fl i).m = true := g5
          conv => whnf
          repeat ((first | with_reducible refine branch_true rfl ?_ | with_reducible refine branch_false rfl ?_); conv => whnf)
          refine loop_to ih2 ⟨q + 1, g4, fun j y hj hy => ?_⟩ (show l.length - (q + 1) < l.length - q by omega) (congrArg (fun t => St.mk [(0, encL fl n), (3, .own (.vec 1 len g)), (4, .int .i64 i), (5, .int .i64 t)] [] [] none) hw2)
          rcases Nat.lt_or_ge j q with h3 | h3
          · exact hl j y h3 hy
          · obtain rfl : j = q := by omega
            rw [hx] at hy; rw [← Option.some.inj hy]; exact g5
        · have g5 : strLt x (fl i).m = false := g5
          conv => whnf
          repeat ((first | with_reducible refine branch_true rfl ?_ | with_reducible refine branch_false rfl ?_); conv => whnf)
          exact ⟨rfl, q, hq, hl, fun y hy => by rw [hx] at hy; rw [← Option.some.inj hy]; exact g5, rfl⟩
      · have g4 : ¬ q < l.length := by
          have := of_decide_eq_false g3
          simp at this; omega
        conv => whnf
        repeat ((first | with_reducible refine branch_true rfl ?_ | with_reducible refine branch_false rfl ?_); conv => whnf)
        exact ⟨rfl, q, hq, hl, fun y hy => absurd (List.getElem?_eq_some_iff.1 hy).1 g4, rfl⟩
  · have g2 : i = n := by simp at g1; omega
    subst g2
    conv => whnf
    repeat ((first | with_reducible refine branch_true rfl ?_ | with_reducible refine branch_false rfl ?_); conv => whnf)
    obtain rfl := riseN_eq hr hns fun m => by rw [hm, hmem]
    exact ⟨len, g, rfl, hg⟩
end Go.Proofs.Fw

