import Derived.Test.YtemajhloddkifaaLL
import Derived.Test.YtemajhloddkifaaLwGoes
import Derived.Test.YtemajhloddkifaaMJ
import Derived.Lib.Strings
namespace Go.Proofs
open Ax Go
set_option maxRecDepth 10000
theorem sel_split (p : Fl → Bool) (fl : Nat → Fl) (k j : Nat) : sel p fl (k + j) = sel p fl k ++ sel p (fun i => fl (k + i)) j := by
  induction j with
  | zero => simp [sel]
  | succ j ih =>
    rw [Nat.add_succ, sel, sel, ih]
    split <;> simp
theorem sumZ_congr {z z' : Nat → Int} {n : Nat} (h : ∀ i, i < n → z i = z' i) : sumZ z n = sumZ z' n := by
  induction n with
  | zero => rfl
  | succ n ih => simp only [sumZ]; rw [ih fun i hi => h i (by omega), h n (by omega)]
theorem sumZ_app (a b : List Int) : sumZ (fun i => (a ++ b).getD i 0) (a ++ b).length = sumZ (fun i => a.getD i 0) a.length + sumZ (fun i => b.getD i 0) b.length := by
  have key : ∀ j, j ≤ b.length → sumZ (fun i => (a ++ b).getD i 0) (a.length + j) = sumZ (fun i => a.getD i 0) a.length + sumZ (fun i => b.getD i 0) j := by
    intro j
    induction j with
    | zero =>
      intro _
      simp only [Nat.add_zero, sumZ, Int.add_zero]
      refine sumZ_congr fun i hi => ?_
      simp [List.getD, List.getElem?_append_left hi]
    | succ j ih =>
      intro hj
      rw [Nat.add_succ, sumZ, sumZ, ih (by omega)]
      have : (a ++ b).getD (a.length + j) 0 = b.getD j 0 := by simp [List.getD, List.getElem?_append_right (Nat.le_add_right _ _)]
      rw [this, Int.add_assoc]
  rw [List.length_append]
  exact key _ (Nat.le_refl _)
theorem tot_split (p : Fl → Bool) (fl : Nat → Fl) (k j : Nat) : tot p fl (k + j) = tot p fl k + tot p (fun i => fl (k + i)) j := by
  unfold tot
  rw [sel_split, sumZ_app]
theorem totV_bad {all : Bool} {m : ByteArray} {c : Int} {fl : Nat → Fl} {n : Nat} (h : (totV all m c fl n).2 ≠ 0) : (totV all m c fl n).1 = 0 := by
  unfold totV at h ⊢
  split
  · rfl
  · rename_i hc
    rw [if_neg hc] at h
    cases h1 : curOK c
    · rfl
    · rw [h1] at h
      simp only [cond_true] at h ⊢
      cases h2 : fitsI (tot (selP all m c) fl n)
      · rfl
      · rw [h2] at h; exact absurd rfl h
theorem totV_good {all : Bool} {m : ByteArray} {c : Int} {fl : Nat → Fl} {n : Nat} (h : (totV all m c fl n).2 = 0) : (totV all m c fl n).1 = tot (selP all m c) fl n ∧ fitsI (tot (selP all m c) fl n) = true := by
  unfold totV at h ⊢
  split at h
  · rename_i hc; exact absurd h hc
  · rename_i hc
    rw [if_neg hc]
    cases h1 : curOK c
    · rw [h1] at h; simp at h
    · rw [h1] at h
      simp only [cond_true] at h ⊢
      cases h2 : fitsI (tot (selP all m c) fl n)
      · rw [h2] at h; simp at h
      · exact ⟨rfl, rfl⟩
theorem lawParts : ∀ xs, TypedArgs Try.prog 8 Try.f6.params.toList xs → CallOK Try.prog 6 xs (fun r => r = .bool true) := by
  intro xs h
  rw [Try.params6] at h
  obtain ⟨a0, r0, rfl, h0, a1, r1, rfl, h1, a2, r2, rfl, h2, a3, r3, rfl, h3, rfl⟩ := h
  obtain ⟨fl, n, hs, hn, hok⟩ := arg_flows (d := 5) h0
  obtain ⟨at', rfl, hat⟩ := arg_int (d := 7) h1
  obtain ⟨m, rfl, hm⟩ := arg_str (d := 7) h2
  obtain ⟨c, rfl, hc⟩ := arg_int (d := 7) h3
  refine ok_same (.cons hs (.cons (.refl _) (.cons (.refl _) (.cons (.refl _) .nil)))) ?_
  refine okP ?_
  conv => whnf
  repeat ((first | with_reducible refine branch_true rfl ?_ | with_reducible refine branch_false rfl ?_); conv => whnf)
  refine branch_of (fun g1 => ?_) (fun g1 => ?_)
  · conv => whnf
    repeat ((first | with_reducible refine branch_true rfl ?_ | with_reducible refine branch_false rfl ?_); conv => whnf)
    refine call_is goesOK ?_
    conv => whnf
    repeat ((first | with_reducible refine branch_true rfl ?_ | with_reducible refine branch_false rfl ?_); conv => whnf)
  · conv => whnf
    repeat ((first | with_reducible refine branch_true rfl ?_ | with_reducible refine branch_false rfl ?_); conv => whnf)
    have g1 : n ≤ 300 := by have := of_decide_eq_false g1; omega
    obtain ⟨k, hk, hkn⟩ : ∃ k : Nat, (IntKind.u64.wrap at').tmod (IntKind.u64.wrap (IntKind.i64.wrap ((n : Int) + 1))) = (k : Int) ∧ k ≤ n := by
      have e1 : IntKind.u64.wrap (IntKind.i64.wrap ((n : Int) + 1)) = (n : Int) + 1 := by
        rw [wrap64 (by omega)]
        simp [IntKind.wrap, IntKind.signed, IntKind.bits]
        omega
      have e2 : 0 ≤ IntKind.u64.wrap at' := by
        simp [IntKind.wrap, IntKind.signed, IntKind.bits]
        omega
      rw [e1, Int.tmod_eq_emod_of_nonneg e2]
      have q1 := Int.emod_nonneg (IntKind.u64.wrap at') (show (n : Int) + 1 ≠ 0 by omega)
      have q2 := Int.emod_lt_of_pos (IntKind.u64.wrap at') (show (0 : Int) < (n : Int) + 1 by omega)
      exact ⟨(IntKind.u64.wrap at' % ((n : Int) + 1)).toNat, by omega, by omega⟩
    have hb : IntKind.u64.wrap (IntKind.i64.wrap ((n : Int) + 1)) ≠ 0 := by
      rw [wrap64 (by omega)]
      simp [IntKind.wrap, IntKind.signed, IntKind.bits]
      omega
    refine st_rem (kk := .u64) rfl rfl rfl hb hk ?_
    conv => whnf
    repeat ((first | with_reducible refine branch_true rfl ?_ | with_reducible refine branch_false rfl ?_); conv => whnf)
    have hbk : ∀ d, boundOf d (some (.int .i64 (IntKind.i64.wrap (k : Int)))) = some k := fun d => by
      rw [wrap64 (by omega)]
      simp [boundOf]
    refine st_slice (sz := 4) (len := n) (g := fun i => encF (fl i)) (u := 34) (l := 0) (m := k) rfl rfl rfl rfl (hbk n) (Nat.zero_le _) hkn rfl rfl ?_
    conv => whnf
    repeat ((first | with_reducible refine branch_true rfl ?_ | with_reducible refine branch_false rfl ?_); conv => whnf)
    have V1 : CallOK Try.prog 20 [.vec 4 (k - 0) (vsub (zeroElem Try.prog 34) (fun i => encF (fl i)) 0 (k - 0)), .str m, .int .i64 c] (fun r => r = pairV (totV false m c fl k)) :=
      ok_same (.cons (.vec (fun i hi => by rw [vsub_at i hi, Nat.zero_add])) (.cons (.refl _) (.cons (.refl _) .nil))) (flowOf fl k m c)
    refine call_is (v := pairV (totV false m c fl k)) V1 ?_
    conv => whnf
    repeat ((first | with_reducible refine branch_true rfl ?_ | with_reducible refine branch_false rfl ?_); conv => whnf)
    refine st_slice (sz := 4) (len := n) (g := fun i => encF (fl i)) (u := 34) (l := k) (m := n) rfl rfl rfl (hbk 0) rfl hkn (Nat.le_refl _) rfl rfl ?_
    conv => whnf
    repeat ((first | with_reducible refine branch_true rfl ?_ | with_reducible refine branch_false rfl ?_); conv => whnf)
    have V2 : CallOK Try.prog 20 [.vec 4 (n - k) (vsub (zeroElem Try.prog 34) (fun i => encF (fl i)) k (n - k)), .str m, .int .i64 c] (fun r => r = pairV (totV false m c (fun i => fl (k + i)) (n - k))) :=
      ok_same (.cons (.vec (fun i hi => vsub_at i hi)) (.cons (.refl _) (.cons (.refl _) .nil))) (flowOf (fun i => fl (k + i)) (n - k) m c)
    refine call_is (v := pairV (totV false m c (fun i => fl (k + i)) (n - k))) V2 ?_
    conv => whnf
    repeat ((first | with_reducible refine branch_true rfl ?_ | with_reducible refine branch_false rfl ?_); conv => whnf)
    refine call_is (v := pairV (totV false m c fl n)) (flowOf fl n m c) ?_
    have b1 := @totV_bad false m c fl k
    have b2 := @totV_bad false m c (fun i => fl (k + i)) (n - k)
    have b3 := @totV_bad false m c fl n
    have y1 := @totV_good false m c fl k
    have y2 := @totV_good false m c (fun i => fl (k + i)) (n - k)
    have y3 := @totV_good false m c fl n
    have hsp : tot (selP false m c) fl n = tot (selP false m c) fl k + tot (selP false m c) (fun i => fl (k + i)) (n - k) := by
      have := tot_split (selP false m c) fl k (n - k)
      rw [Nat.add_sub_cancel' hkn] at this
      exact this
    generalize totV false m c fl k = v1 at *
    generalize totV false m c (fun i => fl (k + i)) (n - k) = v2 at *
    generalize totV false m c fl n = v3 at *
    conv => whnf
    repeat ((first | with_reducible refine branch_true rfl ?_ | with_reducible refine branch_false rfl ?_); conv => whnf)
    refine branch_of (fun c1 => ?_) (fun c1 => ?_)
    · have c1 : v1.2 ≠ 0 := by simpa using c1
      conv => whnf
      repeat ((first | with_reducible refine branch_true rfl ?_ | with_reducible refine branch_false rfl ?_); conv => whnf)
      refine branch_true (by simp [c1]) ?_
      conv => whnf
      repeat ((first | with_reducible refine branch_true rfl ?_ | with_reducible refine branch_false rfl ?_); conv => whnf)
      refine branch_true (by simp [b1 c1]) ?_
      conv => whnf
      repeat ((first | with_reducible refine branch_true rfl ?_ | with_reducible refine branch_false rfl ?_); conv => whnf)
      refine call_is goesOK ?_
      conv => whnf
      repeat ((first | with_reducible refine branch_true rfl ?_ | with_reducible refine branch_false rfl ?_); conv => whnf)
      rfl
    · have c1 : v1.2 = 0 := by simpa using c1
      conv => whnf
      repeat ((first | with_reducible refine branch_true rfl ?_ | with_reducible refine branch_false rfl ?_); conv => whnf)
      refine branch_of (fun c2 => ?_) (fun c2 => ?_)
      · have c2 : v2.2 ≠ 0 := by simpa using c2
        conv => whnf
        repeat ((first | with_reducible refine branch_true rfl ?_ | with_reducible refine branch_false rfl ?_); conv => whnf)
        refine branch_false (by simp [c1]) ?_
        conv => whnf
        repeat ((first | with_reducible refine branch_true rfl ?_ | with_reducible refine branch_false rfl ?_); conv => whnf)
        refine branch_true (by simp [c2]) ?_
        conv => whnf
        repeat ((first | with_reducible refine branch_true rfl ?_ | with_reducible refine branch_false rfl ?_); conv => whnf)
        refine branch_true (by simp [b2 c2]) ?_
        conv => whnf
        repeat ((first | with_reducible refine branch_true rfl ?_ | with_reducible refine branch_false rfl ?_); conv => whnf)
        refine call_is goesOK ?_
        conv => whnf
        repeat ((first | with_reducible refine branch_true rfl ?_ | with_reducible refine branch_false rfl ?_); conv => whnf)
        rfl
      · have c2 : v2.2 = 0 := by simpa using c2
        conv => whnf
        repeat ((first | with_reducible refine branch_true rfl ?_ | with_reducible refine branch_false rfl ?_); conv => whnf)
        refine branch_of (fun c3 => ?_) (fun c3 => ?_)
        · have c3 : v3.2 ≠ 0 := by simpa using c3
          conv => whnf
          repeat ((first | with_reducible refine branch_true rfl ?_ | with_reducible refine branch_false rfl ?_); conv => whnf)
          refine branch_false (by simp [c1]) ?_
          conv => whnf
          repeat ((first | with_reducible refine branch_true rfl ?_ | with_reducible refine branch_false rfl ?_); conv => whnf)
          refine branch_false (by simp [c2]) ?_
          conv => whnf
          repeat ((first | with_reducible refine branch_true rfl ?_ | with_reducible refine branch_false rfl ?_); conv => whnf)
          refine branch_true (by simp [c3]) ?_
          conv => whnf
          repeat ((first | with_reducible refine branch_true rfl ?_ | with_reducible refine branch_false rfl ?_); conv => whnf)
          refine branch_true (by simp [b3 c3]) ?_
          conv => whnf
          repeat ((first | with_reducible refine branch_true rfl ?_ | with_reducible refine branch_false rfl ?_); conv => whnf)
          refine call_is goesOK ?_
          conv => whnf
          repeat ((first | with_reducible refine branch_true rfl ?_ | with_reducible refine branch_false rfl ?_); conv => whnf)
          rfl
        · have c3 : v3.2 = 0 := by simpa using c3
          obtain ⟨p1, q1⟩ := y1 c1
          obtain ⟨p2, q2⟩ := y2 c2
          obtain ⟨p3, q3⟩ := y3 c3
          have q3' := fitsI_iff.1 q3
          have hw : IntKind.i64.wrap (v1.1 + v2.1) = v3.1 := by rw [p1, p2, p3, ← hsp, wrap64 (by omega)]
          conv => whnf
          repeat ((first | with_reducible refine branch_true rfl ?_ | with_reducible refine branch_false rfl ?_); conv => whnf)
          refine branch_true (by rw [hw]; exact decide_eq_true rfl) ?_
          conv => whnf
          repeat ((first | with_reducible refine branch_true rfl ?_ | with_reducible refine branch_false rfl ?_); conv => whnf)
          refine call_is goesOK ?_
          conv => whnf
          repeat ((first | with_reducible refine branch_true rfl ?_ | with_reducible refine branch_false rfl ?_); conv => whnf)
          rfl
end Go.Proofs


set_option linter.unusedVariables false
namespace Go.Proofs
open Ax Go
/-! The order of keys: a member's name, then a currency. -/
theorem bless : ∀ (x y : List UInt8), Op.bytesLess x y = decide (x < y)
  | [], [] => by simp [Op.bytesLess]
  | _ :: _, [] => by simp [Op.bytesLess]
  | [], _ :: _ => by simp [Op.bytesLess]
  | a :: x, b :: y => by
    rw [Op.bytesLess, bless x y]
    simp only [List.cons_lt_cons_iff]
    by_cases h1 : a < b <;> by_cases h2 : a = b <;> by_cases h3 : x < y <;> simp [h1, h2, h3]
theorem strLt_iff {x y : ByteArray} : strLt x y = true ↔ x.data.toList < y.data.toList := by
  unfold strLt; rw [bless, Lib.toList_data, Lib.toList_data, decide_eq_true_eq]
theorem data_inj {x y : ByteArray} (h : x.data.toList = y.data.toList) : x = y := by
  cases x; cases y; congr; exact Array.toList_inj.1 h
theorem strLt_irr (x : ByteArray) : strLt x x = false := by
  rw [Bool.eq_false_iff, ne_eq, strLt_iff]; exact List.lt_irrefl _
theorem strLt_tr {x y z : ByteArray} (h1 : strLt x y = true) (h2 : strLt y z = true) : strLt x z = true := by
  rw [strLt_iff] at *; exact List.lt_trans h1 h2
theorem strLt_tri {x y : ByteArray} (h1 : strLt x y = false) (h2 : x ≠ y) : strLt y x = true := by
  cases h3 : strLt y x with
  | true => rfl
  | false =>
    rw [Bool.eq_false_iff, ne_eq, strLt_iff, List.not_lt] at h1 h3
    exact absurd (data_inj (List.le_antisymm h3 h1)) h2
abbrev Key := ByteArray × Int
def cmpS (x y : ByteArray) : Int := if strLt x y = true then -1 else if x = y then 0 else 1
def cmpI (a b : Int) : Int := if a < b then -1 else if b < a then 1 else 0
def cmpK (a b : Key) : Int := if a.1 = b.1 then cmpI a.2 b.2 else cmpS a.1 b.1
theorem cmpK_lt {a b : Key} : cmpK a b < 0 ↔ strLt a.1 b.1 = true ∨ a.1 = b.1 ∧ a.2 < b.2 := by
  unfold cmpK cmpS cmpI
  by_cases h1 : a.1 = b.1
  · rw [if_pos h1]
    rw [h1, strLt_irr]
    by_cases h2 : a.2 < b.2
    · simp [h2]
    · by_cases h3 : b.2 < a.2 <;> simp [h2, h3]
  · rw [if_neg h1]
    cases h2 : strLt a.1 b.1 <;> simp [h1]
theorem ltK_irr (a : Key) : ¬ cmpK a a < 0 := by
  rw [cmpK_lt, strLt_irr]; simp
theorem ltK_tr {a b d : Key} (h1 : cmpK a b < 0) (h2 : cmpK b d < 0) : cmpK a d < 0 := by
  rw [cmpK_lt] at *
  rcases h1 with h1 | ⟨h1, h3⟩ <;> rcases h2 with h2 | ⟨h2, h4⟩
  · exact .inl (strLt_tr h1 h2)
  · exact .inl (h2 ▸ h1)
  · exact .inl (h1 ▸ h2)
  · exact .inr ⟨h1.trans h2, by omega⟩
theorem ltK_tri {a b : Key} (h1 : ¬ cmpK a b < 0) (h2 : a ≠ b) : cmpK b a < 0 := by
  rw [cmpK_lt] at *
  by_cases h : a.1 = b.1
  · refine .inr ⟨h.symm, ?_⟩
    have h3 : a.2 ≠ b.2 := fun e => h2 (Prod.ext h e)
    have h4 : ¬ a.2 < b.2 := fun e => h1 (.inr ⟨h, e⟩)
    omega
  · refine .inl (strLt_tri ?_ h)
    cases h3 : strLt a.1 b.1 with
    | false => rfl
    | true => exact absurd (.inl h3) h1
theorem ltK_ntr {a b d : Key} (h1 : ¬ cmpK a b < 0) (h2 : ¬ cmpK b d < 0) : ¬ cmpK a d < 0 := by
  by_cases e1 : a = b
  · rw [e1]; exact h2
  · by_cases e2 : b = d
    · rw [← e2]; exact h1
    · have := ltK_tr (ltK_tri h2 e2) (ltK_tri h1 e1)
      exact fun h => ltK_irr _ (ltK_tr this h)
def encK (k : Key) : AV := .agg [.str k.1, .int .i64 k.2]
def decK : AV → Key
  | .agg [.str m, .int _ c] => (m, c)
  | _ => (ByteArray.empty, 0)
theorem decK_enc (k : Key) : decK (encK k) = k := rfl
def cAV (a b : AV) : Int := cmpK (decK a) (decK b)
theorem swoK : Swo cAV := ⟨fun a => ltK_irr _, fun a b d h1 h2 => ltK_tr h1 h2, fun a b d h1 h2 => ltK_ntr h1 h2⟩
/-- Rising keys, each once. -/
abbrev RiseK (l : List Key) : Prop := l.Pairwise fun a b => cmpK a b < 0
theorem rise_eq {l l' : List Key} (h : RiseK l) (h' : RiseK l') (hp : l.Perm l') : l = l' :=
  List.Perm.eq_of_pairwise (fun a b _ _ h1 h2 => absurd (ltK_tr h1 h2) (ltK_irr _)) h h' hp
/-- Whatever a sort of distinct keys gives is the one rising order of them. -/
theorem sorted_eq {ks l : List Key} {l' : List AV} (hr : RiseK ks) (hk : ks.Perm l) (hp : l'.Perm (l.map encK)) (hs : l'.Pairwise fun a b => ¬ cAV b a < 0) : l' = ks.map encK := by
  have e1 : ∀ a ∈ l', encK (decK a) = a := fun a ha => by
    obtain ⟨k, _, rfl⟩ := List.mem_map.1 (hp.mem_iff.1 ha); rfl
  have e2 : (l'.map decK).map encK = l' := by
    rw [List.map_map]
    calc l'.map (encK ∘ decK) = l'.map id := List.map_congr_left e1
      _ = l' := List.map_id _
  have e3 : (l'.map decK).Perm l := by
    have := hp.map decK
    rw [List.map_map, show decK ∘ encK = id from funext decK_enc, List.map_id] at this
    exact this
  have nd : (l'.map decK).Nodup := (e3.trans hk.symm).nodup_iff.2 (hr.imp fun h e => by subst e; exact ltK_irr _ h)
  have rs : RiseK (l'.map decK) := by
    have h1 : (l'.map decK).Pairwise fun a b => ¬ cmpK b a < 0 := List.pairwise_map.2 hs
    refine (h1.and nd).imp ?_
    rintro a b ⟨h2, h3⟩
    exact ltK_tri h2 (Ne.symm h3)
  rw [← e2, rise_eq rs hr (e3.trans hk.symm)]
theorem exists_rise (l : List Key) (hn : l.Nodup) : ∃ ks, RiseK ks ∧ ks.Perm l := by
  induction l with
  | nil => exact ⟨[], List.Pairwise.nil, .refl _⟩
  | cons k l ih =>
    obtain ⟨ks, h1, h2⟩ := ih (List.nodup_cons.1 hn).2
    have hk : k ∉ ks := fun h => (List.nodup_cons.1 hn).1 (h2.mem_iff.1 h)
    have ins : ∀ ks : List Key, RiseK ks → k ∉ ks → ∃ t, RiseK t ∧ t.Perm (k :: ks) := by
      intro ks
      induction ks with
      | nil => exact fun _ _ => ⟨[k], List.pairwise_singleton _ _, .refl _⟩
      | cons a r ihr =>
        intro hr hk
        have hka : k ≠ a := fun e => hk (e ▸ List.mem_cons_self)
        by_cases h : cmpK k a < 0
        · refine ⟨k :: a :: r, List.pairwise_cons.2 ⟨fun b hb => ?_, hr⟩, .refl _⟩
          rcases List.mem_cons.1 hb with rfl | hb
          · exact h
          · exact ltK_tr h ((List.pairwise_cons.1 hr).1 b hb)
        · obtain ⟨t, ht, hp⟩ := ihr (List.pairwise_cons.1 hr).2 (fun h => hk (List.mem_cons_of_mem _ h))
          refine ⟨a :: t, List.pairwise_cons.2 ⟨fun b hb => ?_, ht⟩, ?_⟩
          · rcases List.mem_cons.1 (hp.mem_iff.1 hb) with rfl | hb
            · exact ltK_tri h hka
            · exact (List.pairwise_cons.1 hr).1 b hb
          · exact (List.Perm.cons a hp).trans (List.Perm.swap _ _ _)
    obtain ⟨t, ht, hp⟩ := ins ks h1 hk
    exact ⟨t, ht, hp.trans (List.Perm.cons _ h2)⟩
end Go.Proofs

