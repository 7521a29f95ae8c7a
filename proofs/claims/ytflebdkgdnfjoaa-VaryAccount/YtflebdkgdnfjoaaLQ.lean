import Derived.Test.YtflebdkgdnfjoaaMP
import Derived.Lib.Strings
import Derived.Test.YtflebdkgdnfjoaaLM
set_option linter.unusedVariables false
namespace Go.Proofs
open Ax Go
/-! The order of keys: a member's name, then a currency. -/
theorem bless : ∀ (x y : List UInt8), Op.bytesLess x y = decide (x < y)
  | [], [] => by simp [Op.bytesLess]
  | _ :: _, [] => by simp [Op.bytesLess]
  | [], _ :: _ => by simp [Op.bytesLess]
  | a :: x, b :: y => by
    rw [Op.bytesLess, bless x y]
    simp only [List.cons_lt_cons_iff]
    by_cases h1 : a < b <;> by_cases h2 : a = b <;> by_cases h3 : x < y <;> simp [h1, h2, h3]
theorem strLt_iff {x y : ByteArray} : strLt x y = true ↔ x.data.toList < y.data.toList := by
  unfold strLt; rw [bless, Lib.toList_data, Lib.toList_data, decide_eq_true_eq]
theorem data_inj {x y : ByteArray} (h : x.data.toList = y.data.toList) : x = y := by
  cases x; cases y; congr; exact Array.toList_inj.1 h
theorem strLt_irr (x : ByteArray) : strLt x x = false := by
  rw [Bool.eq_false_iff, ne_eq, strLt_iff]; exact List.lt_irrefl _
theorem strLt_tr {x y z : ByteArray} (h1 : strLt x y = true) (h2 : strLt y z = true) : strLt x z = true := by
  rw [strLt_iff] at *; exact List.lt_trans h1 h2
theorem strLt_tri {x y : ByteArray} (h1 : strLt x y = false) (h2 : x ≠ y) : strLt y x = true := by
  cases h3 : strLt y x with
  | true => rfl
  | false =>
    rw [Bool.eq_false_iff, ne_eq, strLt_iff, List.not_lt] at h1 h3
    exact absurd (data_inj (List.le_antisymm h3 h1)) h2
abbrev Key := ByteArray × Int
def cmpS (x y : ByteArray) : Int := if strLt x y = true then -1 else if x = y then 0 else 1
def cmpI (a b : Int) : Int := if a < b then -1 else if b < a then 1 else 0
def cmpK (a b : Key) : Int := if a.1 = b.1 then cmpI a.2 b.2 else cmpS a.1 b.1
theorem cmpK_lt {a b : Key} : cmpK a b < 0 ↔ strLt a.1 b.1 = true ∨ a.1 = b.1 ∧ a.2 < b.2 := by
  unfold cmpK cmpS cmpI
  by_cases h1 : a.1 = b.1
  · rw [if_pos h1]
    rw [h1, strLt_irr]
    by_cases h2 : a.2 < b.2
    · simp [h2]
    · by_cases h3 : b.2 < a.2 <;> simp [h2, h3]
  · rw [if_neg h1]
    cases h2 : strLt a.1 b.1 <;> simp [h1]
theorem ltK_irr (a : Key) : ¬ cmpK a a < 0 := by
  rw [cmpK_lt, strLt_irr]; simp
theorem ltK_tr {a b d : Key} (h1 : cmpK a b < 0) (h2 : cmpK b d < 0) : cmpK a d < 0 := by
  rw [cmpK_lt] at *
  rcases h1 with h1 | ⟨h1, h3⟩ <;> rcases h2 with h2 | ⟨h2, h4⟩
  · exact .inl (strLt_tr h1 h2)
  · exact .inl (h2 ▸ h1)
  · exact .inl (h1 ▸ h2)
  · exact .inr ⟨h1.trans h2, by omega⟩
theorem ltK_tri {a b : Key} (h1 : ¬ cmpK a b < 0) (h2 : a ≠ b) : cmpK b a < 0 := by
  rw [cmpK_lt] at *
  by_cases h : a.1 = b.1
  · refine .inr ⟨h.symm, ?_⟩
    have h3 : a.2 ≠ b.2 := fun e => h2 (Prod.ext h e)
    have h4 : ¬ a.2 < b.2 := fun e => h1 (.inr ⟨h, e⟩)
    omega
  · refine .inl (strLt_tri ?_ h)
    cases h3 : strLt a.1 b.1 with
    | false => rfl
    | true => exact absurd (.inl h3) h1
theorem ltK_ntr {a b d : Key} (h1 : ¬ cmpK a b < 0) (h2 : ¬ cmpK b d < 0) : ¬ cmpK a d < 0 := by
  by_cases e1 : a = b
  · rw [e1]; exact h2
  · by_cases e2 : b = d
    · rw [← e2]; exact h1
    · have := ltK_tr (ltK_tri h2 e2) (ltK_tri h1 e1)
      exact fun h => ltK_irr _ (ltK_tr this h)
def encK (k : Key) : AV := .agg [.str k.1, .int .i64 k.2]
def decK : AV → Key
  | .agg [.str m, .int _ c] => (m, c)
  | _ => (ByteArray.empty, 0)
theorem decK_enc (k : Key) : decK (encK k) = k := rfl
def cAV (a b : AV) : Int := cmpK (decK a) (decK b)
theorem swoK : Swo cAV := ⟨fun a => ltK_irr _, fun a b d h1 h2 => ltK_tr h1 h2, fun a b d h1 h2 => ltK_ntr h1 h2⟩
/-- Rising keys, each once. -/
abbrev RiseK (l : List Key) : Prop := l.Pairwise fun a b => cmpK a b < 0
theorem rise_eq {l l' : List Key} (h : RiseK l) (h' : RiseK l') (hp : l.Perm l') : l = l' :=
  List.Perm.eq_of_pairwise (fun a b _ _ h1 h2 => absurd (ltK_tr h1 h2) (ltK_irr _)) h h' hp
/-- Whatever a sort of distinct keys gives is the one rising order of them. -/
theorem sorted_eq {ks l : List Key} {l' : List AV} (hr : RiseK ks) (hk : ks.Perm l) (hp : l'.Perm (l.map encK)) (hs : l'.Pairwise fun a b => ¬ cAV b a < 0) : l' = ks.map encK := by
  have e1 : ∀ a ∈ l', encK (decK a) = a := fun a ha => by
    obtain ⟨k, _, rfl⟩ := List.mem_map.1 (hp.mem_iff.1 ha); rfl
  have e2 : (l'.map decK).map encK = l' := by
    rw [List.map_map]
    calc l'.map (encK ∘ decK) = l'.map id := List.map_congr_left e1
      _ = l' := List.map_id _
  have e3 : (l'.map decK).Perm l := by
    have := hp.map decK
    rw [List.map_map, show decK ∘ encK = id from funext decK_enc, List.map_id] at this
    exact this
  have nd : (l'.map decK).Nodup := (e3.trans hk.symm).nodup_iff.2 (hr.imp fun h e => by subst e; exact ltK_irr _ h)
  have rs : RiseK (l'.map decK) := by
    have h1 : (l'.map decK).Pairwise fun a b => ¬ cmpK b a < 0 := List.pairwise_map.2 hs
    refine (h1.and nd).imp ?_
    rintro a b ⟨h2, h3⟩
    exact ltK_tri h2 (Ne.symm h3)
  rw [← e2, rise_eq rs hr (e3.trans hk.symm)]
theorem exists_rise (l : List Key) (hn : l.Nodup) : ∃ ks, RiseK ks ∧ ks.Perm l := by
  induction l with
  | nil => exact ⟨[], List.Pairwise.nil, .refl _⟩
  | cons k l ih =>
    obtain ⟨ks, h1, h2⟩ := ih (List.nodup_cons.1 hn).2
    have hk : k ∉ ks := fun h => (List.nodup_cons.1 hn).1 (h2.mem_iff.1 h)
    have ins : ∀ ks : List Key, RiseK ks → k ∉ ks → ∃ t, RiseK t ∧ t.Perm (k :: ks) := by
      intro ks
      induction ks with
      | nil => exact fun _ _ => ⟨[k], List.pairwise_singleton _ _, .refl _⟩
      | cons a r ihr =>
        intro hr hk
        have hka : k ≠ a := fun e => hk (e ▸ List.mem_cons_self)
        by_cases h : cmpK k a < 0
        · refine ⟨k :: a :: r, List.pairwise_cons.2 ⟨fun b hb => ?_, hr⟩, .refl _⟩
          rcases List.mem_cons.1 hb with rfl | hb
          · exact h
          · exact ltK_tr h ((List.pairwise_cons.1 hr).1 b hb)
        · obtain ⟨t, ht, hp⟩ := ihr (List.pairwise_cons.1 hr).2 (fun h => hk (List.mem_cons_of_mem _ h))
          refine ⟨a :: t, List.pairwise_cons.2 ⟨fun b hb => ?_, ht⟩, ?_⟩
          · rcases List.mem_cons.1 (hp.mem_iff.1 hb) with rfl | hb
            · exact ltK_tri h hka
            · exact (List.pairwise_cons.1 hr).1 b hb
          · exact (List.Perm.cons a hp).trans (List.Perm.swap _ _ _)
    obtain ⟨t, ht, hp⟩ := ins ks h1 hk
    exact ⟨t, ht, hp.trans (List.Perm.cons _ h2)⟩
end Go.Proofs


