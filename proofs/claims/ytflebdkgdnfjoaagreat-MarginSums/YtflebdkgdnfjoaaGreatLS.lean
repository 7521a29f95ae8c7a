import Derived.Test.YtflebdkgdnfjoaaGreatMR
import Derived.Lib.Strings
import Derived.Test.YtflebdkgdnfjoaaGreatLO
import GoSem.Dispatch
set_option linter.unusedVariables false
namespace Go.Proofs
open Ax Go
/-! The order of keys: a member's name, then a currency. -/
theorem bless : ∀ (x y : List UInt8), Op.bytesLess x y = decide (x < y)
  | [], [] => by simp [Op.bytesLess]
  | _ :: _, [] => by simp [Op.bytesLess]
  | [], _ :: _ => by simp [Op.bytesLess]
  | a :: x, b :: y => by
    rw [Op.bytesLess, bless x y]
    simp only [List.cons_lt_cons_iff]
    by_cases h1 : a < b <;> by_cases h2 : a = b <;> by_cases h3 : x < y <;> simp [h1, h2, h3]
theorem strLt_iff {x y : ByteArray} : strLt x y = true ↔ x.data.toList < y.data.toList := by
  unfold strLt; rw [bless, Lib.toList_data, Lib.toList_data, decide_eq_true_eq]
theorem data_inj {x y : ByteArray} (h : x.data.toList = y.data.toList) : x = y := by
  cases x; cases y; congr; exact Array.toList_inj.1 h
theorem strLt_irr (x : ByteArray) : strLt x x = false := by
  rw [Bool.eq_false_iff, ne_eq, strLt_iff]; exact List.lt_irrefl _
theorem strLt_tr {x y z : ByteArray} (h1 : strLt x y = true) (h2 : strLt y z = true) : strLt x z = true := by
  rw [strLt_iff] at *; exact List.lt_trans h1 h2
theorem strLt_tri {x y : ByteArray} (h1 : strLt x y = false) (h2 : x ≠ y) : strLt y x = true := by
  cases h3 : strLt y x with
  | true => rfl
  | false =>
    rw [Bool.eq_false_iff, ne_eq, strLt_iff, List.not_lt] at h1 h3
    exact absurd (data_inj (List.le_antisymm h3 h1)) h2
abbrev Key := ByteArray × Int
def cmpS (x y : ByteArray) : Int := if strLt x y = true then -1 else if x = y then 0 else 1
def cmpI (a b : Int) : Int := if a < b then -1 else if b < a then 1 else 0
def cmpK (a b : Key) : Int := if a.1 = b.1 then cmpI a.2 b.2 else cmpS a.1 b.1
theorem cmpK_lt {a b : Key} : cmpK a b < 0 ↔ strLt a.1 b.1 = true ∨ a.1 = b.1 ∧ a.2 < b.2 := by
  unfold cmpK cmpS cmpI
  by_cases h1 : a.1 = b.1
  · rw [if_pos h1]
    rw [h1, strLt_irr]
    by_cases h2 : a.2 < b.2
    · simp [h2]
    · by_cases h3 : b.2 < a.2 <;> simp [h2, h3]
  · rw [if_neg h1]
    cases h2 : strLt a.1 b.1 <;> simp [h1]
theorem ltK_irr (a : Key) : ¬ cmpK a a < 0 := by
  rw [cmpK_lt, strLt_irr]; simp
theorem ltK_tr {a b d : Key} (h1 : cmpK a b < 0) (h2 : cmpK b d < 0) : cmpK a d < 0 := by
  rw [cmpK_lt] at *
  rcases h1 with h1 | ⟨h1, h3⟩ <;> rcases h2 with h2 | ⟨h2, h4⟩
  · exact .inl (strLt_tr h1 h2)
  · exact .inl (h2 ▸ h1)
  · exact .inl (h1 ▸ h2)
  · exact .inr ⟨h1.trans h2, by omega⟩
theorem ltK_tri {a b : Key} (h1 : ¬ cmpK a b < 0) (h2 : a ≠ b) : cmpK b a < 0 := by
  rw [cmpK_lt] at *
  by_cases h : a.1 = b.1
  · refine .inr ⟨h.symm, ?_⟩
    have h3 : a.2 ≠ b.2 := fun e => h2 (Prod.ext h e)
    have h4 : ¬ a.2 < b.2 := fun e => h1 (.inr ⟨h, e⟩)
    omega
  · refine .inl (strLt_tri ?_ h)
    cases h3 : strLt a.1 b.1 with
    | false => rfl
    | true => exact absurd (.inl h3) h1
theorem ltK_ntr {a b d : Key} (h1 : ¬ cmpK a b < 0) (h2 : ¬ cmpK b d < 0) : ¬ cmpK a d < 0 := by
  by_cases e1 : a = b
  · rw [e1]; exact h2
  · by_cases e2 : b = d
    · rw [← e2]; exact h1
    · have := ltK_tr (ltK_tri h2 e2) (ltK_tri h1 e1)
      exact fun h => ltK_irr _ (ltK_tr this h)
def encK (k : Key) : AV := .agg [.str k.1, .int .i64 k.2]
def decK : AV → Key
  | .agg [.str m, .int _ c] => (m, c)
  | _ => (ByteArray.empty, 0)
theorem decK_enc (k : Key) : decK (encK k) = k := rfl
def cAV (a b : AV) : Int := cmpK (decK a) (decK b)
theorem swoK : Swo cAV := ⟨fun a => ltK_irr _, fun a b d h1 h2 => ltK_tr h1 h2, fun a b d h1 h2 => ltK_ntr h1 h2⟩
/-- Rising keys, each once. -/
abbrev RiseK (l : List Key) : Prop := l.Pairwise fun a b => cmpK a b < 0
theorem rise_eq {l l' : List Key} (h : RiseK l) (h' : RiseK l') (hp : l.Perm l') : l = l' :=
  List.Perm.eq_of_pairwise (fun a b _ _ h1 h2 => absurd (ltK_tr h1 h2) (ltK_irr _)) h h' hp
/-- Whatever a sort of distinct keys gives is the one rising order of them. -/
theorem sorted_eq {ks l : List Key} {l' : List AV} (hr : RiseK ks) (hk : ks.Perm l) (hp : l'.Perm (l.map encK)) (hs : l'.Pairwise fun a b => ¬ cAV b a < 0) : l' = ks.map encK := by
  have e1 : ∀ a ∈ l', encK (decK a) = a := fun a ha => by
    obtain ⟨k, _, rfl⟩ := List.mem_map.1 (hp.mem_iff.1 ha); rfl
  have e2 : (l'.map decK).map encK = l' := by
    rw [List.map_map]
    calc l'.map (encK ∘ decK) = l'.map id := List.map_congr_left e1
      _ = l' := List.map_id _
  have e3 : (l'.map decK).Perm l := by
    have := hp.map decK
    rw [List.map_map, show decK ∘ encK = id from funext decK_enc, List.map_id] at this
    exact this
  have nd : (l'.map decK).Nodup := (e3.trans hk.symm).nodup_iff.2 (hr.imp fun h e => by subst e; exact ltK_irr _ h)
  have rs : RiseK (l'.map decK) := by
    have h1 : (l'.map decK).Pairwise fun a b => ¬ cmpK b a < 0 := List.pairwise_map.2 hs
    refine (h1.and nd).imp ?_
    rintro a b ⟨h2, h3⟩
    exact ltK_tri h2 (Ne.symm h3)
  rw [← e2, rise_eq rs hr (e3.trans hk.symm)]
theorem exists_rise (l : List Key) (hn : l.Nodup) : ∃ ks, RiseK ks ∧ ks.Perm l := by
  induction l with
  | nil => exact ⟨[], List.Pairwise.nil, .refl _⟩
  | cons k l ih =>
    obtain ⟨ks, h1, h2⟩ := ih (List.nodup_cons.1 hn).2
    have hk : k ∉ ks := fun h => (List.nodup_cons.1 hn).1 (h2.mem_iff.1 h)
    have ins : ∀ ks : List Key, RiseK ks → k ∉ ks → ∃ t, RiseK t ∧ t.Perm (k :: ks) := by
      intro ks
      induction ks with
      | nil => exact fun _ _ => ⟨[k], List.pairwise_singleton _ _, .refl _⟩
      | cons a r ihr =>
        intro hr hk
        have hka : k ≠ a := fun e => hk (e ▸ List.mem_cons_self)
        by_cases h : cmpK k a < 0
        · refine ⟨k :: a :: r, List.pairwise_cons.2 ⟨fun b hb => ?_, hr⟩, .refl _⟩
          rcases List.mem_cons.1 hb with rfl | hb
          · exact h
          · exact ltK_tr h ((List.pairwise_cons.1 hr).1 b hb)
        · obtain ⟨t, ht, hp⟩ := ihr (List.pairwise_cons.1 hr).2 (fun h => hk (List.mem_cons_of_mem _ h))
          refine ⟨a :: t, List.pairwise_cons.2 ⟨fun b hb => ?_, ht⟩, ?_⟩
          · rcases List.mem_cons.1 (hp.mem_iff.1 hb) with rfl | hb
            · exact ltK_tri h hka
            · exact (List.pairwise_cons.1 hr).1 b hb
          · exact (List.Perm.cons a hp).trans (List.Perm.swap _ _ _)
    obtain ⟨t, ht, hp⟩ := ins ks h1 hk
    exact ⟨t, ht, hp.trans (List.Perm.cons _ h2)⟩
end Go.Proofs



/- Division of two words by one, digit by digit: numbers alone. -/
namespace Go.Proofs
def BB : Nat := 4294967296
theorem BB_pos : 0 < BB := by unfold BB; omega
/-- What stands between two rounds of a digit's search. -/
structure DivHd (u d v1 v0 : Nat) where
  q : Nat
  r : Nat
  h1 : q * v1 + r = u
  h2 : (u * BB + d) / (v1 * BB + v0) ≤ q
theorem div_stop {u d v1 v0 : Nat} (x : DivHd u d v1 v0) (hv : 0 < v1) (h : x.q * v0 ≤ BB * x.r + d) : x.q = (u * BB + d) / (v1 * BB + v0) := by
  refine Nat.le_antisymm ?_ x.h2
  rw [Nat.le_div_iff_mul_le (by have := Nat.mul_pos hv BB_pos; omega)]
  have h1 := x.h1
  calc x.q * (v1 * BB + v0) = x.q * v1 * BB + x.q * v0 := by rw [Nat.mul_add, Nat.mul_assoc]
    _ ≤ x.q * v1 * BB + (BB * x.r + d) := by omega
    _ = (x.q * v1 + x.r) * BB + d := by rw [Nat.add_mul, Nat.mul_comm BB]; omega
    _ = u * BB + d := by rw [h1]
theorem div_far {u d v1 v0 : Nat} (x : DivHd u d v1 v0) (h0 : v0 < BB) (hu : u < v1 * BB + v0) (h : BB ≤ x.r) : x.q < BB ∧ x.q * v0 ≤ BB * x.r + d := by
  have h1 := x.h1
  have hq : x.q < BB := by
    have : x.q * v1 < BB * v1 := by rw [Nat.mul_comm BB]; omega
    exact Nat.lt_of_mul_lt_mul_right this
  refine ⟨hq, ?_⟩
  have h2 : x.q * v0 ≤ BB * BB := Nat.mul_le_mul (by omega) (by omega)
  have h3 : BB * BB ≤ BB * x.r := Nat.mul_le_mul (Nat.le_refl _) h
  omega
theorem div_lt {u d v1 v0 : Nat} (hd : d < BB) (hu : u < v1 * BB + v0) : (u * BB + d) / (v1 * BB + v0) < BB := by
  rw [Nat.div_lt_iff_lt_mul (by omega)]
  have : (u + 1) * BB ≤ (v1 * BB + v0) * BB := Nat.mul_le_mul (by omega) (Nat.le_refl _)
  rw [Nat.add_mul] at this
  rw [Nat.mul_comm BB]
  omega
theorem div_less {u d v1 v0 : Nat} (x : DivHd u d v1 v0) (hd : d < BB) (hu : u < v1 * BB + v0) (h : BB ≤ x.q ∨ BB * x.r + d < x.q * v0) : 0 < x.q ∧ ∃ y : DivHd u d v1 v0, y.q = x.q - 1 ∧ y.r = x.r + v1 := by
  have h1 := x.h1
  have hlt : (u * BB + d) / (v1 * BB + v0) < x.q := by
    rcases h with h | h
    · exact Nat.lt_of_lt_of_le (div_lt hd hu) h
    · rw [Nat.div_lt_iff_lt_mul (by omega)]
      calc u * BB + d = (x.q * v1 + x.r) * BB + d := by rw [h1]
        _ = x.q * v1 * BB + (BB * x.r + d) := by rw [Nat.add_mul, Nat.mul_comm BB]; omega
        _ < x.q * v1 * BB + x.q * v0 := by omega
        _ = x.q * (v1 * BB + v0) := by rw [Nat.mul_add, Nat.mul_assoc]
  have hp : 0 < x.q := Nat.lt_of_le_of_lt (Nat.zero_le _) hlt
  refine ⟨hp, ⟨x.q - 1, x.r + v1, ?_, by omega⟩, rfl, rfl⟩
  have : x.q * v1 = (x.q - 1) * v1 + v1 := by
    conv => lhs; rw [show x.q = (x.q - 1) + 1 by omega, Nat.add_mul, Nat.one_mul]
  omega
theorem div_head (u d v1 v0 : Nat) (hv : 0 < v1) (hd : d < BB) : ∃ x : DivHd u d v1 v0, x.q = u / v1 ∧ x.r = u % v1 := by
  refine ⟨⟨u / v1, u % v1, by rw [Nat.mul_comm]; exact Nat.div_add_mod u v1, ?_⟩, rfl, rfl⟩
  have hpos : 0 < v1 * BB := Nat.mul_pos hv BB_pos
  refine Nat.le_of_lt_succ ((Nat.div_lt_iff_lt_mul (by omega)).2 ?_)
  have h2 : u < (u / v1 + 1) * v1 := by
    rw [Nat.add_mul, Nat.one_mul]
    have := Nat.div_add_mod u v1
    have := Nat.mod_lt u hv
    rw [Nat.mul_comm (u / v1)]; omega
  have h3 : (u + 1) * BB ≤ (u / v1 + 1) * v1 * BB := Nat.mul_le_mul h2 (Nat.le_refl _)
  have h4 : (u / v1 + 1) * (v1 * BB + v0) = (u / v1 + 1) * v1 * BB + (u / v1 + 1) * v0 := by rw [Nat.mul_add, Nat.mul_assoc]
  show u * BB + d < (u / v1 + 1) * (v1 * BB + v0)
  rw [h4]
  rw [Nat.add_mul] at h3
  omega
/-- Two digits, one behind the other. -/
theorem div_two {u d1 d0 v : Nat} (hv : 0 < v) : (u * (BB * BB) + d1 * BB + d0) / v = (u * BB + d1) / v * BB + ((u * BB + d1) % v * BB + d0) / v ∧ (u * (BB * BB) + d1 * BB + d0) % v = ((u * BB + d1) % v * BB + d0) % v := by
  have h := Nat.div_add_mod (u * BB + d1) v
  have e : u * (BB * BB) + d1 * BB + d0 = v * ((u * BB + d1) / v * BB) + ((u * BB + d1) % v * BB + d0) := by
    calc u * (BB * BB) + d1 * BB + d0 = (u * BB + d1) * BB + d0 := by rw [Nat.add_mul, Nat.mul_assoc]
      _ = (v * ((u * BB + d1) / v) + (u * BB + d1) % v) * BB + d0 := by rw [h]
      _ = _ := by rw [Nat.add_mul, Nat.mul_assoc]; omega
  rw [e]
  exact ⟨by rw [Nat.mul_add_div hv], by rw [Nat.mul_add_mod]⟩
/-- Both shifted alike. -/
theorem div_shift {n y k : Nat} (hk : 0 < k) : (n * k) / (y * k) = n / y ∧ (n * k) % (y * k) / k = n % y := by
  refine ⟨Nat.mul_div_mul_right _ _ hk, ?_⟩
  rw [Nat.mul_mod_mul_right, Nat.mul_div_cancel _ hk]
def len64 (n : Nat) : Nat := if n = 0 then 0 else Nat.log2 n + 1
theorem len64_up {n k : Nat} (h : 2 ^ k ≤ n) : len64 n = len64 (n / 2 ^ k) + k := by
  have hp : 0 < 2 ^ k := Nat.pow_pos (by decide)
  have h1 : n / 2 ^ k ≠ 0 := by
    have := (Nat.le_div_iff_mul_le hp (x := 1) (y := n)).2 (by omega)
    omega
  have h2 : n ≠ 0 := by omega
  unfold len64
  rw [if_neg h1, if_neg h2]
  have : Nat.log2 n = Nat.log2 (n / 2 ^ k) + k := by
    refine (Nat.log2_eq_iff h2).2 ⟨?_, ?_⟩
    · have := (Nat.log2_eq_iff h1 (k := Nat.log2 (n / 2 ^ k))).1 rfl
      rw [Nat.pow_add, ← Nat.le_div_iff_mul_le hp]; exact this.1
    · have := (Nat.log2_eq_iff h1 (k := Nat.log2 (n / 2 ^ k))).1 rfl
      rw [show Nat.log2 (n / 2 ^ k) + k + 1 = (Nat.log2 (n / 2 ^ k) + 1) + k by omega, Nat.pow_add, ← Nat.div_lt_iff_lt_mul hp]; exact this.2
  omega
theorem len64_b {n : Nat} (h0 : n ≠ 0) (h : n < 2 ^ 64) : 1 ≤ len64 n ∧ len64 n ≤ 64 ∧ 2 ^ 63 ≤ n * 2 ^ (64 - len64 n) ∧ n * 2 ^ (64 - len64 n) < 2 ^ 64 := by
  unfold len64
  rw [if_neg h0]
  obtain ⟨h1, h2⟩ := (Nat.log2_eq_iff h0 (k := Nat.log2 n)).1 rfl
  have h3 : Nat.log2 n < 64 := (Nat.log2_lt h0).2 h
  refine ⟨by omega, by omega, ?_, ?_⟩
  · calc 2 ^ 63 = 2 ^ Nat.log2 n * 2 ^ (64 - (Nat.log2 n + 1)) := by rw [← Nat.pow_add]; congr 1; omega
      _ ≤ n * 2 ^ (64 - (Nat.log2 n + 1)) := Nat.mul_le_mul h1 (Nat.le_refl _)
  · calc n * 2 ^ (64 - (Nat.log2 n + 1)) < 2 ^ (Nat.log2 n + 1) * 2 ^ (64 - (Nat.log2 n + 1)) := Nat.mul_lt_mul_of_pos_right h2 (Nat.pow_pos (by decide))
      _ = 2 ^ 64 := by rw [← Nat.pow_add]; congr 1; omega
end Go.Proofs

/- Words of 64 bits: numbers alone. -/
namespace Go.Proofs
open Go
theorem u_bits : IntKind.u64.bits = 64 := rfl
theorem u_wrapI (x : Int) : IntKind.u64.wrap x = x % 18446744073709551616 := by simp [IntKind.wrap, IntKind.signed, IntKind.bits]
theorem u_wrap (n : Nat) : IntKind.u64.wrap (n : Int) = ((n % 18446744073709551616 : Nat) : Int) := by rw [u_wrapI]; omega
theorem u_wrap_lt {n : Nat} (h : n < 18446744073709551616) : IntKind.u64.wrap (n : Int) = n := by rw [u_wrapI]; omega
theorem u_sub {a b : Nat} (h : b ≤ a) (ha : a < 18446744073709551616) : IntKind.u64.wrap ((a : Int) - b) = ((a - b : Nat) : Int) := by rw [u_wrapI]; omega
theorem u_and (n : Nat) : (BitVec.ofInt IntKind.u64.bits (n : Int) &&& BitVec.ofInt IntKind.u64.bits 4294967295).toNat = n % 4294967296 := by
  rw [u_bits, BitVec.toNat_and, BitVec.toNat_ofInt, BitVec.toNat_ofInt]
  have e1 : ((n : Int) % (2 ^ 64 : Nat)).toNat = n % 2 ^ 64 := by omega
  have e2 : ((4294967295 : Int) % (2 ^ 64 : Nat)).toNat = 2 ^ 32 - 1 := by decide
  rw [e1, e2, Nat.and_two_pow_sub_one_eq_mod]
  omega
theorem u_shr (n k : Nat) : (n : Int).fdiv (2 ^ k) = ((n / 2 ^ k : Nat) : Int) := by
  rw [show (2 : Int) ^ k = ((2 ^ k : Nat) : Int) by simp, Int.natCast_ediv, Int.fdiv_eq_ediv_of_nonneg _ (Int.natCast_nonneg _)]
theorem u_shr32 (n : Nat) : (n : Int).fdiv (2 ^ min (Int.toNat 32) IntKind.u64.bits) = ((n / 4294967296 : Nat) : Int) := u_shr n 32
theorem u_or {a b s : Nat} (h1 : a % 2 ^ s = 0) (h2 : b < 2 ^ s) (h3 : a < 18446744073709551616) (h4 : b < 18446744073709551616) : (BitVec.ofInt IntKind.u64.bits (a : Int) ||| BitVec.ofInt IntKind.u64.bits (b : Int)).toNat = a + b := by
  rw [u_bits, BitVec.toNat_or, BitVec.toNat_ofInt, BitVec.toNat_ofInt]
  have e1 : ((a : Int) % (2 ^ 64 : Nat)).toNat = a := by omega
  have e2 : ((b : Int) % (2 ^ 64 : Nat)).toNat = b := by omega
  rw [e1, e2]
  have e3 : a = 2 ^ s * (a / 2 ^ s) := by have := Nat.div_add_mod a (2 ^ s); omega
  rw [e3, ← Nat.two_pow_add_eq_or_of_lt h2]
theorem u_shr16 (n : Nat) : (n : Int).fdiv (2 ^ min (Int.toNat 16) IntKind.u64.bits) = ((n / 65536 : Nat) : Int) := u_shr n 16
theorem u_shr8 (n : Nat) : (n : Int).fdiv (2 ^ min (Int.toNat 8) IntKind.u64.bits) = ((n / 256 : Nat) : Int) := u_shr n 8
theorem i_wrap (x : Int) : IntKind.i64.wrap x = (x + 9223372036854775808) % 18446744073709551616 - 9223372036854775808 := by
  simp [IntKind.wrap, IntKind.signed, IntKind.bits]
  omega
theorem u_shlI {n s : Nat} (hs : s ≤ 63) : IntKind.u64.wrap ((n : Int) * 2 ^ min (s : Int).toNat IntKind.u64.bits) = ((n * 2 ^ s % 18446744073709551616 : Nat) : Int) := by
  have e : min (s : Int).toNat IntKind.u64.bits = s := by rw [u_bits]; omega
  rw [e, show (2 : Int) ^ s = ((2 ^ s : Nat) : Int) by simp, ← Int.natCast_mul, u_wrap]
theorem u_shl {n s : Nat} (hs : s ≤ 63) (h : n * 2 ^ s < 18446744073709551616) : IntKind.u64.wrap ((n : Int) * 2 ^ min (s : Int).toNat IntKind.u64.bits) = ((n * 2 ^ s : Nat) : Int) := by
  rw [u_shlI hs, Nat.mod_eq_of_lt h]
theorem u_shrI {n k : Nat} (hk : k ≤ 64) : (n : Int).fdiv (2 ^ min (k : Int).toNat IntKind.u64.bits) = ((n / 2 ^ k : Nat) : Int) := by
  have e : min (k : Int).toNat IntKind.u64.bits = k := by rw [u_bits]; omega
  rw [e, u_shr]
theorem u_quo {a b : Nat} (h : a < 18446744073709551616) : IntKind.u64.wrap ((a : Int).tdiv b) = ((a / b : Nat) : Int) := by
  rw [← Int.ofNat_tdiv, u_wrap_lt (Nat.lt_of_le_of_lt (Nat.div_le_self _ _) h)]
theorem u_back {a b c d : Nat} (h : a = b * c + d) (ha : a < 18446744073709551616) : IntKind.u64.wrap ((a : Int) - IntKind.u64.wrap ((b : Int) * c)) = d := by
  have h' : (a : Int) = b * c + d := by rw [h, Int.natCast_add, Int.natCast_mul]
  rw [u_wrapI, u_wrapI]
  generalize (b : Int) * c = p at *
  omega
theorem u_mod3 {u d q v r : Nat} (h : u * 4294967296 + d = q * v + r) (hr : r < 18446744073709551616) : IntKind.u64.wrap (IntKind.u64.wrap (IntKind.u64.wrap ((u : Int) * 4294967296) + d) - IntKind.u64.wrap ((q : Int) * v)) = r := by
  have h' : (u : Int) * 4294967296 + d = q * v + r := by
    have h2 := congrArg (fun n : Nat => (n : Int)) h
    simp only [Int.natCast_add, Int.natCast_mul] at h2
    exact h2
  rw [u_wrapI, u_wrapI, u_wrapI, u_wrapI]
  generalize (q : Int) * v = p at *
  omega
/-- Both numbers shifted, so that the divisor's first bit is set. -/
theorem div_norm {hi lo y s : Nat} (h1 : hi < y) (h3 : lo < 18446744073709551616) (hs : s ≤ 63) : (hi * 18446744073709551616 + lo) * 2 ^ s = (hi * 2 ^ s + lo / 2 ^ (64 - s)) * 18446744073709551616 + lo * 2 ^ s % 18446744073709551616 ∧ hi * 2 ^ s + lo / 2 ^ (64 - s) < y * 2 ^ s ∧ lo / 2 ^ (64 - s) < 2 ^ s := by
  have hp : 2 ^ (64 - s) * 2 ^ s = 18446744073709551616 := by rw [← Nat.pow_add, show 64 - s + s = 64 by omega]
  have hsp : 0 < 2 ^ s := Nat.pow_pos (by decide)
  have hd : lo * 2 ^ s / 18446744073709551616 = lo / 2 ^ (64 - s) := by
    rw [← hp, Nat.mul_div_mul_right _ _ hsp]
  have hlt : lo / 2 ^ (64 - s) < 2 ^ s := by
    rw [Nat.div_lt_iff_lt_mul (Nat.pow_pos (by decide)), Nat.mul_comm, hp]; exact h3
  have hm := Nat.div_add_mod (lo * 2 ^ s) 18446744073709551616
  rw [hd] at hm
  refine ⟨?_, ?_, hlt⟩
  · rw [Nat.add_mul, Nat.mul_right_comm, Nat.add_mul]; omega
  · have : (hi + 1) * 2 ^ s ≤ y * 2 ^ s := Nat.mul_le_mul h1 (Nat.le_refl _)
    rw [Nat.add_mul, Nat.one_mul] at this
    omega
theorem len64_le {n : Nat} (h : n < 18446744073709551616) : len64 n ≤ 64 := by
  by_cases h0 : n = 0
  · subst h0; decide
  · exact (len64_b h0 h).2.1
theorem len_tab {T : ByteArray} (hT : ∀ i, i < 256 → (T.data.getD i 0).toNat = len64 i) {m : Nat} (hm : m < 256) : (T.data.getD (IntKind.u8.wrap (m : Int)).toNat 0).toNat = len64 m := by
  have : (IntKind.u8.wrap (m : Int)).toNat = m := by simp [IntKind.wrap, IntKind.signed, IntKind.bits]; omega
  rw [this]; exact hT m hm
theorem len_or (k : Nat) (n : Nat) : n < 2 ^ k ∨ len64 n = len64 (n / 2 ^ k) + k := by
  by_cases h : 2 ^ k ≤ n
  · exact .inr (len64_up h)
  · exact .inl (by omega)
theorem mul_words (a b : Nat) (ha : a < 18446744073709551616) (hb : b < 18446744073709551616) :
    ((a / 4294967296 * (b / 4294967296) % 18446744073709551616 + (a / 4294967296 * (b % 4294967296 % 18446744073709551616) % 18446744073709551616 + a % 4294967296 % 18446744073709551616 * (b % 4294967296 % 18446744073709551616) % 18446744073709551616 / 4294967296) % 18446744073709551616 / 4294967296) % 18446744073709551616 +
      ((a / 4294967296 * (b % 4294967296 % 18446744073709551616) % 18446744073709551616 + a % 4294967296 % 18446744073709551616 * (b % 4294967296 % 18446744073709551616) % 18446744073709551616 / 4294967296) % 18446744073709551616 % 4294967296 % 18446744073709551616 + a % 4294967296 % 18446744073709551616 * (b / 4294967296) % 18446744073709551616) % 18446744073709551616 / 4294967296) % 18446744073709551616 = a * b / 18446744073709551616 := by
  have h1 := Nat.div_add_mod a 4294967296
  have h2 := Nat.div_add_mod b 4294967296
  have h3 : a / 4294967296 ≤ 4294967295 := by omega
  have h4 : b / 4294967296 ≤ 4294967295 := by omega
  have h5 : a % 4294967296 ≤ 4294967295 := by omega
  have h6 : b % 4294967296 ≤ 4294967295 := by omega
  have e1 : a % 4294967296 % 18446744073709551616 = a % 4294967296 := by omega
  have e2 : b % 4294967296 % 18446744073709551616 = b % 4294967296 := by omega
  rw [e1, e2]
  generalize a / 4294967296 = a1 at *
  generalize a % 4294967296 = a0 at *
  generalize b / 4294967296 = b1 at *
  generalize b % 4294967296 = b0 at *
  have k1 := Nat.mul_le_mul h3 h4
  have k2 := Nat.mul_le_mul h3 h6
  have k3 := Nat.mul_le_mul h5 h4
  have k4 := Nat.mul_le_mul h5 h6
  have e : a * b = (a1 * b1) * 18446744073709551616 + (a1 * b0 + a0 * b1) * 4294967296 + a0 * b0 := by
    rw [← h1, ← h2]
    rw [Nat.add_mul, Nat.mul_add, Nat.mul_add]
    have q1 : 4294967296 * a1 * (4294967296 * b1) = 4294967296 * 4294967296 * (a1 * b1) := Nat.mul_mul_mul_comm _ _ _ _
    have q2 : 4294967296 * a1 * b0 = 4294967296 * (a1 * b0) := Nat.mul_assoc _ _ _
    have q3 : a0 * (4294967296 * b1) = 4294967296 * (a0 * b1) := Nat.mul_left_comm _ _ _
    rw [q1, q2, q3]
    omega
  rw [e]
  clear e h1 h2 e1 e2 h3 h4 h5 h6
  generalize a1 * b1 = p at *
  generalize a1 * b0 = q at *
  generalize a0 * b1 = r at *
  generalize a0 * b0 = s at *
  omega
end Go.Proofs

set_option linter.unusedVariables false
set_option linter.unusedSimpArgs false
namespace Go.Proofs
open Ax Go
set_option maxRecDepth 10000
def keepBt (f r : Nat) : Option (List Nat) := match f, r with
  | 308, 17 => some [2, 8, 9, 10, 11, 13, 14, 15, 16]
  | 308, 24 => some [2, 8, 9, 10, 14, 15, 16, 17, 18]
  | _, _ => none
def keepXBt (f r : Nat) : Option (List Nat) := match f, r with
  | 308, 17 => some [2, 8, 9, 10, 11, 13, 14, 15]
  | 308, 24 => some [2, 8, 14, 15, 17, 18]
  | _, _ => none
noncomputable def cxBt : Ctx where
  P := Tryz.prog
  inl := fun _ => false
  keep := keepBt
  keepX := keepXBt
  xf := fun _ _ _ => false
  ow := fun _ => false
  gh := fun _ _ => []
  gf := fun _ => []
  ln := fun _ => false
  srt := srtT
theorem okBt {f a Q} (h : stepCall (SX Tryz.prog calmT) cxBt calmT f a Q) : CallOK Tryz.prog f a Q := okOf (cx := cxBt) rfl progOK h
theorem mul64 (a b : Nat) (ha : a < 18446744073709551616) (hb : b < 18446744073709551616) : CallOK Tryz.prog 306 [.int .u64 a, .int .u64 b] (fun r => r = .tup [.int .u64 (a * b / 18446744073709551616 : Nat), .int .u64 (a * b % 18446744073709551616 : Nat)]) := by
  refine okBt ?_
  conv => whnf
  repeat ((first | with_reducible refine bT rfl ?_ | with_reducible refine bF rfl ?_ | ((first | refine sN ?_ | refine sS ?_ | refine sA ?_ | refine sM ?_ | refine sC ?_); (conv => whnf); refine bT (by first | rfl | exact iR8 _ | exact uNN _ | exact iR (by omega) | exact iR (by rw [hw]; omega) | exact nBlt (by omega) | exact nBle (by omega) | exact roomL (by omega) rfl | exact mkOK (by omega) (by omega) (by omega) rfl | (simp; omega)) ?_) | refine bDt (by omega) ?_ | refine bDf (by omega) ?_ | refine bNt (by omega) ?_ | refine bNf (by omega) ?_); conv => whnf)
  simp only [u_shr32, u_and, u_wrap, ← Int.natCast_mul, ← Int.natCast_add]
  rw [mul_words a b ha hb]
theorem len64OK (n : Nat) (h : n < 18446744073709551616) : CallOK Tryz.prog 320 [.int .u64 n] (fun r => r = .int .i64 (len64 n)) := by
  refine okBt ?_
  have e1 := len_or 32 n
  have e2 := len_or 16 n
  have e3 := len_or 16 (n / 4294967296)
  have e4 := len_or 8 n
  have e5 := len_or 8 (n / 4294967296)
  have e6 := len_or 8 (n / 65536)
  have e7 := len_or 8 (n / 4294967296 / 65536)
  have h0 := len64_le h
  simp only [Nat.reducePow] at e1 e2 e3 e4 e5 e6 e7
  conv => whnf
  repeat' ((first | with_reducible refine bT rfl ?_ | with_reducible refine bF rfl ?_ | ((first | refine sN ?_ | refine sS ?_ | refine sA ?_ | refine sM ?_ | refine sC ?_); (conv => whnf); refine bT (by first | rfl | exact iR8 _ | exact uNN _ | exact iR (by omega) | exact iR (by rw [hw]; omega) | exact nBlt (by omega) | exact nBle (by omega) | exact roomL (by omega) rfl | exact mkOK (by omega) (by omega) (by omega) rfl | (simp; omega)) ?_) | refine bDt (by omega) ?_ | refine bDf (by omega) ?_ | refine bNt (by omega) ?_ | refine bNf (by omega) ?_ | refine bD (fun _ => ?_) (fun _ => ?_) | refine bN (fun _ => ?_) (fun _ => ?_)) <;> conv => whnf)
  all_goals simp only [u_shr32, u_shr16, u_shr8] at *
  all_goals rw [len_tab (by decide +kernel) (by omega)]
  all_goals refine congrArg (AV.int IntKind.i64) ?_
  all_goals simp only [i_wrap]
  all_goals omega
theorem lead64 (n : Nat) (h : n < 18446744073709551616) : CallOK Tryz.prog 374 [.int .u64 n] (fun r => r = .int .i64 (64 - len64 n : Nat)) := by
  have h0 := len64_le h
  refine okBt ?_
  conv => whnf
  repeat' ((first | with_reducible refine bT rfl ?_ | with_reducible refine bF rfl ?_ | ((first | refine sN ?_ | refine sS ?_ | refine sA ?_ | refine sM ?_ | refine sC ?_); (conv => whnf); refine bT (by first | rfl | exact iR8 _ | exact uNN _ | exact iR (by omega) | exact iR (by rw [hw]; omega) | exact nBlt (by omega) | exact nBle (by omega) | exact roomL (by omega) rfl | exact mkOK (by omega) (by omega) (by omega) rfl | (simp; omega)) ?_) | refine bDt (by omega) ?_ | refine bDf (by omega) ?_ | refine bNt (by omega) ?_ | refine bNf (by omega) ?_ | refine call_is (len64OK n h) ?_ | refine bD (fun _ => ?_) (fun _ => ?_) | refine bN (fun _ => ?_) (fun _ => ?_)) <;> conv => whnf)
  rw [wrap64 (by omega)]
  congr 1; omega
theorem div64 (hi lo y : Nat) (h1 : hi < y) (h2 : y < 18446744073709551616) (h3 : lo < 18446744073709551616) : CallOK Tryz.prog 308 [.int .u64 hi, .int .u64 lo, .int .u64 y] (fun r => r = .tup [.int .u64 ((hi * 18446744073709551616 + lo) / y : Nat), .int .u64 ((hi * 18446744073709551616 + lo) % y : Nat)]) := by
  refine okBt ?_
  conv => whnf
  repeat ((first | with_reducible refine bT rfl ?_ | with_reducible refine bF rfl ?_ | ((first | refine sN ?_ | refine sS ?_ | refine sA ?_ | refine sM ?_ | refine sC ?_); (conv => whnf); refine bT (by first | rfl | exact iR8 _ | exact uNN _ | exact iR (by omega) | exact iR (by rw [hw]; omega) | exact nBlt (by omega) | exact nBle (by omega) | exact roomL (by omega) rfl | exact mkOK (by omega) (by omega) (by omega) rfl | (simp; omega)) ?_) | refine bDt (by omega) ?_ | refine bDf (by omega) ?_ | refine bNt (by omega) ?_ | refine bNf (by omega) ?_); conv => whnf)
  first | refine bD (fun h4 => ?_) (fun h4 => ?_) | refine bN (fun h4 => ?_) (fun h4 => ?_)
  · obtain rfl : hi = 0 := by omega
    conv => whnf
    repeat ((first | with_reducible refine bT rfl ?_ | with_reducible refine bF rfl ?_ | ((first | refine sN ?_ | refine sS ?_ | refine sA ?_ | refine sM ?_ | refine sC ?_); (conv => whnf); refine bT (by first | rfl | exact iR8 _ | exact uNN _ | exact iR (by omega) | exact iR (by rw [hw]; omega) | exact nBlt (by omega) | exact nBle (by omega) | exact roomL (by omega) rfl | exact mkOK (by omega) (by omega) (by omega) rfl | (simp; omega)) ?_) | refine bDt (by omega) ?_ | refine bDf (by omega) ?_ | refine bNt (by omega) ?_ | refine bNf (by omega) ?_); conv => whnf)
    rw [u_quo h3, Nat.zero_mul, Nat.zero_add, ← Int.ofNat_tmod]
  · conv => whnf
    repeat ((first | with_reducible refine bT rfl ?_ | with_reducible refine bF rfl ?_ | ((first | refine sN ?_ | refine sS ?_ | refine sA ?_ | refine sM ?_ | refine sC ?_); (conv => whnf); refine bT (by first | rfl | exact iR8 _ | exact uNN _ | exact iR (by omega) | exact iR (by rw [hw]; omega) | exact nBlt (by omega) | exact nBle (by omega) | exact roomL (by omega) rfl | exact mkOK (by omega) (by omega) (by omega) rfl | (simp; omega)) ?_) | refine bDt (by omega) ?_ | refine bDf (by omega) ?_ | refine bNt (by omega) ?_ | refine bNf (by omega) ?_); conv => whnf)
    refine call_is (lead64 y h2) ?_
    have hy0 : y ≠ 0 := by omega
    obtain ⟨l1, l2, l3, l4⟩ := len64_b hy0 h2
    generalize hsd : 64 - len64 y = s at *
    have hs : s ≤ 63 := by omega
    obtain ⟨n1, n2, n3⟩ := div_norm h1 h3 hs
    have e1 : IntKind.u64.wrap (s : Int) = s := u_wrap_lt (by omega)
    have e2 : IntKind.u64.wrap (64 - (s : Int)) = ((64 - s : Nat) : Int) := by rw [u_wrapI]; omega
    have e3 : hi * 2 ^ s < 18446744073709551616 := Nat.lt_of_le_of_lt (Nat.le_add_right _ _) (Nat.lt_trans n2 l4)
    have e4 := Nat.lt_trans n2 l4
    have e5 : lo / 2 ^ (64 - s) < 18446744073709551616 := Nat.lt_of_le_of_lt (Nat.div_le_self _ _) h3
    conv => whnf
    repeat ((first | with_reducible refine bT rfl ?_ | with_reducible refine bF rfl ?_ | ((first | refine sN ?_ | refine sS ?_ | refine sA ?_ | refine sM ?_ | refine sC ?_); (conv => whnf); refine bT (by first | rfl | exact iR8 _ | exact uNN _ | exact iR (by omega) | exact iR (by rw [hw]; omega) | exact nBlt (by omega) | exact nBle (by omega) | exact roomL (by omega) rfl | exact mkOK (by omega) (by omega) (by omega) rfl | (simp; omega)) ?_) | refine bDt (by omega) ?_ | refine bDf (by omega) ?_ | refine bNt (by omega) ?_ | refine bNf (by omega) ?_); conv => whnf)
    rw [e1, u_shl hs l4, u_shl hs e3, u_shlI hs, e2, u_shrI (show 64 - s ≤ 64 by omega), u_or (s := s) (Nat.mul_mod_left _ _) n3 e3 e5, u_wrap_lt e4, u_shr32, u_shr32, u_and, u_and, u_wrap_lt (n := y * 2 ^ s % 4294967296) (by omega), u_wrap_lt (n := lo * 2 ^ s % 18446744073709551616 % 4294967296) (by omega)]
    have hN := div_shift (n := hi * 18446744073709551616 + lo) (y := y) (k := 2 ^ s) (Nat.pow_pos (by decide))
    rw [n1] at hN
    rw [← hN.1, ← hN.2]
    generalize hv : y * 2 ^ s = v at *
    generalize hi * 2 ^ s + lo / 2 ^ (64 - s) = u at *
    generalize hw : lo * 2 ^ s % 18446744073709551616 = w at *
    have hw' : w < 18446744073709551616 := by omega
    clear n1 hN
    obtain ⟨v1, v0, d1, d0, gv1, gv0, gd1, gd0⟩ : ∃ v1 v0 d1 d0, v / 4294967296 = v1 ∧ v % 4294967296 = v0 ∧ w / 4294967296 = d1 ∧ w % 4294967296 = d0 := ⟨_, _, _, _, rfl, rfl, rfl, rfl⟩
    rw [gv1, gv0, gd1, gd0]
    have b1 : v1 < 4294967296 ∧ 0 < v1 ∧ v0 < 4294967296 ∧ d1 < 4294967296 ∧ d0 < 4294967296 ∧ v = v1 * 4294967296 + v0 ∧ w = d1 * 4294967296 + d0 := by omega
    obtain ⟨b1, b2, b3, hd1, hd0, b6, b7⟩ := b1
    -- from here on by mkbits
    conv => whnf
    repeat ((first | with_reducible refine bT rfl ?_ | with_reducible refine bF rfl ?_ | ((first | refine sN ?_ | refine sS ?_ | refine sA ?_ | refine sM ?_ | refine sC ?_); (conv => whnf); refine bT (by first | rfl | exact iR8 _ | exact uNN _ | exact iR (by omega) | exact iR (by rw [hw]; omega) | exact nBlt (by omega) | exact nBle (by omega) | exact roomL (by omega) rfl | exact mkOK (by omega) (by omega) (by omega) rfl | (simp; omega)) ?_) | refine bDt (by omega) ?_ | refine bDf (by omega) ?_ | refine bNt (by omega) ?_ | refine bNf (by omega) ?_); conv => whnf)
    rw [u_quo e4, u_back (show u = u / v1 * v1 + u % v1 by have := Nat.div_add_mod u v1; rw [Nat.mul_comm] at this; omega) e4]
    refine loop_mono (fun e s' => e = .exit 0 ∧ s' = ⟨[(2, .int .u64 v), (8, .int .u64 s), (9, .int .u64 v1), (10, .int .u64 v0), (11, .int .u64 u), (13, .int .u64 d1), (14, .int .u64 d0), (15, .int .u64 ((u * 4294967296 + d1) / v : Nat))], [], [], none⟩) ?_ ?_
    rotate_left
    · have hdB : d1 < BB := hd1
      have huv : u < v1 * BB + v0 := show u < v1 * 4294967296 + v0 by omega
      have hvB : v0 < BB := b3
      have hvv : v = v1 * BB + v0 := b6
      obtain ⟨x0, hx1, hx2⟩ := div_head u d1 v1 v0 b2 hdB
      rw [← hx1, ← hx2]
      refine loop_by (cx := cxBt) rfl progOK (ι := {x : DivHd u d1 v1 v0 // x.r < BB}) (fun x => x.1.q) (fun x => ⟨[(2, .int .u64 v), (8, .int .u64 s), (9, .int .u64 v1), (10, .int .u64 v0), (11, .int .u64 u), (13, .int .u64 d1), (14, .int .u64 d0), (15, .int .u64 x.1.q), (16, .int .u64 x.1.r)], [], [], none⟩) ?_ ⟨x0, show x0.r < 4294967296 by have := Nat.mod_lt u b2; omega⟩
      intro x ih
      have hr : x.1.r < 4294967296 := x.2
      have hqu : x.1.q < 18446744073709551616 := by
        have a1 := x.1.h1
        have a2 : x.1.q ≤ x.1.q * v1 := Nat.le_mul_of_pos_right _ b2
        omega
      conv => whnf
      repeat ((first | with_reducible refine bT rfl ?_ | with_reducible refine bF rfl ?_ | ((first | refine sN ?_ | refine sS ?_ | refine sA ?_ | refine sM ?_ | refine sC ?_); (conv => whnf); refine bT (by first | rfl | exact iR8 _ | exact uNN _ | exact iR (by omega) | exact iR (by rw [hw]; omega) | exact nBlt (by omega) | exact nBle (by omega) | exact roomL (by omega) rfl | exact mkOK (by omega) (by omega) (by omega) rfl | (simp; omega)) ?_) | refine bDt (by omega) ?_ | refine bDf (by omega) ?_ | refine bNt (by omega) ?_ | refine bNf (by omega) ?_); conv => whnf)
      first | refine bD (fun k1 => ?_) (fun k1 => ?_) | refine bN (fun k1 => ?_) (fun k1 => ?_)
      · obtain ⟨p1, y, hy1, hy2⟩ := div_less x.1 hdB huv (.inl (show 4294967296 ≤ x.1.q by omega))
        have w1 : IntKind.u64.wrap ((x.1.q : Int) - 1) = ((x.1.q - 1 : Nat) : Int) := by rw [u_wrapI]; omega
        have w2 : IntKind.u64.wrap ((x.1.r : Int) + (v1 : Int)) = ((x.1.r + v1 : Nat) : Int) := by rw [u_wrapI]; omega
        conv => whnf
        repeat ((first | with_reducible refine bT rfl ?_ | with_reducible refine bF rfl ?_ | ((first | refine sN ?_ | refine sS ?_ | refine sA ?_ | refine sM ?_ | refine sC ?_); (conv => whnf); refine bT (by first | rfl | exact iR8 _ | exact uNN _ | exact iR (by omega) | exact iR (by rw [hw]; omega) | exact nBlt (by omega) | exact nBle (by omega) | exact roomL (by omega) rfl | exact mkOK (by omega) (by omega) (by omega) rfl | (simp; omega)) ?_) | refine bDt (by omega) ?_ | refine bDf (by omega) ?_ | refine bNt (by omega) ?_ | refine bNf (by omega) ?_); conv => whnf)
        rw [w1, w2, ← hy1, ← hy2]
        first | refine bD (fun k2 => ?_) (fun k2 => ?_) | refine bN (fun k2 => ?_) (fun k2 => ?_)
        · have f := div_far y hvB huv (show 4294967296 ≤ y.r by omega)
          have g := div_stop y b2 f.2
          conv => whnf
          repeat ((first | with_reducible refine bT rfl ?_ | with_reducible refine bF rfl ?_ | ((first | refine sN ?_ | refine sS ?_ | refine sA ?_ | refine sM ?_ | refine sC ?_); (conv => whnf); refine bT (by first | rfl | exact iR8 _ | exact uNN _ | exact iR (by omega) | exact iR (by rw [hw]; omega) | exact nBlt (by omega) | exact nBle (by omega) | exact roomL (by omega) rfl | exact mkOK (by omega) (by omega) (by omega) rfl | (simp; omega)) ?_) | refine bDt (by omega) ?_ | refine bDf (by omega) ?_ | refine bNt (by omega) ?_ | refine bNf (by omega) ?_); conv => whnf)
          exact ⟨rfl, by rw [g, hvv]; rfl⟩
        · conv => whnf
          repeat ((first | with_reducible refine bT rfl ?_ | with_reducible refine bF rfl ?_ | ((first | refine sN ?_ | refine sS ?_ | refine sA ?_ | refine sM ?_ | refine sC ?_); (conv => whnf); refine bT (by first | rfl | exact iR8 _ | exact uNN _ | exact iR (by omega) | exact iR (by rw [hw]; omega) | exact nBlt (by omega) | exact nBle (by omega) | exact roomL (by omega) rfl | exact mkOK (by omega) (by omega) (by omega) rfl | (simp; omega)) ?_) | refine bDt (by omega) ?_ | refine bDf (by omega) ?_ | refine bNt (by omega) ?_ | refine bNf (by omega) ?_); conv => whnf)
          exact loop_to ih ⟨y, show y.r < 4294967296 by omega⟩ (show y.q < x.1.q by omega) rfl
      · have k1 : x.1.q < 4294967296 := by omega
        have m1 := Nat.mul_le_mul (show x.1.q ≤ 4294967295 by omega) (show v0 ≤ 4294967295 by omega)
        have w3 : IntKind.u64.wrap ((x.1.q : Int) * (v0 : Int)) = ((x.1.q * v0 : Nat) : Int) := by rw [← Int.natCast_mul, u_wrap_lt (by omega)]
        have w4 : IntKind.u64.wrap (IntKind.u64.wrap (4294967296 * (x.1.r : Int)) + (d1 : Int)) = ((4294967296 * x.1.r + d1 : Nat) : Int) := by rw [u_wrapI, u_wrapI]; omega
        conv => whnf
        repeat ((first | with_reducible refine bT rfl ?_ | with_reducible refine bF rfl ?_ | ((first | refine sN ?_ | refine sS ?_ | refine sA ?_ | refine sM ?_ | refine sC ?_); (conv => whnf); refine bT (by first | rfl | exact iR8 _ | exact uNN _ | exact iR (by omega) | exact iR (by rw [hw]; omega) | exact nBlt (by omega) | exact nBle (by omega) | exact roomL (by omega) rfl | exact mkOK (by omega) (by omega) (by omega) rfl | (simp; omega)) ?_) | refine bDt (by omega) ?_ | refine bDf (by omega) ?_ | refine bNt (by omega) ?_ | refine bNf (by omega) ?_); conv => whnf)
        rw [w3, w4]
        first | refine bD (fun k3 => ?_) (fun k3 => ?_) | refine bN (fun k3 => ?_) (fun k3 => ?_)
        · have k3 : 4294967296 * x.1.r + d1 < x.1.q * v0 := by exact_mod_cast k3
          obtain ⟨p1, y, hy1, hy2⟩ := div_less x.1 hdB huv (.inr k3)
          have w1 : IntKind.u64.wrap ((x.1.q : Int) - 1) = ((x.1.q - 1 : Nat) : Int) := by rw [u_wrapI]; omega
          have w2 : IntKind.u64.wrap ((x.1.r : Int) + (v1 : Int)) = ((x.1.r + v1 : Nat) : Int) := by rw [u_wrapI]; omega
          conv => whnf
          repeat ((first | with_reducible refine bT rfl ?_ | with_reducible refine bF rfl ?_ | ((first | refine sN ?_ | refine sS ?_ | refine sA ?_ | refine sM ?_ | refine sC ?_); (conv => whnf); refine bT (by first | rfl | exact iR8 _ | exact uNN _ | exact iR (by omega) | exact iR (by rw [hw]; omega) | exact nBlt (by omega) | exact nBle (by omega) | exact roomL (by omega) rfl | exact mkOK (by omega) (by omega) (by omega) rfl | (simp; omega)) ?_) | refine bDt (by omega) ?_ | refine bDf (by omega) ?_ | refine bNt (by omega) ?_ | refine bNf (by omega) ?_); conv => whnf)
          rw [w1, w2, ← hy1, ← hy2]
          first | refine bD (fun k2 => ?_) (fun k2 => ?_) | refine bN (fun k2 => ?_) (fun k2 => ?_)
          · have f := div_far y hvB huv (show 4294967296 ≤ y.r by omega)
            have g := div_stop y b2 f.2
            conv => whnf
            repeat ((first | with_reducible refine bT rfl ?_ | with_reducible refine bF rfl ?_ | ((first | refine sN ?_ | refine sS ?_ | refine sA ?_ | refine sM ?_ | refine sC ?_); (conv => whnf); refine bT (by first | rfl | exact iR8 _ | exact uNN _ | exact iR (by omega) | exact iR (by rw [hw]; omega) | exact nBlt (by omega) | exact nBle (by omega) | exact roomL (by omega) rfl | exact mkOK (by omega) (by omega) (by omega) rfl | (simp; omega)) ?_) | refine bDt (by omega) ?_ | refine bDf (by omega) ?_ | refine bNt (by omega) ?_ | refine bNf (by omega) ?_); conv => whnf)
            exact ⟨rfl, by rw [g, hvv]; rfl⟩
          · conv => whnf
            repeat ((first | with_reducible refine bT rfl ?_ | with_reducible refine bF rfl ?_ | ((first | refine sN ?_ | refine sS ?_ | refine sA ?_ | refine sM ?_ | refine sC ?_); (conv => whnf); refine bT (by first | rfl | exact iR8 _ | exact uNN _ | exact iR (by omega) | exact iR (by rw [hw]; omega) | exact nBlt (by omega) | exact nBle (by omega) | exact roomL (by omega) rfl | exact mkOK (by omega) (by omega) (by omega) rfl | (simp; omega)) ?_) | refine bDt (by omega) ?_ | refine bDf (by omega) ?_ | refine bNt (by omega) ?_ | refine bNf (by omega) ?_); conv => whnf)
            exact loop_to ih ⟨y, show y.r < 4294967296 by omega⟩ (show y.q < x.1.q by omega) rfl
        · have k3 : x.1.q * v0 ≤ 4294967296 * x.1.r + d1 := by
            have k3 : ¬ ((4294967296 * x.1.r + d1 : Nat) : Int) < ((x.1.q * v0 : Nat) : Int) := k3
            omega
          have g := div_stop x.1 b2 k3
          conv => whnf
          repeat ((first | with_reducible refine bT rfl ?_ | with_reducible refine bF rfl ?_ | ((first | refine sN ?_ | refine sS ?_ | refine sA ?_ | refine sM ?_ | refine sC ?_); (conv => whnf); refine bT (by first | rfl | exact iR8 _ | exact uNN _ | exact iR (by omega) | exact iR (by rw [hw]; omega) | exact nBlt (by omega) | exact nBle (by omega) | exact roomL (by omega) rfl | exact mkOK (by omega) (by omega) (by omega) rfl | (simp; omega)) ?_) | refine bDt (by omega) ?_ | refine bDf (by omega) ?_ | refine bNt (by omega) ?_ | refine bNf (by omega) ?_); conv => whnf)
          exact ⟨rfl, by rw [g, hvv]; rfl⟩
    rintro e s' ⟨rfl, rfl⟩
    have hpos : 0 < v := by omega
    have hm := Nat.div_add_mod (u * 4294967296 + d1) v
    rw [Nat.mul_comm] at hm
    have hml := Nat.mod_lt (u * 4294967296 + d1) hpos
    have hdd := div_two (u := u) (d1 := d1) (d0 := d0) hpos
    obtain ⟨q1, hq1⟩ : ∃ q1, q1 = (u * 4294967296 + d1) / v := ⟨_, rfl⟩
    obtain ⟨u1, hu1⟩ : ∃ u1, u1 = (u * 4294967296 + d1) % v := ⟨_, rfl⟩
    rw [← hq1]
    rw [← hq1, ← hu1] at hm
    rw [← hu1] at hml
    have hdd1 : (u * 18446744073709551616 + w) / v = q1 * 4294967296 + (u1 * 4294967296 + d0) / v ∧ (u * 18446744073709551616 + w) % v = (u1 * 4294967296 + d0) % v := by
      rw [hq1, hu1, b7, ← Nat.add_assoc]; exact hdd
    rw [hdd1.1, hdd1.2]
    have e6 : u1 < 18446744073709551616 := by omega
    conv => whnf
    repeat ((first | with_reducible refine bT rfl ?_ | with_reducible refine bF rfl ?_ | ((first | refine sN ?_ | refine sS ?_ | refine sA ?_ | refine sM ?_ | refine sC ?_); (conv => whnf); refine bT (by first | rfl | exact iR8 _ | exact uNN _ | exact iR (by omega) | exact iR (by rw [hw]; omega) | exact nBlt (by omega) | exact nBle (by omega) | exact roomL (by omega) rfl | exact mkOK (by omega) (by omega) (by omega) rfl | (simp; omega)) ?_) | refine bDt (by omega) ?_ | refine bDf (by omega) ?_ | refine bNt (by omega) ?_ | refine bNf (by omega) ?_); conv => whnf)
    rw [u_mod3 (show u * 4294967296 + d1 = q1 * v + u1 by omega) e6]
    conv => whnf
    repeat ((first | with_reducible refine bT rfl ?_ | with_reducible refine bF rfl ?_ | ((first | refine sN ?_ | refine sS ?_ | refine sA ?_ | refine sM ?_ | refine sC ?_); (conv => whnf); refine bT (by first | rfl | exact iR8 _ | exact uNN _ | exact iR (by omega) | exact iR (by rw [hw]; omega) | exact nBlt (by omega) | exact nBle (by omega) | exact roomL (by omega) rfl | exact mkOK (by omega) (by omega) (by omega) rfl | (simp; omega)) ?_) | refine bDt (by omega) ?_ | refine bDf (by omega) ?_ | refine bNt (by omega) ?_ | refine bNf (by omega) ?_); conv => whnf)
    rw [u_quo e6, u_back (show u1 = u1 / v1 * v1 + u1 % v1 by have := Nat.div_add_mod u1 v1; rw [Nat.mul_comm] at this; omega) e6]
    refine loop_mono (fun e s' => e = .exit 2 ∧ s' = ⟨[(2, .int .u64 v), (8, .int .u64 s), (14, .int .u64 d0), (15, .int .u64 q1), (17, .int .u64 u1), (18, .int .u64 ((u1 * 4294967296 + d0) / v : Nat))], [], [], none⟩) ?_ ?_
    rotate_left
    · have hdB : d0 < BB := hd0
      have huv : u1 < v1 * BB + v0 := show u1 < v1 * 4294967296 + v0 by omega
      have hvB : v0 < BB := b3
      have hvv : v = v1 * BB + v0 := b6
      obtain ⟨x0, hx1, hx2⟩ := div_head u1 d0 v1 v0 b2 hdB
      rw [← hx1, ← hx2]
      refine loop_by (cx := cxBt) rfl progOK (ι := {x : DivHd u1 d0 v1 v0 // x.r < BB}) (fun x => x.1.q) (fun x => ⟨[(2, .int .u64 v), (8, .int .u64 s), (9, .int .u64 v1), (10, .int .u64 v0), (14, .int .u64 d0), (15, .int .u64 q1), (16, .int .u64 x.1.r), (17, .int .u64 u1), (18, .int .u64 x.1.q)], [], [], none⟩) ?_ ⟨x0, show x0.r < 4294967296 by have := Nat.mod_lt u1 b2; omega⟩
      intro x ih
      have hr : x.1.r < 4294967296 := x.2
      have hqu : x.1.q < 18446744073709551616 := by
        have a1 := x.1.h1
        have a2 : x.1.q ≤ x.1.q * v1 := Nat.le_mul_of_pos_right _ b2
        omega
      conv => whnf
      repeat ((first | with_reducible refine bT rfl ?_ | with_reducible refine bF rfl ?_ | ((first | refine sN ?_ | refine sS ?_ | refine sA ?_ | refine sM ?_ | refine sC ?_); (conv => whnf); refine bT (by first | rfl | exact iR8 _ | exact uNN _ | exact iR (by omega) | exact iR (by rw [hw]; omega) | exact nBlt (by omega) | exact nBle (by omega) | exact roomL (by omega) rfl | exact mkOK (by omega) (by omega) (by omega) rfl | (simp; omega)) ?_) | refine bDt (by omega) ?_ | refine bDf (by omega) ?_ | refine bNt (by omega) ?_ | refine bNf (by omega) ?_); conv => whnf)
      first | refine bD (fun k1 => ?_) (fun k1 => ?_) | refine bN (fun k1 => ?_) (fun k1 => ?_)
      · obtain ⟨p1, y, hy1, hy2⟩ := div_less x.1 hdB huv (.inl (show 4294967296 ≤ x.1.q by omega))
        have w1 : IntKind.u64.wrap ((x.1.q : Int) - 1) = ((x.1.q - 1 : Nat) : Int) := by rw [u_wrapI]; omega
        have w2 : IntKind.u64.wrap ((x.1.r : Int) + (v1 : Int)) = ((x.1.r + v1 : Nat) : Int) := by rw [u_wrapI]; omega
        conv => whnf
        repeat ((first | with_reducible refine bT rfl ?_ | with_reducible refine bF rfl ?_ | ((first | refine sN ?_ | refine sS ?_ | refine sA ?_ | refine sM ?_ | refine sC ?_); (conv => whnf); refine bT (by first | rfl | exact iR8 _ | exact uNN _ | exact iR (by omega) | exact iR (by rw [hw]; omega) | exact nBlt (by omega) | exact nBle (by omega) | exact roomL (by omega) rfl | exact mkOK (by omega) (by omega) (by omega) rfl | (simp; omega)) ?_) | refine bDt (by omega) ?_ | refine bDf (by omega) ?_ | refine bNt (by omega) ?_ | refine bNf (by omega) ?_); conv => whnf)
        rw [w1, w2, ← hy1, ← hy2]
        first | refine bD (fun k2 => ?_) (fun k2 => ?_) | refine bN (fun k2 => ?_) (fun k2 => ?_)
        · have f := div_far y hvB huv (show 4294967296 ≤ y.r by omega)
          have g := div_stop y b2 f.2
          conv => whnf
          repeat ((first | with_reducible refine bT rfl ?_ | with_reducible refine bF rfl ?_ | ((first | refine sN ?_ | refine sS ?_ | refine sA ?_ | refine sM ?_ | refine sC ?_); (conv => whnf); refine bT (by first | rfl | exact iR8 _ | exact uNN _ | exact iR (by omega) | exact iR (by rw [hw]; omega) | exact nBlt (by omega) | exact nBle (by omega) | exact roomL (by omega) rfl | exact mkOK (by omega) (by omega) (by omega) rfl | (simp; omega)) ?_) | refine bDt (by omega) ?_ | refine bDf (by omega) ?_ | refine bNt (by omega) ?_ | refine bNf (by omega) ?_); conv => whnf)
          exact ⟨rfl, by rw [g, hvv]; rfl⟩
        · conv => whnf
          repeat ((first | with_reducible refine bT rfl ?_ | with_reducible refine bF rfl ?_ | ((first | refine sN ?_ | refine sS ?_ | refine sA ?_ | refine sM ?_ | refine sC ?_); (conv => whnf); refine bT (by first | rfl | exact iR8 _ | exact uNN _ | exact iR (by omega) | exact iR (by rw [hw]; omega) | exact nBlt (by omega) | exact nBle (by omega) | exact roomL (by omega) rfl | exact mkOK (by omega) (by omega) (by omega) rfl | (simp; omega)) ?_) | refine bDt (by omega) ?_ | refine bDf (by omega) ?_ | refine bNt (by omega) ?_ | refine bNf (by omega) ?_); conv => whnf)
          exact loop_to ih ⟨y, show y.r < 4294967296 by omega⟩ (show y.q < x.1.q by omega) rfl
      · have k1 : x.1.q < 4294967296 := by omega
        have m1 := Nat.mul_le_mul (show x.1.q ≤ 4294967295 by omega) (show v0 ≤ 4294967295 by omega)
        have w3 : IntKind.u64.wrap ((x.1.q : Int) * (v0 : Int)) = ((x.1.q * v0 : Nat) : Int) := by rw [← Int.natCast_mul, u_wrap_lt (by omega)]
        have w4 : IntKind.u64.wrap (IntKind.u64.wrap (4294967296 * (x.1.r : Int)) + (d0 : Int)) = ((4294967296 * x.1.r + d0 : Nat) : Int) := by rw [u_wrapI, u_wrapI]; omega
        conv => whnf
        repeat ((first | with_reducible refine bT rfl ?_ | with_reducible refine bF rfl ?_ | ((first | refine sN ?_ | refine sS ?_ | refine sA ?_ | refine sM ?_ | refine sC ?_); (conv => whnf); refine bT (by first | rfl | exact iR8 _ | exact uNN _ | exact iR (by omega) | exact iR (by rw [hw]; omega) | exact nBlt (by omega) | exact nBle (by omega) | exact roomL (by omega) rfl | exact mkOK (by omega) (by omega) (by omega) rfl | (simp; omega)) ?_) | refine bDt (by omega) ?_ | refine bDf (by omega) ?_ | refine bNt (by omega) ?_ | refine bNf (by omega) ?_); conv => whnf)
        rw [w3, w4]
        first | refine bD (fun k3 => ?_) (fun k3 => ?_) | refine bN (fun k3 => ?_) (fun k3 => ?_)
        · have k3 : 4294967296 * x.1.r + d0 < x.1.q * v0 := by exact_mod_cast k3
          obtain ⟨p1, y, hy1, hy2⟩ := div_less x.1 hdB huv (.inr k3)
          have w1 : IntKind.u64.wrap ((x.1.q : Int) - 1) = ((x.1.q - 1 : Nat) : Int) := by rw [u_wrapI]; omega
          have w2 : IntKind.u64.wrap ((x.1.r : Int) + (v1 : Int)) = ((x.1.r + v1 : Nat) : Int) := by rw [u_wrapI]; omega
          conv => whnf
          repeat ((first | with_reducible refine bT rfl ?_ | with_reducible refine bF rfl ?_ | ((first | refine sN ?_ | refine sS ?_ | refine sA ?_ | refine sM ?_ | refine sC ?_); (conv => whnf); refine bT (by first | rfl | exact iR8 _ | exact uNN _ | exact iR (by omega) | exact iR (by rw [hw]; omega) | exact nBlt (by omega) | exact nBle (by omega) | exact roomL (by omega) rfl | exact mkOK (by omega) (by omega) (by omega) rfl | (simp; omega)) ?_) | refine bDt (by omega) ?_ | refine bDf (by omega) ?_ | refine bNt (by omega) ?_ | refine bNf (by omega) ?_); conv => whnf)
          rw [w1, w2, ← hy1, ← hy2]
          first | refine bD (fun k2 => ?_) (fun k2 => ?_) | refine bN (fun k2 => ?_) (fun k2 => ?_)
          · have f := div_far y hvB huv (show 4294967296 ≤ y.r by omega)
            have g := div_stop y b2 f.2
            conv => whnf
            repeat ((first | with_reducible refine bT rfl ?_ | with_reducible refine bF rfl ?_ | ((first | refine sN ?_ | refine sS ?_ | refine sA ?_ | refine sM ?_ | refine sC ?_); (conv => whnf); refine bT (by first | rfl | exact iR8 _ | exact uNN _ | exact iR (by omega) | exact iR (by rw [hw]; omega) | exact nBlt (by omega) | exact nBle (by omega) | exact roomL (by omega) rfl | exact mkOK (by omega) (by omega) (by omega) rfl | (simp; omega)) ?_) | refine bDt (by omega) ?_ | refine bDf (by omega) ?_ | refine bNt (by omega) ?_ | refine bNf (by omega) ?_); conv => whnf)
            exact ⟨rfl, by rw [g, hvv]; rfl⟩
          · conv => whnf
            repeat ((first | with_reducible refine bT rfl ?_ | with_reducible refine bF rfl ?_ | ((first | refine sN ?_ | refine sS ?_ | refine sA ?_ | refine sM ?_ | refine sC ?_); (conv => whnf); refine bT (by first | rfl | exact iR8 _ | exact uNN _ | exact iR (by omega) | exact iR (by rw [hw]; omega) | exact nBlt (by omega) | exact nBle (by omega) | exact roomL (by omega) rfl | exact mkOK (by omega) (by omega) (by omega) rfl | (simp; omega)) ?_) | refine bDt (by omega) ?_ | refine bDf (by omega) ?_ | refine bNt (by omega) ?_ | refine bNf (by omega) ?_); conv => whnf)
            exact loop_to ih ⟨y, show y.r < 4294967296 by omega⟩ (show y.q < x.1.q by omega) rfl
        · have k3 : x.1.q * v0 ≤ 4294967296 * x.1.r + d0 := by
            have k3 : ¬ ((4294967296 * x.1.r + d0 : Nat) : Int) < ((x.1.q * v0 : Nat) : Int) := k3
            omega
          have g := div_stop x.1 b2 k3
          conv => whnf
          repeat ((first | with_reducible refine bT rfl ?_ | with_reducible refine bF rfl ?_ | ((first | refine sN ?_ | refine sS ?_ | refine sA ?_ | refine sM ?_ | refine sC ?_); (conv => whnf); refine bT (by first | rfl | exact iR8 _ | exact uNN _ | exact iR (by omega) | exact iR (by rw [hw]; omega) | exact nBlt (by omega) | exact nBle (by omega) | exact roomL (by omega) rfl | exact mkOK (by omega) (by omega) (by omega) rfl | (simp; omega)) ?_) | refine bDt (by omega) ?_ | refine bDf (by omega) ?_ | refine bNt (by omega) ?_ | refine bNf (by omega) ?_); conv => whnf)
          exact ⟨rfl, by rw [g, hvv]; rfl⟩
    rintro e s' ⟨rfl, rfl⟩
    have c1 : q1 < 4294967296 := by
      have := div_lt (u := u) (d := d1) (v1 := v1) (v0 := v0) hd1 (show u < v1 * 4294967296 + v0 by omega)
      rw [hq1, b6]; exact this
    have c2 : (u1 * 4294967296 + d0) / v < 4294967296 := by
      have := div_lt (u := u1) (d := d0) (v1 := v1) (v0 := v0) hd0 (show u1 < v1 * 4294967296 + v0 by omega)
      rw [b6]; exact this
    have hm0 := Nat.div_add_mod (u1 * 4294967296 + d0) v
    rw [Nat.mul_comm] at hm0
    have hml0 := Nat.mod_lt (u1 * 4294967296 + d0) hpos
    obtain ⟨q0, hq0⟩ : ∃ q0, q0 = (u1 * 4294967296 + d0) / v := ⟨_, rfl⟩
    obtain ⟨r0, hr0⟩ : ∃ r0, r0 = (u1 * 4294967296 + d0) % v := ⟨_, rfl⟩
    rw [← hq0] at c2 hm0 ⊢
    rw [← hr0] at hm0 hml0 ⊢
    conv => whnf
    repeat ((first | with_reducible refine bT rfl ?_ | with_reducible refine bF rfl ?_ | ((first | refine sN ?_ | refine sS ?_ | refine sA ?_ | refine sM ?_ | refine sC ?_); (conv => whnf); refine bT (by first | rfl | exact iR8 _ | exact uNN _ | exact iR (by omega) | exact iR (by rw [hw]; omega) | exact nBlt (by omega) | exact nBle (by omega) | exact roomL (by omega) rfl | exact mkOK (by omega) (by omega) (by omega) rfl | (simp; omega)) ?_) | refine bDt (by omega) ?_ | refine bDf (by omega) ?_ | refine bNt (by omega) ?_ | refine bNf (by omega) ?_); conv => whnf)
    have c3 : IntKind.u64.wrap (IntKind.u64.wrap ((q1 : Int) * 4294967296) + q0) = ((q1 * 4294967296 + q0 : Nat) : Int) := by rw [u_wrapI, u_wrapI]; omega
    rw [c3, u_mod3 (show u1 * 4294967296 + d0 = q0 * v + r0 by omega) (by omega), u_shrI (by omega)]
end Go.Proofs


/- Money: what sums and products are. Numbers alone. -/
namespace Go.Proofs
def fitP (n : Int) : Prop := -1152921504606846976 ≤ n ∧ n ≤ 1152921504606846976
instance (n : Int) : Decidable (fitP n) := inferInstanceAs (Decidable (_ ∧ _))
theorem fitP_b {n : Int} (h : fitP n) : -1152921504606846976 ≤ n ∧ n ≤ 1152921504606846976 := h
def fitE (s : Int) : Int × Int := if fitP s then (s, 0) else (0, 3)
def addE (a b : Int) : Int × Int := if fitP a ∧ fitP b then fitE (a + b) else (0, 2)
def sumE (l : List Int) : Int × Int := if ∀ x ∈ l, fitP x then fitE l.sum else (0, 2)
def mulE (a b : Int) : Int × Int := if fitP a ∧ fitP b then fitE (a * b) else (0, 2)
def awayP (mode : Int) (below : Bool) (q r c : Nat) : Bool :=
  if mode = 2 then true else if mode = 3 then below else if mode = 4 then !below else if mode = 5 then decide (c < 2 * r) || decide (2 * r = c) && decide (q % 2 = 1) else false
def belowP (a b c : Int) : Bool := (decide (a < 0) != decide (b < 0)) != decide (c < 0)
def quotP (a b c mode : Int) : Nat :=
  if 0 < a.natAbs * b.natAbs % c.natAbs ∧ awayP mode (belowP a b c) (a.natAbs * b.natAbs / c.natAbs) (a.natAbs * b.natAbs % c.natAbs) c.natAbs = true then a.natAbs * b.natAbs / c.natAbs + 1 else a.natAbs * b.natAbs / c.natAbs
def sgnP (below : Bool) (q : Nat) : Int × Int := if 1152921504606846976 < q then (0, 3) else (bif below then -(q : Int) else q, 0)
def mdE (a b c mode : Int) : Int × Int :=
  if ¬ (fitP a ∧ fitP b ∧ fitP c ∧ 1 ≤ mode ∧ mode ≤ 5) then (0, 2) else if c = 0 then (0, 4) else sgnP (belowP a b c) (quotP a b c mode)
/-- A sum in two parts, by 2 to the 32nd. -/
def hi32 (l : List Int) : Int := (l.map (· / 4294967296)).sum
def lo32 (l : List Int) : Int := (l.map (· % 4294967296)).sum
theorem parts32 (l : List Int) : l.sum = hi32 l * 4294967296 + lo32 l := by
  induction l with
  | nil => rfl
  | cons x r ih => simp only [hi32, lo32, List.map_cons, List.sum_cons] at *; omega
theorem sum_b {α : Type} {f : α → Int} {a b : Int} : ∀ {l : List α}, (∀ x ∈ l, a ≤ f x ∧ f x ≤ b) → a * l.length ≤ (l.map f).sum ∧ (l.map f).sum ≤ b * l.length
  | [], _ => by simp
  | x :: r, h => by
    have h1 := sum_b (l := r) fun y hy => h y (List.mem_cons_of_mem _ hy)
    have h2 := h x List.mem_cons_self
    have e : ∀ k : Int, k * ((x :: r).length : Int) = k * r.length + k := fun k => by rw [List.length_cons, Int.natCast_add, Int.mul_add]; simp
    rw [e, e, List.map_cons, List.sum_cons]
    omega
theorem hi32_b {l : List Int} (h : ∀ x ∈ l, fitP x) : -268435456 * (l.length : Int) ≤ hi32 l ∧ hi32 l ≤ 268435456 * l.length := sum_b fun x hx => by have := fitP_b (h x hx); omega
theorem lo32_b (l : List Int) : 0 * (l.length : Int) ≤ lo32 l ∧ lo32 l ≤ 4294967295 * l.length := sum_b fun x _ => by omega
theorem hi32_app (l : List Int) (x : Int) : hi32 (l ++ [x]) = hi32 l + x / 4294967296 := by simp [hi32]
theorem lo32_app (l : List Int) (x : Int) : lo32 (l ++ [x]) = lo32 l + x % 4294967296 := by simp [lo32]
theorem tparts (z : Int) : z.tdiv 1073741824 * 1073741824 + z.tmod 1073741824 = z ∧ -1073741824 < z.tmod 1073741824 ∧ z.tmod 1073741824 < 1073741824 := by
  by_cases h : z < 0
  · have e : z = -(-z) := by omega
    have h' : 0 ≤ -z := by omega
    rw [e, Int.neg_tdiv, Int.neg_tmod, Int.tdiv_eq_ediv_of_nonneg h', Int.tmod_eq_emod_of_nonneg h']
    omega
  · have h' : 0 ≤ z := by omega
    rw [Int.tdiv_eq_ediv_of_nonneg h', Int.tmod_eq_emod_of_nonneg h']
    omega
def hi30 (l : List Int) : Int := (l.map (·.tdiv 1073741824)).sum
def lo30 (l : List Int) : Int := (l.map (·.tmod 1073741824)).sum
theorem parts30 (l : List Int) : l.sum = hi30 l * 1073741824 + lo30 l := by
  induction l with
  | nil => rfl
  | cons x r ih => have := (tparts x).1; simp only [hi30, lo30, List.map_cons, List.sum_cons] at *; omega
theorem hi30_b {l : List Int} (h : ∀ x ∈ l, fitP x) : -1073741824 * (l.length : Int) ≤ hi30 l ∧ hi30 l ≤ 1073741824 * l.length := sum_b fun x hx => by have := fitP_b (h x hx); have := tparts x; omega
theorem lo30_b (l : List Int) : -1073741823 * (l.length : Int) ≤ lo30 l ∧ lo30 l ≤ 1073741823 * l.length := sum_b fun x _ => by have := tparts x; omega
theorem hi30_app (l : List Int) (x : Int) : hi30 (l ++ [x]) = hi30 l + x.tdiv 1073741824 := by simp [hi30]
theorem lo30_app (l : List Int) (x : Int) : lo30 (l ++ [x]) = lo30 l + x.tmod 1073741824 := by simp [lo30]
theorem mask32 (x : Int) : Go.IntKind.i64.wrap ((BitVec.ofInt 64 x &&& BitVec.ofInt 64 4294967295).toNat : Int) = x % 4294967296 := by
  have e : (BitVec.ofInt 64 x &&& BitVec.ofInt 64 4294967295).toNat = (x % 18446744073709551616).toNat % 4294967296 := by
    rw [BitVec.toNat_and, BitVec.toNat_ofInt, BitVec.toNat_ofInt]
    exact Nat.and_two_pow_sub_one_eq_mod _ 32
  rw [e]
  have h : 0 ≤ x % 18446744073709551616 := Int.emod_nonneg _ (by decide)
  simp [Go.IntKind.wrap, Go.IntKind.signed, Go.IntKind.bits]
  omega
theorem shr32 (x : Int) : x.fdiv (2 ^ min (Int.toNat 32) Go.IntKind.i64.bits) = x / 4294967296 := Int.fdiv_eq_ediv_of_nonneg x (by decide)
/-- One bit of a quotient more. -/
theorem quot_step {A b c Q r bit : Nat} (hc : 0 < c) (hQ : A * b = Q * c + r) : (2 * A + bit) * b = (2 * Q + (2 * r + bit * b) / c) * c + (2 * r + bit * b) % c := by
  have h := Nat.div_add_mod (2 * r + bit * b) c
  rw [Nat.mul_comm c] at h
  rw [Nat.add_mul, Nat.mul_assoc, hQ, Nat.add_mul, Nat.mul_assoc]
  omega
theorem quot_next (a b j : Nat) {c : Nat} (hc : 0 < c) : a / 2 ^ j * b / c = 2 * (a / 2 ^ (j + 1) * b / c) + (2 * (a / 2 ^ (j + 1) * b % c) + a / 2 ^ j % 2 * b) / c ∧ a / 2 ^ j * b % c = (2 * (a / 2 ^ (j + 1) * b % c) + a / 2 ^ j % 2 * b) % c := by
  have h1 : a / 2 ^ (j + 1) = a / 2 ^ j / 2 := by rw [Nat.pow_succ, Nat.div_div_eq_div_mul]
  have h2 := Nat.div_add_mod (a / 2 ^ j) 2
  have h3 := Nat.div_add_mod (a / 2 ^ (j + 1) * b) c
  have h4 := quot_step (A := a / 2 ^ (j + 1)) (b := b) (bit := a / 2 ^ j % 2) hc (by rw [Nat.mul_comm (_ / c)]; exact h3.symm)
  rw [h1, h2] at h4
  rw [h1]
  have hr := Nat.mod_lt (2 * (a / 2 ^ j / 2 * b % c) + a / 2 ^ j % 2 * b) hc
  have h5 := (Nat.div_mod_unique hc (a := a / 2 ^ j * b) (c := (2 * (a / 2 ^ j / 2 * b % c) + a / 2 ^ j % 2 * b) % c) (d := 2 * (a / 2 ^ j / 2 * b / c) + (2 * (a / 2 ^ j / 2 * b % c) + a / 2 ^ j % 2 * b) / c)).2 ⟨by rw [h4, Nat.mul_comm c, Nat.add_comm], hr⟩
  exact h5
end Go.Proofs
