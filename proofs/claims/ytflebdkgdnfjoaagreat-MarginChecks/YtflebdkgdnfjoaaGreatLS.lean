import Derived.Test.YtflebdkgdnfjoaaGreatMR
import Derived.Lib.Strings
import Derived.Test.YtflebdkgdnfjoaaGreatLO
import GoSem.Dispatch
set_option linter.unusedVariables false
set_option linter.unusedSimpArgs false
namespace Go.Proofs
open Ax Go
theorem bless : ∀ (x y : List UInt8), Op.bytesLess x y = decide (x < y)
  | [], [] => by simp [Op.bytesLess]
  | _ :: _, [] => by simp [Op.bytesLess]
  | [], _ :: _ => by simp [Op.bytesLess]
  | a :: x, b :: y => by
    rw [Op.bytesLess, bless x y]
    simp only [List.cons_lt_cons_iff]
    by_cases h1 : a < b <;> by_cases h2 : a = b <;> by_cases h3 : x < y <;> simp [h1, h2, h3]
theorem strLt_iff {x y : ByteArray} : strLt x y = true ↔ x.data.toList < y.data.toList := by
  unfold strLt; rw [bless, Lib.toList_data, Lib.toList_data, decide_eq_true_eq]
theorem data_inj {x y : ByteArray} (h : x.data.toList = y.data.toList) : x = y := by
  cases x; cases y; congr; exact Array.toList_inj.1 h
theorem strLt_irr (x : ByteArray) : strLt x x = false := by
  rw [Bool.eq_false_iff, ne_eq, strLt_iff]; exact List.lt_irrefl _
theorem strLt_tr {x y z : ByteArray} (h1 : strLt x y = true) (h2 : strLt y z = true) : strLt x z = true := by
  rw [strLt_iff] at *; exact List.lt_trans h1 h2
theorem strLt_tri {x y : ByteArray} (h1 : strLt x y = false) (h2 : x ≠ y) : strLt y x = true := by
  cases h3 : strLt y x with
  | true => rfl
  | false =>
    rw [Bool.eq_false_iff, ne_eq, strLt_iff, List.not_lt] at h1 h3
    exact absurd (data_inj (List.le_antisymm h3 h1)) h2
def cmpS (x y : ByteArray) : Int := if strLt x y = true then -1 else if x = y then 0 else 1
def cmpI (a b : Int) : Int := if a < b then -1 else if b < a then 1 else 0
end Go.Proofs


namespace Go.Proofs
end Go.Proofs

namespace Go.Proofs
open Go
theorem u_wrapI (x : Int) : IntKind.u64.wrap x = x % 18446744073709551616 := by simp [IntKind.wrap, IntKind.signed, IntKind.bits]
end Go.Proofs

namespace Go.Proofs
open Ax Go
set_option maxRecDepth 10000
end Go.Proofs

namespace Go.Proofs
def fitP (n : Int) : Prop := -1152921504606846976 ≤ n ∧ n ≤ 1152921504606846976
instance (n : Int) : Decidable (fitP n) := inferInstanceAs (Decidable (_ ∧ _))
theorem fitP_b {n : Int} (h : fitP n) : -1152921504606846976 ≤ n ∧ n ≤ 1152921504606846976 := h
def fitE (s : Int) : Int × Int := if fitP s then (s, 0) else (0, 3)
def addE (a b : Int) : Int × Int := if fitP a ∧ fitP b then fitE (a + b) else (0, 2)
def sgnP (below : Bool) (q : Nat) : Int × Int := if 1152921504606846976 < q then (0, 3) else (bif below then -(q : Int) else q, 0)
end Go.Proofs
