import Derived.Test.YtflebdkgdnfjoaaGreatML
import Derived.Test.YtflebdkgdnfjoaaGreatProg
set_option linter.unusedVariables false
set_option linter.unusedSimpArgs false
namespace Go.Proofs
open Go Ax
def srtT (f : Nat) : Nat := match f with | 357 => 1 | 163 => 2 | 264 => 100 | _ => 0
def calmT : List Oper → Bool
  | [{ op := .load _ _, .. }, { op := .fieldAddr _ _ _, .. }, { op := .load _ _, .. }, { op := .unOp _ _ _, .. }, { op := .fieldAddr _ _ _, .. }, { op := .store _ _ _, .. }, { op := .fieldAddr _ _ _, .. }, { op := .store _ _ _, .. }] => false
  | { op := .load _ _, .. } :: { op := .fieldAddr _ _ _, .. } :: { op := .load _ _, .. } :: { op := .lookup _ _ _ _, .. } :: { op := .move _, .. } :: { op := .load _ _, .. } :: _ => false
  | [{ op := .load _ _, .. }, { op := .build _ _, .. }, { op := .buildSlice _ _ _, .. }, { op := .load _ _, .. }, { op := .store _ _ _, .. }, { op := .assign _, .. }, { op := .store _ _ _, .. }] => false
  | [{ op := .load _ _, .. }, { op := .load _ _, .. }, { op := .store _ _ _, .. }, { op := .store _ _ _, .. }, { op := .assign _, .. }] => false
  | { op := .move _, .. } :: { op := .move _, .. } :: { op := .build _ _, .. } :: { op := .fieldAddr _ _ _, .. } :: _ => false
  | [{ op := .load _ _, .. }, { op := .move _, .. }, { op := .buildSlice _ _ _, .. }, { op := .call _, .. }, { op := .load _ _, .. }, { op := .fieldAddr _ _ _, .. }, { op := .load _ _, .. }, { op := .buildSlice _ _ _, .. }, { op := .call _, .. }, { op := .store _ _ _, .. }, { op := .store _ _ _, .. }] => false
  | _ => true
def okFn (fn : Func) : Bool := match fn.body with
  | some c => !(fn.name == "runtime.NumGoroutine") && codeCalm calmT c
  | none => true
set_option maxRecDepth 100000
end Go.Proofs
