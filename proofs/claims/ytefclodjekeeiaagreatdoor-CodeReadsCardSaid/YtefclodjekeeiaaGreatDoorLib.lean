/- Library functions in plain words. -/
import Derived.Test.YtefclodjekeeiaaGreatDoorNest
import Derived.Lib.Bytealg
import Derived.Lib.Atoi
import Derived.Lib.ItoaNum
import Derived.Lib.Join
namespace Go.Mir
set_option linter.unusedVariables false
def x_index (g : Nat) (s sep : List UInt8) : Option Int := match sep with
  | [c] => some (Lib.indexByte s c)
  | _ => none
def x_count (g : Nat) (s sep : List UInt8) : Option Int := match sep with
  | [c] => some (Lib.countByte s c : Nat)
  | _ => none
def x_atoi (g : Nat) (s : List UInt8) : Option Int := if s.length ≤ 18 then Lib.atoi s else none
def x_itoa (g : Nat) (n : Int) : Option (List UInt8) := if 0 ≤ n ∧ n < 100 then some (Lib.decDigits n.toNat) else none
def x_join (g : Nat) (l : List (List UInt8)) (sep : List UInt8) : Option (List UInt8) := if (Lib.join l sep).length ≤ 140737488355328 ∧ l.length ≤ 140737488355328 then some (Lib.join l sep) else none
def x_bwrite (g : Nat) (l s : List UInt8) : Option (List UInt8) := if 0 < s.length ∧ l.length + s.length ≤ 1000000000 then some (l ++ s) else none
def x_bstr (g : Nat) (l : List UInt8) : Option (List UInt8) := if 0 < l.length ∧ l.length ≤ 1000000000 then some l else none
end Go.Mir
