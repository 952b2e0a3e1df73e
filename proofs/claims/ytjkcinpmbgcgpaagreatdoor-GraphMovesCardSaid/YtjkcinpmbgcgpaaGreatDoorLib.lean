/- Library functions in plain words; results of two kinds. -/
import Derived.Test.YtjkcinpmbgcgpaaGreatDoorSyPl
import Derived.Lib.ItoaNum
namespace Go.Mir
def sumM {A B R : Type} (f : A → R) (h : B → R) : A ⊕ B → R
  | .inl a => f a
  | .inr b => h b
def sumP {A B : Type} (P : A → Prop) (Q : B → Prop) : A ⊕ B → Prop
  | .inl a => P a
  | .inr b => Q b
theorem sumL {A B : Type} {P : A → Prop} {Q : B → Prop} {a : A} (h : P a) : sumP P Q (.inl a) := h
theorem sumR {A B : Type} {P : A → Prop} {Q : B → Prop} {b : B} (h : Q b) : sumP P Q (.inr b) := h
theorem sumX {A B R : Type} {f : A → Option R} {h : B → Option R} {a : A} {r : R} (hm : sumM f h (.inl a) = some r) : f a = some r := hm
theorem sumY {A B R : Type} {f : A → Option R} {h : B → Option R} {b : B} {r : R} (hm : sumM f h (.inr b) = some r) : h b = some r := hm
def x_itoa (g : Nat) (n : Int) : Option (List UInt8) := if -9223372036854775808 ≤ n ∧ n ≤ 9223372036854775807 then some (Lib.itoa n) else none
def x_bwrite (g : Nat) (l s : List UInt8) : Option (List UInt8) := if 0 < s.length ∧ l.length + s.length ≤ 1000000000 then some (l ++ s) else none
def x_bstr (g : Nat) (l : List UInt8) : Option (List UInt8) := if 0 < l.length ∧ l.length ≤ 1000000000 then some l else none
end Go.Mir
