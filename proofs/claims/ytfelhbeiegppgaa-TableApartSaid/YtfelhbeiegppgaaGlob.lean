/-
  Values without addresses; what the package variables that a seat's rows list hold.
-/
import Derived.Orders
import Derived.Below
set_option linter.unusedVariables false
namespace Go.Proofs.Ytfelhbeiegppgaa
namespace AM

inductive AVal where
  | undef
  | bool (b : Bool)
  | int (k : IntKind) (n : Int)
  | str (s : List UInt8)
  | nilp
  | ptr (b i f : Nat)
  | iptr (cs : List AVal) (off : Nat)
  | imm (e : Nat) (xs : List (List AVal))
  | zsl
  | sl (b off len e : Nat)
  | fn (f : Nat) (cap : List AVal)
  | nilfn
  | nili
  /-- a whole number as a floating-point number of 64 bits; two of them as a complex one -/
  | fl (n : Int)
  | cx (a b : Int)
  | agg (cs : List AVal)
  | tup (vs : List AVal)
  deriving Inhabited

/-- package variables, and what they hold -/
def globs : List (Nat × List AVal) :=
  []
def globOf (b : Nat) : List (Nat × List AVal) → Option (List AVal)
  | [] => none
  | (c, cs) :: l => if c = b then some cs else globOf b l
end AM
end Go.Proofs.Ytfelhbeiegppgaa

