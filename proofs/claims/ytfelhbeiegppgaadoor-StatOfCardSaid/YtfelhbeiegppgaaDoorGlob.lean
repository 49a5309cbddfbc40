/-
  Values without addresses; what the package variables that a seat's rows list hold.
-/
import Derived.Orders
import Derived.Below
set_option linter.unusedVariables false
namespace Go.Proofs.YtfelhbeiegppgaaDoor
namespace AM

inductive AVal where
  | undef
  | bool (b : Bool)
  | int (k : IntKind) (n : Int)
  | str (s : List UInt8)
  | nilp
  | ptr (b i f : Nat)
  | iptr (cs : List AVal) (off : Nat)
  | imm (e : Nat) (xs : List (List AVal))
  | zsl
  | sl (b off len e : Nat)
  | fn (f : Nat) (cap : List AVal)
  | nilfn
  | nili
  /-- a whole number as a floating-point number of 64 bits; two of them as a complex one -/
  | fl (n : Int)
  | cx (a b : Int)
  | agg (cs : List AVal)
  | tup (vs : List AVal)
  deriving Inhabited

/-- package variables, and what they hold -/
def globs : List (Nat × List AVal) :=
  (0, [.str [97, 112, 112, 108, 105, 101, 100], .str [99, 97, 99, 104, 101, 100], .str [114, 101, 102, 117, 115, 101, 100], .str [99, 121, 99, 108, 101, 115], .str [116, 105, 99, 107, 115], .str [101, 120, 105, 116, 115], .str [], .str [115, 117, 98, 109, 105, 116], .str [109, 111, 100, 105, 102, 121], .str [104, 111, 108, 100], .str [114, 101, 108, 101, 97, 115, 101], .str [99, 97, 110, 99, 101, 108], .str [114, 101, 113, 117, 101, 117, 101], .str [109, 111, 118, 101], .str [106, 111, 98], .str [113, 117, 101, 117, 101], .str [110, 111, 100, 101, 115], .str [114, 101, 115, 101, 114, 118, 101], .str [117, 110, 114, 101, 115, 101, 114, 118, 101]]) ::
  []
def globOf (b : Nat) : List (Nat × List AVal) → Option (List AVal)
  | [] => none
  | (c, cs) :: l => if c = b then some cs else globOf b l
end AM
end Go.Proofs.YtfelhbeiegppgaaDoor

