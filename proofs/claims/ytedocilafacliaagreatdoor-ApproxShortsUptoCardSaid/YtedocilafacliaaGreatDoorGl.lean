/- The tables among the package's variables that this seat's code reads (numbers alone), and their types. -/
import Derived.Below
namespace Go.FK
def lookN {α : Type} : List (Nat × α) → Nat → Option α
  | [], _ => none
  | (f, x) :: l, g => bif g == f then some x else lookN l g
def globL : List (Nat × (IntKind × List Int)) := [(1, (.u32, [0, 1, 2, 3, 4, 5, 6, 7, 8, 9, 99, 99, 99, 99, 99, 99, 99, 99, 99, 99, 99, 99, 99, 99, 99, 99, 99, 99, 99, 99, 99, 99, 99, 99, 99, 99, 99, 99, 99, 99, 99, 99, 99, 99, 99, 99, 99, 99, 99, 10, 11, 12, 13, 14, 15])), (7, (.u64, [1, 10, 100, 1000, 10000, 100000, 1000000, 10000000, 100000000, 1000000000, 10000000000, 100000000000, 1000000000000, 10000000000000, 100000000000000, 1000000000000000, 10000000000000000, 100000000000000000, 1000000000000000000, 10000000000000000000]))]
def glob (g : Nat) : Option (IntKind × List Int) := lookN globL g
def arrL : List (Nat × Nat) := [(139, 55)]
def arrs (T : Nat) : Option Nat := lookN arrL T
end Go.FK
