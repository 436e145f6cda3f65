/- The tables among the package's variables that this seat's code reads (numbers alone), and their types. -/
import Derived.Below
namespace Go.FK
def lookN {α : Type} : List (Nat × α) → Nat → Option α
  | [], _ => none
  | (f, x) :: l, g => bif g == f then some x else lookN l g
def globL : List (Nat × (IntKind × List Int)) := [(0, (.u32, [0, 1, 2, 3, 4, 5, 6, 7, 8, 9, 99, 99, 99, 99, 99, 99, 99, 99, 99, 99, 99, 99, 99, 99, 99, 99, 99, 99, 99, 99, 99, 99, 99, 99, 99, 99, 99, 99, 99, 99, 99, 99, 99, 99, 99, 99, 99, 99, 99, 10, 11, 12, 13, 14, 15]))]
def glob (g : Nat) : Option (IntKind × List Int) := lookN globL g
def arrL : List (Nat × Nat) := [(99, 55)]
def arrs (T : Nat) : Option Nat := lookN arrL T
def varL : List Nat := []
/-- Structs that are held against one another: their fields' kinds (0 a number, 1 a truth value, 2 a text). -/
def eqL : List (Nat × List Nat) := []
def eqs (T : Nat) : Option (List Nat) := lookN eqL T
end Go.FK
