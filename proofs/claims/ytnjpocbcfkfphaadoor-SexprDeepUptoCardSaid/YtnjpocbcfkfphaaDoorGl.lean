/- The tables among the package's variables that this seat's code reads (numbers alone), and their types. -/
import Derived.Below
namespace Go.FK
def lookN {α : Type} : List (Nat × α) → Nat → Option α
  | [], _ => none
  | (f, x) :: l, g => bif g == f then some x else lookN l g
def globL : List (Nat × (IntKind × List Int)) := []
def glob (g : Nat) : Option (IntKind × List Int) := lookN globL g
def arrL : List (Nat × Nat) := [(56, 0)]
def arrs (T : Nat) : Option Nat := lookN arrL T
def varL : List Nat := [0]
/-- Structs that are held against one another: their fields' kinds (0 a number, 1 a truth value, 2 a text). -/
def eqL : List (Nat × List Nat) := [(32, [0, 2, 0, 0, 0, 0])]
def eqs (T : Nat) : Option (List Nat) := lookN eqL T
end Go.FK
