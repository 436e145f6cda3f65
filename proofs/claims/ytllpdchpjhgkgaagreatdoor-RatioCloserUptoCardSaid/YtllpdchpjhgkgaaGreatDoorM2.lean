import Derived.Test.YtllpdchpjhgkgaaGreatDoorM1

/- The plain law: the quotient and what is left; the greatest common divisor. -/
namespace Go.FK

end Go.FK


/- The plain law: Div, Gcd; whole numbers. -/
namespace Go.FK

/-! ### Whole numbers -/
end Go.FK


/- The plain law: rational numbers, the program's. -/
namespace Go.FK

abbrev RR := (Bool × List Int) × List Int

end Go.FK


/- The plain law: natural numbers, the reference's. -/
namespace Go.FK

end Go.FK


/- The plain law: the reference's digits, shifts, division and greatest common divisor. -/
namespace Go.FK

/-! ### Shifts -/
section
variable (a : List Int) (s : Nat) (J K S : Nat)

variable {a s J K S}

end

end Go.FK


/- The plain law: the reference's shift. -/
namespace Go.FK

end Go.FK


/- The plain law: the reference's division and greatest common divisor. -/
namespace Go.FK

/-! ### Gcd -/
section
variable {M : Nat}

end

end Go.FK


/- The plain law: the reference's whole and rational numbers. -/
namespace Go.FK

/-! ### Rational numbers -/
end Go.FK
