import Derived.Test.YtllpdchpjhgkgaaGreatDoorPlm

/- The plain law, first part: 'from some fuel on', bounded numbers, lists by place. -/
namespace Go.FK

/-! ### Numbers -/
end Go.FK


/- The plain law: limbs and the numbers that they say. -/
namespace Go.FK

end Go.FK


/- The plain law: noughts at the end, copies. -/
namespace Go.FK

end Go.FK


/- The plain law: copies element by element. -/
namespace Go.FK

end Go.FK


/- The plain law: comparing. -/
namespace Go.FK

end Go.FK


/- The plain law: bits, and the guess of a quotient's digit. -/
namespace Go.FK

/-! ### Bits -/
/-! ### The guess -/
end Go.FK


/- The plain law: how many limbs a number has; whole and rational numbers by their limbs. -/
namespace Go.FK

/-! ### Numbers in Go's hands -/
end Go.FK


/- The plain law: sums and differences of natural numbers. -/
namespace Go.FK

end Go.FK


/- The plain law: differences and products of natural numbers. -/
namespace Go.FK

/-! ### Products -/
end Go.FK


/- The plain law: dividing by one limb; moving by bits; how many bits. -/
namespace Go.FK

/-! ### Moving by bits -/
end Go.FK


/- The plain law: how many bits; a digit of a quotient. -/
namespace Go.FK

end Go.FK


/- The plain law: one digit of a long division. -/
namespace Go.FK

section
variable (u v : List Int) (lo n : Nat)

variable {u v lo n}

end
end Go.FK


/- The plain law: one digit of a long division: the product taken off, and what was too much put back. -/
namespace Go.FK

variable {u v : List Int} {lo n : Nat}

end Go.FK
