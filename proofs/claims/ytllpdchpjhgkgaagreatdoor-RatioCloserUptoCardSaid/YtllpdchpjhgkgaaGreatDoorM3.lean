import Derived.Test.YtllpdchpjhgkgaaGreatDoorM2
import Derived.Test.YtllpdchpjhgkgaaGreatDoorF3

/- The plain law: what comes in, what the laws use. -/
namespace Go.FK

end Go.FK


/- The plain law of the second Ratio seat: the small fixed question; Norms, Field. -/
namespace Go.FK

/-! ### The reference's whole ratio of a small number -/
/-! ### Norms -/
end Go.FK


/- The plain law of the second Ratio seat: Floors. -/
namespace Go.FK

variable {M : Nat}

variable {r : RR} {q : Rat}
end Go.FK


/- Rational numbers by their parts. -/
namespace Go.FK
/-! ### Rational numbers by their parts -/
end Go.FK


/- The plain law: RatioFractions. A number's parts. -/
namespace Go.FK
end Go.FK


/- The plain law: RatioFractions. -/
namespace Go.FK
variable {M : Nat} {r : RR} {q : Rat}
end Go.FK
