import Derived.Test.YtllpdchpjhgkgaaGreatDoorM3

/- The plain law: the nearest number up to a denominator: the mathematics. -/
namespace Go.FK
/-! ### Convergents -/
end Go.FK


/- The plain law: Best, the program's and the reference's. -/
namespace Go.FK
variable {M : Nat} {r s : RR} {q : Rat}

end Go.FK


/- The plain law: RatioNearest, RatioCloser. -/
namespace Go.FK
variable {M : Nat} {r : RR} {q : Rat} {a : List Int} {most : Nat}

end Go.FK
