/- Plain functions, printed by fgen.py: what the loaded functions come to. -/
import Derived.Test.YtkkijdbgnnmjhaaGreatDoorF2
namespace Go.FK
def tab_0 : List Int := [0, 1, 2, 3, 4, 5, 6, 7, 8, 9, 99, 99, 99, 99, 99, 99, 99, 99, 99, 99, 99, 99, 99, 99, 99, 99, 99, 99, 99, 99, 99, 99, 99, 99, 99, 99, 99, 99, 99, 99, 99, 99, 99, 99, 99, 99, 99, 99, 99, 10, 11, 12, 13, 14, 15]
/-- ???????????????????????????????????????????????????????????? -/
def str_14a5d850c2 : ByteArray := (ByteArray.mk #[0, 1, 2, 2, 3, 3, 3, 3, 4, 4, 4, 4, 4, 4, 4, 4, 5, 5, 5, 5, 5, 5, 5, 5, 5, 5, 5, 5, 5, 5, 5, 5, 6, 6, 6, 6, 6, 6, 6, 6, 6, 6, 6, 6, 6, 6, 6, 6, 6, 6, 6, 6, 6, 6, 6, 6, 6, 6, 6, 6, 6, 6, 6, 6, 7, 7, 7, 7, 7, 7, 7, 7, 7, 7, 7, 7, 7, 7, 7, 7, 7, 7, 7, 7, 7, 7, 7, 7, 7, 7, 7, 7, 7, 7, 7, 7, 7, 7, 7, 7, 7, 7, 7, 7, 7, 7, 7, 7, 7, 7, 7, 7, 7, 7, 7, 7, 7, 7, 7, 7, 7, 7, 7, 7, 7, 7, 7, 7, 8, 8, 8, 8, 8, 8, 8, 8, 8, 8, 8, 8, 8, 8, 8, 8, 8, 8, 8, 8, 8, 8, 8, 8, 8, 8, 8, 8, 8, 8, 8, 8, 8, 8, 8, 8, 8, 8, 8, 8, 8, 8, 8, 8, 8, 8, 8, 8, 8, 8, 8, 8, 8, 8, 8, 8, 8, 8, 8, 8, 8, 8, 8, 8, 8, 8, 8, 8, 8, 8, 8, 8, 8, 8, 8, 8, 8, 8, 8, 8, 8, 8, 8, 8, 8, 8, 8, 8, 8, 8, 8, 8, 8, 8, 8, 8, 8, 8, 8, 8, 8, 8, 8, 8, 8, 8, 8, 8, 8, 8, 8, 8, 8, 8, 8, 8, 8, 8, 8, 8, 8, 8, 8, 8, 8, 8, 8, 8])
/-- 0123456789abcdef -/
def str_9f9f5111f7 : ByteArray := (ByteArray.mk #[48, 49, 50, 51, 52, 53, 54, 55, 56, 57, 97, 98, 99, 100, 101, 102])
namespace law05_nat
def e0 (_k : Nat) (q0 : (List Int) → (List Int) → Int → Option (List Int)) (b0 : (List Int)) (b1 : (List Int)) (b2 : Int) : Option (List Int) :=
  (bif (decide (b2 < (b1.length : Int))) then
    (bif (decide (0 ≤ b2) && decide (b2 < (b1.length : Int))) then
      (bif (decide (0 ≤ b2) && decide (b2 < (b0.length : Int))) then
        q0 (setN (nthD (0 : Int) b1 (Int.toNat b2)) b0 (Int.toNat b2)) b1 (IntKind.i64.wrap (b2 + (1 : Int)))
      else
        none)
    else
      none)
  else
    (some b0))
def e (_k : Nat) (q0 : (List Int) → (List Int) → Int → Option (List Int)) (a0 : (List Int)) : Option (List Int) :=
  (bif (decide (0 ≤ (a0.length : Int)) && decide ((a0.length : Int) * 4 ≤ 281474976710656) && decide ((a0.length : Int) ≤ 9223372036854775807)) then
    q0 (List.replicate (Int.toNat (a0.length : Int)) (0 : Int)) a0 (0 : Int)
  else
    none)
def pts : Nat → ((List Int) → (List Int) → Int → Option (List Int))
  | 0 => fun _ _ _ => none
  | k + 1 => e0 k (pts k)
def p0 (k : Nat) : (List Int) → (List Int) → Int → Option (List Int) := (pts k)
theorem p0_succ (k : Nat) (x0 : (List Int)) (x1 : (List Int)) (x2 : Int) : p0 (k + 1) x0 x1 x2 = e0 k (p0 k) x0 x1 x2 := rfl
def f (k : Nat) (a0 : (List Int)) : Option (List Int) := e k (p0 k) a0
end law05_nat

namespace law05_rat
def e (k : Nat) (a0 : ((Bool × (List Int)) × (List Int))) : Option ((Bool × (List Int)) × (List Int)) :=
  (Option.bind (law05_nat.f k a0.1.2) fun r1 =>
    (Option.bind (law05_nat.f k a0.2) fun r2 =>
      (some ((a0.1.1, r1), r2))))
def f (k : Nat) (a0 : ((Bool × (List Int)) × (List Int))) : Option ((Bool × (List Int)) × (List Int)) := e k a0
end law05_rat

namespace law05_twin
def e (k : Nat) (a0 : (((Bool × (List Int)) × (List Int)) × ((Bool × (List Int)) × (List Int)))) : Option (((Bool × (List Int)) × (List Int)) × ((Bool × (List Int)) × (List Int))) :=
  (Option.bind (law05_rat.f k a0.1) fun r1 =>
    (Option.bind (law05_rat.f k a0.2) fun r2 =>
      (some (r1, r2))))
def f (k : Nat) (a0 : (((Bool × (List Int)) × (List Int)) × ((Bool × (List Int)) × (List Int)))) : Option (((Bool × (List Int)) × (List Int)) × ((Bool × (List Int)) × (List Int))) := e k a0
end law05_twin

namespace nat_trim
def e0 (_k : Nat) (q0 : (List Int) → Int → Option (List Int)) (q9 : (List Int) → Int → Option (List Int)) (b0 : (List Int)) (b1 : Int) : Option (List Int) :=
  (bif (decide (b1 > (0 : Int))) then
    (bif (decide (0 ≤ (IntKind.i64.wrap (b1 - (1 : Int)))) && decide ((IntKind.i64.wrap (b1 - (1 : Int))) < (b0.length : Int))) then
      (bif (decide ((nthD (0 : Int) b0 (Int.toNat (IntKind.i64.wrap (b1 - (1 : Int))))) = (0 : Int))) then
        q0 b0 (IntKind.i64.wrap (b1 - (1 : Int)))
      else
        q9 b0 b1)
    else
      none)
  else
    q9 b0 b1)
def e9 (_k : Nat) (_q0 : (List Int) → Int → Option (List Int)) (_q9 : (List Int) → Int → Option (List Int)) (b0 : (List Int)) (b1 : Int) : Option (List Int) :=
  (bif (decide (0 ≤ (0 : Int)) && decide ((0 : Int) ≤ b1) && decide (b1 ≤ (b0.length : Int))) then
    (some ((b0.take (Int.toNat b1)).drop (Int.toNat (0 : Int))))
  else
    none)
def e (_k : Nat) (q0 : (List Int) → Int → Option (List Int)) (_q9 : (List Int) → Int → Option (List Int)) (a0 : (List Int)) : Option (List Int) :=
  q0 a0 (a0.length : Int)
def pts : Nat → ((List Int) → Int → Option (List Int)) × ((List Int) → Int → Option (List Int))
  | 0 => (fun _ _ => none, fun _ _ => none)
  | k + 1 => (e0 k (pts k).1 (pts k).2, e9 k (pts k).1 (pts k).2)
def p0 (k : Nat) : (List Int) → Int → Option (List Int) := (pts k).1
def p9 (k : Nat) : (List Int) → Int → Option (List Int) := (pts k).2
theorem p0_succ (k : Nat) (x0 : (List Int)) (x1 : Int) : p0 (k + 1) x0 x1 = e0 k (p0 k) (p9 k) x0 x1 := rfl
theorem p9_succ (k : Nat) (x0 : (List Int)) (x1 : Int) : p9 (k + 1) x0 x1 = e9 k (p0 k) (p9 k) x0 x1 := rfl
def f (k : Nat) (a0 : (List Int)) : Option (List Int) := e k (p0 k) (p9 k) a0
end nat_trim

namespace bits_Len32
def e9 (_k : Nat) (_q9 : Int → Int → Option Int) (q15 : Int → Int → Option Int) (b0 : Int) (b1 : Int) : Option Int :=
  (bif (decide (b0 ≥ (256 : Int))) then
    q15 (Int.fdiv b0 (2 ^ 8)) (IntKind.i64.wrap (b1 + (8 : Int)))
  else
    q15 b0 b1)
def e15 (_k : Nat) (_q9 : Int → Int → Option Int) (_q15 : Int → Int → Option Int) (b0 : Int) (b1 : Int) : Option Int :=
  (bif (decide (0 ≤ (IntKind.u8.wrap b0)) && decide ((IntKind.u8.wrap b0) < (str_14a5d850c2.size : Int))) then
    (some (IntKind.i64.wrap (b1 + (IntKind.i64.wrap (btI str_14a5d850c2 (IntKind.u8.wrap b0))))))
  else
    none)
def e (_k : Nat) (q9 : Int → Int → Option Int) (_q15 : Int → Int → Option Int) (a0 : Int) : Option Int :=
  (bif (decide (a0 ≥ (65536 : Int))) then
    q9 (Int.fdiv a0 (2 ^ 16)) (16 : Int)
  else
    q9 a0 (0 : Int))
def pts : Nat → (Int → Int → Option Int) × (Int → Int → Option Int)
  | 0 => (fun _ _ => none, fun _ _ => none)
  | k + 1 => (e9 k (pts k).1 (pts k).2, e15 k (pts k).1 (pts k).2)
def p9 (k : Nat) : Int → Int → Option Int := (pts k).1
def p15 (k : Nat) : Int → Int → Option Int := (pts k).2
theorem p9_succ (k : Nat) (x0 : Int) (x1 : Int) : p9 (k + 1) x0 x1 = e9 k (p9 k) (p15 k) x0 x1 := rfl
theorem p15_succ (k : Nat) (x0 : Int) (x1 : Int) : p15 (k + 1) x0 x1 = e15 k (p9 k) (p15 k) x0 x1 := rfl
def f (k : Nat) (a0 : Int) : Option Int := e k (p9 k) (p15 k) a0
end bits_Len32

namespace nat_Bits
def e (k : Nat) (a0 : (List Int)) : Option Int :=
  (Option.bind (nat_trim.f k a0) fun r1 =>
    (bif (decide ((r1.length : Int) = (0 : Int))) then
      (some (0 : Int))
    else
      (bif (decide (0 ≤ (IntKind.i64.wrap ((r1.length : Int) - (1 : Int)))) && decide ((IntKind.i64.wrap ((r1.length : Int) - (1 : Int))) < (r1.length : Int))) then
        (Option.bind (bits_Len32.f k (nthD (0 : Int) r1 (Int.toNat (IntKind.i64.wrap ((r1.length : Int) - (1 : Int)))))) fun r2 =>
          (some (IntKind.i64.wrap ((IntKind.i64.wrap ((32 : Int) * (IntKind.i64.wrap ((r1.length : Int) - (1 : Int))))) + r2))))
      else
        none)))
def f (k : Nat) (a0 : (List Int)) : Option Int := e k a0
end nat_Bits

namespace nat_own
def e (k : Nat) (a0 : (List Int)) : Option (List Int) :=
  (Option.bind (nat_trim.f k a0) fun r1 =>
    (bif (decide ((r1.length : Int) = (0 : Int))) then
      (some ([] : List Int))
    else
      (bif (decide (0 ≤ (r1.length : Int)) && decide ((r1.length : Int) * 4 ≤ 281474976710656) && decide ((r1.length : Int) ≤ 9223372036854775807)) then
        (some (r1.take (List.replicate (Int.toNat (r1.length : Int)) (0 : Int)).length ++ (List.replicate (Int.toNat (r1.length : Int)) (0 : Int)).drop r1.length))
      else
        none)))
def f (k : Nat) (a0 : (List Int)) : Option (List Int) := e k a0
end nat_own

namespace nat_Cmp
def e0 (_k : Nat) (q0 : (List Int) → (List Int) → Int → Option Int) (b0 : (List Int)) (b1 : (List Int)) (b2 : Int) : Option Int :=
  (bif (decide (b2 ≥ (0 : Int))) then
    (bif (decide (0 ≤ b2) && decide (b2 < (b0.length : Int))) then
      (bif (decide (0 ≤ b2) && decide (b2 < (b1.length : Int))) then
        (bif (!decide ((nthD (0 : Int) b0 (Int.toNat b2)) = (nthD (0 : Int) b1 (Int.toNat b2)))) then
          (bif (decide (0 ≤ b2) && decide (b2 < (b0.length : Int))) then
            (bif (decide (0 ≤ b2) && decide (b2 < (b1.length : Int))) then
              (bif (decide ((nthD (0 : Int) b0 (Int.toNat b2)) < (nthD (0 : Int) b1 (Int.toNat b2)))) then
                (some (-1 : Int))
              else
                (some (1 : Int)))
            else
              none)
          else
            none)
        else
          q0 b0 b1 (IntKind.i64.wrap (b2 - (1 : Int))))
      else
        none)
    else
      none)
  else
    (some (0 : Int)))
def e (k : Nat) (q0 : (List Int) → (List Int) → Int → Option Int) (a0 : (List Int)) (a1 : (List Int)) : Option Int :=
  (Option.bind (nat_trim.f k a0) fun r1 =>
    (Option.bind (nat_trim.f k a1) fun r2 =>
      (bif (!decide ((r1.length : Int) = (r2.length : Int))) then
        (bif (decide ((r1.length : Int) < (r2.length : Int))) then
          (some (-1 : Int))
        else
          (some (1 : Int)))
      else
        q0 r1 r2 (IntKind.i64.wrap ((r1.length : Int) - (1 : Int))))))
def pts : Nat → ((List Int) → (List Int) → Int → Option Int)
  | 0 => fun _ _ _ => none
  | k + 1 => e0 k (pts k)
def p0 (k : Nat) : (List Int) → (List Int) → Int → Option Int := (pts k)
theorem p0_succ (k : Nat) (x0 : (List Int)) (x1 : (List Int)) (x2 : Int) : p0 (k + 1) x0 x1 x2 = e0 k (p0 k) x0 x1 x2 := rfl
def f (k : Nat) (a0 : (List Int)) (a1 : (List Int)) : Option Int := e k (p0 k) a0 a1
end nat_Cmp

namespace bits_Div32
def e7 (_k : Nat) (_q7 : Int → Int → Int → Option (Int × Int)) (b0 : Int) (b1 : Int) (b2 : Int) : Option (Int × Int) :=
  (bif (decide ((IntKind.u64.wrap b2) = 0)) then
    none
  else
    (bif (decide ((IntKind.u64.wrap b2) = 0)) then
      none
    else
      (some ((IntKind.u32.wrap (IntKind.u64.wrap (Int.tdiv (bitsI .or .u64 (IntKind.u64.wrap ((IntKind.u64.wrap b0) * 2 ^ 32)) (IntKind.u64.wrap b1)) (IntKind.u64.wrap b2)))), (IntKind.u32.wrap (Int.tmod (bitsI .or .u64 (IntKind.u64.wrap ((IntKind.u64.wrap b0) * 2 ^ 32)) (IntKind.u64.wrap b1)) (IntKind.u64.wrap b2)))))))
def e (_k : Nat) (q7 : Int → Int → Int → Option (Int × Int)) (a0 : Int) (a1 : Int) (a2 : Int) : Option (Int × Int) :=
  (bif (!decide (a2 = (0 : Int))) then
    (bif (decide (a2 ≤ a0)) then
      none
    else
      q7 a0 a1 a2)
  else
    q7 a0 a1 a2)
def pts : Nat → (Int → Int → Int → Option (Int × Int))
  | 0 => fun _ _ _ => none
  | k + 1 => e7 k (pts k)
def p7 (k : Nat) : Int → Int → Int → Option (Int × Int) := (pts k)
theorem p7_succ (k : Nat) (x0 : Int) (x1 : Int) (x2 : Int) : p7 (k + 1) x0 x1 x2 = e7 k (p7 k) x0 x1 x2 := rfl
def f (k : Nat) (a0 : Int) (a1 : Int) (a2 : Int) : Option (Int × Int) := e k (p7 k) a0 a1 a2
end bits_Div32

namespace nat_short
def e0 (k : Nat) (q0 : (List Int) → (List Int) → Int → Int → Int → Option ((List Int) × Int)) (b0 : (List Int)) (b1 : (List Int)) (b2 : Int) (b3 : Int) (b4 : Int) : Option ((List Int) × Int) :=
  (bif (decide (b4 ≥ (0 : Int))) then
    (bif (decide (0 ≤ b4) && decide (b4 < (b1.length : Int))) then
      (Option.bind (bits_Div32.f k b3 (nthD (0 : Int) b1 (Int.toNat b4)) b2) fun r1 =>
        (bif (decide (0 ≤ b4) && decide (b4 < (b0.length : Int))) then
          q0 (setN r1.1 b0 (Int.toNat b4)) b1 b2 r1.2 (IntKind.i64.wrap (b4 - (1 : Int)))
        else
          none))
    else
      none)
  else
    (some (b0, b3)))
def e (_k : Nat) (q0 : (List Int) → (List Int) → Int → Int → Int → Option ((List Int) × Int)) (a0 : (List Int)) (a1 : Int) : Option ((List Int) × Int) :=
  (bif (decide (0 ≤ (a0.length : Int)) && decide ((a0.length : Int) * 4 ≤ 281474976710656) && decide ((a0.length : Int) ≤ 9223372036854775807)) then
    q0 (List.replicate (Int.toNat (a0.length : Int)) (0 : Int)) a0 a1 (0 : Int) (IntKind.i64.wrap ((a0.length : Int) - (1 : Int)))
  else
    none)
def pts : Nat → ((List Int) → (List Int) → Int → Int → Int → Option ((List Int) × Int))
  | 0 => fun _ _ _ _ _ => none
  | k + 1 => e0 k (pts k)
def p0 (k : Nat) : (List Int) → (List Int) → Int → Int → Int → Option ((List Int) × Int) := (pts k)
theorem p0_succ (k : Nat) (x0 : (List Int)) (x1 : (List Int)) (x2 : Int) (x3 : Int) (x4 : Int) : p0 (k + 1) x0 x1 x2 x3 x4 = e0 k (p0 k) x0 x1 x2 x3 x4 := rfl
def f (k : Nat) (a0 : (List Int)) (a1 : Int) : Option ((List Int) × Int) := e k (p0 k) a0 a1
end nat_short

namespace bits_LeadingZeros32
def e (k : Nat) (a0 : Int) : Option Int :=
  (Option.bind (bits_Len32.f k a0) fun r1 =>
    (some (IntKind.i64.wrap ((32 : Int) - r1))))
def f (k : Nat) (a0 : Int) : Option Int := e k a0
end bits_LeadingZeros32

namespace nat_moved
def e0 (_k : Nat) (q0 : (List Int) → (List Int) → Int → Int → Int → Option (List Int)) (b0 : (List Int)) (b1 : (List Int)) (b2 : Int) (b3 : Int) (b4 : Int) : Option (List Int) :=
  (bif (decide (b4 < b3)) then
    (bif (decide (0 ≤ b4) && decide (b4 < (b0.length : Int))) then
      (bif (decide (0 ≤ b4) && decide (b4 < (b1.length : Int))) then
        (bif (decide (b2 < 0)) then
          none
        else
          (bif (decide (0 ≤ b4) && decide (b4 < (b0.length : Int))) then
            (bif (decide (0 ≤ b4) && decide (b4 < (b1.length : Int))) then
              (bif (decide ((IntKind.i64.wrap ((32 : Int) - b2)) < 0)) then
                none
              else
                (bif (decide (0 ≤ (IntKind.i64.wrap (b4 + (1 : Int)))) && decide ((IntKind.i64.wrap (b4 + (1 : Int))) < ((setN (bitsI .or .u32 (nthD (0 : Int) b0 (Int.toNat b4)) (IntKind.u32.wrap ((nthD (0 : Int) b1 (Int.toNat b4)) * 2 ^ min (Int.toNat b2) 32))) b0 (Int.toNat b4)).length : Int))) then
                  q0 (setN (IntKind.u32.wrap (Int.fdiv (IntKind.u64.wrap (nthD (0 : Int) b1 (Int.toNat b4))) (2 ^ min (Int.toNat (IntKind.i64.wrap ((32 : Int) - b2))) 64))) (setN (bitsI .or .u32 (nthD (0 : Int) b0 (Int.toNat b4)) (IntKind.u32.wrap ((nthD (0 : Int) b1 (Int.toNat b4)) * 2 ^ min (Int.toNat b2) 32))) b0 (Int.toNat b4)) (Int.toNat (IntKind.i64.wrap (b4 + (1 : Int))))) b1 b2 b3 (IntKind.i64.wrap (b4 + (1 : Int)))
                else
                  none))
            else
              none)
          else
            none))
      else
        none)
    else
      none)
  else
    (some b0))
def e (_k : Nat) (q0 : (List Int) → (List Int) → Int → Int → Int → Option (List Int)) (a0 : (List Int)) (a1 : Int) : Option (List Int) :=
  (bif (decide (0 ≤ (IntKind.i64.wrap ((a0.length : Int) + (1 : Int)))) && decide ((IntKind.i64.wrap ((a0.length : Int) + (1 : Int))) * 4 ≤ 281474976710656) && decide ((IntKind.i64.wrap ((a0.length : Int) + (1 : Int))) ≤ 9223372036854775807)) then
    q0 (List.replicate (Int.toNat (IntKind.i64.wrap ((a0.length : Int) + (1 : Int)))) (0 : Int)) a0 a1 (a0.length : Int) (0 : Int)
  else
    none)
def pts : Nat → ((List Int) → (List Int) → Int → Int → Int → Option (List Int))
  | 0 => fun _ _ _ _ _ => none
  | k + 1 => e0 k (pts k)
def p0 (k : Nat) : (List Int) → (List Int) → Int → Int → Int → Option (List Int) := (pts k)
theorem p0_succ (k : Nat) (x0 : (List Int)) (x1 : (List Int)) (x2 : Int) (x3 : Int) (x4 : Int) : p0 (k + 1) x0 x1 x2 x3 x4 = e0 k (p0 k) x0 x1 x2 x3 x4 := rfl
def f (k : Nat) (a0 : (List Int)) (a1 : Int) : Option (List Int) := e k (p0 k) a0 a1
end nat_moved

namespace bits_Sub32
def e (_k : Nat) (a0 : Int) (a1 : Int) (a2 : Int) : Option (Int × Int) :=
  (some ((IntKind.u32.wrap ((IntKind.u32.wrap (a0 - a1)) - a2)), (Int.fdiv (bitsI .or .u32 (bitsI .and .u32 (bitsI .xor .u32 IntKind.u32.max a0) a1) (bitsI .and .u32 (bitsI .xor .u32 IntKind.u32.max (bitsI .xor .u32 a0 a1)) (IntKind.u32.wrap ((IntKind.u32.wrap (a0 - a1)) - a2)))) (2 ^ 31))))
def f (k : Nat) (a0 : Int) (a1 : Int) (a2 : Int) : Option (Int × Int) := e k a0 a1 a2
end bits_Sub32

namespace bits_Add32
def e (_k : Nat) (a0 : Int) (a1 : Int) (a2 : Int) : Option (Int × Int) :=
  (some ((IntKind.u32.wrap (IntKind.u64.wrap ((IntKind.u64.wrap ((IntKind.u64.wrap a0) + (IntKind.u64.wrap a1))) + (IntKind.u64.wrap a2)))), (IntKind.u32.wrap (Int.fdiv (IntKind.u64.wrap ((IntKind.u64.wrap ((IntKind.u64.wrap a0) + (IntKind.u64.wrap a1))) + (IntKind.u64.wrap a2))) (2 ^ 32)))))
def f (k : Nat) (a0 : Int) (a1 : Int) (a2 : Int) : Option (Int × Int) := e k a0 a1 a2
end bits_Add32

namespace nat_digit
def e0 (_k : Nat) (_q0 : (List Int) → Nat → Nat → (List Int) → Int → Int → Int → Option ((List Int) × Int)) (q11 : (List Int) → Nat → Nat → (List Int) → Int → Int → Int → Option ((List Int) × Int)) (q4 : (List Int) → Nat → Nat → (List Int) → Int → Int → Int → Int → Int → Int → Option ((List Int) × Int)) (_q8 : (List Int) → Nat → Nat → (List Int) → Int → Int → Int → Int → Int → Option ((List Int) × Int)) (b0 : (List Int)) (b1 : Nat) (b2 : Nat) (b3 : (List Int)) (b4 : Int) (b5 : Int) (b6 : Int) : Option ((List Int) × Int) :=
  (bif (!decide ((Int.fdiv b5 (2 ^ 32)) = (0 : Int))) then
    q11 b0 b1 b2 b3 b4 b5 b6
  else
    (bif (decide (0 ≤ (IntKind.i64.wrap (b4 - (2 : Int)))) && decide ((IntKind.i64.wrap (b4 - (2 : Int))) < (b3.length : Int))) then
      (bif (decide (0 ≤ (IntKind.i64.wrap (b4 - (2 : Int)))) && decide ((IntKind.i64.wrap (b4 - (2 : Int))) < (b2 : Int))) then
        (bif (decide ((IntKind.u64.wrap (b5 * (IntKind.u64.wrap (nthD (0 : Int) b3 (Int.toNat (IntKind.i64.wrap (b4 - (2 : Int)))))))) > (bitsI .or .u64 (IntKind.u64.wrap (b6 * 2 ^ 32)) (IntKind.u64.wrap (nthD (0 : Int) b0 (b1 + Int.toNat (IntKind.i64.wrap (b4 - (2 : Int))))))))) then
          q11 b0 b1 b2 b3 b4 b5 b6
        else
          q4 b0 b1 b2 b3 b4 b5 (0 : Int) (0 : Int) b4 (0 : Int))
      else
        none)
    else
      none))
def e11 (_k : Nat) (q0 : (List Int) → Nat → Nat → (List Int) → Int → Int → Int → Option ((List Int) × Int)) (_q11 : (List Int) → Nat → Nat → (List Int) → Int → Int → Int → Option ((List Int) × Int)) (q4 : (List Int) → Nat → Nat → (List Int) → Int → Int → Int → Int → Int → Int → Option ((List Int) × Int)) (_q8 : (List Int) → Nat → Nat → (List Int) → Int → Int → Int → Int → Int → Option ((List Int) × Int)) (b0 : (List Int)) (b1 : Nat) (b2 : Nat) (b3 : (List Int)) (b4 : Int) (b5 : Int) (b6 : Int) : Option ((List Int) × Int) :=
  (bif (decide (0 ≤ (IntKind.i64.wrap (b4 - (1 : Int)))) && decide ((IntKind.i64.wrap (b4 - (1 : Int))) < (b3.length : Int))) then
    (bif (!decide ((Int.fdiv (IntKind.u64.wrap (b6 + (IntKind.u64.wrap (nthD (0 : Int) b3 (Int.toNat (IntKind.i64.wrap (b4 - (1 : Int)))))))) (2 ^ 32)) = (0 : Int))) then
      q4 b0 b1 b2 b3 b4 (IntKind.u64.wrap (b5 - (1 : Int))) (0 : Int) (0 : Int) b4 (0 : Int)
    else
      q0 b0 b1 b2 b3 b4 (IntKind.u64.wrap (b5 - (1 : Int))) (IntKind.u64.wrap (b6 + (IntKind.u64.wrap (nthD (0 : Int) b3 (Int.toNat (IntKind.i64.wrap (b4 - (1 : Int)))))))))
  else
    none)
def e4 (k : Nat) (_q0 : (List Int) → Nat → Nat → (List Int) → Int → Int → Int → Option ((List Int) × Int)) (_q11 : (List Int) → Nat → Nat → (List Int) → Int → Int → Int → Option ((List Int) × Int)) (q4 : (List Int) → Nat → Nat → (List Int) → Int → Int → Int → Int → Int → Int → Option ((List Int) × Int)) (q8 : (List Int) → Nat → Nat → (List Int) → Int → Int → Int → Int → Int → Option ((List Int) × Int)) (b0 : (List Int)) (b1 : Nat) (b2 : Nat) (b3 : (List Int)) (b4 : Int) (b5 : Int) (b6 : Int) (b7 : Int) (b8 : Int) (b9 : Int) : Option ((List Int) × Int) :=
  (bif (decide (b9 < b8)) then
    (bif (decide (0 ≤ b9) && decide (b9 < (b3.length : Int))) then
      (bif (decide (0 ≤ b9) && decide (b9 < (b2 : Int))) then
        (Option.bind (bits_Sub32.f k (nthD (0 : Int) b0 (b1 + Int.toNat b9)) (IntKind.u32.wrap (IntKind.u64.wrap ((IntKind.u64.wrap (b5 * (IntKind.u64.wrap (nthD (0 : Int) b3 (Int.toNat b9))))) + b7))) b6) fun r1 =>
          (bif (decide (0 ≤ b9) && decide (b9 < (b2 : Int))) then
            q4 (setN r1.1 b0 (b1 + Int.toNat b9)) b1 b2 b3 b4 b5 r1.2 (Int.fdiv (IntKind.u64.wrap ((IntKind.u64.wrap (b5 * (IntKind.u64.wrap (nthD (0 : Int) b3 (Int.toNat b9))))) + b7)) (2 ^ 32)) b8 (IntKind.i64.wrap (b9 + (1 : Int)))
          else
            none))
      else
        none)
    else
      none)
  else
    (bif (decide (0 ≤ b4) && decide (b4 < (b2 : Int))) then
      (Option.bind (bits_Sub32.f k (nthD (0 : Int) b0 (b1 + Int.toNat b4)) (IntKind.u32.wrap b7) b6) fun r2 =>
        (bif (decide (0 ≤ b4) && decide (b4 < (b2 : Int))) then
          (bif (decide (r2.2 = (1 : Int))) then
            q8 (setN r2.1 b0 (b1 + Int.toNat b4)) b1 b2 b3 b4 (IntKind.u64.wrap (b5 - (1 : Int))) (0 : Int) b4 (0 : Int)
          else
            (some ((setN r2.1 b0 (b1 + Int.toNat b4)), (IntKind.u32.wrap b5))))
        else
          none))
    else
      none))
def e8 (k : Nat) (_q0 : (List Int) → Nat → Nat → (List Int) → Int → Int → Int → Option ((List Int) × Int)) (_q11 : (List Int) → Nat → Nat → (List Int) → Int → Int → Int → Option ((List Int) × Int)) (_q4 : (List Int) → Nat → Nat → (List Int) → Int → Int → Int → Int → Int → Int → Option ((List Int) × Int)) (q8 : (List Int) → Nat → Nat → (List Int) → Int → Int → Int → Int → Int → Option ((List Int) × Int)) (b0 : (List Int)) (b1 : Nat) (b2 : Nat) (b3 : (List Int)) (b4 : Int) (b5 : Int) (b6 : Int) (b7 : Int) (b8 : Int) : Option ((List Int) × Int) :=
  (bif (decide (b8 < b7)) then
    (bif (decide (0 ≤ b8) && decide (b8 < (b2 : Int))) then
      (bif (decide (0 ≤ b8) && decide (b8 < (b3.length : Int))) then
        (Option.bind (bits_Add32.f k (nthD (0 : Int) b0 (b1 + Int.toNat b8)) (nthD (0 : Int) b3 (Int.toNat b8)) b6) fun r3 =>
          (bif (decide (0 ≤ b8) && decide (b8 < (b2 : Int))) then
            q8 (setN r3.1 b0 (b1 + Int.toNat b8)) b1 b2 b3 b4 b5 r3.2 b7 (IntKind.i64.wrap (b8 + (1 : Int)))
          else
            none))
      else
        none)
    else
      none)
  else
    (bif (decide (0 ≤ b4) && decide (b4 < (b2 : Int))) then
      (bif (decide (0 ≤ b4) && decide (b4 < (b2 : Int))) then
        (some ((setN (IntKind.u32.wrap ((nthD (0 : Int) b0 (b1 + Int.toNat b4)) + b6)) b0 (b1 + Int.toNat b4)), (IntKind.u32.wrap b5)))
      else
        none)
    else
      none))
def e (_k : Nat) (q0 : (List Int) → Nat → Nat → (List Int) → Int → Int → Int → Option ((List Int) × Int)) (_q11 : (List Int) → Nat → Nat → (List Int) → Int → Int → Int → Option ((List Int) × Int)) (_q4 : (List Int) → Nat → Nat → (List Int) → Int → Int → Int → Int → Int → Int → Option ((List Int) × Int)) (_q8 : (List Int) → Nat → Nat → (List Int) → Int → Int → Int → Int → Int → Option ((List Int) × Int)) (a0 : (List Int)) (a1 : Nat) (a2 : Nat) (a3 : (List Int)) : Option ((List Int) × Int) :=
  (bif (decide (0 ≤ (a3.length : Int)) && decide ((a3.length : Int) < (a2 : Int))) then
    (bif (decide (0 ≤ (IntKind.i64.wrap ((a3.length : Int) - (1 : Int)))) && decide ((IntKind.i64.wrap ((a3.length : Int) - (1 : Int))) < (a2 : Int))) then
      (bif (decide (0 ≤ (IntKind.i64.wrap ((a3.length : Int) - (1 : Int)))) && decide ((IntKind.i64.wrap ((a3.length : Int) - (1 : Int))) < (a3.length : Int))) then
        (bif (decide ((IntKind.u64.wrap (nthD (0 : Int) a3 (Int.toNat (IntKind.i64.wrap ((a3.length : Int) - (1 : Int)))))) = 0)) then
          none
        else
          (bif (decide (0 ≤ (IntKind.i64.wrap ((a3.length : Int) - (1 : Int)))) && decide ((IntKind.i64.wrap ((a3.length : Int) - (1 : Int))) < (a3.length : Int))) then
            (bif (decide ((IntKind.u64.wrap (nthD (0 : Int) a3 (Int.toNat (IntKind.i64.wrap ((a3.length : Int) - (1 : Int)))))) = 0)) then
              none
            else
              q0 a0 a1 a2 a3 (a3.length : Int) (IntKind.u64.wrap (Int.tdiv (bitsI .or .u64 (IntKind.u64.wrap ((IntKind.u64.wrap (nthD (0 : Int) a0 (a1 + Int.toNat (a3.length : Int)))) * 2 ^ 32)) (IntKind.u64.wrap (nthD (0 : Int) a0 (a1 + Int.toNat (IntKind.i64.wrap ((a3.length : Int) - (1 : Int))))))) (IntKind.u64.wrap (nthD (0 : Int) a3 (Int.toNat (IntKind.i64.wrap ((a3.length : Int) - (1 : Int)))))))) (Int.tmod (bitsI .or .u64 (IntKind.u64.wrap ((IntKind.u64.wrap (nthD (0 : Int) a0 (a1 + Int.toNat (a3.length : Int)))) * 2 ^ 32)) (IntKind.u64.wrap (nthD (0 : Int) a0 (a1 + Int.toNat (IntKind.i64.wrap ((a3.length : Int) - (1 : Int))))))) (IntKind.u64.wrap (nthD (0 : Int) a3 (Int.toNat (IntKind.i64.wrap ((a3.length : Int) - (1 : Int))))))))
          else
            none))
      else
        none)
    else
      none)
  else
    none)
def pts : Nat → ((List Int) → Nat → Nat → (List Int) → Int → Int → Int → Option ((List Int) × Int)) × ((List Int) → Nat → Nat → (List Int) → Int → Int → Int → Option ((List Int) × Int)) × ((List Int) → Nat → Nat → (List Int) → Int → Int → Int → Int → Int → Int → Option ((List Int) × Int)) × ((List Int) → Nat → Nat → (List Int) → Int → Int → Int → Int → Int → Option ((List Int) × Int))
  | 0 => (fun _ _ _ _ _ _ _ => none, fun _ _ _ _ _ _ _ => none, fun _ _ _ _ _ _ _ _ _ _ => none, fun _ _ _ _ _ _ _ _ _ => none)
  | k + 1 => (e0 k (pts k).1 (pts k).2.1 (pts k).2.2.1 (pts k).2.2.2, e11 k (pts k).1 (pts k).2.1 (pts k).2.2.1 (pts k).2.2.2, e4 k (pts k).1 (pts k).2.1 (pts k).2.2.1 (pts k).2.2.2, e8 k (pts k).1 (pts k).2.1 (pts k).2.2.1 (pts k).2.2.2)
def p0 (k : Nat) : (List Int) → Nat → Nat → (List Int) → Int → Int → Int → Option ((List Int) × Int) := (pts k).1
def p11 (k : Nat) : (List Int) → Nat → Nat → (List Int) → Int → Int → Int → Option ((List Int) × Int) := (pts k).2.1
def p4 (k : Nat) : (List Int) → Nat → Nat → (List Int) → Int → Int → Int → Int → Int → Int → Option ((List Int) × Int) := (pts k).2.2.1
def p8 (k : Nat) : (List Int) → Nat → Nat → (List Int) → Int → Int → Int → Int → Int → Option ((List Int) × Int) := (pts k).2.2.2
theorem p0_succ (k : Nat) (x0 : (List Int)) (x1 : Nat) (x2 : Nat) (x3 : (List Int)) (x4 : Int) (x5 : Int) (x6 : Int) : p0 (k + 1) x0 x1 x2 x3 x4 x5 x6 = e0 k (p0 k) (p11 k) (p4 k) (p8 k) x0 x1 x2 x3 x4 x5 x6 := rfl
theorem p11_succ (k : Nat) (x0 : (List Int)) (x1 : Nat) (x2 : Nat) (x3 : (List Int)) (x4 : Int) (x5 : Int) (x6 : Int) : p11 (k + 1) x0 x1 x2 x3 x4 x5 x6 = e11 k (p0 k) (p11 k) (p4 k) (p8 k) x0 x1 x2 x3 x4 x5 x6 := rfl
theorem p4_succ (k : Nat) (x0 : (List Int)) (x1 : Nat) (x2 : Nat) (x3 : (List Int)) (x4 : Int) (x5 : Int) (x6 : Int) (x7 : Int) (x8 : Int) (x9 : Int) : p4 (k + 1) x0 x1 x2 x3 x4 x5 x6 x7 x8 x9 = e4 k (p0 k) (p11 k) (p4 k) (p8 k) x0 x1 x2 x3 x4 x5 x6 x7 x8 x9 := rfl
theorem p8_succ (k : Nat) (x0 : (List Int)) (x1 : Nat) (x2 : Nat) (x3 : (List Int)) (x4 : Int) (x5 : Int) (x6 : Int) (x7 : Int) (x8 : Int) : p8 (k + 1) x0 x1 x2 x3 x4 x5 x6 x7 x8 = e8 k (p0 k) (p11 k) (p4 k) (p8 k) x0 x1 x2 x3 x4 x5 x6 x7 x8 := rfl
def f (k : Nat) (a0 : (List Int)) (a1 : Nat) (a2 : Nat) (a3 : (List Int)) : Option ((List Int) × Int) := e k (p0 k) (p11 k) (p4 k) (p8 k) a0 a1 a2 a3
end nat_digit

namespace nat_long
def e0 (k : Nat) (q0 : (List Int) → (List Int) → Int → (List Int) → Int → Int → Option ((List Int) × (List Int))) (q4 : (List Int) → (List Int) → (List Int) → Int → Int → Int → Option ((List Int) × (List Int))) (b0 : (List Int)) (b1 : (List Int)) (b2 : Int) (b3 : (List Int)) (b4 : Int) (b5 : Int) : Option ((List Int) × (List Int)) :=
  (bif (decide (b5 ≥ (0 : Int))) then
    (bif (decide (0 ≤ b5) && decide (b5 ≤ (IntKind.i64.wrap ((IntKind.i64.wrap (b5 + b4)) + (1 : Int)))) && decide ((IntKind.i64.wrap ((IntKind.i64.wrap (b5 + b4)) + (1 : Int))) ≤ (b0.length : Int))) then
      (bif (decide (b5 < (IntKind.i64.wrap ((IntKind.i64.wrap (b5 + b4)) + (1 : Int))))) then
        (Option.bind (nat_digit.f k b0 (Int.toNat b5) (Int.toNat ((IntKind.i64.wrap ((IntKind.i64.wrap (b5 + b4)) + (1 : Int))) - b5)) b3) fun r4 =>
          (bif (decide (0 ≤ b5) && decide (b5 < (b1.length : Int))) then
            q0 r4.1 (setN r4.2 b1 (Int.toNat b5)) b2 b3 b4 (IntKind.i64.wrap (b5 - (1 : Int)))
          else
            none))
      else
        none)
    else
      none)
  else
    (bif (decide (0 ≤ b4) && decide (b4 * 4 ≤ 281474976710656) && decide (b4 ≤ 9223372036854775807)) then
      q4 b0 b1 (List.replicate (Int.toNat b4) (0 : Int)) b2 b4 (0 : Int)
    else
      none))
def e4 (k : Nat) (_q0 : (List Int) → (List Int) → Int → (List Int) → Int → Int → Option ((List Int) × (List Int))) (q4 : (List Int) → (List Int) → (List Int) → Int → Int → Int → Option ((List Int) × (List Int))) (b0 : (List Int)) (b1 : (List Int)) (b2 : (List Int)) (b3 : Int) (b4 : Int) (b5 : Int) : Option ((List Int) × (List Int)) :=
  (bif (decide (b5 < b4)) then
    (bif (decide (0 ≤ b5) && decide (b5 < (b0.length : Int))) then
      (bif (decide (b3 < 0)) then
        none
      else
        (bif (decide (0 ≤ (IntKind.i64.wrap (b5 + (1 : Int)))) && decide ((IntKind.i64.wrap (b5 + (1 : Int))) < (b0.length : Int))) then
          (bif (decide ((IntKind.i64.wrap ((32 : Int) - b3)) < 0)) then
            none
          else
            (bif (decide (0 ≤ b5) && decide (b5 < (b2.length : Int))) then
              q4 b0 b1 (setN (bitsI .or .u32 (Int.fdiv (nthD (0 : Int) b0 (Int.toNat b5)) (2 ^ min (Int.toNat b3) 32)) (IntKind.u32.wrap (IntKind.u64.wrap ((IntKind.u64.wrap (nthD (0 : Int) b0 (Int.toNat (IntKind.i64.wrap (b5 + (1 : Int)))))) * 2 ^ min (Int.toNat (IntKind.i64.wrap ((32 : Int) - b3))) 64)))) b2 (Int.toNat b5)) b3 b4 (IntKind.i64.wrap (b5 + (1 : Int)))
            else
              none))
        else
          none))
    else
      none)
  else
    (Option.bind (nat_own.f k b1) fun r5 =>
      (Option.bind (nat_own.f k b2) fun r6 =>
        (some (r5, r6)))))
def e (k : Nat) (q0 : (List Int) → (List Int) → Int → (List Int) → Int → Int → Option ((List Int) × (List Int))) (_q4 : (List Int) → (List Int) → (List Int) → Int → Int → Int → Option ((List Int) × (List Int))) (a0 : (List Int)) (a1 : (List Int)) : Option ((List Int) × (List Int)) :=
  (bif (decide (0 ≤ (IntKind.i64.wrap ((a1.length : Int) - (1 : Int)))) && decide ((IntKind.i64.wrap ((a1.length : Int) - (1 : Int))) < (a1.length : Int))) then
    (Option.bind (bits_LeadingZeros32.f k (nthD (0 : Int) a1 (Int.toNat (IntKind.i64.wrap ((a1.length : Int) - (1 : Int)))))) fun r1 =>
      (Option.bind (nat_moved.f k a1 r1) fun r2 =>
        (bif (decide (0 ≤ (0 : Int)) && decide ((0 : Int) ≤ (a1.length : Int)) && decide ((a1.length : Int) ≤ (r2.length : Int))) then
          (Option.bind (nat_moved.f k a0 r1) fun r3 =>
            (bif (decide (0 ≤ (IntKind.i64.wrap ((r3.length : Int) - (((r2.take (Int.toNat (a1.length : Int))).drop (Int.toNat (0 : Int))).length : Int)))) && decide ((IntKind.i64.wrap ((r3.length : Int) - (((r2.take (Int.toNat (a1.length : Int))).drop (Int.toNat (0 : Int))).length : Int))) * 4 ≤ 281474976710656) && decide ((IntKind.i64.wrap ((r3.length : Int) - (((r2.take (Int.toNat (a1.length : Int))).drop (Int.toNat (0 : Int))).length : Int))) ≤ 9223372036854775807)) then
              q0 r3 (List.replicate (Int.toNat (IntKind.i64.wrap ((r3.length : Int) - (((r2.take (Int.toNat (a1.length : Int))).drop (Int.toNat (0 : Int))).length : Int)))) (0 : Int)) r1 ((r2.take (Int.toNat (a1.length : Int))).drop (Int.toNat (0 : Int))) (((r2.take (Int.toNat (a1.length : Int))).drop (Int.toNat (0 : Int))).length : Int) (IntKind.i64.wrap ((IntKind.i64.wrap ((r3.length : Int) - (((r2.take (Int.toNat (a1.length : Int))).drop (Int.toNat (0 : Int))).length : Int))) - (1 : Int)))
            else
              none))
        else
          none)))
  else
    none)
def pts : Nat → ((List Int) → (List Int) → Int → (List Int) → Int → Int → Option ((List Int) × (List Int))) × ((List Int) → (List Int) → (List Int) → Int → Int → Int → Option ((List Int) × (List Int)))
  | 0 => (fun _ _ _ _ _ _ => none, fun _ _ _ _ _ _ => none)
  | k + 1 => (e0 k (pts k).1 (pts k).2, e4 k (pts k).1 (pts k).2)
def p0 (k : Nat) : (List Int) → (List Int) → Int → (List Int) → Int → Int → Option ((List Int) × (List Int)) := (pts k).1
def p4 (k : Nat) : (List Int) → (List Int) → (List Int) → Int → Int → Int → Option ((List Int) × (List Int)) := (pts k).2
theorem p0_succ (k : Nat) (x0 : (List Int)) (x1 : (List Int)) (x2 : Int) (x3 : (List Int)) (x4 : Int) (x5 : Int) : p0 (k + 1) x0 x1 x2 x3 x4 x5 = e0 k (p0 k) (p4 k) x0 x1 x2 x3 x4 x5 := rfl
theorem p4_succ (k : Nat) (x0 : (List Int)) (x1 : (List Int)) (x2 : (List Int)) (x3 : Int) (x4 : Int) (x5 : Int) : p4 (k + 1) x0 x1 x2 x3 x4 x5 = e4 k (p0 k) (p4 k) x0 x1 x2 x3 x4 x5 := rfl
def f (k : Nat) (a0 : (List Int)) (a1 : (List Int)) : Option ((List Int) × (List Int)) := e k (p0 k) (p4 k) a0 a1
end nat_long

namespace nat_Div
def e (k : Nat) (a0 : (List Int)) (a1 : (List Int)) : Option ((List Int) × (List Int) × Int) :=
  (Option.bind (nat_trim.f k a0) fun r1 =>
    (Option.bind (nat_trim.f k a1) fun r2 =>
      (bif (decide ((r2.length : Int) = (0 : Int))) then
        (some (([] : List Int), ([] : List Int), (11 : Int)))
      else
        (Option.bind (nat_Cmp.f k r1 r2) fun r3 =>
          (bif (decide (r3 < (0 : Int))) then
            (Option.bind (nat_own.f k r1) fun r4 =>
              (some (([] : List Int), r4, (0 : Int))))
          else
            (bif (decide ((r2.length : Int) = (1 : Int))) then
              (bif (decide ((0 : Int) < (r2.length : Int))) then
                (Option.bind (nat_short.f k r1 (nthD (0 : Int) r2 0)) fun r5 =>
                  (Option.bind (nat_own.f k r5.1) fun r6 =>
                    (Option.bind (nat_own.f k [r5.2]) fun r7 =>
                      (some (r6, r7, (0 : Int))))))
              else
                none)
            else
              (Option.bind (nat_long.f k r1 r2) fun r8 =>
                (some (r8.1, r8.2, (0 : Int))))))))))
def f (k : Nat) (a0 : (List Int)) (a1 : (List Int)) : Option ((List Int) × (List Int) × Int) := e k a0 a1
end nat_Div

namespace nat_Gcd
def e0 (k : Nat) (q0 : (List Int) → (List Int) → Option (List Int)) (b0 : (List Int)) (b1 : (List Int)) : Option (List Int) :=
  (bif (decide ((b1.length : Int) > (0 : Int))) then
    (Option.bind (nat_Div.f k b0 b1) fun r3 =>
      q0 b1 r3.2.1)
  else
    (some b0))
def e (k : Nat) (q0 : (List Int) → (List Int) → Option (List Int)) (a0 : (List Int)) (a1 : (List Int)) : Option (List Int) :=
  (Option.bind (nat_own.f k a0) fun r1 =>
    (Option.bind (nat_own.f k a1) fun r2 =>
      q0 r1 r2))
def pts : Nat → ((List Int) → (List Int) → Option (List Int))
  | 0 => fun _ _ => none
  | k + 1 => e0 k (pts k)
def p0 (k : Nat) : (List Int) → (List Int) → Option (List Int) := (pts k)
theorem p0_succ (k : Nat) (x0 : (List Int)) (x1 : (List Int)) : p0 (k + 1) x0 x1 = e0 k (p0 k) x0 x1 := rfl
def f (k : Nat) (a0 : (List Int)) (a1 : (List Int)) : Option (List Int) := e k (p0 k) a0 a1
end nat_Gcd

namespace whole_core
def e0 (_k : Nat) (q0 : (List Int) → Int → Option (List Int)) (q9 : (List Int) → Int → Option (List Int)) (b0 : (List Int)) (b1 : Int) : Option (List Int) :=
  (bif (decide (b1 > (0 : Int))) then
    (bif (decide (0 ≤ (IntKind.i64.wrap (b1 - (1 : Int)))) && decide ((IntKind.i64.wrap (b1 - (1 : Int))) < (b0.length : Int))) then
      (bif (decide ((nthD (0 : Int) b0 (Int.toNat (IntKind.i64.wrap (b1 - (1 : Int))))) = (0 : Int))) then
        q0 b0 (IntKind.i64.wrap (b1 - (1 : Int)))
      else
        q9 b0 b1)
    else
      none)
  else
    q9 b0 b1)
def e9 (_k : Nat) (_q0 : (List Int) → Int → Option (List Int)) (_q9 : (List Int) → Int → Option (List Int)) (b0 : (List Int)) (b1 : Int) : Option (List Int) :=
  (bif (decide (0 ≤ (0 : Int)) && decide ((0 : Int) ≤ b1) && decide (b1 ≤ b1) && decide (b1 ≤ (b0.length : Int))) then
    (some ((b0.take (Int.toNat b1)).drop (Int.toNat (0 : Int))))
  else
    none)
def e (_k : Nat) (q0 : (List Int) → Int → Option (List Int)) (_q9 : (List Int) → Int → Option (List Int)) (a0 : (List Int)) : Option (List Int) :=
  q0 a0 (a0.length : Int)
def pts : Nat → ((List Int) → Int → Option (List Int)) × ((List Int) → Int → Option (List Int))
  | 0 => (fun _ _ => none, fun _ _ => none)
  | k + 1 => (e0 k (pts k).1 (pts k).2, e9 k (pts k).1 (pts k).2)
def p0 (k : Nat) : (List Int) → Int → Option (List Int) := (pts k).1
def p9 (k : Nat) : (List Int) → Int → Option (List Int) := (pts k).2
theorem p0_succ (k : Nat) (x0 : (List Int)) (x1 : Int) : p0 (k + 1) x0 x1 = e0 k (p0 k) (p9 k) x0 x1 := rfl
theorem p9_succ (k : Nat) (x0 : (List Int)) (x1 : Int) : p9 (k + 1) x0 x1 = e9 k (p0 k) (p9 k) x0 x1 := rfl
def f (k : Nat) (a0 : (List Int)) : Option (List Int) := e k (p0 k) (p9 k) a0
end whole_core

namespace whole_Sign
def e (k : Nat) (a0 : (Bool × (List Int))) : Option Int :=
  (Option.bind (whole_core.f k a0.2) fun r1 =>
    (bif (decide ((r1.length : Int) = (0 : Int))) then
      (some (0 : Int))
    else
      (bif a0.1 then
        (some (-1 : Int))
      else
        (some (1 : Int)))))
def f (k : Nat) (a0 : (Bool × (List Int))) : Option Int := e k a0
end whole_Sign

namespace nat_Norm
def e (k : Nat) (a0 : (List Int)) : Option (List Int) :=
  (Option.bind (nat_own.f k a0) fun r1 =>
    (some r1))
def f (k : Nat) (a0 : (List Int)) : Option (List Int) := e k a0
end nat_Norm

namespace whole_signed
def e0 (_k : Nat) (q0 : (Bool × (List Int)) → (List Int) → Int → (List Int) → Int → Int → Option (Bool × (List Int))) (b0 : (Bool × (List Int))) (b1 : (List Int)) (b2 : Int) (b3 : (List Int)) (b4 : Int) (b5 : Int) : Option (Bool × (List Int)) :=
  (bif (decide (b5 < b4)) then
    (bif (decide (0 ≤ b5) && decide (b5 < (b3.length : Int))) then
      q0 b0 b1 (IntKind.i64.wrap (b2 * (nthD (0 : Int) b3 (Int.toNat b5)))) b3 b4 (IntKind.i64.wrap (b5 + (1 : Int)))
    else
      none)
  else
    (bif (decide (b2 < (0 : Int))) then
      (some ((decide ((b1.length : Int) > (0 : Int))), b1))
    else
      (some (false, b1))))
def e (k : Nat) (q0 : (Bool × (List Int)) → (List Int) → Int → (List Int) → Int → Int → Option (Bool × (List Int))) (a0 : (List Int)) (a1 : (List Int)) : Option (Bool × (List Int)) :=
  (Option.bind (nat_Norm.f k a0) fun r1 =>
    q0 (false, ([] : List Int)) r1 (1 : Int) a1 (a1.length : Int) (0 : Int))
def pts : Nat → ((Bool × (List Int)) → (List Int) → Int → (List Int) → Int → Int → Option (Bool × (List Int)))
  | 0 => fun _ _ _ _ _ _ => none
  | k + 1 => e0 k (pts k)
def p0 (k : Nat) : (Bool × (List Int)) → (List Int) → Int → (List Int) → Int → Int → Option (Bool × (List Int)) := (pts k)
theorem p0_succ (k : Nat) (x0 : (Bool × (List Int))) (x1 : (List Int)) (x2 : Int) (x3 : (List Int)) (x4 : Int) (x5 : Int) : p0 (k + 1) x0 x1 x2 x3 x4 x5 = e0 k (p0 k) x0 x1 x2 x3 x4 x5 := rfl
def f (k : Nat) (a0 : (List Int)) (a1 : (List Int)) : Option (Bool × (List Int)) := e k (p0 k) a0 a1
end whole_signed

namespace whole_Norm
def e (k : Nat) (a0 : (Bool × (List Int))) : Option (Bool × (List Int)) :=
  (Option.bind (whole_Sign.f k a0) fun r1 =>
    (Option.bind (whole_signed.f k a0.2 [r1]) fun r2 =>
      (some r2)))
def f (k : Nat) (a0 : (Bool × (List Int))) : Option (Bool × (List Int)) := e k a0
end whole_Norm

namespace ratio_made
def e (k : Nat) (a0 : (Bool × (List Int))) (a1 : (List Int)) : Option ((Bool × (List Int)) × (List Int)) :=
  (Option.bind (nat_Gcd.f k a0.2 a1) fun r1 =>
    (Option.bind (nat_Div.f k a0.2 r1) fun r2 =>
      (Option.bind (nat_Div.f k a1 r1) fun r3 =>
        (Option.bind (whole_Norm.f k (a0.1, r2.1)) fun r4 =>
          (some (r4, r3.1))))))
def f (k : Nat) (a0 : (Bool × (List Int))) (a1 : (List Int)) : Option ((Bool × (List Int)) × (List Int)) := e k a0 a1
end ratio_made

namespace ratio_Norm
def e (k : Nat) (a0 : ((Bool × (List Int)) × (List Int))) : Option ((Bool × (List Int)) × (List Int)) :=
  (Option.bind (nat_Bits.f k a0.2) fun r1 =>
    (bif (decide (r1 = (0 : Int))) then
      (some ((false, ([] : List Int)), [(1 : Int)]))
    else
      (Option.bind (ratio_made.f k a0.1 a0.2) fun r2 =>
        (some r2))))
def f (k : Nat) (a0 : ((Bool × (List Int)) × (List Int))) : Option ((Bool × (List Int)) × (List Int)) := e k a0
end ratio_Norm

namespace nat_Mul
def e0 (k : Nat) (_q0 : (List Int) → (List Int) → (List Int) → Int → Int → Option (List Int)) (q4 : (List Int) → (List Int) → (List Int) → Int → Int → Int → Int → Int → Int → Option (List Int)) (b0 : (List Int)) (b1 : (List Int)) (b2 : (List Int)) (b3 : Int) (b4 : Int) : Option (List Int) :=
  (bif (decide (b4 < b3)) then
    q4 b0 b1 b2 b4 (0 : Int) b3 b4 (b2.length : Int) (0 : Int)
  else
    (Option.bind (nat_own.f k b0) fun r3 =>
      (some r3)))
def e4 (_k : Nat) (q0 : (List Int) → (List Int) → (List Int) → Int → Int → Option (List Int)) (q4 : (List Int) → (List Int) → (List Int) → Int → Int → Int → Int → Int → Int → Option (List Int)) (b0 : (List Int)) (b1 : (List Int)) (b2 : (List Int)) (b3 : Int) (b4 : Int) (b5 : Int) (b6 : Int) (b7 : Int) (b8 : Int) : Option (List Int) :=
  (bif (decide (b8 < b7)) then
    (bif (decide (0 ≤ b3) && decide (b3 < (b1.length : Int))) then
      (bif (decide (0 ≤ b8) && decide (b8 < (b2.length : Int))) then
        (bif (decide (0 ≤ (IntKind.i64.wrap (b3 + b8))) && decide ((IntKind.i64.wrap (b3 + b8)) < (b0.length : Int))) then
          (bif (decide (0 ≤ (IntKind.i64.wrap (b3 + b8))) && decide ((IntKind.i64.wrap (b3 + b8)) < (b0.length : Int))) then
            q4 (setN (IntKind.u32.wrap (IntKind.u64.wrap ((IntKind.u64.wrap ((IntKind.u64.wrap ((IntKind.u64.wrap (nthD (0 : Int) b1 (Int.toNat b3))) * (IntKind.u64.wrap (nthD (0 : Int) b2 (Int.toNat b8))))) + (IntKind.u64.wrap (nthD (0 : Int) b0 (Int.toNat (IntKind.i64.wrap (b3 + b8))))))) + b4))) b0 (Int.toNat (IntKind.i64.wrap (b3 + b8)))) b1 b2 b3 (Int.fdiv (IntKind.u64.wrap ((IntKind.u64.wrap ((IntKind.u64.wrap ((IntKind.u64.wrap (nthD (0 : Int) b1 (Int.toNat b3))) * (IntKind.u64.wrap (nthD (0 : Int) b2 (Int.toNat b8))))) + (IntKind.u64.wrap (nthD (0 : Int) b0 (Int.toNat (IntKind.i64.wrap (b3 + b8))))))) + b4)) (2 ^ 32)) b5 b6 b7 (IntKind.i64.wrap (b8 + (1 : Int)))
          else
            none)
        else
          none)
      else
        none)
    else
      none)
  else
    (bif (decide (0 ≤ (IntKind.i64.wrap (b3 + (b2.length : Int)))) && decide ((IntKind.i64.wrap (b3 + (b2.length : Int))) < (b0.length : Int))) then
      q0 (setN (IntKind.u32.wrap b4) b0 (Int.toNat (IntKind.i64.wrap (b3 + (b2.length : Int))))) b1 b2 b5 (IntKind.i64.wrap (b6 + (1 : Int)))
    else
      none))
def e (k : Nat) (q0 : (List Int) → (List Int) → (List Int) → Int → Int → Option (List Int)) (_q4 : (List Int) → (List Int) → (List Int) → Int → Int → Int → Int → Int → Int → Option (List Int)) (a0 : (List Int)) (a1 : (List Int)) : Option (List Int) :=
  (Option.bind (nat_trim.f k a0) fun r1 =>
    (Option.bind (nat_trim.f k a1) fun r2 =>
      (bif (decide (0 ≤ (IntKind.i64.wrap ((r1.length : Int) + (r2.length : Int)))) && decide ((IntKind.i64.wrap ((r1.length : Int) + (r2.length : Int))) * 4 ≤ 281474976710656) && decide ((IntKind.i64.wrap ((r1.length : Int) + (r2.length : Int))) ≤ 9223372036854775807)) then
        q0 (List.replicate (Int.toNat (IntKind.i64.wrap ((r1.length : Int) + (r2.length : Int)))) (0 : Int)) r1 r2 (r1.length : Int) (0 : Int)
      else
        none)))
def pts : Nat → ((List Int) → (List Int) → (List Int) → Int → Int → Option (List Int)) × ((List Int) → (List Int) → (List Int) → Int → Int → Int → Int → Int → Int → Option (List Int))
  | 0 => (fun _ _ _ _ _ => none, fun _ _ _ _ _ _ _ _ _ => none)
  | k + 1 => (e0 k (pts k).1 (pts k).2, e4 k (pts k).1 (pts k).2)
def p0 (k : Nat) : (List Int) → (List Int) → (List Int) → Int → Int → Option (List Int) := (pts k).1
def p4 (k : Nat) : (List Int) → (List Int) → (List Int) → Int → Int → Int → Int → Int → Int → Option (List Int) := (pts k).2
theorem p0_succ (k : Nat) (x0 : (List Int)) (x1 : (List Int)) (x2 : (List Int)) (x3 : Int) (x4 : Int) : p0 (k + 1) x0 x1 x2 x3 x4 = e0 k (p0 k) (p4 k) x0 x1 x2 x3 x4 := rfl
theorem p4_succ (k : Nat) (x0 : (List Int)) (x1 : (List Int)) (x2 : (List Int)) (x3 : Int) (x4 : Int) (x5 : Int) (x6 : Int) (x7 : Int) (x8 : Int) : p4 (k + 1) x0 x1 x2 x3 x4 x5 x6 x7 x8 = e4 k (p0 k) (p4 k) x0 x1 x2 x3 x4 x5 x6 x7 x8 := rfl
def f (k : Nat) (a0 : (List Int)) (a1 : (List Int)) : Option (List Int) := e k (p0 k) (p4 k) a0 a1
end nat_Mul

namespace whole_Mul
def e (k : Nat) (a0 : (Bool × (List Int))) (a1 : (Bool × (List Int))) : Option (Bool × (List Int)) :=
  (Option.bind (nat_Mul.f k a0.2 a1.2) fun r1 =>
    (Option.bind (whole_Sign.f k a0) fun r2 =>
      (Option.bind (whole_Sign.f k a1) fun r3 =>
        (Option.bind (whole_signed.f k r1 [r2, r3]) fun r4 =>
          (some r4)))))
def f (k : Nat) (a0 : (Bool × (List Int))) (a1 : (Bool × (List Int))) : Option (Bool × (List Int)) := e k a0 a1
end whole_Mul

namespace whole_Neg
def e (k : Nat) (a0 : (Bool × (List Int))) : Option (Bool × (List Int)) :=
  (Option.bind (whole_Sign.f k a0) fun r1 =>
    (Option.bind (whole_signed.f k a0.2 [(-1 : Int), r1]) fun r2 =>
      (some r2)))
def f (k : Nat) (a0 : (Bool × (List Int))) : Option (Bool × (List Int)) := e k a0
end whole_Neg

namespace nat_Add
def e7 (_k : Nat) (_q7 : (List Int) → (List Int) → Option (List Int)) (q0 : (List Int) → (List Int) → (List Int) → Int → Int → Int → Option (List Int)) (_q23 : (List Int) → (List Int) → (List Int) → Int → Int → Int → Int → Int → Option (List Int)) (b0 : (List Int)) (b1 : (List Int)) : Option (List Int) :=
  (bif (decide (0 ≤ (IntKind.i64.wrap ((b0.length : Int) + (1 : Int)))) && decide ((IntKind.i64.wrap ((b0.length : Int) + (1 : Int))) * 4 ≤ 281474976710656) && decide ((IntKind.i64.wrap ((b0.length : Int) + (1 : Int))) ≤ 9223372036854775807)) then
    q0 (List.replicate (Int.toNat (IntKind.i64.wrap ((b0.length : Int) + (1 : Int)))) (0 : Int)) b0 b1 (0 : Int) (b0.length : Int) (0 : Int)
  else
    none)
def e0 (k : Nat) (_q7 : (List Int) → (List Int) → Option (List Int)) (_q0 : (List Int) → (List Int) → (List Int) → Int → Int → Int → Option (List Int)) (q23 : (List Int) → (List Int) → (List Int) → Int → Int → Int → Int → Int → Option (List Int)) (b0 : (List Int)) (b1 : (List Int)) (b2 : (List Int)) (b3 : Int) (b4 : Int) (b5 : Int) : Option (List Int) :=
  (bif (decide (b5 < b4)) then
    (bif (decide (b5 < (b2.length : Int))) then
      (bif (decide (0 ≤ b5) && decide (b5 < (b2.length : Int))) then
        q23 b0 b1 b2 b3 b5 (nthD (0 : Int) b2 (Int.toNat b5)) b4 b5
      else
        none)
    else
      q23 b0 b1 b2 b3 b5 (0 : Int) b4 b5)
  else
    (bif (decide (0 ≤ (b1.length : Int)) && decide ((b1.length : Int) < (b0.length : Int))) then
      (Option.bind (nat_own.f k (setN b3 b0 (Int.toNat (b1.length : Int)))) fun r1 =>
        (some r1))
    else
      none))
def e23 (k : Nat) (_q7 : (List Int) → (List Int) → Option (List Int)) (q0 : (List Int) → (List Int) → (List Int) → Int → Int → Int → Option (List Int)) (_q23 : (List Int) → (List Int) → (List Int) → Int → Int → Int → Int → Int → Option (List Int)) (b0 : (List Int)) (b1 : (List Int)) (b2 : (List Int)) (b3 : Int) (b4 : Int) (b5 : Int) (b6 : Int) (b7 : Int) : Option (List Int) :=
  (bif (decide (0 ≤ b4) && decide (b4 < (b1.length : Int))) then
    (Option.bind (bits_Add32.f k (nthD (0 : Int) b1 (Int.toNat b4)) b5 b3) fun r2 =>
      (bif (decide (0 ≤ b4) && decide (b4 < (b0.length : Int))) then
        q0 (setN r2.1 b0 (Int.toNat b4)) b1 b2 r2.2 b6 (IntKind.i64.wrap (b7 + (1 : Int)))
      else
        none))
  else
    none)
def e (_k : Nat) (q7 : (List Int) → (List Int) → Option (List Int)) (_q0 : (List Int) → (List Int) → (List Int) → Int → Int → Int → Option (List Int)) (_q23 : (List Int) → (List Int) → (List Int) → Int → Int → Int → Int → Int → Option (List Int)) (a0 : (List Int)) (a1 : (List Int)) : Option (List Int) :=
  (bif (decide ((a0.length : Int) < (a1.length : Int))) then
    q7 a1 a0
  else
    q7 a0 a1)
def pts : Nat → ((List Int) → (List Int) → Option (List Int)) × ((List Int) → (List Int) → (List Int) → Int → Int → Int → Option (List Int)) × ((List Int) → (List Int) → (List Int) → Int → Int → Int → Int → Int → Option (List Int))
  | 0 => (fun _ _ => none, fun _ _ _ _ _ _ => none, fun _ _ _ _ _ _ _ _ => none)
  | k + 1 => (e7 k (pts k).1 (pts k).2.1 (pts k).2.2, e0 k (pts k).1 (pts k).2.1 (pts k).2.2, e23 k (pts k).1 (pts k).2.1 (pts k).2.2)
def p7 (k : Nat) : (List Int) → (List Int) → Option (List Int) := (pts k).1
def p0 (k : Nat) : (List Int) → (List Int) → (List Int) → Int → Int → Int → Option (List Int) := (pts k).2.1
def p23 (k : Nat) : (List Int) → (List Int) → (List Int) → Int → Int → Int → Int → Int → Option (List Int) := (pts k).2.2
theorem p7_succ (k : Nat) (x0 : (List Int)) (x1 : (List Int)) : p7 (k + 1) x0 x1 = e7 k (p7 k) (p0 k) (p23 k) x0 x1 := rfl
theorem p0_succ (k : Nat) (x0 : (List Int)) (x1 : (List Int)) (x2 : (List Int)) (x3 : Int) (x4 : Int) (x5 : Int) : p0 (k + 1) x0 x1 x2 x3 x4 x5 = e0 k (p7 k) (p0 k) (p23 k) x0 x1 x2 x3 x4 x5 := rfl
theorem p23_succ (k : Nat) (x0 : (List Int)) (x1 : (List Int)) (x2 : (List Int)) (x3 : Int) (x4 : Int) (x5 : Int) (x6 : Int) (x7 : Int) : p23 (k + 1) x0 x1 x2 x3 x4 x5 x6 x7 = e23 k (p7 k) (p0 k) (p23 k) x0 x1 x2 x3 x4 x5 x6 x7 := rfl
def f (k : Nat) (a0 : (List Int)) (a1 : (List Int)) : Option (List Int) := e k (p7 k) (p0 k) (p23 k) a0 a1
end nat_Add

namespace nat_Sub
def e0 (k : Nat) (_q0 : (List Int) → (List Int) → (List Int) → Int → Int → Int → Option ((List Int) × Int)) (q25 : (List Int) → (List Int) → (List Int) → Int → Int → Int → Int → Int → Option ((List Int) × Int)) (b0 : (List Int)) (b1 : (List Int)) (b2 : (List Int)) (b3 : Int) (b4 : Int) (b5 : Int) : Option ((List Int) × Int) :=
  (bif (decide (b5 < b4)) then
    (bif (decide (b5 < (b2.length : Int))) then
      (bif (decide (0 ≤ b5) && decide (b5 < (b2.length : Int))) then
        q25 b0 b1 b2 b3 b5 (nthD (0 : Int) b2 (Int.toNat b5)) b4 b5
      else
        none)
    else
      q25 b0 b1 b2 b3 b5 (0 : Int) b4 b5)
  else
    (Option.bind (nat_own.f k b0) fun r3 =>
      (some (r3, (0 : Int)))))
def e25 (k : Nat) (q0 : (List Int) → (List Int) → (List Int) → Int → Int → Int → Option ((List Int) × Int)) (_q25 : (List Int) → (List Int) → (List Int) → Int → Int → Int → Int → Int → Option ((List Int) × Int)) (b0 : (List Int)) (b1 : (List Int)) (b2 : (List Int)) (b3 : Int) (b4 : Int) (b5 : Int) (b6 : Int) (b7 : Int) : Option ((List Int) × Int) :=
  (bif (decide (0 ≤ b4) && decide (b4 < (b1.length : Int))) then
    (Option.bind (bits_Sub32.f k (nthD (0 : Int) b1 (Int.toNat b4)) b5 b3) fun r4 =>
      (bif (decide (0 ≤ b4) && decide (b4 < (b0.length : Int))) then
        q0 (setN r4.1 b0 (Int.toNat b4)) b1 b2 r4.2 b6 (IntKind.i64.wrap (b7 + (1 : Int)))
      else
        none))
  else
    none)
def e (k : Nat) (q0 : (List Int) → (List Int) → (List Int) → Int → Int → Int → Option ((List Int) × Int)) (_q25 : (List Int) → (List Int) → (List Int) → Int → Int → Int → Int → Int → Option ((List Int) × Int)) (a0 : (List Int)) (a1 : (List Int)) : Option ((List Int) × Int) :=
  (Option.bind (nat_Cmp.f k a0 a1) fun r1 =>
    (bif (decide (r1 < (0 : Int))) then
      (some (([] : List Int), (10 : Int)))
    else
      (Option.bind (nat_trim.f k a1) fun r2 =>
        (bif (decide (0 ≤ (a0.length : Int)) && decide ((a0.length : Int) * 4 ≤ 281474976710656) && decide ((a0.length : Int) ≤ 9223372036854775807)) then
          q0 (List.replicate (Int.toNat (a0.length : Int)) (0 : Int)) a0 r2 (0 : Int) (a0.length : Int) (0 : Int)
        else
          none))))
def pts : Nat → ((List Int) → (List Int) → (List Int) → Int → Int → Int → Option ((List Int) × Int)) × ((List Int) → (List Int) → (List Int) → Int → Int → Int → Int → Int → Option ((List Int) × Int))
  | 0 => (fun _ _ _ _ _ _ => none, fun _ _ _ _ _ _ _ _ => none)
  | k + 1 => (e0 k (pts k).1 (pts k).2, e25 k (pts k).1 (pts k).2)
def p0 (k : Nat) : (List Int) → (List Int) → (List Int) → Int → Int → Int → Option ((List Int) × Int) := (pts k).1
def p25 (k : Nat) : (List Int) → (List Int) → (List Int) → Int → Int → Int → Int → Int → Option ((List Int) × Int) := (pts k).2
theorem p0_succ (k : Nat) (x0 : (List Int)) (x1 : (List Int)) (x2 : (List Int)) (x3 : Int) (x4 : Int) (x5 : Int) : p0 (k + 1) x0 x1 x2 x3 x4 x5 = e0 k (p0 k) (p25 k) x0 x1 x2 x3 x4 x5 := rfl
theorem p25_succ (k : Nat) (x0 : (List Int)) (x1 : (List Int)) (x2 : (List Int)) (x3 : Int) (x4 : Int) (x5 : Int) (x6 : Int) (x7 : Int) : p25 (k + 1) x0 x1 x2 x3 x4 x5 x6 x7 = e25 k (p0 k) (p25 k) x0 x1 x2 x3 x4 x5 x6 x7 := rfl
def f (k : Nat) (a0 : (List Int)) (a1 : (List Int)) : Option ((List Int) × Int) := e k (p0 k) (p25 k) a0 a1
end nat_Sub

namespace whole_Add
def e (k : Nat) (a0 : (Bool × (List Int))) (a1 : (Bool × (List Int))) : Option (Bool × (List Int)) :=
  (Option.bind (whole_Sign.f k a0) fun r1 =>
    (Option.bind (whole_Sign.f k a1) fun r2 =>
      (bif (decide ((IntKind.i64.wrap (r1 * r2)) ≥ (0 : Int))) then
        (Option.bind (nat_Add.f k a0.2 a1.2) fun r3 =>
          (Option.bind (whole_signed.f k r3 [(bitsI .or .i64 (bitsI .or .i64 r1 r2) (1 : Int))]) fun r4 =>
            (some r4)))
      else
        (Option.bind (nat_Cmp.f k a0.2 a1.2) fun r5 =>
          (bif (decide (r5 ≥ (0 : Int))) then
            (Option.bind (nat_Sub.f k a0.2 a1.2) fun r6 =>
              (Option.bind (whole_signed.f k r6.1 [r1]) fun r7 =>
                (some r7)))
          else
            (Option.bind (nat_Sub.f k a1.2 a0.2) fun r8 =>
              (Option.bind (whole_signed.f k r8.1 [r2]) fun r9 =>
                (some r9))))))))
def f (k : Nat) (a0 : (Bool × (List Int))) (a1 : (Bool × (List Int))) : Option (Bool × (List Int)) := e k a0 a1
end whole_Add

namespace whole_Sub
def e (k : Nat) (a0 : (Bool × (List Int))) (a1 : (Bool × (List Int))) : Option (Bool × (List Int)) :=
  (Option.bind (whole_Neg.f k a1) fun r1 =>
    (Option.bind (whole_Add.f k a0 r1) fun r2 =>
      (some r2)))
def f (k : Nat) (a0 : (Bool × (List Int))) (a1 : (Bool × (List Int))) : Option (Bool × (List Int)) := e k a0 a1
end whole_Sub

namespace whole_Cmp
def e (k : Nat) (a0 : (Bool × (List Int))) (a1 : (Bool × (List Int))) : Option Int :=
  (Option.bind (whole_Sub.f k a0 a1) fun r1 =>
    (Option.bind (whole_Sign.f k r1) fun r2 =>
      (some r2)))
def f (k : Nat) (a0 : (Bool × (List Int))) (a1 : (Bool × (List Int))) : Option Int := e k a0 a1
end whole_Cmp

namespace ratio_Cmp
def e (k : Nat) (a0 : ((Bool × (List Int)) × (List Int))) (a1 : ((Bool × (List Int)) × (List Int))) : Option Int :=
  (Option.bind (ratio_Norm.f k a0) fun r1 =>
    (Option.bind (ratio_Norm.f k a1) fun r2 =>
      (Option.bind (whole_Mul.f k r1.1 (false, r2.2)) fun r3 =>
        (Option.bind (whole_Mul.f k r2.1 (false, r1.2)) fun r4 =>
          (Option.bind (whole_Cmp.f k r3 r4) fun r5 =>
            (some r5))))))
def f (k : Nat) (a0 : ((Bool × (List Int)) × (List Int))) (a1 : ((Bool × (List Int)) × (List Int))) : Option Int := e k a0 a1
end ratio_Cmp

namespace delta_Cmp
def e (k : Nat) (a0 : (((Bool × (List Int)) × (List Int)) × ((Bool × (List Int)) × (List Int)))) (a1 : (((Bool × (List Int)) × (List Int)) × ((Bool × (List Int)) × (List Int)))) : Option Int :=
  (Option.bind (ratio_Cmp.f k a0.1 a1.1) fun r1 =>
    (bif (!decide (r1 = (0 : Int))) then
      (some r1)
    else
      (Option.bind (ratio_Cmp.f k a0.2 a1.2) fun r2 =>
        (some r2))))
def f (k : Nat) (a0 : (((Bool × (List Int)) × (List Int)) × ((Bool × (List Int)) × (List Int)))) (a1 : (((Bool × (List Int)) × (List Int)) × ((Bool × (List Int)) × (List Int)))) : Option Int := e k a0 a1
end delta_Cmp

namespace law05_gaps
def e0 (k : Nat) (q0 : (List ((((Bool × (List Int)) × (List Int)) × ((Bool × (List Int)) × (List Int))) × (((Bool × (List Int)) × (List Int)) × ((Bool × (List Int)) × (List Int))))) → (List ((((Bool × (List Int)) × (List Int)) × ((Bool × (List Int)) × (List Int))) × (((Bool × (List Int)) × (List Int)) × ((Bool × (List Int)) × (List Int))))) → Int → Option (List ((((Bool × (List Int)) × (List Int)) × ((Bool × (List Int)) × (List Int))) × (((Bool × (List Int)) × (List Int)) × ((Bool × (List Int)) × (List Int)))))) (b0 : (List ((((Bool × (List Int)) × (List Int)) × ((Bool × (List Int)) × (List Int))) × (((Bool × (List Int)) × (List Int)) × ((Bool × (List Int)) × (List Int)))))) (b1 : (List ((((Bool × (List Int)) × (List Int)) × ((Bool × (List Int)) × (List Int))) × (((Bool × (List Int)) × (List Int)) × ((Bool × (List Int)) × (List Int)))))) (b2 : Int) : Option (List ((((Bool × (List Int)) × (List Int)) × ((Bool × (List Int)) × (List Int))) × (((Bool × (List Int)) × (List Int)) × ((Bool × (List Int)) × (List Int))))) :=
  (bif (decide (b2 < (b1.length : Int))) then
    (bif (decide (0 ≤ b2) && decide (b2 < (b1.length : Int))) then
      (Option.bind (law05_twin.f k (nthD ((((false, ([] : List Int)), ([] : List Int)), ((false, ([] : List Int)), ([] : List Int))), (((false, ([] : List Int)), ([] : List Int)), ((false, ([] : List Int)), ([] : List Int)))) b1 (Int.toNat b2)).1) fun r1 =>
        (bif (decide (0 ≤ b2) && decide (b2 < (b1.length : Int))) then
          (Option.bind (law05_twin.f k (nthD ((((false, ([] : List Int)), ([] : List Int)), ((false, ([] : List Int)), ([] : List Int))), (((false, ([] : List Int)), ([] : List Int)), ((false, ([] : List Int)), ([] : List Int)))) b1 (Int.toNat b2)).2) fun r2 =>
            (bif (decide (0 ≤ b2) && decide (b2 < (b0.length : Int))) then
              q0 (setN (r1, r2) b0 (Int.toNat b2)) b1 (IntKind.i64.wrap (b2 + (1 : Int)))
            else
              none))
        else
          none))
    else
      none)
  else
    (some b0))
def e (_k : Nat) (q0 : (List ((((Bool × (List Int)) × (List Int)) × ((Bool × (List Int)) × (List Int))) × (((Bool × (List Int)) × (List Int)) × ((Bool × (List Int)) × (List Int))))) → (List ((((Bool × (List Int)) × (List Int)) × ((Bool × (List Int)) × (List Int))) × (((Bool × (List Int)) × (List Int)) × ((Bool × (List Int)) × (List Int))))) → Int → Option (List ((((Bool × (List Int)) × (List Int)) × ((Bool × (List Int)) × (List Int))) × (((Bool × (List Int)) × (List Int)) × ((Bool × (List Int)) × (List Int)))))) (a0 : (List ((((Bool × (List Int)) × (List Int)) × ((Bool × (List Int)) × (List Int))) × (((Bool × (List Int)) × (List Int)) × ((Bool × (List Int)) × (List Int)))))) : Option (List ((((Bool × (List Int)) × (List Int)) × ((Bool × (List Int)) × (List Int))) × (((Bool × (List Int)) × (List Int)) × ((Bool × (List Int)) × (List Int))))) :=
  (bif (decide (0 ≤ (a0.length : Int)) && decide ((a0.length : Int) * 224 ≤ 281474976710656) && decide ((a0.length : Int) ≤ 9223372036854775807)) then
    q0 (List.replicate (Int.toNat (a0.length : Int)) ((((false, ([] : List Int)), ([] : List Int)), ((false, ([] : List Int)), ([] : List Int))), (((false, ([] : List Int)), ([] : List Int)), ((false, ([] : List Int)), ([] : List Int))))) a0 (0 : Int)
  else
    none)
def pts : Nat → ((List ((((Bool × (List Int)) × (List Int)) × ((Bool × (List Int)) × (List Int))) × (((Bool × (List Int)) × (List Int)) × ((Bool × (List Int)) × (List Int))))) → (List ((((Bool × (List Int)) × (List Int)) × ((Bool × (List Int)) × (List Int))) × (((Bool × (List Int)) × (List Int)) × ((Bool × (List Int)) × (List Int))))) → Int → Option (List ((((Bool × (List Int)) × (List Int)) × ((Bool × (List Int)) × (List Int))) × (((Bool × (List Int)) × (List Int)) × ((Bool × (List Int)) × (List Int))))))
  | 0 => fun _ _ _ => none
  | k + 1 => e0 k (pts k)
def p0 (k : Nat) : (List ((((Bool × (List Int)) × (List Int)) × ((Bool × (List Int)) × (List Int))) × (((Bool × (List Int)) × (List Int)) × ((Bool × (List Int)) × (List Int))))) → (List ((((Bool × (List Int)) × (List Int)) × ((Bool × (List Int)) × (List Int))) × (((Bool × (List Int)) × (List Int)) × ((Bool × (List Int)) × (List Int))))) → Int → Option (List ((((Bool × (List Int)) × (List Int)) × ((Bool × (List Int)) × (List Int))) × (((Bool × (List Int)) × (List Int)) × ((Bool × (List Int)) × (List Int))))) := (pts k)
theorem p0_succ (k : Nat) (x0 : (List ((((Bool × (List Int)) × (List Int)) × ((Bool × (List Int)) × (List Int))) × (((Bool × (List Int)) × (List Int)) × ((Bool × (List Int)) × (List Int)))))) (x1 : (List ((((Bool × (List Int)) × (List Int)) × ((Bool × (List Int)) × (List Int))) × (((Bool × (List Int)) × (List Int)) × ((Bool × (List Int)) × (List Int)))))) (x2 : Int) : p0 (k + 1) x0 x1 x2 = e0 k (p0 k) x0 x1 x2 := by
  have h : pts (k + 1) = e0 k (pts k) := by rw [pts]
  unfold p0
  rw [h]
def f (k : Nat) (a0 : (List ((((Bool × (List Int)) × (List Int)) × ((Bool × (List Int)) × (List Int))) × (((Bool × (List Int)) × (List Int)) × ((Bool × (List Int)) × (List Int)))))) : Option (List ((((Bool × (List Int)) × (List Int)) × ((Bool × (List Int)) × (List Int))) × (((Bool × (List Int)) × (List Int)) × ((Bool × (List Int)) × (List Int))))) := e k (p0 k) a0
end law05_gaps

namespace nat_Of
def e (k : Nat) (a0 : Int) : Option (List Int) :=
  (Option.bind (nat_own.f k [(IntKind.u32.wrap a0), (IntKind.u32.wrap (Int.fdiv a0 (2 ^ 32)))]) fun r1 =>
    (some r1))
def f (k : Nat) (a0 : Int) : Option (List Int) := e k a0
end nat_Of

namespace whole_Of
def e (k : Nat) (a0 : Int) : Option (Bool × (List Int)) :=
  (bif (decide (a0 < (0 : Int))) then
    (Option.bind (nat_Of.f k (IntKind.u64.wrap (0 - (IntKind.u64.wrap a0)))) fun r1 =>
      (Option.bind (whole_signed.f k r1 [(-1 : Int)]) fun r2 =>
        (some r2)))
  else
    (Option.bind (nat_Of.f k (IntKind.u64.wrap a0)) fun r3 =>
      (Option.bind (whole_signed.f k r3 ([] : List Int)) fun r4 =>
        (some r4))))
def f (k : Nat) (a0 : Int) : Option (Bool × (List Int)) := e k a0
end whole_Of

namespace ratio_Whole
def e (k : Nat) (a0 : Int) : Option ((Bool × (List Int)) × (List Int)) :=
  (Option.bind (whole_Of.f k a0) fun r1 =>
    (some (r1, [(1 : Int)])))
def f (k : Nat) (a0 : Int) : Option ((Bool × (List Int)) × (List Int)) := e k a0
end ratio_Whole

namespace ratio_Neg
def e (k : Nat) (a0 : ((Bool × (List Int)) × (List Int))) : Option ((Bool × (List Int)) × (List Int)) :=
  (Option.bind (ratio_Norm.f k a0) fun r1 =>
    (Option.bind (whole_Neg.f k r1.1) fun r2 =>
      (some (r2, r1.2))))
def f (k : Nat) (a0 : ((Bool × (List Int)) × (List Int))) : Option ((Bool × (List Int)) × (List Int)) := e k a0
end ratio_Neg

namespace ratio_Add
def e (k : Nat) (a0 : ((Bool × (List Int)) × (List Int))) (a1 : ((Bool × (List Int)) × (List Int))) : Option ((Bool × (List Int)) × (List Int)) :=
  (Option.bind (ratio_Norm.f k a0) fun r1 =>
    (Option.bind (ratio_Norm.f k a1) fun r2 =>
      (Option.bind (whole_Mul.f k r1.1 (false, r2.2)) fun r3 =>
        (Option.bind (whole_Mul.f k r2.1 (false, r1.2)) fun r4 =>
          (Option.bind (whole_Add.f k r3 r4) fun r5 =>
            (Option.bind (nat_Mul.f k r1.2 r2.2) fun r6 =>
              (Option.bind (ratio_made.f k r5 r6) fun r7 =>
                (some r7))))))))
def f (k : Nat) (a0 : ((Bool × (List Int)) × (List Int))) (a1 : ((Bool × (List Int)) × (List Int))) : Option ((Bool × (List Int)) × (List Int)) := e k a0 a1
end ratio_Add

namespace ratio_Sub
def e (k : Nat) (a0 : ((Bool × (List Int)) × (List Int))) (a1 : ((Bool × (List Int)) × (List Int))) : Option ((Bool × (List Int)) × (List Int)) :=
  (Option.bind (ratio_Neg.f k a1) fun r1 =>
    (Option.bind (ratio_Add.f k a0 r1) fun r2 =>
      (some r2)))
def f (k : Nat) (a0 : ((Bool × (List Int)) × (List Int))) (a1 : ((Bool × (List Int)) × (List Int))) : Option ((Bool × (List Int)) × (List Int)) := e k a0 a1
end ratio_Sub

namespace ratio_Sign
def e (k : Nat) (a0 : ((Bool × (List Int)) × (List Int))) : Option Int :=
  (Option.bind (ratio_Norm.f k a0) fun r1 =>
    (Option.bind (whole_Sign.f k r1.1) fun r2 =>
      (some r2)))
def f (k : Nat) (a0 : ((Bool × (List Int)) × (List Int))) : Option Int := e k a0
end ratio_Sign

namespace ratio_Of
def e11 (k : Nat) (_q11 : (Bool × (List Int)) → (Bool × (List Int)) → ((Bool × (List Int)) × (List Int)) → Option (((Bool × (List Int)) × (List Int)) × Int)) (b0 : (Bool × (List Int))) (b1 : (Bool × (List Int))) (_b2 : ((Bool × (List Int)) × (List Int))) : Option (((Bool × (List Int)) × (List Int)) × Int) :=
  (Option.bind (ratio_made.f k b0 b1.2) fun r4 =>
    (some (r4, (0 : Int))))
def e (k : Nat) (q11 : (Bool × (List Int)) → (Bool × (List Int)) → ((Bool × (List Int)) × (List Int)) → Option (((Bool × (List Int)) × (List Int)) × Int)) (a0 : (Bool × (List Int))) (a1 : (Bool × (List Int))) : Option (((Bool × (List Int)) × (List Int)) × Int) :=
  (Option.bind (whole_Sign.f k a1) fun r1 =>
    (bif (decide (r1 = (0 : Int))) then
      (some (((false, ([] : List Int)), ([] : List Int)), (11 : Int)))
    else
      (Option.bind (whole_Sign.f k a1) fun r2 =>
        (bif (decide (r2 < (0 : Int))) then
          (Option.bind (whole_Neg.f k a0) fun r3 =>
            q11 r3 a1 ((false, ([] : List Int)), ([] : List Int)))
        else
          q11 a0 a1 ((false, ([] : List Int)), ([] : List Int))))))
def pts : Nat → ((Bool × (List Int)) → (Bool × (List Int)) → ((Bool × (List Int)) × (List Int)) → Option (((Bool × (List Int)) × (List Int)) × Int))
  | 0 => fun _ _ _ => none
  | k + 1 => e11 k (pts k)
def p11 (k : Nat) : (Bool × (List Int)) → (Bool × (List Int)) → ((Bool × (List Int)) × (List Int)) → Option (((Bool × (List Int)) × (List Int)) × Int) := (pts k)
theorem p11_succ (k : Nat) (x0 : (Bool × (List Int))) (x1 : (Bool × (List Int))) (x2 : ((Bool × (List Int)) × (List Int))) : p11 (k + 1) x0 x1 x2 = e11 k (p11 k) x0 x1 x2 := rfl
def f (k : Nat) (a0 : (Bool × (List Int))) (a1 : (Bool × (List Int))) : Option (((Bool × (List Int)) × (List Int)) × Int) := e k (p11 k) a0 a1
end ratio_Of

namespace ratio_Inv
def e (k : Nat) (a0 : ((Bool × (List Int)) × (List Int))) : Option (((Bool × (List Int)) × (List Int)) × Int) :=
  (Option.bind (ratio_Norm.f k a0) fun r1 =>
    (Option.bind (ratio_Of.f k (false, r1.2) r1.1) fun r2 =>
      (some (r2.1, r2.2))))
def f (k : Nat) (a0 : ((Bool × (List Int)) × (List Int))) : Option (((Bool × (List Int)) × (List Int)) × Int) := e k a0
end ratio_Inv

namespace ratio_Mul
def e (k : Nat) (a0 : ((Bool × (List Int)) × (List Int))) (a1 : ((Bool × (List Int)) × (List Int))) : Option ((Bool × (List Int)) × (List Int)) :=
  (Option.bind (ratio_Norm.f k a0) fun r1 =>
    (Option.bind (ratio_Norm.f k a1) fun r2 =>
      (Option.bind (whole_Mul.f k r1.1 r2.1) fun r3 =>
        (Option.bind (nat_Mul.f k r1.2 r2.2) fun r4 =>
          (Option.bind (ratio_made.f k r3 r4) fun r5 =>
            (some r5))))))
def f (k : Nat) (a0 : ((Bool × (List Int)) × (List Int))) (a1 : ((Bool × (List Int)) × (List Int))) : Option ((Bool × (List Int)) × (List Int)) := e k a0 a1
end ratio_Mul

namespace ratio_Div
def e (k : Nat) (a0 : ((Bool × (List Int)) × (List Int))) (a1 : ((Bool × (List Int)) × (List Int))) : Option (((Bool × (List Int)) × (List Int)) × Int) :=
  (Option.bind (ratio_Inv.f k a1) fun r1 =>
    (bif (!decide (r1.2 = (0 : Int))) then
      (some (((false, ([] : List Int)), ([] : List Int)), r1.2))
    else
      (Option.bind (ratio_Mul.f k a0 r1.1) fun r2 =>
        (some (r2, (0 : Int))))))
def f (k : Nat) (a0 : ((Bool × (List Int)) × (List Int))) (a1 : ((Bool × (List Int)) × (List Int))) : Option (((Bool × (List Int)) × (List Int)) × Int) := e k a0 a1
end ratio_Div

namespace delta_Small_c1
def e (k : Nat) (a0 : ((((Bool × (List Int)) × (List Int)) × ((Bool × (List Int)) × (List Int))) × (((Bool × (List Int)) × (List Int)) × ((Bool × (List Int)) × (List Int))))) (a1 : ((Bool × (List Int)) × (List Int))) : Option ((Bool × (List Int)) × (List Int)) :=
  (Option.bind (ratio_Sub.f k a0.2.1 a0.1.1) fun r1 =>
    (Option.bind (ratio_Sub.f k a0.1.2 a0.2.2) fun r2 =>
      (Option.bind (ratio_Sign.f k r1) fun r3 =>
        (bif (decide (r3 ≤ (0 : Int))) then
          (some a1)
        else
          (Option.bind (ratio_Sign.f k r2) fun r4 =>
            (bif (decide (r4 ≤ (0 : Int))) then
              (some a1)
            else
              (Option.bind (ratio_Div.f k r1 r2) fun r5 =>
                (Option.bind (ratio_Cmp.f k r5.1 a1) fun r6 =>
                  (bif (decide (r6 < (0 : Int))) then
                    (some r5.1)
                  else
                    (some a1))))))))))
def f (k : Nat) (a0 : ((((Bool × (List Int)) × (List Int)) × ((Bool × (List Int)) × (List Int))) × (((Bool × (List Int)) × (List Int)) × ((Bool × (List Int)) × (List Int))))) (a1 : ((Bool × (List Int)) × (List Int))) : Option ((Bool × (List Int)) × (List Int)) := e k a0 a1
end delta_Small_c1

namespace delta_Small
def e0 (k : Nat) (q0 : ((Bool × (List Int)) × (List Int)) → ((Bool × (List Int)) × (List Int)) → (List ((((Bool × (List Int)) × (List Int)) × ((Bool × (List Int)) × (List Int))) × (((Bool × (List Int)) × (List Int)) × ((Bool × (List Int)) × (List Int))))) → (List ((((Bool × (List Int)) × (List Int)) × ((Bool × (List Int)) × (List Int))) × (((Bool × (List Int)) × (List Int)) × ((Bool × (List Int)) × (List Int))))) → Int → Int → Option (((Bool × (List Int)) × (List Int)) × Int)) (q4 : ((Bool × (List Int)) × (List Int)) → ((Bool × (List Int)) × (List Int)) → (List ((((Bool × (List Int)) × (List Int)) × ((Bool × (List Int)) × (List Int))) × (((Bool × (List Int)) × (List Int)) × ((Bool × (List Int)) × (List Int))))) → Int → Int → Option (((Bool × (List Int)) × (List Int)) × Int)) (b0 : ((Bool × (List Int)) × (List Int))) (b1 : ((Bool × (List Int)) × (List Int))) (b2 : (List ((((Bool × (List Int)) × (List Int)) × ((Bool × (List Int)) × (List Int))) × (((Bool × (List Int)) × (List Int)) × ((Bool × (List Int)) × (List Int)))))) (b3 : (List ((((Bool × (List Int)) × (List Int)) × ((Bool × (List Int)) × (List Int))) × (((Bool × (List Int)) × (List Int)) × ((Bool × (List Int)) × (List Int)))))) (b4 : Int) (b5 : Int) : Option (((Bool × (List Int)) × (List Int)) × Int) :=
  (bif (decide (b5 < b4)) then
    (bif (decide (0 ≤ b5) && decide (b5 < (b3.length : Int))) then
      (Option.bind (delta_Cmp.f k (nthD ((((false, ([] : List Int)), ([] : List Int)), ((false, ([] : List Int)), ([] : List Int))), (((false, ([] : List Int)), ([] : List Int)), ((false, ([] : List Int)), ([] : List Int)))) b3 (Int.toNat b5)).1 (nthD ((((false, ([] : List Int)), ([] : List Int)), ((false, ([] : List Int)), ([] : List Int))), (((false, ([] : List Int)), ([] : List Int)), ((false, ([] : List Int)), ([] : List Int)))) b3 (Int.toNat b5)).2) fun r2 =>
        (bif (decide (r2 > (0 : Int))) then
          (some (((false, ([] : List Int)), ([] : List Int)), (51 : Int)))
        else
          q0 b0 b1 b2 b3 b4 (IntKind.i64.wrap (b5 + (1 : Int)))))
    else
      none)
  else
    q4 b0 b1 b2 (b2.length : Int) (0 : Int))
def e4 (k : Nat) (_q0 : ((Bool × (List Int)) × (List Int)) → ((Bool × (List Int)) × (List Int)) → (List ((((Bool × (List Int)) × (List Int)) × ((Bool × (List Int)) × (List Int))) × (((Bool × (List Int)) × (List Int)) × ((Bool × (List Int)) × (List Int))))) → (List ((((Bool × (List Int)) × (List Int)) × ((Bool × (List Int)) × (List Int))) × (((Bool × (List Int)) × (List Int)) × ((Bool × (List Int)) × (List Int))))) → Int → Int → Option (((Bool × (List Int)) × (List Int)) × Int)) (q4 : ((Bool × (List Int)) × (List Int)) → ((Bool × (List Int)) × (List Int)) → (List ((((Bool × (List Int)) × (List Int)) × ((Bool × (List Int)) × (List Int))) × (((Bool × (List Int)) × (List Int)) × ((Bool × (List Int)) × (List Int))))) → Int → Int → Option (((Bool × (List Int)) × (List Int)) × Int)) (b0 : ((Bool × (List Int)) × (List Int))) (b1 : ((Bool × (List Int)) × (List Int))) (b2 : (List ((((Bool × (List Int)) × (List Int)) × ((Bool × (List Int)) × (List Int))) × (((Bool × (List Int)) × (List Int)) × ((Bool × (List Int)) × (List Int)))))) (b3 : Int) (b4 : Int) : Option (((Bool × (List Int)) × (List Int)) × Int) :=
  (bif (decide (b4 < b3)) then
    (bif (decide (0 ≤ b4) && decide (b4 < (b2.length : Int))) then
      (Option.bind (delta_Small_c1.f k (nthD ((((false, ([] : List Int)), ([] : List Int)), ((false, ([] : List Int)), ([] : List Int))), (((false, ([] : List Int)), ([] : List Int)), ((false, ([] : List Int)), ([] : List Int)))) b2 (Int.toNat b4)) b1) fun r3 =>
        q4 b0 r3 b2 b3 (IntKind.i64.wrap (b4 + (1 : Int))))
    else
      none)
  else
    (some (b1, (0 : Int))))
def e (k : Nat) (q0 : ((Bool × (List Int)) × (List Int)) → ((Bool × (List Int)) × (List Int)) → (List ((((Bool × (List Int)) × (List Int)) × ((Bool × (List Int)) × (List Int))) × (((Bool × (List Int)) × (List Int)) × ((Bool × (List Int)) × (List Int))))) → (List ((((Bool × (List Int)) × (List Int)) × ((Bool × (List Int)) × (List Int))) × (((Bool × (List Int)) × (List Int)) × ((Bool × (List Int)) × (List Int))))) → Int → Int → Option (((Bool × (List Int)) × (List Int)) × Int)) (_q4 : ((Bool × (List Int)) × (List Int)) → ((Bool × (List Int)) × (List Int)) → (List ((((Bool × (List Int)) × (List Int)) × ((Bool × (List Int)) × (List Int))) × (((Bool × (List Int)) × (List Int)) × ((Bool × (List Int)) × (List Int))))) → Int → Int → Option (((Bool × (List Int)) × (List Int)) × Int)) (a0 : (List ((((Bool × (List Int)) × (List Int)) × ((Bool × (List Int)) × (List Int))) × (((Bool × (List Int)) × (List Int)) × ((Bool × (List Int)) × (List Int)))))) : Option (((Bool × (List Int)) × (List Int)) × Int) :=
  (Option.bind (ratio_Whole.f k (1 : Int)) fun r1 =>
    q0 ((false, ([] : List Int)), ([] : List Int)) r1 a0 a0 (a0.length : Int) (0 : Int))
def pts : Nat → (((Bool × (List Int)) × (List Int)) → ((Bool × (List Int)) × (List Int)) → (List ((((Bool × (List Int)) × (List Int)) × ((Bool × (List Int)) × (List Int))) × (((Bool × (List Int)) × (List Int)) × ((Bool × (List Int)) × (List Int))))) → (List ((((Bool × (List Int)) × (List Int)) × ((Bool × (List Int)) × (List Int))) × (((Bool × (List Int)) × (List Int)) × ((Bool × (List Int)) × (List Int))))) → Int → Int → Option (((Bool × (List Int)) × (List Int)) × Int)) × (((Bool × (List Int)) × (List Int)) → ((Bool × (List Int)) × (List Int)) → (List ((((Bool × (List Int)) × (List Int)) × ((Bool × (List Int)) × (List Int))) × (((Bool × (List Int)) × (List Int)) × ((Bool × (List Int)) × (List Int))))) → Int → Int → Option (((Bool × (List Int)) × (List Int)) × Int))
  | 0 => (fun _ _ _ _ _ _ => none, fun _ _ _ _ _ => none)
  | k + 1 => (e0 k (pts k).1 (pts k).2, e4 k (pts k).1 (pts k).2)
def p0 (k : Nat) : ((Bool × (List Int)) × (List Int)) → ((Bool × (List Int)) × (List Int)) → (List ((((Bool × (List Int)) × (List Int)) × ((Bool × (List Int)) × (List Int))) × (((Bool × (List Int)) × (List Int)) × ((Bool × (List Int)) × (List Int))))) → (List ((((Bool × (List Int)) × (List Int)) × ((Bool × (List Int)) × (List Int))) × (((Bool × (List Int)) × (List Int)) × ((Bool × (List Int)) × (List Int))))) → Int → Int → Option (((Bool × (List Int)) × (List Int)) × Int) := (pts k).1
def p4 (k : Nat) : ((Bool × (List Int)) × (List Int)) → ((Bool × (List Int)) × (List Int)) → (List ((((Bool × (List Int)) × (List Int)) × ((Bool × (List Int)) × (List Int))) × (((Bool × (List Int)) × (List Int)) × ((Bool × (List Int)) × (List Int))))) → Int → Int → Option (((Bool × (List Int)) × (List Int)) × Int) := (pts k).2
theorem p0_succ (k : Nat) (x0 : ((Bool × (List Int)) × (List Int))) (x1 : ((Bool × (List Int)) × (List Int))) (x2 : (List ((((Bool × (List Int)) × (List Int)) × ((Bool × (List Int)) × (List Int))) × (((Bool × (List Int)) × (List Int)) × ((Bool × (List Int)) × (List Int)))))) (x3 : (List ((((Bool × (List Int)) × (List Int)) × ((Bool × (List Int)) × (List Int))) × (((Bool × (List Int)) × (List Int)) × ((Bool × (List Int)) × (List Int)))))) (x4 : Int) (x5 : Int) : p0 (k + 1) x0 x1 x2 x3 x4 x5 = e0 k (p0 k) (p4 k) x0 x1 x2 x3 x4 x5 := by
  have h : pts (k + 1) = (e0 k (pts k).1 (pts k).2, e4 k (pts k).1 (pts k).2) := by rw [pts]
  unfold p0 p4
  rw [h]
theorem p4_succ (k : Nat) (x0 : ((Bool × (List Int)) × (List Int))) (x1 : ((Bool × (List Int)) × (List Int))) (x2 : (List ((((Bool × (List Int)) × (List Int)) × ((Bool × (List Int)) × (List Int))) × (((Bool × (List Int)) × (List Int)) × ((Bool × (List Int)) × (List Int)))))) (x3 : Int) (x4 : Int) : p4 (k + 1) x0 x1 x2 x3 x4 = e4 k (p0 k) (p4 k) x0 x1 x2 x3 x4 := rfl
def f (k : Nat) (a0 : (List ((((Bool × (List Int)) × (List Int)) × ((Bool × (List Int)) × (List Int))) × (((Bool × (List Int)) × (List Int)) × ((Bool × (List Int)) × (List Int)))))) : Option (((Bool × (List Int)) × (List Int)) × Int) := e k (p0 k) (p4 k) a0
end delta_Small

namespace stringslite_HasSuffix
def e (_k : Nat) (a0 : ByteArray) (a1 : ByteArray) : Option Bool :=
  (bif (decide ((a0.size : Int) ≥ (a1.size : Int))) then
    (bif (decide (0 ≤ (IntKind.i64.wrap ((a0.size : Int) - (a1.size : Int)))) && decide ((IntKind.i64.wrap ((a0.size : Int) - (a1.size : Int))) ≤ (a0.size : Int)) && decide ((a0.size : Int) ≤ (a0.size : Int))) then
      (some ((a0.extract (Int.toNat (IntKind.i64.wrap ((a0.size : Int) - (a1.size : Int)))) (Int.toNat (a0.size : Int))).toList == a1.toList))
    else
      none)
  else
    (some false))
def f (k : Nat) (a0 : ByteArray) (a1 : ByteArray) : Option Bool := e k a0 a1
end stringslite_HasSuffix

namespace stringslite_CutSuffix
def e (k : Nat) (a0 : ByteArray) (a1 : ByteArray) : Option (ByteArray × Bool) :=
  (Option.bind (stringslite_HasSuffix.f k a0 a1) fun r1 =>
    (bif (!r1) then
      (some (a0, false))
    else
      (bif (decide (0 ≤ (0 : Int)) && decide ((0 : Int) ≤ (IntKind.i64.wrap ((a0.size : Int) - (a1.size : Int)))) && decide ((IntKind.i64.wrap ((a0.size : Int) - (a1.size : Int))) ≤ (a0.size : Int))) then
        (some ((a0.extract (Int.toNat (0 : Int)) (Int.toNat (IntKind.i64.wrap ((a0.size : Int) - (a1.size : Int))))), true))
      else
        none)))
def f (k : Nat) (a0 : ByteArray) (a1 : ByteArray) : Option (ByteArray × Bool) := e k a0 a1
end stringslite_CutSuffix

namespace strings_CutSuffix
def e (k : Nat) (a0 : ByteArray) (a1 : ByteArray) : Option (ByteArray × Bool) :=
  (Option.bind (stringslite_CutSuffix.f k a0 a1) fun r1 =>
    (some (r1.1, r1.2)))
def f (k : Nat) (a0 : ByteArray) (a1 : ByteArray) : Option (ByteArray × Bool) := e k a0 a1
end strings_CutSuffix

namespace bytealg_IndexByteString
def f (_k : Nat) (a0 : ByteArray) (a1 : Int) : Option Int := some (Go.Lib.indexByte a0.data.toList a1.toNat.toUInt8)
end bytealg_IndexByteString

namespace stringslite_IndexByte
def e (k : Nat) (a0 : ByteArray) (a1 : Int) : Option Int :=
  (Option.bind (bytealg_IndexByteString.f k a0 a1) fun r1 =>
    (some r1))
def f (k : Nat) (a0 : ByteArray) (a1 : Int) : Option Int := e k a0 a1
end stringslite_IndexByte

namespace strings_IndexByte
def e (k : Nat) (a0 : ByteArray) (a1 : Int) : Option Int :=
  (Option.bind (stringslite_IndexByte.f k a0 a1) fun r1 =>
    (some r1))
def f (k : Nat) (a0 : ByteArray) (a1 : Int) : Option Int := e k a0 a1
end strings_IndexByte

namespace utf8_ValidRune
def e7 (_k : Nat) (_q7 : Int → Option Bool) (q11 : Unit → Option Bool) (b0 : Int) : Option Bool :=
  (bif (decide ((57343 : Int) < b0)) then
    (bif (decide (b0 ≤ (1114111 : Int))) then
      (some true)
    else
      q11 ())
  else
    q11 ())
def e11 (_k : Nat) (_q7 : Int → Option Bool) (_q11 : Unit → Option Bool) (_ : Unit) : Option Bool :=
  (some false)
def e (_k : Nat) (q7 : Int → Option Bool) (_q11 : Unit → Option Bool) (a0 : Int) : Option Bool :=
  (bif (decide ((0 : Int) ≤ a0)) then
    (bif (decide (a0 < (55296 : Int))) then
      (some true)
    else
      q7 a0)
  else
    q7 a0)
def pts : Nat → (Int → Option Bool) × (Unit → Option Bool)
  | 0 => (fun _ => none, fun _ => none)
  | k + 1 => (e7 k (pts k).1 (pts k).2, e11 k (pts k).1 (pts k).2)
def p7 (k : Nat) : Int → Option Bool := (pts k).1
def p11 (k : Nat) : Unit → Option Bool := (pts k).2
theorem p7_succ (k : Nat) (x0 : Int) : p7 (k + 1) x0 = e7 k (p7 k) (p11 k) x0 := rfl
theorem p11_succ (k : Nat) (x0 : Unit) : p11 (k + 1) x0 = e11 k (p7 k) (p11 k) x0 := rfl
def f (k : Nat) (a0 : Int) : Option Bool := e k (p7 k) (p11 k) a0
end utf8_ValidRune

namespace bytealg_Cutover
def e (_k : Nat) (a0 : Int) : Option Int :=
  (some (IntKind.i64.wrap (Int.tdiv (IntKind.i64.wrap (a0 + (16 : Int))) (8 : Int))))
def f (k : Nat) (a0 : Int) : Option Int := e k a0
end bytealg_Cutover

namespace strings_IndexRune
def e73 (k : Nat) (_q73 : ByteArray → Int → Option Int) (q2 : ByteArray → ByteArray → Int → Int → Option Int) (_q23 : ByteArray → ByteArray → Int → Int → Option Int) (_q6 : ByteArray → ByteArray → Int → Int → Int → Option Int) (b0 : ByteArray) (b1 : Int) : Option Int :=
  (bif (decide (b1 = (65533 : Int))) then
    none
  else
    (Option.bind (utf8_ValidRune.f k b1) fun r2 =>
      (bif (!r2) then
        (some (-1 : Int))
      else
        q2 b0 (Utf8.encode b1) (IntKind.i64.wrap (((Utf8.encode b1).size : Int) - (1 : Int))) (IntKind.i64.wrap (((Utf8.encode b1).size : Int) - (1 : Int))))))
def e2 (k : Nat) (_q73 : ByteArray → Int → Option Int) (_q2 : ByteArray → ByteArray → Int → Int → Option Int) (q23 : ByteArray → ByteArray → Int → Int → Option Int) (_q6 : ByteArray → ByteArray → Int → Int → Int → Option Int) (b0 : ByteArray) (b1 : ByteArray) (b2 : Int) (b3 : Int) : Option Int :=
  (bif (decide (b3 < (b0.size : Int))) then
    (bif (decide (0 ≤ b3) && decide (b3 < (b0.size : Int))) then
      (bif (decide (0 ≤ b2) && decide (b2 < (b1.size : Int))) then
        (bif (!decide ((btI b0 b3) = (btI b1 b2))) then
          (bif (decide (0 ≤ (IntKind.i64.wrap (b3 + (1 : Int)))) && decide ((IntKind.i64.wrap (b3 + (1 : Int))) ≤ (b0.size : Int)) && decide ((b0.size : Int) ≤ (b0.size : Int))) then
            (bif (decide (0 ≤ b2) && decide (b2 < (b1.size : Int))) then
              (Option.bind (strings_IndexByte.f k (b0.extract (Int.toNat (IntKind.i64.wrap (b3 + (1 : Int)))) (Int.toNat (b0.size : Int))) (btI b1 b2)) fun r3 =>
                (bif (decide (r3 < (0 : Int))) then
                  (some (-1 : Int))
                else
                  q23 b0 b1 b2 (IntKind.i64.wrap (b3 + (IntKind.i64.wrap (r3 + (1 : Int)))))))
            else
              none)
          else
            none)
        else
          q23 b0 b1 b2 b3)
      else
        none)
    else
      none)
  else
    (some (-1 : Int)))
def e23 (_k : Nat) (_q73 : ByteArray → Int → Option Int) (_q2 : ByteArray → ByteArray → Int → Int → Option Int) (_q23 : ByteArray → ByteArray → Int → Int → Option Int) (q6 : ByteArray → ByteArray → Int → Int → Int → Option Int) (b0 : ByteArray) (b1 : ByteArray) (b2 : Int) (b3 : Int) : Option Int :=
  q6 b0 b1 b2 b3 (1 : Int)
def e6 (_k : Nat) (_q73 : ByteArray → Int → Option Int) (_q2 : ByteArray → ByteArray → Int → Int → Option Int) (_q23 : ByteArray → ByteArray → Int → Int → Option Int) (q6 : ByteArray → ByteArray → Int → Int → Int → Option Int) (b0 : ByteArray) (b1 : ByteArray) (b2 : Int) (b3 : Int) (b4 : Int) : Option Int :=
  (bif (decide (b4 < (b1.size : Int))) then
    (bif (decide (0 ≤ (IntKind.i64.wrap (b3 - b4))) && decide ((IntKind.i64.wrap (b3 - b4)) < (b0.size : Int))) then
      (bif (decide (0 ≤ (IntKind.i64.wrap (b2 - b4))) && decide ((IntKind.i64.wrap (b2 - b4)) < (b1.size : Int))) then
        (bif (!decide ((btI b0 (IntKind.i64.wrap (b3 - b4))) = (btI b1 (IntKind.i64.wrap (b2 - b4))))) then
          none
        else
          q6 b0 b1 b2 b3 (IntKind.i64.wrap (b4 + (1 : Int))))
      else
        none)
    else
      none)
  else
    (some (IntKind.i64.wrap (b3 - b2))))
def e (k : Nat) (q73 : ByteArray → Int → Option Int) (_q2 : ByteArray → ByteArray → Int → Int → Option Int) (_q23 : ByteArray → ByteArray → Int → Int → Option Int) (_q6 : ByteArray → ByteArray → Int → Int → Int → Option Int) (a0 : ByteArray) (a1 : Int) : Option Int :=
  (bif (decide ((0 : Int) ≤ a1)) then
    (bif (decide (a1 < (128 : Int))) then
      (Option.bind (strings_IndexByte.f k a0 (IntKind.u8.wrap a1)) fun r1 =>
        (some r1))
    else
      q73 a0 a1)
  else
    q73 a0 a1)
def pts : Nat → (ByteArray → Int → Option Int) × (ByteArray → ByteArray → Int → Int → Option Int) × (ByteArray → ByteArray → Int → Int → Option Int) × (ByteArray → ByteArray → Int → Int → Int → Option Int)
  | 0 => (fun _ _ => none, fun _ _ _ _ => none, fun _ _ _ _ => none, fun _ _ _ _ _ => none)
  | k + 1 => (e73 k (pts k).1 (pts k).2.1 (pts k).2.2.1 (pts k).2.2.2, e2 k (pts k).1 (pts k).2.1 (pts k).2.2.1 (pts k).2.2.2, e23 k (pts k).1 (pts k).2.1 (pts k).2.2.1 (pts k).2.2.2, e6 k (pts k).1 (pts k).2.1 (pts k).2.2.1 (pts k).2.2.2)
def p73 (k : Nat) : ByteArray → Int → Option Int := (pts k).1
def p2 (k : Nat) : ByteArray → ByteArray → Int → Int → Option Int := (pts k).2.1
def p23 (k : Nat) : ByteArray → ByteArray → Int → Int → Option Int := (pts k).2.2.1
def p6 (k : Nat) : ByteArray → ByteArray → Int → Int → Int → Option Int := (pts k).2.2.2
theorem p73_succ (k : Nat) (x0 : ByteArray) (x1 : Int) : p73 (k + 1) x0 x1 = e73 k (p73 k) (p2 k) (p23 k) (p6 k) x0 x1 := rfl
theorem p2_succ (k : Nat) (x0 : ByteArray) (x1 : ByteArray) (x2 : Int) (x3 : Int) : p2 (k + 1) x0 x1 x2 x3 = e2 k (p73 k) (p2 k) (p23 k) (p6 k) x0 x1 x2 x3 := rfl
theorem p23_succ (k : Nat) (x0 : ByteArray) (x1 : ByteArray) (x2 : Int) (x3 : Int) : p23 (k + 1) x0 x1 x2 x3 = e23 k (p73 k) (p2 k) (p23 k) (p6 k) x0 x1 x2 x3 := rfl
theorem p6_succ (k : Nat) (x0 : ByteArray) (x1 : ByteArray) (x2 : Int) (x3 : Int) (x4 : Int) : p6 (k + 1) x0 x1 x2 x3 x4 = e6 k (p73 k) (p2 k) (p23 k) (p6 k) x0 x1 x2 x3 x4 := rfl
def f (k : Nat) (a0 : ByteArray) (a1 : Int) : Option Int := e k (p73 k) (p2 k) (p23 k) (p6 k) a0 a1
end strings_IndexRune

namespace strings_shouldUseASCIISet
def e (_k : Nat) (a0 : Int) : Option Bool :=
  (some (decide (a0 > (8 : Int))))
def f (k : Nat) (a0 : Int) : Option Bool := e k a0
end strings_shouldUseASCIISet

namespace utf8_RuneStart
def e (_k : Nat) (a0 : Int) : Option Bool :=
  (some (!decide ((bitsI .and .u8 a0 (192 : Int)) = (128 : Int))))
def f (k : Nat) (a0 : Int) : Option Bool := e k a0
end utf8_RuneStart

namespace utf8_decodeRuneInStringSlow
def e (_k : Nat) (a0 : ByteArray) : Option (Int × Int) :=
  (bif (decide ((a0.size : Int) < (1 : Int))) then
    (some ((65533 : Int), (0 : Int)))
  else
    (bif (decide ((0 : Int) < (a0.size : Int))) then
      none
    else
      none))
def f (k : Nat) (a0 : ByteArray) : Option (Int × Int) := e k a0
end utf8_decodeRuneInStringSlow

namespace utf8_DecodeRuneInString
def e7 (k : Nat) (_q7 : ByteArray → Option (Int × Int)) (b0 : ByteArray) : Option (Int × Int) :=
  (Option.bind (utf8_decodeRuneInStringSlow.f k b0) fun r1 =>
    (some (r1.1, r1.2)))
def e (_k : Nat) (q7 : ByteArray → Option (Int × Int)) (a0 : ByteArray) : Option (Int × Int) :=
  (bif (!(a0.toList == (ByteArray.mk #[]).toList)) then
    (bif (decide ((0 : Int) < (a0.size : Int))) then
      (bif (decide ((btI a0 (0 : Int)) < (128 : Int))) then
        (bif (decide ((0 : Int) < (a0.size : Int))) then
          (some ((IntKind.i32.wrap (btI a0 (0 : Int))), (1 : Int)))
        else
          none)
      else
        q7 a0)
    else
      none)
  else
    q7 a0)
def pts : Nat → (ByteArray → Option (Int × Int))
  | 0 => fun _ => none
  | k + 1 => e7 k (pts k)
def p7 (k : Nat) : ByteArray → Option (Int × Int) := (pts k)
theorem p7_succ (k : Nat) (x0 : ByteArray) : p7 (k + 1) x0 = e7 k (p7 k) x0 := rfl
def f (k : Nat) (a0 : ByteArray) : Option (Int × Int) := e k (p7 k) a0
end utf8_DecodeRuneInString

namespace utf8_DecodeLastRuneInString
def e0 (k : Nat) (q0 : ByteArray → Int → Int → Int → Option (Int × Int)) (q27 : ByteArray → Int → Int → Option (Int × Int)) (_q31 : ByteArray → Int → Int → Option (Int × Int)) (b0 : ByteArray) (b1 : Int) (b2 : Int) (b3 : Int) : Option (Int × Int) :=
  (bif (decide (b2 ≥ b3)) then
    (bif (decide (0 ≤ b2) && decide (b2 < (b0.size : Int))) then
      (Option.bind (utf8_RuneStart.f k (btI b0 b2)) fun r1 =>
        (bif r1 then
          q27 b0 b1 b2
        else
          q0 b0 b1 (IntKind.i64.wrap (b2 - (1 : Int))) b3))
    else
      none)
  else
    q27 b0 b1 b2)
def e27 (_k : Nat) (_q0 : ByteArray → Int → Int → Int → Option (Int × Int)) (_q27 : ByteArray → Int → Int → Option (Int × Int)) (q31 : ByteArray → Int → Int → Option (Int × Int)) (b0 : ByteArray) (b1 : Int) (b2 : Int) : Option (Int × Int) :=
  (bif (decide (b2 < (0 : Int))) then
    q31 b0 b1 (0 : Int)
  else
    q31 b0 b1 b2)
def e31 (k : Nat) (_q0 : ByteArray → Int → Int → Int → Option (Int × Int)) (_q27 : ByteArray → Int → Int → Option (Int × Int)) (_q31 : ByteArray → Int → Int → Option (Int × Int)) (b0 : ByteArray) (b1 : Int) (b2 : Int) : Option (Int × Int) :=
  (bif (decide (0 ≤ b2) && decide (b2 ≤ b1) && decide (b1 ≤ (b0.size : Int))) then
    (Option.bind (utf8_DecodeRuneInString.f k (b0.extract (Int.toNat b2) (Int.toNat b1))) fun r2 =>
      (bif (!decide ((IntKind.i64.wrap (b2 + r2.2)) = b1)) then
        (some ((65533 : Int), (1 : Int)))
      else
        (some (r2.1, r2.2))))
  else
    none)
def e (_k : Nat) (q0 : ByteArray → Int → Int → Int → Option (Int × Int)) (_q27 : ByteArray → Int → Int → Option (Int × Int)) (_q31 : ByteArray → Int → Int → Option (Int × Int)) (a0 : ByteArray) : Option (Int × Int) :=
  (bif (decide ((a0.size : Int) = (0 : Int))) then
    (some ((65533 : Int), (0 : Int)))
  else
    (bif (decide (0 ≤ (IntKind.i64.wrap ((a0.size : Int) - (1 : Int)))) && decide ((IntKind.i64.wrap ((a0.size : Int) - (1 : Int))) < (a0.size : Int))) then
      (bif (decide ((IntKind.i32.wrap (btI a0 (IntKind.i64.wrap ((a0.size : Int) - (1 : Int))))) < (128 : Int))) then
        (some ((IntKind.i32.wrap (btI a0 (IntKind.i64.wrap ((a0.size : Int) - (1 : Int))))), (1 : Int)))
      else
        q0 a0 (a0.size : Int) (IntKind.i64.wrap ((IntKind.i64.wrap ((a0.size : Int) - (1 : Int))) - (1 : Int))) (bif decide ((0 : Int) > (IntKind.i64.wrap ((a0.size : Int) - (4 : Int)))) then (0 : Int) else (IntKind.i64.wrap ((a0.size : Int) - (4 : Int)))))
    else
      none))
def pts : Nat → (ByteArray → Int → Int → Int → Option (Int × Int)) × (ByteArray → Int → Int → Option (Int × Int)) × (ByteArray → Int → Int → Option (Int × Int))
  | 0 => (fun _ _ _ _ => none, fun _ _ _ => none, fun _ _ _ => none)
  | k + 1 => (e0 k (pts k).1 (pts k).2.1 (pts k).2.2, e27 k (pts k).1 (pts k).2.1 (pts k).2.2, e31 k (pts k).1 (pts k).2.1 (pts k).2.2)
def p0 (k : Nat) : ByteArray → Int → Int → Int → Option (Int × Int) := (pts k).1
def p27 (k : Nat) : ByteArray → Int → Int → Option (Int × Int) := (pts k).2.1
def p31 (k : Nat) : ByteArray → Int → Int → Option (Int × Int) := (pts k).2.2
theorem p0_succ (k : Nat) (x0 : ByteArray) (x1 : Int) (x2 : Int) (x3 : Int) : p0 (k + 1) x0 x1 x2 x3 = e0 k (p0 k) (p27 k) (p31 k) x0 x1 x2 x3 := rfl
theorem p27_succ (k : Nat) (x0 : ByteArray) (x1 : Int) (x2 : Int) : p27 (k + 1) x0 x1 x2 = e27 k (p0 k) (p27 k) (p31 k) x0 x1 x2 := rfl
theorem p31_succ (k : Nat) (x0 : ByteArray) (x1 : Int) (x2 : Int) : p31 (k + 1) x0 x1 x2 = e31 k (p0 k) (p27 k) (p31 k) x0 x1 x2 := rfl
def f (k : Nat) (a0 : ByteArray) : Option (Int × Int) := e k (p0 k) (p27 k) (p31 k) a0
end utf8_DecodeLastRuneInString

namespace strings_LastIndexAny
def e15 (k : Nat) (_q15 : ByteArray → Int → Option Int) (_q47 : ByteArray → Int → Option Int) (_q8 : ByteArray → ByteArray → Int → Option Int) (_q4 : ByteArray → Int → Int → Option Int) (b0 : ByteArray) (b1 : Int) : Option Int :=
  (Option.bind (strings_IndexRune.f k b0 b1) fun r2 =>
    (bif (decide (r2 ≥ (0 : Int))) then
      (some (0 : Int))
    else
      (some (-1 : Int))))
def e47 (_k : Nat) (_q15 : ByteArray → Int → Option Int) (_q47 : ByteArray → Int → Option Int) (_q8 : ByteArray → ByteArray → Int → Option Int) (q4 : ByteArray → Int → Int → Option Int) (b0 : ByteArray) (b1 : Int) : Option Int :=
  q4 b0 b1 (b0.size : Int)
def e8 (k : Nat) (_q15 : ByteArray → Int → Option Int) (_q47 : ByteArray → Int → Option Int) (q8 : ByteArray → ByteArray → Int → Option Int) (_q4 : ByteArray → Int → Int → Option Int) (b0 : ByteArray) (b1 : ByteArray) (b2 : Int) : Option Int :=
  (bif (decide (b2 > (0 : Int))) then
    (bif (decide (0 ≤ (0 : Int)) && decide ((0 : Int) ≤ b2) && decide (b2 ≤ (b0.size : Int))) then
      (Option.bind (utf8_DecodeLastRuneInString.f k (b0.extract (Int.toNat (0 : Int)) (Int.toNat b2))) fun r3 =>
        (Option.bind (strings_IndexRune.f k b1 r3.1) fun r4 =>
          (bif (decide (r4 ≥ (0 : Int))) then
            (some (IntKind.i64.wrap (b2 - r3.2)))
          else
            q8 b0 b1 (IntKind.i64.wrap (b2 - r3.2)))))
    else
      none)
  else
    (some (-1 : Int)))
def e4 (k : Nat) (_q15 : ByteArray → Int → Option Int) (_q47 : ByteArray → Int → Option Int) (_q8 : ByteArray → ByteArray → Int → Option Int) (q4 : ByteArray → Int → Int → Option Int) (b0 : ByteArray) (b1 : Int) (b2 : Int) : Option Int :=
  (bif (decide (b2 > (0 : Int))) then
    (bif (decide (0 ≤ (0 : Int)) && decide ((0 : Int) ≤ b2) && decide (b2 ≤ (b0.size : Int))) then
      (Option.bind (utf8_DecodeLastRuneInString.f k (b0.extract (Int.toNat (0 : Int)) (Int.toNat b2))) fun r5 =>
        (bif (decide (b1 = r5.1)) then
          (some (IntKind.i64.wrap (b2 - r5.2)))
        else
          q4 b0 b1 (IntKind.i64.wrap (b2 - r5.2))))
    else
      none)
  else
    (some (-1 : Int)))
def e (k : Nat) (q15 : ByteArray → Int → Option Int) (q47 : ByteArray → Int → Option Int) (q8 : ByteArray → ByteArray → Int → Option Int) (_q4 : ByteArray → Int → Int → Option Int) (a0 : ByteArray) (a1 : ByteArray) : Option Int :=
  (bif (a1.toList == (ByteArray.mk #[]).toList) then
    (some (-1 : Int))
  else
    (bif (decide ((a0.size : Int) = (1 : Int))) then
      (bif (decide ((0 : Int) < (a0.size : Int))) then
        (bif (decide ((IntKind.i32.wrap (btI a0 (0 : Int))) ≥ (128 : Int))) then
          q15 a1 (65533 : Int)
        else
          q15 a1 (IntKind.i32.wrap (btI a0 (0 : Int))))
      else
        none)
    else
      (Option.bind (strings_shouldUseASCIISet.f k (a0.size : Int)) fun r1 =>
        (bif r1 then
          none
        else
          (bif (decide ((a1.size : Int) = (1 : Int))) then
            (bif (decide ((0 : Int) < (a1.size : Int))) then
              (bif (decide ((IntKind.i32.wrap (btI a1 (0 : Int))) ≥ (128 : Int))) then
                q47 a0 (65533 : Int)
              else
                q47 a0 (IntKind.i32.wrap (btI a1 (0 : Int))))
            else
              none)
          else
            q8 a0 a1 (a0.size : Int))))))
def pts : Nat → (ByteArray → Int → Option Int) × (ByteArray → Int → Option Int) × (ByteArray → ByteArray → Int → Option Int) × (ByteArray → Int → Int → Option Int)
  | 0 => (fun _ _ => none, fun _ _ => none, fun _ _ _ => none, fun _ _ _ => none)
  | k + 1 => (e15 k (pts k).1 (pts k).2.1 (pts k).2.2.1 (pts k).2.2.2, e47 k (pts k).1 (pts k).2.1 (pts k).2.2.1 (pts k).2.2.2, e8 k (pts k).1 (pts k).2.1 (pts k).2.2.1 (pts k).2.2.2, e4 k (pts k).1 (pts k).2.1 (pts k).2.2.1 (pts k).2.2.2)
def p15 (k : Nat) : ByteArray → Int → Option Int := (pts k).1
def p47 (k : Nat) : ByteArray → Int → Option Int := (pts k).2.1
def p8 (k : Nat) : ByteArray → ByteArray → Int → Option Int := (pts k).2.2.1
def p4 (k : Nat) : ByteArray → Int → Int → Option Int := (pts k).2.2.2
theorem p15_succ (k : Nat) (x0 : ByteArray) (x1 : Int) : p15 (k + 1) x0 x1 = e15 k (p15 k) (p47 k) (p8 k) (p4 k) x0 x1 := rfl
theorem p47_succ (k : Nat) (x0 : ByteArray) (x1 : Int) : p47 (k + 1) x0 x1 = e47 k (p15 k) (p47 k) (p8 k) (p4 k) x0 x1 := rfl
theorem p8_succ (k : Nat) (x0 : ByteArray) (x1 : ByteArray) (x2 : Int) : p8 (k + 1) x0 x1 x2 = e8 k (p15 k) (p47 k) (p8 k) (p4 k) x0 x1 x2 := rfl
theorem p4_succ (k : Nat) (x0 : ByteArray) (x1 : Int) (x2 : Int) : p4 (k + 1) x0 x1 x2 = e4 k (p15 k) (p47 k) (p8 k) (p4 k) x0 x1 x2 := rfl
def f (k : Nat) (a0 : ByteArray) (a1 : ByteArray) : Option Int := e k (p15 k) (p47 k) (p8 k) (p4 k) a0 a1
end strings_LastIndexAny

namespace stringslite_HasPrefix
def e (_k : Nat) (a0 : ByteArray) (a1 : ByteArray) : Option Bool :=
  (bif (decide ((a0.size : Int) ≥ (a1.size : Int))) then
    (bif (decide (0 ≤ (0 : Int)) && decide ((0 : Int) ≤ (a1.size : Int)) && decide ((a1.size : Int) ≤ (a0.size : Int))) then
      (some ((a0.extract (Int.toNat (0 : Int)) (Int.toNat (a1.size : Int))).toList == a1.toList))
    else
      none)
  else
    (some false))
def f (k : Nat) (a0 : ByteArray) (a1 : ByteArray) : Option Bool := e k a0 a1
end stringslite_HasPrefix

namespace stringslite_TrimPrefix
def e (k : Nat) (a0 : ByteArray) (a1 : ByteArray) : Option ByteArray :=
  (Option.bind (stringslite_HasPrefix.f k a0 a1) fun r1 =>
    (bif r1 then
      (bif (decide (0 ≤ (a1.size : Int)) && decide ((a1.size : Int) ≤ (a0.size : Int)) && decide ((a0.size : Int) ≤ (a0.size : Int))) then
        (some (a0.extract (Int.toNat (a1.size : Int)) (Int.toNat (a0.size : Int))))
      else
        none)
    else
      (some a0)))
def f (k : Nat) (a0 : ByteArray) (a1 : ByteArray) : Option ByteArray := e k a0 a1
end stringslite_TrimPrefix

namespace strings_TrimPrefix
def e (k : Nat) (a0 : ByteArray) (a1 : ByteArray) : Option ByteArray :=
  (Option.bind (stringslite_TrimPrefix.f k a0 a1) fun r1 =>
    (some r1))
def f (k : Nat) (a0 : ByteArray) (a1 : ByteArray) : Option ByteArray := e k a0 a1
end strings_TrimPrefix

namespace stringslite_CutPrefix
def e (k : Nat) (a0 : ByteArray) (a1 : ByteArray) : Option (ByteArray × Bool) :=
  (Option.bind (stringslite_HasPrefix.f k a0 a1) fun r1 =>
    (bif (!r1) then
      (some (a0, false))
    else
      (bif (decide (0 ≤ (a1.size : Int)) && decide ((a1.size : Int) ≤ (a0.size : Int)) && decide ((a0.size : Int) ≤ (a0.size : Int))) then
        (some ((a0.extract (Int.toNat (a1.size : Int)) (Int.toNat (a0.size : Int))), true))
      else
        none)))
def f (k : Nat) (a0 : ByteArray) (a1 : ByteArray) : Option (ByteArray × Bool) := e k a0 a1
end stringslite_CutPrefix

namespace strings_CutPrefix
def e (k : Nat) (a0 : ByteArray) (a1 : ByteArray) : Option (ByteArray × Bool) :=
  (Option.bind (stringslite_CutPrefix.f k a0 a1) fun r1 =>
    (some (r1.1, r1.2)))
def f (k : Nat) (a0 : ByteArray) (a1 : ByteArray) : Option (ByteArray × Bool) := e k a0 a1
end strings_CutPrefix

namespace bytealg_hashStr_string_
def e0 (_k : Nat) (q0 : ByteArray → Int → Int → Option (Int × Int)) (q4 : Int → Int → Int → Int → Option (Int × Int)) (_q25 : Int → Int → Int → Int → Option (Int × Int)) (b0 : ByteArray) (b1 : Int) (b2 : Int) : Option (Int × Int) :=
  (bif (decide (b2 < (b0.size : Int))) then
    (bif (decide (0 ≤ b2) && decide (b2 < (b0.size : Int))) then
      q0 b0 (IntKind.u32.wrap ((IntKind.u32.wrap (b1 * (16777619 : Int))) + (IntKind.u32.wrap (btI b0 b2)))) (IntKind.i64.wrap (b2 + (1 : Int)))
    else
      none)
  else
    q4 b1 (1 : Int) (16777619 : Int) (b0.size : Int))
def e4 (_k : Nat) (_q0 : ByteArray → Int → Int → Option (Int × Int)) (_q4 : Int → Int → Int → Int → Option (Int × Int)) (q25 : Int → Int → Int → Int → Option (Int × Int)) (b0 : Int) (b1 : Int) (b2 : Int) (b3 : Int) : Option (Int × Int) :=
  (bif (decide (b3 > (0 : Int))) then
    (bif (!decide ((bitsI .and .i64 b3 (1 : Int)) = (0 : Int))) then
      q25 b0 (IntKind.u32.wrap (b1 * b2)) b2 b3
    else
      q25 b0 b1 b2 b3)
  else
    (some (b0, b1)))
def e25 (_k : Nat) (_q0 : ByteArray → Int → Int → Option (Int × Int)) (q4 : Int → Int → Int → Int → Option (Int × Int)) (_q25 : Int → Int → Int → Int → Option (Int × Int)) (b0 : Int) (b1 : Int) (b2 : Int) (b3 : Int) : Option (Int × Int) :=
  q4 b0 b1 (IntKind.u32.wrap (b2 * b2)) (Int.fdiv b3 (2 ^ 1))
def e (_k : Nat) (q0 : ByteArray → Int → Int → Option (Int × Int)) (_q4 : Int → Int → Int → Int → Option (Int × Int)) (_q25 : Int → Int → Int → Int → Option (Int × Int)) (a0 : ByteArray) : Option (Int × Int) :=
  q0 a0 (0 : Int) (0 : Int)
def pts : Nat → (ByteArray → Int → Int → Option (Int × Int)) × (Int → Int → Int → Int → Option (Int × Int)) × (Int → Int → Int → Int → Option (Int × Int))
  | 0 => (fun _ _ _ => none, fun _ _ _ _ => none, fun _ _ _ _ => none)
  | k + 1 => (e0 k (pts k).1 (pts k).2.1 (pts k).2.2, e4 k (pts k).1 (pts k).2.1 (pts k).2.2, e25 k (pts k).1 (pts k).2.1 (pts k).2.2)
def p0 (k : Nat) : ByteArray → Int → Int → Option (Int × Int) := (pts k).1
def p4 (k : Nat) : Int → Int → Int → Int → Option (Int × Int) := (pts k).2.1
def p25 (k : Nat) : Int → Int → Int → Int → Option (Int × Int) := (pts k).2.2
theorem p0_succ (k : Nat) (x0 : ByteArray) (x1 : Int) (x2 : Int) : p0 (k + 1) x0 x1 x2 = e0 k (p0 k) (p4 k) (p25 k) x0 x1 x2 := rfl
theorem p4_succ (k : Nat) (x0 : Int) (x1 : Int) (x2 : Int) (x3 : Int) : p4 (k + 1) x0 x1 x2 x3 = e4 k (p0 k) (p4 k) (p25 k) x0 x1 x2 x3 := rfl
theorem p25_succ (k : Nat) (x0 : Int) (x1 : Int) (x2 : Int) (x3 : Int) : p25 (k + 1) x0 x1 x2 x3 = e25 k (p0 k) (p4 k) (p25 k) x0 x1 x2 x3 := rfl
def f (k : Nat) (a0 : ByteArray) : Option (Int × Int) := e k (p0 k) (p4 k) (p25 k) a0
end bytealg_hashStr_string_

namespace bytealg_IndexRabinKarp_string_
def e0 (_k : Nat) (q0 : ByteArray → ByteArray → Int → Int → Int → Int → Int → Option Int) (q21 : ByteArray → ByteArray → Int → Int → Int → Int → Option Int) (_q4 : ByteArray → ByteArray → Int → Int → Int → Int → Int → Option Int) (b0 : ByteArray) (b1 : ByteArray) (b2 : Int) (b3 : Int) (b4 : Int) (b5 : Int) (b6 : Int) : Option Int :=
  (bif (decide (b6 < b4)) then
    (bif (decide (0 ≤ b6) && decide (b6 < (b0.size : Int))) then
      q0 b0 b1 b2 b3 b4 (IntKind.u32.wrap ((IntKind.u32.wrap (b5 * (16777619 : Int))) + (IntKind.u32.wrap (btI b0 b6)))) (IntKind.i64.wrap (b6 + (1 : Int)))
    else
      none)
  else
    (bif (decide (b5 = b2)) then
      (bif (decide (0 ≤ (0 : Int)) && decide ((0 : Int) ≤ b4) && decide (b4 ≤ (b0.size : Int))) then
        (bif ((b0.extract (Int.toNat (0 : Int)) (Int.toNat b4)).toList == b1.toList) then
          (some (0 : Int))
        else
          q21 b0 b1 b2 b3 b4 b5)
      else
        none)
    else
      q21 b0 b1 b2 b3 b4 b5))
def e21 (_k : Nat) (_q0 : ByteArray → ByteArray → Int → Int → Int → Int → Int → Option Int) (_q21 : ByteArray → ByteArray → Int → Int → Int → Int → Option Int) (q4 : ByteArray → ByteArray → Int → Int → Int → Int → Int → Option Int) (b0 : ByteArray) (b1 : ByteArray) (b2 : Int) (b3 : Int) (b4 : Int) (b5 : Int) : Option Int :=
  q4 b0 b1 b2 b3 b4 b5 b4
def e4 (_k : Nat) (_q0 : ByteArray → ByteArray → Int → Int → Int → Int → Int → Option Int) (_q21 : ByteArray → ByteArray → Int → Int → Int → Int → Option Int) (q4 : ByteArray → ByteArray → Int → Int → Int → Int → Int → Option Int) (b0 : ByteArray) (b1 : ByteArray) (b2 : Int) (b3 : Int) (b4 : Int) (b5 : Int) (b6 : Int) : Option Int :=
  (bif (decide (b6 < (b0.size : Int))) then
    (bif (decide (0 ≤ b6) && decide (b6 < (b0.size : Int))) then
      (bif (decide (0 ≤ (IntKind.i64.wrap (b6 - b4))) && decide ((IntKind.i64.wrap (b6 - b4)) < (b0.size : Int))) then
        (bif (decide ((IntKind.u32.wrap ((IntKind.u32.wrap ((IntKind.u32.wrap (b5 * (16777619 : Int))) + (IntKind.u32.wrap (btI b0 b6)))) - (IntKind.u32.wrap (b3 * (IntKind.u32.wrap (btI b0 (IntKind.i64.wrap (b6 - b4)))))))) = b2)) then
          (bif (decide (0 ≤ (IntKind.i64.wrap ((IntKind.i64.wrap (b6 + (1 : Int))) - b4))) && decide ((IntKind.i64.wrap ((IntKind.i64.wrap (b6 + (1 : Int))) - b4)) ≤ (IntKind.i64.wrap (b6 + (1 : Int)))) && decide ((IntKind.i64.wrap (b6 + (1 : Int))) ≤ (b0.size : Int))) then
            (bif ((b0.extract (Int.toNat (IntKind.i64.wrap ((IntKind.i64.wrap (b6 + (1 : Int))) - b4))) (Int.toNat (IntKind.i64.wrap (b6 + (1 : Int))))).toList == b1.toList) then
              (some (IntKind.i64.wrap ((IntKind.i64.wrap (b6 + (1 : Int))) - b4)))
            else
              q4 b0 b1 b2 b3 b4 (IntKind.u32.wrap ((IntKind.u32.wrap ((IntKind.u32.wrap (b5 * (16777619 : Int))) + (IntKind.u32.wrap (btI b0 b6)))) - (IntKind.u32.wrap (b3 * (IntKind.u32.wrap (btI b0 (IntKind.i64.wrap (b6 - b4)))))))) (IntKind.i64.wrap (b6 + (1 : Int))))
          else
            none)
        else
          q4 b0 b1 b2 b3 b4 (IntKind.u32.wrap ((IntKind.u32.wrap ((IntKind.u32.wrap (b5 * (16777619 : Int))) + (IntKind.u32.wrap (btI b0 b6)))) - (IntKind.u32.wrap (b3 * (IntKind.u32.wrap (btI b0 (IntKind.i64.wrap (b6 - b4)))))))) (IntKind.i64.wrap (b6 + (1 : Int))))
      else
        none)
    else
      none)
  else
    (some (-1 : Int)))
def e (k : Nat) (q0 : ByteArray → ByteArray → Int → Int → Int → Int → Int → Option Int) (_q21 : ByteArray → ByteArray → Int → Int → Int → Int → Option Int) (_q4 : ByteArray → ByteArray → Int → Int → Int → Int → Int → Option Int) (a0 : ByteArray) (a1 : ByteArray) : Option Int :=
  (Option.bind (bytealg_hashStr_string_.f k a1) fun r1 =>
    q0 a0 a1 r1.1 r1.2 (a1.size : Int) (0 : Int) (0 : Int))
def pts : Nat → (ByteArray → ByteArray → Int → Int → Int → Int → Int → Option Int) × (ByteArray → ByteArray → Int → Int → Int → Int → Option Int) × (ByteArray → ByteArray → Int → Int → Int → Int → Int → Option Int)
  | 0 => (fun _ _ _ _ _ _ _ => none, fun _ _ _ _ _ _ => none, fun _ _ _ _ _ _ _ => none)
  | k + 1 => (e0 k (pts k).1 (pts k).2.1 (pts k).2.2, e21 k (pts k).1 (pts k).2.1 (pts k).2.2, e4 k (pts k).1 (pts k).2.1 (pts k).2.2)
def p0 (k : Nat) : ByteArray → ByteArray → Int → Int → Int → Int → Int → Option Int := (pts k).1
def p21 (k : Nat) : ByteArray → ByteArray → Int → Int → Int → Int → Option Int := (pts k).2.1
def p4 (k : Nat) : ByteArray → ByteArray → Int → Int → Int → Int → Int → Option Int := (pts k).2.2
theorem p0_succ (k : Nat) (x0 : ByteArray) (x1 : ByteArray) (x2 : Int) (x3 : Int) (x4 : Int) (x5 : Int) (x6 : Int) : p0 (k + 1) x0 x1 x2 x3 x4 x5 x6 = e0 k (p0 k) (p21 k) (p4 k) x0 x1 x2 x3 x4 x5 x6 := rfl
theorem p21_succ (k : Nat) (x0 : ByteArray) (x1 : ByteArray) (x2 : Int) (x3 : Int) (x4 : Int) (x5 : Int) : p21 (k + 1) x0 x1 x2 x3 x4 x5 = e21 k (p0 k) (p21 k) (p4 k) x0 x1 x2 x3 x4 x5 := rfl
theorem p4_succ (k : Nat) (x0 : ByteArray) (x1 : ByteArray) (x2 : Int) (x3 : Int) (x4 : Int) (x5 : Int) (x6 : Int) : p4 (k + 1) x0 x1 x2 x3 x4 x5 x6 = e4 k (p0 k) (p21 k) (p4 k) x0 x1 x2 x3 x4 x5 x6 := rfl
def f (k : Nat) (a0 : ByteArray) (a1 : ByteArray) : Option Int := e k (p0 k) (p21 k) (p4 k) a0 a1
end bytealg_IndexRabinKarp_string_

namespace stringslite_Index
def e7 (_k : Nat) (_q7 : Unit → Option Int) (_ : Unit) : Option Int :=
  (some (0 : Int))
def e (k : Nat) (q7 : Unit → Option Int) (a0 : ByteArray) (a1 : ByteArray) : Option Int :=
  (bif (decide ((a1.size : Int) = (0 : Int))) then
    q7 ()
  else
    (bif (a1.toList == a0.toList) then
      q7 ()
    else
      (bif (decide ((a1.size : Int) = (1 : Int))) then
        (bif (decide ((0 : Int) < (a1.size : Int))) then
          (Option.bind (stringslite_IndexByte.f k a0 (btI a1 (0 : Int))) fun r1 =>
            (some r1))
        else
          none)
      else
        (bif (decide ((a1.size : Int) ≥ (a0.size : Int))) then
          (some (-1 : Int))
        else
          none))))
def pts : Nat → (Unit → Option Int)
  | 0 => fun _ => none
  | k + 1 => e7 k (pts k)
def p7 (k : Nat) : Unit → Option Int := (pts k)
theorem p7_succ (k : Nat) (x0 : Unit) : p7 (k + 1) x0 = e7 k (p7 k) x0 := rfl
def f (k : Nat) (a0 : ByteArray) (a1 : ByteArray) : Option Int := e k (p7 k) a0 a1
end stringslite_Index

namespace stringslite_Cut
def e (k : Nat) (a0 : ByteArray) (a1 : ByteArray) : Option (ByteArray × ByteArray × Bool) :=
  (Option.bind (stringslite_Index.f k a0 a1) fun r1 =>
    (bif (decide (r1 ≥ (0 : Int))) then
      (bif (decide (0 ≤ (0 : Int)) && decide ((0 : Int) ≤ r1) && decide (r1 ≤ (a0.size : Int))) then
        (bif (decide (0 ≤ (IntKind.i64.wrap (r1 + (a1.size : Int)))) && decide ((IntKind.i64.wrap (r1 + (a1.size : Int))) ≤ (a0.size : Int)) && decide ((a0.size : Int) ≤ (a0.size : Int))) then
          (some ((a0.extract (Int.toNat (0 : Int)) (Int.toNat r1)), (a0.extract (Int.toNat (IntKind.i64.wrap (r1 + (a1.size : Int)))) (Int.toNat (a0.size : Int))), true))
        else
          none)
      else
        none)
    else
      (some (a0, (ByteArray.mk #[]), false))))
def f (k : Nat) (a0 : ByteArray) (a1 : ByteArray) : Option (ByteArray × ByteArray × Bool) := e k a0 a1
end stringslite_Cut

namespace strings_Cut
def e (k : Nat) (a0 : ByteArray) (a1 : ByteArray) : Option (ByteArray × ByteArray × Bool) :=
  (Option.bind (stringslite_Cut.f k a0 a1) fun r1 =>
    (some (r1.1, r1.2.1, r1.2.2)))
def f (k : Nat) (a0 : ByteArray) (a1 : ByteArray) : Option (ByteArray × ByteArray × Bool) := e k a0 a1
end strings_Cut

namespace nat_Parse
def e5 (_k : Nat) (_q5 : Unit → Option ((List Int) × Int)) (_q9 : Unit → Option ((List Int) × Int)) (_q11 : ByteArray → Int → Option ((List Int) × Int)) (_q0 : (List Int) → ByteArray → Int → Int → Int → Option ((List Int) × Int)) (_q23 : Unit → Option ((List Int) × Int)) (_q4 : (List Int) → ByteArray → Int → Int → Int → Int → Int → Int → Option ((List Int) × Int)) (_q45 : (List Int) → ByteArray → Int → Int → Int → Option ((List Int) × Int)) (_ : Unit) : Option ((List Int) × Int) :=
  (some (([] : List Int), (14 : Int)))
def e9 (_k : Nat) (_q5 : Unit → Option ((List Int) × Int)) (_q9 : Unit → Option ((List Int) × Int)) (_q11 : ByteArray → Int → Option ((List Int) × Int)) (_q0 : (List Int) → ByteArray → Int → Int → Int → Option ((List Int) × Int)) (_q23 : Unit → Option ((List Int) × Int)) (_q4 : (List Int) → ByteArray → Int → Int → Int → Int → Int → Int → Option ((List Int) × Int)) (_q45 : (List Int) → ByteArray → Int → Int → Int → Option ((List Int) × Int)) (_ : Unit) : Option ((List Int) × Int) :=
  (some (([] : List Int), (15 : Int)))
def e11 (_k : Nat) (_q5 : Unit → Option ((List Int) × Int)) (_q9 : Unit → Option ((List Int) × Int)) (_q11 : ByteArray → Int → Option ((List Int) × Int)) (q0 : (List Int) → ByteArray → Int → Int → Int → Option ((List Int) × Int)) (_q23 : Unit → Option ((List Int) × Int)) (_q4 : (List Int) → ByteArray → Int → Int → Int → Int → Int → Int → Option ((List Int) × Int)) (_q45 : (List Int) → ByteArray → Int → Int → Int → Option ((List Int) × Int)) (b0 : ByteArray) (b1 : Int) : Option ((List Int) × Int) :=
  q0 ([] : List Int) b0 b1 (b0.size : Int) (0 : Int)
def e0 (k : Nat) (_q5 : Unit → Option ((List Int) × Int)) (_q9 : Unit → Option ((List Int) × Int)) (_q11 : ByteArray → Int → Option ((List Int) × Int)) (_q0 : (List Int) → ByteArray → Int → Int → Int → Option ((List Int) × Int)) (q23 : Unit → Option ((List Int) × Int)) (q4 : (List Int) → ByteArray → Int → Int → Int → Int → Int → Int → Option ((List Int) × Int)) (_q45 : (List Int) → ByteArray → Int → Int → Int → Option ((List Int) × Int)) (b0 : (List Int)) (b1 : ByteArray) (b2 : Int) (b3 : Int) (b4 : Int) : Option ((List Int) × Int) :=
  (bif (decide (b4 < b3)) then
    (bif (decide (0 ≤ b4) && decide (b4 < (b1.size : Int))) then
      (bif (decide ((IntKind.i64.wrap ((IntKind.i64.wrap (btI b1 b4)) - (48 : Int))) < (0 : Int))) then
        q23 ()
      else
        (bif (decide ((IntKind.i64.wrap ((IntKind.i64.wrap (btI b1 b4)) - (48 : Int))) ≥ (55 : Int))) then
          q23 ()
        else
          (bif (decide (0 ≤ (IntKind.i64.wrap ((IntKind.i64.wrap (btI b1 b4)) - (48 : Int)))) && decide ((IntKind.i64.wrap ((IntKind.i64.wrap (btI b1 b4)) - (48 : Int))) < (tab_0.length : Int))) then
            (bif (decide ((nthD (0 : Int) tab_0 (Int.toNat (IntKind.i64.wrap ((IntKind.i64.wrap (btI b1 b4)) - (48 : Int))))) ≥ (IntKind.u32.wrap b2))) then
              q23 ()
            else
              (bif (decide (0 ≤ (IntKind.i64.wrap ((IntKind.i64.wrap (btI b1 b4)) - (48 : Int)))) && decide ((IntKind.i64.wrap ((IntKind.i64.wrap (btI b1 b4)) - (48 : Int))) < (tab_0.length : Int))) then
                q4 b0 b1 b2 (IntKind.u64.wrap (nthD (0 : Int) tab_0 (Int.toNat (IntKind.i64.wrap ((IntKind.i64.wrap (btI b1 b4)) - (48 : Int)))))) b3 b4 (b0.length : Int) (0 : Int)
              else
                none))
          else
            none)))
    else
      none)
  else
    (Option.bind (nat_own.f k b0) fun r1 =>
      (some (r1, (0 : Int)))))
def e23 (_k : Nat) (_q5 : Unit → Option ((List Int) × Int)) (_q9 : Unit → Option ((List Int) × Int)) (_q11 : ByteArray → Int → Option ((List Int) × Int)) (_q0 : (List Int) → ByteArray → Int → Int → Int → Option ((List Int) × Int)) (_q23 : Unit → Option ((List Int) × Int)) (_q4 : (List Int) → ByteArray → Int → Int → Int → Int → Int → Int → Option ((List Int) × Int)) (_q45 : (List Int) → ByteArray → Int → Int → Int → Option ((List Int) × Int)) (_ : Unit) : Option ((List Int) × Int) :=
  (some (([] : List Int), (15 : Int)))
def e4 (_k : Nat) (_q5 : Unit → Option ((List Int) × Int)) (_q9 : Unit → Option ((List Int) × Int)) (_q11 : ByteArray → Int → Option ((List Int) × Int)) (_q0 : (List Int) → ByteArray → Int → Int → Int → Option ((List Int) × Int)) (_q23 : Unit → Option ((List Int) × Int)) (q4 : (List Int) → ByteArray → Int → Int → Int → Int → Int → Int → Option ((List Int) × Int)) (q45 : (List Int) → ByteArray → Int → Int → Int → Option ((List Int) × Int)) (b0 : (List Int)) (b1 : ByteArray) (b2 : Int) (b3 : Int) (b4 : Int) (b5 : Int) (b6 : Int) (b7 : Int) : Option ((List Int) × Int) :=
  (bif (decide (b7 < b6)) then
    (bif (decide (0 ≤ b7) && decide (b7 < (b0.length : Int))) then
      (bif (decide (0 ≤ b7) && decide (b7 < (b0.length : Int))) then
        q4 (setN (IntKind.u32.wrap (IntKind.u64.wrap ((IntKind.u64.wrap ((IntKind.u64.wrap (nthD (0 : Int) b0 (Int.toNat b7))) * (IntKind.u64.wrap b2))) + b3))) b0 (Int.toNat b7)) b1 b2 (Int.fdiv (IntKind.u64.wrap ((IntKind.u64.wrap ((IntKind.u64.wrap (nthD (0 : Int) b0 (Int.toNat b7))) * (IntKind.u64.wrap b2))) + b3)) (2 ^ 32)) b4 b5 b6 (IntKind.i64.wrap (b7 + (1 : Int)))
      else
        none)
    else
      none)
  else
    (bif (decide (b3 > (0 : Int))) then
      (bif (Nat.ble ((b0.length + [(IntKind.u32.wrap b3)].length) * 4) 140737488355328 && Nat.ble (b0.length + [(IntKind.u32.wrap b3)].length) 9223372036854775807) then
        q45 (b0 ++ [(IntKind.u32.wrap b3)]) b1 b2 b4 b5
      else
        none)
    else
      q45 b0 b1 b2 b4 b5))
def e45 (_k : Nat) (_q5 : Unit → Option ((List Int) × Int)) (_q9 : Unit → Option ((List Int) × Int)) (_q11 : ByteArray → Int → Option ((List Int) × Int)) (q0 : (List Int) → ByteArray → Int → Int → Int → Option ((List Int) × Int)) (_q23 : Unit → Option ((List Int) × Int)) (_q4 : (List Int) → ByteArray → Int → Int → Int → Int → Int → Int → Option ((List Int) × Int)) (_q45 : (List Int) → ByteArray → Int → Int → Int → Option ((List Int) × Int)) (b0 : (List Int)) (b1 : ByteArray) (b2 : Int) (b3 : Int) (b4 : Int) : Option ((List Int) × Int) :=
  q0 b0 b1 b2 b3 (IntKind.i64.wrap (b4 + (1 : Int)))
def e (_k : Nat) (q5 : Unit → Option ((List Int) × Int)) (q9 : Unit → Option ((List Int) × Int)) (q11 : ByteArray → Int → Option ((List Int) × Int)) (_q0 : (List Int) → ByteArray → Int → Int → Int → Option ((List Int) × Int)) (_q23 : Unit → Option ((List Int) × Int)) (_q4 : (List Int) → ByteArray → Int → Int → Int → Int → Int → Int → Option ((List Int) × Int)) (_q45 : (List Int) → ByteArray → Int → Int → Int → Option ((List Int) × Int)) (a0 : ByteArray) (a1 : Int) : Option ((List Int) × Int) :=
  (bif (decide (a1 < (2 : Int))) then
    q5 ()
  else
    (bif (decide (a1 > (16 : Int))) then
      q5 ()
    else
      (bif (a0.toList == (ByteArray.mk #[]).toList) then
        q9 ()
      else
        (bif (decide ((a0.size : Int) > (1 : Int))) then
          (bif (decide ((0 : Int) < (a0.size : Int))) then
            (bif (decide ((btI a0 (0 : Int)) = (48 : Int))) then
              q9 ()
            else
              q11 a0 a1)
          else
            none)
        else
          q11 a0 a1))))
def pts : Nat → (Unit → Option ((List Int) × Int)) × (Unit → Option ((List Int) × Int)) × (ByteArray → Int → Option ((List Int) × Int)) × ((List Int) → ByteArray → Int → Int → Int → Option ((List Int) × Int)) × (Unit → Option ((List Int) × Int)) × ((List Int) → ByteArray → Int → Int → Int → Int → Int → Int → Option ((List Int) × Int)) × ((List Int) → ByteArray → Int → Int → Int → Option ((List Int) × Int))
  | 0 => (fun _ => none, fun _ => none, fun _ _ => none, fun _ _ _ _ _ => none, fun _ => none, fun _ _ _ _ _ _ _ _ => none, fun _ _ _ _ _ => none)
  | k + 1 => (e5 k (pts k).1 (pts k).2.1 (pts k).2.2.1 (pts k).2.2.2.1 (pts k).2.2.2.2.1 (pts k).2.2.2.2.2.1 (pts k).2.2.2.2.2.2, e9 k (pts k).1 (pts k).2.1 (pts k).2.2.1 (pts k).2.2.2.1 (pts k).2.2.2.2.1 (pts k).2.2.2.2.2.1 (pts k).2.2.2.2.2.2, e11 k (pts k).1 (pts k).2.1 (pts k).2.2.1 (pts k).2.2.2.1 (pts k).2.2.2.2.1 (pts k).2.2.2.2.2.1 (pts k).2.2.2.2.2.2, e0 k (pts k).1 (pts k).2.1 (pts k).2.2.1 (pts k).2.2.2.1 (pts k).2.2.2.2.1 (pts k).2.2.2.2.2.1 (pts k).2.2.2.2.2.2, e23 k (pts k).1 (pts k).2.1 (pts k).2.2.1 (pts k).2.2.2.1 (pts k).2.2.2.2.1 (pts k).2.2.2.2.2.1 (pts k).2.2.2.2.2.2, e4 k (pts k).1 (pts k).2.1 (pts k).2.2.1 (pts k).2.2.2.1 (pts k).2.2.2.2.1 (pts k).2.2.2.2.2.1 (pts k).2.2.2.2.2.2, e45 k (pts k).1 (pts k).2.1 (pts k).2.2.1 (pts k).2.2.2.1 (pts k).2.2.2.2.1 (pts k).2.2.2.2.2.1 (pts k).2.2.2.2.2.2)
def p5 (k : Nat) : Unit → Option ((List Int) × Int) := (pts k).1
def p9 (k : Nat) : Unit → Option ((List Int) × Int) := (pts k).2.1
def p11 (k : Nat) : ByteArray → Int → Option ((List Int) × Int) := (pts k).2.2.1
def p0 (k : Nat) : (List Int) → ByteArray → Int → Int → Int → Option ((List Int) × Int) := (pts k).2.2.2.1
def p23 (k : Nat) : Unit → Option ((List Int) × Int) := (pts k).2.2.2.2.1
def p4 (k : Nat) : (List Int) → ByteArray → Int → Int → Int → Int → Int → Int → Option ((List Int) × Int) := (pts k).2.2.2.2.2.1
def p45 (k : Nat) : (List Int) → ByteArray → Int → Int → Int → Option ((List Int) × Int) := (pts k).2.2.2.2.2.2
theorem p5_succ (k : Nat) (x0 : Unit) : p5 (k + 1) x0 = e5 k (p5 k) (p9 k) (p11 k) (p0 k) (p23 k) (p4 k) (p45 k) x0 := rfl
theorem p9_succ (k : Nat) (x0 : Unit) : p9 (k + 1) x0 = e9 k (p5 k) (p9 k) (p11 k) (p0 k) (p23 k) (p4 k) (p45 k) x0 := rfl
theorem p11_succ (k : Nat) (x0 : ByteArray) (x1 : Int) : p11 (k + 1) x0 x1 = e11 k (p5 k) (p9 k) (p11 k) (p0 k) (p23 k) (p4 k) (p45 k) x0 x1 := rfl
theorem p0_succ (k : Nat) (x0 : (List Int)) (x1 : ByteArray) (x2 : Int) (x3 : Int) (x4 : Int) : p0 (k + 1) x0 x1 x2 x3 x4 = e0 k (p5 k) (p9 k) (p11 k) (p0 k) (p23 k) (p4 k) (p45 k) x0 x1 x2 x3 x4 := rfl
theorem p23_succ (k : Nat) (x0 : Unit) : p23 (k + 1) x0 = e23 k (p5 k) (p9 k) (p11 k) (p0 k) (p23 k) (p4 k) (p45 k) x0 := rfl
theorem p4_succ (k : Nat) (x0 : (List Int)) (x1 : ByteArray) (x2 : Int) (x3 : Int) (x4 : Int) (x5 : Int) (x6 : Int) (x7 : Int) : p4 (k + 1) x0 x1 x2 x3 x4 x5 x6 x7 = e4 k (p5 k) (p9 k) (p11 k) (p0 k) (p23 k) (p4 k) (p45 k) x0 x1 x2 x3 x4 x5 x6 x7 := rfl
theorem p45_succ (k : Nat) (x0 : (List Int)) (x1 : ByteArray) (x2 : Int) (x3 : Int) (x4 : Int) : p45 (k + 1) x0 x1 x2 x3 x4 = e45 k (p5 k) (p9 k) (p11 k) (p0 k) (p23 k) (p4 k) (p45 k) x0 x1 x2 x3 x4 := rfl
def f (k : Nat) (a0 : ByteArray) (a1 : Int) : Option ((List Int) × Int) := e k (p5 k) (p9 k) (p11 k) (p0 k) (p23 k) (p4 k) (p45 k) a0 a1
end nat_Parse

namespace strings_trimLeftByte
def e0 (_k : Nat) (q0 : ByteArray → Int → Option ByteArray) (q7 : ByteArray → Option ByteArray) (b0 : ByteArray) (b1 : Int) : Option ByteArray :=
  (bif (decide ((b0.size : Int) > (0 : Int))) then
    (bif (decide ((0 : Int) < (b0.size : Int))) then
      (bif (decide ((btI b0 (0 : Int)) = b1)) then
        (bif (decide (0 ≤ (1 : Int)) && decide ((1 : Int) ≤ (b0.size : Int)) && decide ((b0.size : Int) ≤ (b0.size : Int))) then
          q0 (b0.extract (Int.toNat (1 : Int)) (Int.toNat (b0.size : Int))) b1
        else
          none)
      else
        q7 b0)
    else
      none)
  else
    q7 b0)
def e7 (_k : Nat) (_q0 : ByteArray → Int → Option ByteArray) (_q7 : ByteArray → Option ByteArray) (b0 : ByteArray) : Option ByteArray :=
  (some b0)
def e (_k : Nat) (q0 : ByteArray → Int → Option ByteArray) (_q7 : ByteArray → Option ByteArray) (a0 : ByteArray) (a1 : Int) : Option ByteArray :=
  q0 a0 a1
def pts : Nat → (ByteArray → Int → Option ByteArray) × (ByteArray → Option ByteArray)
  | 0 => (fun _ _ => none, fun _ => none)
  | k + 1 => (e0 k (pts k).1 (pts k).2, e7 k (pts k).1 (pts k).2)
def p0 (k : Nat) : ByteArray → Int → Option ByteArray := (pts k).1
def p7 (k : Nat) : ByteArray → Option ByteArray := (pts k).2
theorem p0_succ (k : Nat) (x0 : ByteArray) (x1 : Int) : p0 (k + 1) x0 x1 = e0 k (p0 k) (p7 k) x0 x1 := rfl
theorem p7_succ (k : Nat) (x0 : ByteArray) : p7 (k + 1) x0 = e7 k (p0 k) (p7 k) x0 := rfl
def f (k : Nat) (a0 : ByteArray) (a1 : Int) : Option ByteArray := e k (p0 k) (p7 k) a0 a1
end strings_trimLeftByte

namespace strings_ContainsRune
def e (k : Nat) (a0 : ByteArray) (a1 : Int) : Option Bool :=
  (Option.bind (strings_IndexRune.f k a0 a1) fun r1 =>
    (some (decide (r1 ≥ (0 : Int)))))
def f (k : Nat) (a0 : ByteArray) (a1 : Int) : Option Bool := e k a0 a1
end strings_ContainsRune

namespace strings_trimLeftUnicode
def e0 (k : Nat) (q0 : ByteArray → ByteArray → Option ByteArray) (q11 : ByteArray → Option ByteArray) (b0 : ByteArray) (b1 : ByteArray) : Option ByteArray :=
  (bif (decide ((b0.size : Int) > (0 : Int))) then
    (Option.bind (utf8_DecodeRuneInString.f k b0) fun r1 =>
      (Option.bind (strings_ContainsRune.f k b1 r1.1) fun r2 =>
        (bif (!r2) then
          q11 b0
        else
          (bif (decide (0 ≤ r1.2) && decide (r1.2 ≤ (b0.size : Int)) && decide ((b0.size : Int) ≤ (b0.size : Int))) then
            q0 (b0.extract (Int.toNat r1.2) (Int.toNat (b0.size : Int))) b1
          else
            none))))
  else
    q11 b0)
def e11 (_k : Nat) (_q0 : ByteArray → ByteArray → Option ByteArray) (_q11 : ByteArray → Option ByteArray) (b0 : ByteArray) : Option ByteArray :=
  (some b0)
def e (_k : Nat) (q0 : ByteArray → ByteArray → Option ByteArray) (_q11 : ByteArray → Option ByteArray) (a0 : ByteArray) (a1 : ByteArray) : Option ByteArray :=
  q0 a0 a1
def pts : Nat → (ByteArray → ByteArray → Option ByteArray) × (ByteArray → Option ByteArray)
  | 0 => (fun _ _ => none, fun _ => none)
  | k + 1 => (e0 k (pts k).1 (pts k).2, e11 k (pts k).1 (pts k).2)
def p0 (k : Nat) : ByteArray → ByteArray → Option ByteArray := (pts k).1
def p11 (k : Nat) : ByteArray → Option ByteArray := (pts k).2
theorem p0_succ (k : Nat) (x0 : ByteArray) (x1 : ByteArray) : p0 (k + 1) x0 x1 = e0 k (p0 k) (p11 k) x0 x1 := rfl
theorem p11_succ (k : Nat) (x0 : ByteArray) : p11 (k + 1) x0 = e11 k (p0 k) (p11 k) x0 := rfl
def f (k : Nat) (a0 : ByteArray) (a1 : ByteArray) : Option ByteArray := e k (p0 k) (p11 k) a0 a1
end strings_trimLeftUnicode

namespace strings_TrimLeft
def e5 (_k : Nat) (_q5 : ByteArray → Option ByteArray) (_q11 : ByteArray → ByteArray → Option ByteArray) (b0 : ByteArray) : Option ByteArray :=
  (some b0)
def e11 (_k : Nat) (_q5 : ByteArray → Option ByteArray) (_q11 : ByteArray → ByteArray → Option ByteArray) (_b0 : ByteArray) (_b1 : ByteArray) : Option ByteArray :=
  none
def e (k : Nat) (q5 : ByteArray → Option ByteArray) (q11 : ByteArray → ByteArray → Option ByteArray) (a0 : ByteArray) (a1 : ByteArray) : Option ByteArray :=
  (bif (a0.toList == (ByteArray.mk #[]).toList) then
    q5 a0
  else
    (bif (a1.toList == (ByteArray.mk #[]).toList) then
      q5 a0
    else
      (bif (decide ((a1.size : Int) = (1 : Int))) then
        (bif (decide ((0 : Int) < (a1.size : Int))) then
          (bif (decide ((btI a1 (0 : Int)) < (128 : Int))) then
            (bif (decide ((0 : Int) < (a1.size : Int))) then
              (Option.bind (strings_trimLeftByte.f k a0 (btI a1 (0 : Int))) fun r1 =>
                (some r1))
            else
              none)
          else
            q11 a0 a1)
        else
          none)
      else
        q11 a0 a1)))
def pts : Nat → (ByteArray → Option ByteArray) × (ByteArray → ByteArray → Option ByteArray)
  | 0 => (fun _ => none, fun _ _ => none)
  | k + 1 => (e5 k (pts k).1 (pts k).2, e11 k (pts k).1 (pts k).2)
def p5 (k : Nat) : ByteArray → Option ByteArray := (pts k).1
def p11 (k : Nat) : ByteArray → ByteArray → Option ByteArray := (pts k).2
theorem p5_succ (k : Nat) (x0 : ByteArray) : p5 (k + 1) x0 = e5 k (p5 k) (p11 k) x0 := rfl
theorem p11_succ (k : Nat) (x0 : ByteArray) (x1 : ByteArray) : p11 (k + 1) x0 x1 = e11 k (p5 k) (p11 k) x0 x1 := rfl
def f (k : Nat) (a0 : ByteArray) (a1 : ByteArray) : Option ByteArray := e k (p5 k) (p11 k) a0 a1
end strings_TrimLeft

namespace nat_Pow
def e5 (_k : Nat) (_q5 : Unit → Option ((List Int) × Int)) (_q0 : Int → (List Int) → (List Int) → Option ((List Int) × Int)) (_q19 : Int → (List Int) → (List Int) → Option ((List Int) × Int)) (_q13 : Int → (List Int) → (List Int) → Option ((List Int) × Int)) (_ : Unit) : Option ((List Int) × Int) :=
  (some (([] : List Int), (13 : Int)))
def e0 (k : Nat) (_q5 : Unit → Option ((List Int) × Int)) (_q0 : Int → (List Int) → (List Int) → Option ((List Int) × Int)) (q19 : Int → (List Int) → (List Int) → Option ((List Int) × Int)) (_q13 : Int → (List Int) → (List Int) → Option ((List Int) × Int)) (b0 : Int) (b1 : (List Int)) (b2 : (List Int)) : Option ((List Int) × Int) :=
  (bif (decide (b0 > (0 : Int))) then
    (bif (decide ((Int.tmod b0 (2 : Int)) = (1 : Int))) then
      (Option.bind (nat_Mul.f k b1 b2) fun r2 =>
        q19 b0 r2 b2)
    else
      q19 b0 b1 b2)
  else
    (some (b1, (0 : Int))))
def e19 (k : Nat) (_q5 : Unit → Option ((List Int) × Int)) (_q0 : Int → (List Int) → (List Int) → Option ((List Int) × Int)) (_q19 : Int → (List Int) → (List Int) → Option ((List Int) × Int)) (q13 : Int → (List Int) → (List Int) → Option ((List Int) × Int)) (b0 : Int) (b1 : (List Int)) (b2 : (List Int)) : Option ((List Int) × Int) :=
  (bif (decide (b0 > (1 : Int))) then
    (Option.bind (nat_Mul.f k b2 b2) fun r3 =>
      q13 b0 b1 r3)
  else
    q13 b0 b1 b2)
def e13 (_k : Nat) (_q5 : Unit → Option ((List Int) × Int)) (q0 : Int → (List Int) → (List Int) → Option ((List Int) × Int)) (_q19 : Int → (List Int) → (List Int) → Option ((List Int) × Int)) (_q13 : Int → (List Int) → (List Int) → Option ((List Int) × Int)) (b0 : Int) (b1 : (List Int)) (b2 : (List Int)) : Option ((List Int) × Int) :=
  q0 (IntKind.i64.wrap (Int.tdiv b0 (2 : Int))) b1 b2
def e (k : Nat) (q5 : Unit → Option ((List Int) × Int)) (q0 : Int → (List Int) → (List Int) → Option ((List Int) × Int)) (_q19 : Int → (List Int) → (List Int) → Option ((List Int) × Int)) (_q13 : Int → (List Int) → (List Int) → Option ((List Int) × Int)) (a0 : (List Int)) (a1 : Int) : Option ((List Int) × Int) :=
  (bif (decide (a1 < (0 : Int))) then
    q5 ()
  else
    (bif (decide (a1 > (4096 : Int))) then
      q5 ()
    else
      (Option.bind (nat_own.f k a0) fun r1 =>
        q0 a1 [(1 : Int)] r1)))
def pts : Nat → (Unit → Option ((List Int) × Int)) × (Int → (List Int) → (List Int) → Option ((List Int) × Int)) × (Int → (List Int) → (List Int) → Option ((List Int) × Int)) × (Int → (List Int) → (List Int) → Option ((List Int) × Int))
  | 0 => (fun _ => none, fun _ _ _ => none, fun _ _ _ => none, fun _ _ _ => none)
  | k + 1 => (e5 k (pts k).1 (pts k).2.1 (pts k).2.2.1 (pts k).2.2.2, e0 k (pts k).1 (pts k).2.1 (pts k).2.2.1 (pts k).2.2.2, e19 k (pts k).1 (pts k).2.1 (pts k).2.2.1 (pts k).2.2.2, e13 k (pts k).1 (pts k).2.1 (pts k).2.2.1 (pts k).2.2.2)
def p5 (k : Nat) : Unit → Option ((List Int) × Int) := (pts k).1
def p0 (k : Nat) : Int → (List Int) → (List Int) → Option ((List Int) × Int) := (pts k).2.1
def p19 (k : Nat) : Int → (List Int) → (List Int) → Option ((List Int) × Int) := (pts k).2.2.1
def p13 (k : Nat) : Int → (List Int) → (List Int) → Option ((List Int) × Int) := (pts k).2.2.2
theorem p5_succ (k : Nat) (x0 : Unit) : p5 (k + 1) x0 = e5 k (p5 k) (p0 k) (p19 k) (p13 k) x0 := rfl
theorem p0_succ (k : Nat) (x0 : Int) (x1 : (List Int)) (x2 : (List Int)) : p0 (k + 1) x0 x1 x2 = e0 k (p5 k) (p0 k) (p19 k) (p13 k) x0 x1 x2 := rfl
theorem p19_succ (k : Nat) (x0 : Int) (x1 : (List Int)) (x2 : (List Int)) : p19 (k + 1) x0 x1 x2 = e19 k (p5 k) (p0 k) (p19 k) (p13 k) x0 x1 x2 := rfl
theorem p13_succ (k : Nat) (x0 : Int) (x1 : (List Int)) (x2 : (List Int)) : p13 (k + 1) x0 x1 x2 = e13 k (p5 k) (p0 k) (p19 k) (p13 k) x0 x1 x2 := rfl
def f (k : Nat) (a0 : (List Int)) (a1 : Int) : Option ((List Int) × Int) := e k (p5 k) (p0 k) (p19 k) (p13 k) a0 a1
end nat_Pow

namespace ratio_ten
def e0 (k : Nat) (q0 : Int → (List Int) → Option (List Int)) (b0 : Int) (b1 : (List Int)) : Option (List Int) :=
  (bif (decide (b0 > (0 : Int))) then
    (Option.bind (nat_Pow.f k [(10 : Int)] (bif decide ((4096 : Int) < b0) then (4096 : Int) else b0)) fun r1 =>
      (Option.bind (nat_Mul.f k b1 r1.1) fun r2 =>
        q0 (IntKind.i64.wrap (b0 - (bif decide ((4096 : Int) < b0) then (4096 : Int) else b0))) r2))
  else
    (some b1))
def e (_k : Nat) (q0 : Int → (List Int) → Option (List Int)) (a0 : Int) : Option (List Int) :=
  q0 a0 [(1 : Int)]
def pts : Nat → (Int → (List Int) → Option (List Int))
  | 0 => fun _ _ => none
  | k + 1 => e0 k (pts k)
def p0 (k : Nat) : Int → (List Int) → Option (List Int) := (pts k)
theorem p0_succ (k : Nat) (x0 : Int) (x1 : (List Int)) : p0 (k + 1) x0 x1 = e0 k (p0 k) x0 x1 := rfl
def f (k : Nat) (a0 : Int) : Option (List Int) := e k (p0 k) a0
end ratio_ten

namespace ratio_Parse
def e15 (_k : Nat) (_q15 : ((Bool × (List Int)) × (List Int)) → Option (((Bool × (List Int)) × (List Int)) × Int)) (_q25 : ((Bool × (List Int)) × (List Int)) → Option (((Bool × (List Int)) × (List Int)) × Int)) (_q27 : ((Bool × (List Int)) × (List Int)) → Bool → ByteArray → (List Int) → Option (((Bool × (List Int)) × (List Int)) × Int)) (_q33 : ((Bool × (List Int)) × (List Int)) → Bool → ByteArray → (List Int) → ByteArray → Option (((Bool × (List Int)) × (List Int)) × Int)) (_b0 : ((Bool × (List Int)) × (List Int))) : Option (((Bool × (List Int)) × (List Int)) × Int) :=
  (some (((false, ([] : List Int)), ([] : List Int)), (31 : Int)))
def e25 (_k : Nat) (_q15 : ((Bool × (List Int)) × (List Int)) → Option (((Bool × (List Int)) × (List Int)) × Int)) (_q25 : ((Bool × (List Int)) × (List Int)) → Option (((Bool × (List Int)) × (List Int)) × Int)) (_q27 : ((Bool × (List Int)) × (List Int)) → Bool → ByteArray → (List Int) → Option (((Bool × (List Int)) × (List Int)) × Int)) (_q33 : ((Bool × (List Int)) × (List Int)) → Bool → ByteArray → (List Int) → ByteArray → Option (((Bool × (List Int)) × (List Int)) × Int)) (_b0 : ((Bool × (List Int)) × (List Int))) : Option (((Bool × (List Int)) × (List Int)) × Int) :=
  (some (((false, ([] : List Int)), ([] : List Int)), (31 : Int)))
def e27 (k : Nat) (_q15 : ((Bool × (List Int)) × (List Int)) → Option (((Bool × (List Int)) × (List Int)) × Int)) (_q25 : ((Bool × (List Int)) × (List Int)) → Option (((Bool × (List Int)) × (List Int)) × Int)) (_q27 : ((Bool × (List Int)) × (List Int)) → Bool → ByteArray → (List Int) → Option (((Bool × (List Int)) × (List Int)) × Int)) (q33 : ((Bool × (List Int)) × (List Int)) → Bool → ByteArray → (List Int) → ByteArray → Option (((Bool × (List Int)) × (List Int)) × Int)) (b0 : ((Bool × (List Int)) × (List Int))) (b1 : Bool) (b2 : ByteArray) (b3 : (List Int)) : Option (((Bool × (List Int)) × (List Int)) × Int) :=
  (Option.bind (strings_TrimLeft.f k b2 (ByteArray.mk #[48])) fun r8 =>
    (bif (r8.toList == (ByteArray.mk #[]).toList) then
      q33 b0 b1 b2 b3 (ByteArray.mk #[48])
    else
      q33 b0 b1 b2 b3 r8))
def e33 (k : Nat) (_q15 : ((Bool × (List Int)) × (List Int)) → Option (((Bool × (List Int)) × (List Int)) × Int)) (_q25 : ((Bool × (List Int)) × (List Int)) → Option (((Bool × (List Int)) × (List Int)) × Int)) (_q27 : ((Bool × (List Int)) × (List Int)) → Bool → ByteArray → (List Int) → Option (((Bool × (List Int)) × (List Int)) × Int)) (_q33 : ((Bool × (List Int)) × (List Int)) → Bool → ByteArray → (List Int) → ByteArray → Option (((Bool × (List Int)) × (List Int)) × Int)) (_b0 : ((Bool × (List Int)) × (List Int))) (b1 : Bool) (b2 : ByteArray) (b3 : (List Int)) (b4 : ByteArray) : Option (((Bool × (List Int)) × (List Int)) × Int) :=
  (Option.bind (nat_Parse.f k b4 (10 : Int)) fun r9 =>
    (bif (!decide (r9.2 = (0 : Int))) then
      (some (((false, ([] : List Int)), ([] : List Int)), (31 : Int)))
    else
      (Option.bind (ratio_ten.f k (b2.size : Int)) fun r10 =>
        (Option.bind (nat_Mul.f k b3 r10) fun r11 =>
          (Option.bind (nat_Add.f k r11 r9.1) fun r12 =>
            (Option.bind (ratio_made.f k (b1, r12) r10) fun r13 =>
              (some (r13, (0 : Int)))))))))
def e (k : Nat) (q15 : ((Bool × (List Int)) × (List Int)) → Option (((Bool × (List Int)) × (List Int)) × Int)) (q25 : ((Bool × (List Int)) × (List Int)) → Option (((Bool × (List Int)) × (List Int)) × Int)) (q27 : ((Bool × (List Int)) × (List Int)) → Bool → ByteArray → (List Int) → Option (((Bool × (List Int)) × (List Int)) × Int)) (_q33 : ((Bool × (List Int)) × (List Int)) → Bool → ByteArray → (List Int) → ByteArray → Option (((Bool × (List Int)) × (List Int)) × Int)) (a0 : ByteArray) : Option (((Bool × (List Int)) × (List Int)) × Int) :=
  (Option.bind (strings_CutPrefix.f k a0 (ByteArray.mk #[45])) fun r1 =>
    (Option.bind (strings_Cut.f k r1.1 (ByteArray.mk #[47])) fun r2 =>
      (bif r2.2.2 then
        (Option.bind (nat_Parse.f k r2.1 (10 : Int)) fun r3 =>
          (Option.bind (nat_Parse.f k r2.2.1 (10 : Int)) fun r4 =>
            (bif (!decide (r3.2 = (0 : Int))) then
              q15 ((false, ([] : List Int)), ([] : List Int))
            else
              (bif (!decide (r4.2 = (0 : Int))) then
                q15 ((false, ([] : List Int)), ([] : List Int))
              else
                (bif (decide ((r4.1.length : Int) = (0 : Int))) then
                  q15 ((false, ([] : List Int)), ([] : List Int))
                else
                  (Option.bind (ratio_made.f k (r1.2, r3.1) r4.1) fun r5 =>
                    (some (r5, (0 : Int)))))))))
      else
        (Option.bind (strings_Cut.f k r1.1 (ByteArray.mk #[46])) fun r6 =>
          (Option.bind (nat_Parse.f k r6.1 (10 : Int)) fun r7 =>
            (bif (!decide (r7.2 = (0 : Int))) then
              q25 ((false, ([] : List Int)), ([] : List Int))
            else
              (bif r6.2.2 then
                (bif (r6.2.1.toList == (ByteArray.mk #[]).toList) then
                  q25 ((false, ([] : List Int)), ([] : List Int))
                else
                  q27 ((false, ([] : List Int)), ([] : List Int)) r1.2 r6.2.1 r7.1)
              else
                q27 ((false, ([] : List Int)), ([] : List Int)) r1.2 r6.2.1 r7.1)))))))
def pts : Nat → (((Bool × (List Int)) × (List Int)) → Option (((Bool × (List Int)) × (List Int)) × Int)) × (((Bool × (List Int)) × (List Int)) → Option (((Bool × (List Int)) × (List Int)) × Int)) × (((Bool × (List Int)) × (List Int)) → Bool → ByteArray → (List Int) → Option (((Bool × (List Int)) × (List Int)) × Int)) × (((Bool × (List Int)) × (List Int)) → Bool → ByteArray → (List Int) → ByteArray → Option (((Bool × (List Int)) × (List Int)) × Int))
  | 0 => (fun _ => none, fun _ => none, fun _ _ _ _ => none, fun _ _ _ _ _ => none)
  | k + 1 => (e15 k (pts k).1 (pts k).2.1 (pts k).2.2.1 (pts k).2.2.2, e25 k (pts k).1 (pts k).2.1 (pts k).2.2.1 (pts k).2.2.2, e27 k (pts k).1 (pts k).2.1 (pts k).2.2.1 (pts k).2.2.2, e33 k (pts k).1 (pts k).2.1 (pts k).2.2.1 (pts k).2.2.2)
def p15 (k : Nat) : ((Bool × (List Int)) × (List Int)) → Option (((Bool × (List Int)) × (List Int)) × Int) := (pts k).1
def p25 (k : Nat) : ((Bool × (List Int)) × (List Int)) → Option (((Bool × (List Int)) × (List Int)) × Int) := (pts k).2.1
def p27 (k : Nat) : ((Bool × (List Int)) × (List Int)) → Bool → ByteArray → (List Int) → Option (((Bool × (List Int)) × (List Int)) × Int) := (pts k).2.2.1
def p33 (k : Nat) : ((Bool × (List Int)) × (List Int)) → Bool → ByteArray → (List Int) → ByteArray → Option (((Bool × (List Int)) × (List Int)) × Int) := (pts k).2.2.2
theorem p15_succ (k : Nat) (x0 : ((Bool × (List Int)) × (List Int))) : p15 (k + 1) x0 = e15 k (p15 k) (p25 k) (p27 k) (p33 k) x0 := rfl
theorem p25_succ (k : Nat) (x0 : ((Bool × (List Int)) × (List Int))) : p25 (k + 1) x0 = e25 k (p15 k) (p25 k) (p27 k) (p33 k) x0 := rfl
theorem p27_succ (k : Nat) (x0 : ((Bool × (List Int)) × (List Int))) (x1 : Bool) (x2 : ByteArray) (x3 : (List Int)) : p27 (k + 1) x0 x1 x2 x3 = e27 k (p15 k) (p25 k) (p27 k) (p33 k) x0 x1 x2 x3 := rfl
theorem p33_succ (k : Nat) (x0 : ((Bool × (List Int)) × (List Int))) (x1 : Bool) (x2 : ByteArray) (x3 : (List Int)) (x4 : ByteArray) : p33 (k + 1) x0 x1 x2 x3 x4 = e33 k (p15 k) (p25 k) (p27 k) (p33 k) x0 x1 x2 x3 x4 := rfl
def f (k : Nat) (a0 : ByteArray) : Option (((Bool × (List Int)) × (List Int)) × Int) := e k (p15 k) (p25 k) (p27 k) (p33 k) a0
end ratio_Parse

namespace delta_Norm
def e (k : Nat) (a0 : (((Bool × (List Int)) × (List Int)) × ((Bool × (List Int)) × (List Int)))) : Option (((Bool × (List Int)) × (List Int)) × ((Bool × (List Int)) × (List Int))) :=
  (Option.bind (ratio_Norm.f k a0.1) fun r1 =>
    (Option.bind (ratio_Norm.f k a0.2) fun r2 =>
      (some (r1, r2))))
def f (k : Nat) (a0 : (((Bool × (List Int)) × (List Int)) × ((Bool × (List Int)) × (List Int)))) : Option (((Bool × (List Int)) × (List Int)) × ((Bool × (List Int)) × (List Int))) := e k a0
end delta_Norm

namespace nat_Text
def e5 (_k : Nat) (_q5 : Unit → Option (ByteArray × Int)) (_q0 : (List Int) → Int → (List Int) → Option (ByteArray × Int)) (_q4 : (List Int) → (List Int) → Int → Int → Option (ByteArray × Int)) (_ : Unit) : Option (ByteArray × Int) :=
  (some ((ByteArray.mk #[]), (14 : Int)))
def e0 (k : Nat) (_q5 : Unit → Option (ByteArray × Int)) (q0 : (List Int) → Int → (List Int) → Option (ByteArray × Int)) (q4 : (List Int) → (List Int) → Int → Int → Option (ByteArray × Int)) (b0 : (List Int)) (b1 : Int) (b2 : (List Int)) : Option (ByteArray × Int) :=
  (bif (decide ((b2.length : Int) > (0 : Int))) then
    (Option.bind (nat_short.f k b2 (IntKind.u32.wrap b1)) fun r2 =>
      (Option.bind (nat_trim.f k r2.1) fun r3 =>
        (bif (decide (0 ≤ r2.2) && decide (r2.2 < (str_9f9f5111f7.size : Int))) then
          (bif (Nat.ble ((b0.length + [(btI str_9f9f5111f7 r2.2)].length) * 1) 140737488355328 && Nat.ble (b0.length + [(btI str_9f9f5111f7 r2.2)].length) 9223372036854775807) then
            q0 (b0 ++ [(btI str_9f9f5111f7 r2.2)]) b1 r3
          else
            none)
        else
          none)))
  else
    (bif (decide ((b0.length : Int) = (0 : Int))) then
      (some ((ByteArray.mk #[48]), (0 : Int)))
    else
      (bif (decide (0 ≤ (b0.length : Int)) && decide ((b0.length : Int) * 1 ≤ 281474976710656) && decide ((b0.length : Int) ≤ 9223372036854775807)) then
        q4 b0 (List.replicate (Int.toNat (b0.length : Int)) (0 : Int)) (b0.length : Int) (0 : Int)
      else
        none)))
def e4 (_k : Nat) (_q5 : Unit → Option (ByteArray × Int)) (_q0 : (List Int) → Int → (List Int) → Option (ByteArray × Int)) (q4 : (List Int) → (List Int) → Int → Int → Option (ByteArray × Int)) (b0 : (List Int)) (b1 : (List Int)) (b2 : Int) (b3 : Int) : Option (ByteArray × Int) :=
  (bif (decide (b3 < b2)) then
    (bif (decide (0 ≤ b3) && decide (b3 < (b0.length : Int))) then
      (bif (decide (0 ≤ (IntKind.i64.wrap ((IntKind.i64.wrap ((b0.length : Int) - (1 : Int))) - b3))) && decide ((IntKind.i64.wrap ((IntKind.i64.wrap ((b0.length : Int) - (1 : Int))) - b3)) < (b1.length : Int))) then
        q4 b0 (setN (nthD (0 : Int) b0 (Int.toNat b3)) b1 (Int.toNat (IntKind.i64.wrap ((IntKind.i64.wrap ((b0.length : Int) - (1 : Int))) - b3)))) b2 (IntKind.i64.wrap (b3 + (1 : Int)))
      else
        none)
    else
      none)
  else
    (some ((ofB b1), (0 : Int))))
def e (k : Nat) (q5 : Unit → Option (ByteArray × Int)) (q0 : (List Int) → Int → (List Int) → Option (ByteArray × Int)) (_q4 : (List Int) → (List Int) → Int → Int → Option (ByteArray × Int)) (a0 : (List Int)) (a1 : Int) : Option (ByteArray × Int) :=
  (bif (decide (a1 < (2 : Int))) then
    q5 ()
  else
    (bif (decide (a1 > (16 : Int))) then
      q5 ()
    else
      (Option.bind (nat_own.f k a0) fun r1 =>
        q0 ([] : List Int) a1 r1)))
def pts : Nat → (Unit → Option (ByteArray × Int)) × ((List Int) → Int → (List Int) → Option (ByteArray × Int)) × ((List Int) → (List Int) → Int → Int → Option (ByteArray × Int))
  | 0 => (fun _ => none, fun _ _ _ => none, fun _ _ _ _ => none)
  | k + 1 => (e5 k (pts k).1 (pts k).2.1 (pts k).2.2, e0 k (pts k).1 (pts k).2.1 (pts k).2.2, e4 k (pts k).1 (pts k).2.1 (pts k).2.2)
def p5 (k : Nat) : Unit → Option (ByteArray × Int) := (pts k).1
def p0 (k : Nat) : (List Int) → Int → (List Int) → Option (ByteArray × Int) := (pts k).2.1
def p4 (k : Nat) : (List Int) → (List Int) → Int → Int → Option (ByteArray × Int) := (pts k).2.2
theorem p5_succ (k : Nat) (x0 : Unit) : p5 (k + 1) x0 = e5 k (p5 k) (p0 k) (p4 k) x0 := rfl
theorem p0_succ (k : Nat) (x0 : (List Int)) (x1 : Int) (x2 : (List Int)) : p0 (k + 1) x0 x1 x2 = e0 k (p5 k) (p0 k) (p4 k) x0 x1 x2 := rfl
theorem p4_succ (k : Nat) (x0 : (List Int)) (x1 : (List Int)) (x2 : Int) (x3 : Int) : p4 (k + 1) x0 x1 x2 x3 = e4 k (p5 k) (p0 k) (p4 k) x0 x1 x2 x3 := rfl
def f (k : Nat) (a0 : (List Int)) (a1 : Int) : Option (ByteArray × Int) := e k (p5 k) (p0 k) (p4 k) a0 a1
end nat_Text

namespace whole_Text
def e (k : Nat) (a0 : (Bool × (List Int))) : Option ByteArray :=
  (Option.bind (nat_Text.f k a0.2 (10 : Int)) fun r1 =>
    (Option.bind (whole_Sign.f k a0) fun r2 =>
      (bif (decide (r2 < (0 : Int))) then
        (bif (decide ((((ByteArray.mk #[45]).size + r1.1.size : Nat) : Int) > IntKind.i64.max)) then
          none
        else
          (some ((ByteArray.mk #[45]) ++ r1.1)))
      else
        (some r1.1))))
def f (k : Nat) (a0 : (Bool × (List Int))) : Option ByteArray := e k a0
end whole_Text

namespace ratio_decimal
def e (k : Nat) (a0 : (List Int)) : Option ByteArray :=
  (Option.bind (nat_Text.f k a0 (10 : Int)) fun r1 =>
    (some r1.1))
def f (k : Nat) (a0 : (List Int)) : Option ByteArray := e k a0
end ratio_decimal

namespace ratio_Text
def e11 (_k : Nat) (_q11 : ByteArray → Option ByteArray) (b0 : ByteArray) : Option ByteArray :=
  (some b0)
def e (k : Nat) (q11 : ByteArray → Option ByteArray) (a0 : ((Bool × (List Int)) × (List Int))) : Option ByteArray :=
  (Option.bind (ratio_Norm.f k a0) fun r1 =>
    (Option.bind (whole_Text.f k r1.1) fun r2 =>
      (Option.bind (nat_Cmp.f k r1.2 [(1 : Int)]) fun r3 =>
        (bif (!decide (r3 = (0 : Int))) then
          (Option.bind (ratio_decimal.f k r1.2) fun r4 =>
            (bif (decide ((((ByteArray.mk #[47]).size + r4.size : Nat) : Int) > IntKind.i64.max)) then
              none
            else
              (bif (decide (((r2.size + ((ByteArray.mk #[47]) ++ r4).size : Nat) : Int) > IntKind.i64.max)) then
                none
              else
                q11 (r2 ++ ((ByteArray.mk #[47]) ++ r4)))))
        else
          q11 r2))))
def pts : Nat → (ByteArray → Option ByteArray)
  | 0 => fun _ => none
  | k + 1 => e11 k (pts k)
def p11 (k : Nat) : ByteArray → Option ByteArray := (pts k)
theorem p11_succ (k : Nat) (x0 : ByteArray) : p11 (k + 1) x0 = e11 k (p11 k) x0 := rfl
def f (k : Nat) (a0 : ((Bool × (List Int)) × (List Int))) : Option ByteArray := e k (p11 k) a0
end ratio_Text

namespace delta_Text
def e15 (_k : Nat) (_q15 : ByteArray → Option ByteArray) (b0 : ByteArray) : Option ByteArray :=
  (some b0)
def e (k : Nat) (q15 : ByteArray → Option ByteArray) (a0 : (((Bool × (List Int)) × (List Int)) × ((Bool × (List Int)) × (List Int)))) : Option ByteArray :=
  (Option.bind (ratio_Text.f k a0.1) fun r1 =>
    (Option.bind (ratio_Sign.f k a0.2) fun r2 =>
      (bif (decide (r2 = (1 : Int))) then
        (Option.bind (ratio_Text.f k a0.2) fun r3 =>
          (bif (decide ((((ByteArray.mk #[43]).size + r3.size : Nat) : Int) > IntKind.i64.max)) then
            none
          else
            (bif (decide (((((ByteArray.mk #[43]) ++ r3).size + (ByteArray.mk #[100]).size : Nat) : Int) > IntKind.i64.max)) then
              none
            else
              (bif (decide (((r1.size + (((ByteArray.mk #[43]) ++ r3) ++ (ByteArray.mk #[100])).size : Nat) : Int) > IntKind.i64.max)) then
                none
              else
                q15 (r1 ++ (((ByteArray.mk #[43]) ++ r3) ++ (ByteArray.mk #[100])))))))
      else
        (bif (decide (r2 = (-1 : Int))) then
          (Option.bind (ratio_Text.f k a0.2) fun r4 =>
            (bif (decide (((r4.size + (ByteArray.mk #[100]).size : Nat) : Int) > IntKind.i64.max)) then
              none
            else
              (bif (decide (((r1.size + (r4 ++ (ByteArray.mk #[100])).size : Nat) : Int) > IntKind.i64.max)) then
                none
              else
                q15 (r1 ++ (r4 ++ (ByteArray.mk #[100]))))))
        else
          q15 r1))))
def pts : Nat → (ByteArray → Option ByteArray)
  | 0 => fun _ => none
  | k + 1 => e15 k (pts k)
def p15 (k : Nat) : ByteArray → Option ByteArray := (pts k)
theorem p15_succ (k : Nat) (x0 : ByteArray) : p15 (k + 1) x0 = e15 k (p15 k) x0 := rfl
def f (k : Nat) (a0 : (((Bool × (List Int)) × (List Int)) × ((Bool × (List Int)) × (List Int)))) : Option ByteArray := e k (p15 k) a0
end delta_Text

namespace delta_Parse
def e19 (k : Nat) (_q19 : (((Bool × (List Int)) × (List Int)) × ((Bool × (List Int)) × (List Int))) → (((Bool × (List Int)) × (List Int)) × ((Bool × (List Int)) × (List Int))) → ByteArray → ByteArray → ByteArray → Option ((((Bool × (List Int)) × (List Int)) × ((Bool × (List Int)) × (List Int))) × Int)) (q35 : (((Bool × (List Int)) × (List Int)) × ((Bool × (List Int)) × (List Int))) → (((Bool × (List Int)) × (List Int)) × ((Bool × (List Int)) × (List Int))) → ByteArray → Option ((((Bool × (List Int)) × (List Int)) × ((Bool × (List Int)) × (List Int))) × Int)) (b0 : (((Bool × (List Int)) × (List Int)) × ((Bool × (List Int)) × (List Int)))) (b1 : (((Bool × (List Int)) × (List Int)) × ((Bool × (List Int)) × (List Int)))) (b2 : ByteArray) (b3 : ByteArray) (b4 : ByteArray) : Option ((((Bool × (List Int)) × (List Int)) × ((Bool × (List Int)) × (List Int))) × Int) :=
  (Option.bind (ratio_Parse.f k b3) fun r4 =>
    (bif (!decide (r4.2 = (0 : Int))) then
      (some ((((false, ([] : List Int)), ([] : List Int)), ((false, ([] : List Int)), ([] : List Int))), (50 : Int)))
    else
      (bif (!(b4.toList == (ByteArray.mk #[]).toList)) then
        (Option.bind (ratio_Parse.f k b4) fun r5 =>
          (bif (!decide (r5.2 = (0 : Int))) then
            (some ((((false, ([] : List Int)), ([] : List Int)), ((false, ([] : List Int)), ([] : List Int))), (50 : Int)))
          else
            q35 b0 (r4.1, r5.1) b2))
      else
        q35 b0 (r4.1, b1.2) b2)))
def e35 (k : Nat) (_q19 : (((Bool × (List Int)) × (List Int)) × ((Bool × (List Int)) × (List Int))) → (((Bool × (List Int)) × (List Int)) × ((Bool × (List Int)) × (List Int))) → ByteArray → ByteArray → ByteArray → Option ((((Bool × (List Int)) × (List Int)) × ((Bool × (List Int)) × (List Int))) × Int)) (_q35 : (((Bool × (List Int)) × (List Int)) × ((Bool × (List Int)) × (List Int))) → (((Bool × (List Int)) × (List Int)) × ((Bool × (List Int)) × (List Int))) → ByteArray → Option ((((Bool × (List Int)) × (List Int)) × ((Bool × (List Int)) × (List Int))) × Int)) (_b0 : (((Bool × (List Int)) × (List Int)) × ((Bool × (List Int)) × (List Int)))) (b1 : (((Bool × (List Int)) × (List Int)) × ((Bool × (List Int)) × (List Int)))) (b2 : ByteArray) : Option ((((Bool × (List Int)) × (List Int)) × ((Bool × (List Int)) × (List Int))) × Int) :=
  (Option.bind (delta_Norm.f k b1) fun r6 =>
    (Option.bind (delta_Text.f k r6) fun r7 =>
      (bif (!(r7.toList == b2.toList)) then
        (some ((((false, ([] : List Int)), ([] : List Int)), ((false, ([] : List Int)), ([] : List Int))), (50 : Int)))
      else
        (some (r6, (0 : Int))))))
def e (k : Nat) (q19 : (((Bool × (List Int)) × (List Int)) × ((Bool × (List Int)) × (List Int))) → (((Bool × (List Int)) × (List Int)) × ((Bool × (List Int)) × (List Int))) → ByteArray → ByteArray → ByteArray → Option ((((Bool × (List Int)) × (List Int)) × ((Bool × (List Int)) × (List Int))) × Int)) (_q35 : (((Bool × (List Int)) × (List Int)) × ((Bool × (List Int)) × (List Int))) → (((Bool × (List Int)) × (List Int)) × ((Bool × (List Int)) × (List Int))) → ByteArray → Option ((((Bool × (List Int)) × (List Int)) × ((Bool × (List Int)) × (List Int))) × Int)) (a0 : ByteArray) : Option ((((Bool × (List Int)) × (List Int)) × ((Bool × (List Int)) × (List Int))) × Int) :=
  (Option.bind (strings_CutSuffix.f k a0 (ByteArray.mk #[100])) fun r1 =>
    (bif r1.2 then
      (Option.bind (strings_LastIndexAny.f k r1.1 (ByteArray.mk #[43, 45])) fun r2 =>
        (bif (decide (r2 < (0 : Int))) then
          (some ((((false, ([] : List Int)), ([] : List Int)), ((false, ([] : List Int)), ([] : List Int))), (50 : Int)))
        else
          (bif (decide (0 ≤ (0 : Int)) && decide ((0 : Int) ≤ r2) && decide (r2 ≤ (r1.1.size : Int))) then
            (bif (decide (0 ≤ r2) && decide (r2 ≤ (r1.1.size : Int)) && decide ((r1.1.size : Int) ≤ (r1.1.size : Int))) then
              (Option.bind (strings_TrimPrefix.f k (r1.1.extract (Int.toNat r2) (Int.toNat (r1.1.size : Int))) (ByteArray.mk #[43])) fun r3 =>
                q19 (((false, ([] : List Int)), ([] : List Int)), ((false, ([] : List Int)), ([] : List Int))) (((false, ([] : List Int)), ([] : List Int)), ((false, ([] : List Int)), ([] : List Int))) a0 (r1.1.extract (Int.toNat (0 : Int)) (Int.toNat r2)) r3)
            else
              none)
          else
            none)))
    else
      q19 (((false, ([] : List Int)), ([] : List Int)), ((false, ([] : List Int)), ([] : List Int))) (((false, ([] : List Int)), ([] : List Int)), ((false, ([] : List Int)), ([] : List Int))) a0 a0 (ByteArray.mk #[])))
def pts : Nat → ((((Bool × (List Int)) × (List Int)) × ((Bool × (List Int)) × (List Int))) → (((Bool × (List Int)) × (List Int)) × ((Bool × (List Int)) × (List Int))) → ByteArray → ByteArray → ByteArray → Option ((((Bool × (List Int)) × (List Int)) × ((Bool × (List Int)) × (List Int))) × Int)) × ((((Bool × (List Int)) × (List Int)) × ((Bool × (List Int)) × (List Int))) → (((Bool × (List Int)) × (List Int)) × ((Bool × (List Int)) × (List Int))) → ByteArray → Option ((((Bool × (List Int)) × (List Int)) × ((Bool × (List Int)) × (List Int))) × Int))
  | 0 => (fun _ _ _ _ _ => none, fun _ _ _ => none)
  | k + 1 => (e19 k (pts k).1 (pts k).2, e35 k (pts k).1 (pts k).2)
def p19 (k : Nat) : (((Bool × (List Int)) × (List Int)) × ((Bool × (List Int)) × (List Int))) → (((Bool × (List Int)) × (List Int)) × ((Bool × (List Int)) × (List Int))) → ByteArray → ByteArray → ByteArray → Option ((((Bool × (List Int)) × (List Int)) × ((Bool × (List Int)) × (List Int))) × Int) := (pts k).1
def p35 (k : Nat) : (((Bool × (List Int)) × (List Int)) × ((Bool × (List Int)) × (List Int))) → (((Bool × (List Int)) × (List Int)) × ((Bool × (List Int)) × (List Int))) → ByteArray → Option ((((Bool × (List Int)) × (List Int)) × ((Bool × (List Int)) × (List Int))) × Int) := (pts k).2
theorem p19_succ (k : Nat) (x0 : (((Bool × (List Int)) × (List Int)) × ((Bool × (List Int)) × (List Int)))) (x1 : (((Bool × (List Int)) × (List Int)) × ((Bool × (List Int)) × (List Int)))) (x2 : ByteArray) (x3 : ByteArray) (x4 : ByteArray) : p19 (k + 1) x0 x1 x2 x3 x4 = e19 k (p19 k) (p35 k) x0 x1 x2 x3 x4 := rfl
theorem p35_succ (k : Nat) (x0 : (((Bool × (List Int)) × (List Int)) × ((Bool × (List Int)) × (List Int)))) (x1 : (((Bool × (List Int)) × (List Int)) × ((Bool × (List Int)) × (List Int)))) (x2 : ByteArray) : p35 (k + 1) x0 x1 x2 = e35 k (p19 k) (p35 k) x0 x1 x2 := rfl
def f (k : Nat) (a0 : ByteArray) : Option ((((Bool × (List Int)) × (List Int)) × ((Bool × (List Int)) × (List Int))) × Int) := e k (p19 k) (p35 k) a0
end delta_Parse

namespace ref01_Norm
def e0 (_k : Nat) (q0 : (List Int) → Int → Option (List Int)) (q9 : (List Int) → Int → Option (List Int)) (_q4 : (List Int) → (List Int) → Int → Int → Option (List Int)) (b0 : (List Int)) (b1 : Int) : Option (List Int) :=
  (bif (decide (b1 > (0 : Int))) then
    (bif (decide (0 ≤ (IntKind.i64.wrap (b1 - (1 : Int)))) && decide ((IntKind.i64.wrap (b1 - (1 : Int))) < (b0.length : Int))) then
      (bif (decide ((nthD (0 : Int) b0 (Int.toNat (IntKind.i64.wrap (b1 - (1 : Int))))) = (0 : Int))) then
        q0 b0 (IntKind.i64.wrap (b1 - (1 : Int)))
      else
        q9 b0 b1)
    else
      none)
  else
    q9 b0 b1)
def e9 (_k : Nat) (_q0 : (List Int) → Int → Option (List Int)) (_q9 : (List Int) → Int → Option (List Int)) (q4 : (List Int) → (List Int) → Int → Int → Option (List Int)) (b0 : (List Int)) (b1 : Int) : Option (List Int) :=
  (bif (decide (0 ≤ b1) && decide (b1 * 4 ≤ 281474976710656) && decide (b1 ≤ 9223372036854775807)) then
    q4 (List.replicate (Int.toNat b1) (0 : Int)) b0 b1 (0 : Int)
  else
    none)
def e4 (_k : Nat) (_q0 : (List Int) → Int → Option (List Int)) (_q9 : (List Int) → Int → Option (List Int)) (q4 : (List Int) → (List Int) → Int → Int → Option (List Int)) (b0 : (List Int)) (b1 : (List Int)) (b2 : Int) (b3 : Int) : Option (List Int) :=
  (bif (decide (b3 < b2)) then
    (bif (decide (0 ≤ b3) && decide (b3 < (b1.length : Int))) then
      (bif (decide (0 ≤ b3) && decide (b3 < (b0.length : Int))) then
        q4 (setN (nthD (0 : Int) b1 (Int.toNat b3)) b0 (Int.toNat b3)) b1 b2 (IntKind.i64.wrap (b3 + (1 : Int)))
      else
        none)
    else
      none)
  else
    (some b0))
def e (_k : Nat) (q0 : (List Int) → Int → Option (List Int)) (_q9 : (List Int) → Int → Option (List Int)) (_q4 : (List Int) → (List Int) → Int → Int → Option (List Int)) (a0 : (List Int)) : Option (List Int) :=
  q0 a0 (a0.length : Int)
def pts : Nat → ((List Int) → Int → Option (List Int)) × ((List Int) → Int → Option (List Int)) × ((List Int) → (List Int) → Int → Int → Option (List Int))
  | 0 => (fun _ _ => none, fun _ _ => none, fun _ _ _ _ => none)
  | k + 1 => (e0 k (pts k).1 (pts k).2.1 (pts k).2.2, e9 k (pts k).1 (pts k).2.1 (pts k).2.2, e4 k (pts k).1 (pts k).2.1 (pts k).2.2)
def p0 (k : Nat) : (List Int) → Int → Option (List Int) := (pts k).1
def p9 (k : Nat) : (List Int) → Int → Option (List Int) := (pts k).2.1
def p4 (k : Nat) : (List Int) → (List Int) → Int → Int → Option (List Int) := (pts k).2.2
theorem p0_succ (k : Nat) (x0 : (List Int)) (x1 : Int) : p0 (k + 1) x0 x1 = e0 k (p0 k) (p9 k) (p4 k) x0 x1 := rfl
theorem p9_succ (k : Nat) (x0 : (List Int)) (x1 : Int) : p9 (k + 1) x0 x1 = e9 k (p0 k) (p9 k) (p4 k) x0 x1 := rfl
theorem p4_succ (k : Nat) (x0 : (List Int)) (x1 : (List Int)) (x2 : Int) (x3 : Int) : p4 (k + 1) x0 x1 x2 x3 = e4 k (p0 k) (p9 k) (p4 k) x0 x1 x2 x3 := rfl
def f (k : Nat) (a0 : (List Int)) : Option (List Int) := e k (p0 k) (p9 k) (p4 k) a0
end ref01_Norm

namespace ref01_Of
def e (k : Nat) (a0 : Int) : Option (List Int) :=
  (Option.bind (ref01_Norm.f k [(IntKind.u32.wrap a0), (IntKind.u32.wrap (Int.fdiv a0 (2 ^ 32)))]) fun r1 =>
    (some r1))
def f (k : Nat) (a0 : Int) : Option (List Int) := e k a0
end ref01_Of

namespace ref02_made
def e (k : Nat) (a0 : Bool) (a1 : (List Int)) : Option (Bool × (List Int)) :=
  (Option.bind (ref01_Norm.f k a1) fun r1 =>
    (bif a0 then
      (some ((decide ((r1.length : Int) > (0 : Int))), r1))
    else
      (some (false, r1))))
def f (k : Nat) (a0 : Bool) (a1 : (List Int)) : Option (Bool × (List Int)) := e k a0 a1
end ref02_made

namespace ref02_Of
def e (k : Nat) (a0 : Int) : Option (Bool × (List Int)) :=
  (bif (decide (a0 < (0 : Int))) then
    (Option.bind (ref01_Of.f k (IntKind.u64.wrap ((0 : Int) - (IntKind.u64.wrap a0)))) fun r1 =>
      (Option.bind (ref02_made.f k true r1) fun r2 =>
        (some r2)))
  else
    (Option.bind (ref01_Of.f k (IntKind.u64.wrap a0)) fun r3 =>
      (Option.bind (ref02_made.f k false r3) fun r4 =>
        (some r4))))
def f (k : Nat) (a0 : Int) : Option (Bool × (List Int)) := e k a0
end ref02_Of

namespace ref02_Norm
def e (k : Nat) (a0 : (Bool × (List Int))) : Option (Bool × (List Int)) :=
  (Option.bind (ref02_made.f k a0.1 a0.2) fun r1 =>
    (some r1))
def f (k : Nat) (a0 : (Bool × (List Int))) : Option (Bool × (List Int)) := e k a0
end ref02_Norm

namespace ref01_at
def e (_k : Nat) (a0 : (List Int)) (a1 : Int) : Option Int :=
  (bif (decide (a1 ≥ (a0.length : Int))) then
    (some (0 : Int))
  else
    (bif (decide (0 ≤ a1) && decide (a1 < (a0.length : Int))) then
      (some (IntKind.u64.wrap (nthD (0 : Int) a0 (Int.toNat a1))))
    else
      none))
def f (k : Nat) (a0 : (List Int)) (a1 : Int) : Option Int := e k a0 a1
end ref01_at

namespace ref01_Cmp
def e9 (_k : Nat) (_q9 : (List Int) → (List Int) → Int → Option Int) (q0 : (List Int) → (List Int) → Int → Option Int) (b0 : (List Int)) (b1 : (List Int)) (b2 : Int) : Option Int :=
  q0 b0 b1 (IntKind.i64.wrap (b2 - (1 : Int)))
def e0 (k : Nat) (_q9 : (List Int) → (List Int) → Int → Option Int) (q0 : (List Int) → (List Int) → Int → Option Int) (b0 : (List Int)) (b1 : (List Int)) (b2 : Int) : Option Int :=
  (bif (decide (b2 ≥ (0 : Int))) then
    (Option.bind (ref01_at.f k b0 b2) fun r1 =>
      (Option.bind (ref01_at.f k b1 b2) fun r2 =>
        (bif (decide (r1 < r2)) then
          (some (-1 : Int))
        else
          (Option.bind (ref01_at.f k b0 b2) fun r3 =>
            (Option.bind (ref01_at.f k b1 b2) fun r4 =>
              (bif (decide (r3 > r4)) then
                (some (1 : Int))
              else
                q0 b0 b1 (IntKind.i64.wrap (b2 - (1 : Int)))))))))
  else
    (some (0 : Int)))
def e (_k : Nat) (q9 : (List Int) → (List Int) → Int → Option Int) (_q0 : (List Int) → (List Int) → Int → Option Int) (a0 : (List Int)) (a1 : (List Int)) : Option Int :=
  (bif (decide ((a1.length : Int) > (a0.length : Int))) then
    q9 a0 a1 (a1.length : Int)
  else
    q9 a0 a1 (a0.length : Int))
def pts : Nat → ((List Int) → (List Int) → Int → Option Int) × ((List Int) → (List Int) → Int → Option Int)
  | 0 => (fun _ _ _ => none, fun _ _ _ => none)
  | k + 1 => (e9 k (pts k).1 (pts k).2, e0 k (pts k).1 (pts k).2)
def p9 (k : Nat) : (List Int) → (List Int) → Int → Option Int := (pts k).1
def p0 (k : Nat) : (List Int) → (List Int) → Int → Option Int := (pts k).2
theorem p9_succ (k : Nat) (x0 : (List Int)) (x1 : (List Int)) (x2 : Int) : p9 (k + 1) x0 x1 x2 = e9 k (p9 k) (p0 k) x0 x1 x2 := rfl
theorem p0_succ (k : Nat) (x0 : (List Int)) (x1 : (List Int)) (x2 : Int) : p0 (k + 1) x0 x1 x2 = e0 k (p9 k) (p0 k) x0 x1 x2 := rfl
def f (k : Nat) (a0 : (List Int)) (a1 : (List Int)) : Option Int := e k (p9 k) (p0 k) a0 a1
end ref01_Cmp

namespace ref01_Bit
def e (_k : Nat) (a0 : (List Int)) (a1 : Int) : Option Bool :=
  (bif (decide (a1 ≥ (0 : Int))) then
    (bif (decide ((IntKind.i64.wrap (Int.tdiv a1 (32 : Int))) < (a0.length : Int))) then
      (bif (decide (0 ≤ (IntKind.i64.wrap (Int.tdiv a1 (32 : Int)))) && decide ((IntKind.i64.wrap (Int.tdiv a1 (32 : Int))) < (a0.length : Int))) then
        (bif (decide ((IntKind.u64.wrap (Int.tmod a1 (32 : Int))) < 0)) then
          none
        else
          (some (decide ((bitsI .and .u32 (Int.fdiv (nthD (0 : Int) a0 (Int.toNat (IntKind.i64.wrap (Int.tdiv a1 (32 : Int))))) (2 ^ min (Int.toNat (IntKind.u64.wrap (Int.tmod a1 (32 : Int)))) 32)) (1 : Int)) = (1 : Int)))))
      else
        none)
    else
      (some false))
  else
    (some false))
def f (k : Nat) (a0 : (List Int)) (a1 : Int) : Option Bool := e k a0 a1
end ref01_Bit

namespace ref01_Shift
def e5 (_k : Nat) (_q5 : Unit → Option ((List Int) × Int)) (_q17 : (List Int) → Int → Int → Option ((List Int) × Int)) (_q29 : (List Int) → (List Int) → Int → Int → Int → Option ((List Int) × Int)) (_q0 : (List Int) → (List Int) → Int → Int → Int → Int → Option ((List Int) × Int)) (_q41 : (List Int) → (List Int) → Int → Int → Int → Int → Int → Option ((List Int) × Int)) (_q33 : (List Int) → (List Int) → Int → Int → Int → Int → Option ((List Int) × Int)) (_ : Unit) : Option ((List Int) × Int) :=
  (some (([] : List Int), (12 : Int)))
def e17 (_k : Nat) (_q5 : Unit → Option ((List Int) × Int)) (_q17 : (List Int) → Int → Int → Option ((List Int) × Int)) (q29 : (List Int) → (List Int) → Int → Int → Int → Option ((List Int) × Int)) (_q0 : (List Int) → (List Int) → Int → Int → Int → Int → Option ((List Int) × Int)) (_q41 : (List Int) → (List Int) → Int → Int → Int → Int → Int → Option ((List Int) × Int)) (_q33 : (List Int) → (List Int) → Int → Int → Int → Int → Option ((List Int) × Int)) (b0 : (List Int)) (b1 : Int) (b2 : Int) : Option ((List Int) × Int) :=
  (bif (decide (0 ≤ b2) && decide (b2 * 4 ≤ 281474976710656) && decide (b2 ≤ 9223372036854775807)) then
    (bif (decide ((Int.tmod b1 (32 : Int)) < (0 : Int))) then
      q29 (List.replicate (Int.toNat b2) (0 : Int)) b0 b2 (IntKind.i64.wrap ((IntKind.i64.wrap (Int.tdiv b1 (32 : Int))) - (1 : Int))) (IntKind.i64.wrap ((Int.tmod b1 (32 : Int)) + (32 : Int)))
    else
      q29 (List.replicate (Int.toNat b2) (0 : Int)) b0 b2 (IntKind.i64.wrap (Int.tdiv b1 (32 : Int))) (Int.tmod b1 (32 : Int)))
  else
    none)
def e29 (_k : Nat) (_q5 : Unit → Option ((List Int) × Int)) (_q17 : (List Int) → Int → Int → Option ((List Int) × Int)) (_q29 : (List Int) → (List Int) → Int → Int → Int → Option ((List Int) × Int)) (q0 : (List Int) → (List Int) → Int → Int → Int → Int → Option ((List Int) × Int)) (_q41 : (List Int) → (List Int) → Int → Int → Int → Int → Int → Option ((List Int) × Int)) (_q33 : (List Int) → (List Int) → Int → Int → Int → Int → Option ((List Int) × Int)) (b0 : (List Int)) (b1 : (List Int)) (b2 : Int) (b3 : Int) (b4 : Int) : Option ((List Int) × Int) :=
  q0 b0 b1 b2 b3 b4 (0 : Int)
def e0 (k : Nat) (_q5 : Unit → Option ((List Int) × Int)) (_q17 : (List Int) → Int → Int → Option ((List Int) × Int)) (_q29 : (List Int) → (List Int) → Int → Int → Int → Option ((List Int) × Int)) (_q0 : (List Int) → (List Int) → Int → Int → Int → Int → Option ((List Int) × Int)) (q41 : (List Int) → (List Int) → Int → Int → Int → Int → Int → Option ((List Int) × Int)) (_q33 : (List Int) → (List Int) → Int → Int → Int → Int → Option ((List Int) × Int)) (b0 : (List Int)) (b1 : (List Int)) (b2 : Int) (b3 : Int) (b4 : Int) (b5 : Int) : Option ((List Int) × Int) :=
  (bif (decide (b5 < (b1.length : Int))) then
    (bif (decide (0 ≤ b5) && decide (b5 < (b1.length : Int))) then
      (bif (decide ((IntKind.u64.wrap b4) < 0)) then
        none
      else
        (bif (decide ((IntKind.i64.wrap (b5 + b3)) ≥ (0 : Int))) then
          (bif (decide ((IntKind.i64.wrap (b5 + b3)) < b2)) then
            (bif (decide (0 ≤ (IntKind.i64.wrap (b5 + b3))) && decide ((IntKind.i64.wrap (b5 + b3)) < (b0.length : Int))) then
              (bif (decide (0 ≤ (IntKind.i64.wrap (b5 + b3))) && decide ((IntKind.i64.wrap (b5 + b3)) < (b0.length : Int))) then
                q41 (setN (bitsI .or .u32 (nthD (0 : Int) b0 (Int.toNat (IntKind.i64.wrap (b5 + b3)))) (IntKind.u32.wrap (IntKind.u64.wrap ((IntKind.u64.wrap (nthD (0 : Int) b1 (Int.toNat b5))) * 2 ^ min (Int.toNat (IntKind.u64.wrap b4)) 64)))) b0 (Int.toNat (IntKind.i64.wrap (b5 + b3)))) b1 b2 b3 b4 b5 (IntKind.u64.wrap ((IntKind.u64.wrap (nthD (0 : Int) b1 (Int.toNat b5))) * 2 ^ min (Int.toNat (IntKind.u64.wrap b4)) 64))
              else
                none)
            else
              none)
          else
            q41 b0 b1 b2 b3 b4 b5 (IntKind.u64.wrap ((IntKind.u64.wrap (nthD (0 : Int) b1 (Int.toNat b5))) * 2 ^ min (Int.toNat (IntKind.u64.wrap b4)) 64)))
        else
          q41 b0 b1 b2 b3 b4 b5 (IntKind.u64.wrap ((IntKind.u64.wrap (nthD (0 : Int) b1 (Int.toNat b5))) * 2 ^ min (Int.toNat (IntKind.u64.wrap b4)) 64))))
    else
      none)
  else
    (Option.bind (ref01_Norm.f k b0) fun r2 =>
      (some (r2, (0 : Int)))))
def e41 (_k : Nat) (_q5 : Unit → Option ((List Int) × Int)) (_q17 : (List Int) → Int → Int → Option ((List Int) × Int)) (_q29 : (List Int) → (List Int) → Int → Int → Int → Option ((List Int) × Int)) (_q0 : (List Int) → (List Int) → Int → Int → Int → Int → Option ((List Int) × Int)) (_q41 : (List Int) → (List Int) → Int → Int → Int → Int → Int → Option ((List Int) × Int)) (q33 : (List Int) → (List Int) → Int → Int → Int → Int → Option ((List Int) × Int)) (b0 : (List Int)) (b1 : (List Int)) (b2 : Int) (b3 : Int) (b4 : Int) (b5 : Int) (b6 : Int) : Option ((List Int) × Int) :=
  (bif (decide ((IntKind.i64.wrap ((IntKind.i64.wrap (b5 + b3)) + (1 : Int))) ≥ (0 : Int))) then
    (bif (decide ((IntKind.i64.wrap ((IntKind.i64.wrap (b5 + b3)) + (1 : Int))) < b2)) then
      (bif (decide (0 ≤ (IntKind.i64.wrap ((IntKind.i64.wrap (b5 + b3)) + (1 : Int)))) && decide ((IntKind.i64.wrap ((IntKind.i64.wrap (b5 + b3)) + (1 : Int))) < (b0.length : Int))) then
        (bif (decide (0 ≤ (IntKind.i64.wrap ((IntKind.i64.wrap (b5 + b3)) + (1 : Int)))) && decide ((IntKind.i64.wrap ((IntKind.i64.wrap (b5 + b3)) + (1 : Int))) < (b0.length : Int))) then
          q33 (setN (bitsI .or .u32 (nthD (0 : Int) b0 (Int.toNat (IntKind.i64.wrap ((IntKind.i64.wrap (b5 + b3)) + (1 : Int))))) (IntKind.u32.wrap (Int.fdiv b6 (2 ^ 32)))) b0 (Int.toNat (IntKind.i64.wrap ((IntKind.i64.wrap (b5 + b3)) + (1 : Int))))) b1 b2 b3 b4 b5
        else
          none)
      else
        none)
    else
      q33 b0 b1 b2 b3 b4 b5)
  else
    q33 b0 b1 b2 b3 b4 b5)
def e33 (_k : Nat) (_q5 : Unit → Option ((List Int) × Int)) (_q17 : (List Int) → Int → Int → Option ((List Int) × Int)) (_q29 : (List Int) → (List Int) → Int → Int → Int → Option ((List Int) × Int)) (q0 : (List Int) → (List Int) → Int → Int → Int → Int → Option ((List Int) × Int)) (_q41 : (List Int) → (List Int) → Int → Int → Int → Int → Int → Option ((List Int) × Int)) (_q33 : (List Int) → (List Int) → Int → Int → Int → Int → Option ((List Int) × Int)) (b0 : (List Int)) (b1 : (List Int)) (b2 : Int) (b3 : Int) (b4 : Int) (b5 : Int) : Option ((List Int) × Int) :=
  q0 b0 b1 b2 b3 b4 (IntKind.i64.wrap (b5 + (1 : Int)))
def e (k : Nat) (q5 : Unit → Option ((List Int) × Int)) (q17 : (List Int) → Int → Int → Option ((List Int) × Int)) (_q29 : (List Int) → (List Int) → Int → Int → Int → Option ((List Int) × Int)) (_q0 : (List Int) → (List Int) → Int → Int → Int → Int → Option ((List Int) × Int)) (_q41 : (List Int) → (List Int) → Int → Int → Int → Int → Int → Option ((List Int) × Int)) (_q33 : (List Int) → (List Int) → Int → Int → Int → Int → Option ((List Int) × Int)) (a0 : (List Int)) (a1 : Int) : Option ((List Int) × Int) :=
  (bif (decide (a1 < (-1048576 : Int))) then
    q5 ()
  else
    (bif (decide (a1 > (1048576 : Int))) then
      q5 ()
    else
      (Option.bind (ref01_Norm.f k a0) fun r1 =>
        (bif (decide ((r1.length : Int) = (0 : Int))) then
          (some (([] : List Int), (0 : Int)))
        else
          (bif (decide (a1 > (0 : Int))) then
            q17 a0 a1 (IntKind.i64.wrap ((a0.length : Int) + (IntKind.i64.wrap ((IntKind.i64.wrap (Int.tdiv a1 (32 : Int))) + (1 : Int)))))
          else
            q17 a0 a1 (a0.length : Int))))))
def pts : Nat → (Unit → Option ((List Int) × Int)) × ((List Int) → Int → Int → Option ((List Int) × Int)) × ((List Int) → (List Int) → Int → Int → Int → Option ((List Int) × Int)) × ((List Int) → (List Int) → Int → Int → Int → Int → Option ((List Int) × Int)) × ((List Int) → (List Int) → Int → Int → Int → Int → Int → Option ((List Int) × Int)) × ((List Int) → (List Int) → Int → Int → Int → Int → Option ((List Int) × Int))
  | 0 => (fun _ => none, fun _ _ _ => none, fun _ _ _ _ _ => none, fun _ _ _ _ _ _ => none, fun _ _ _ _ _ _ _ => none, fun _ _ _ _ _ _ => none)
  | k + 1 => (e5 k (pts k).1 (pts k).2.1 (pts k).2.2.1 (pts k).2.2.2.1 (pts k).2.2.2.2.1 (pts k).2.2.2.2.2, e17 k (pts k).1 (pts k).2.1 (pts k).2.2.1 (pts k).2.2.2.1 (pts k).2.2.2.2.1 (pts k).2.2.2.2.2, e29 k (pts k).1 (pts k).2.1 (pts k).2.2.1 (pts k).2.2.2.1 (pts k).2.2.2.2.1 (pts k).2.2.2.2.2, e0 k (pts k).1 (pts k).2.1 (pts k).2.2.1 (pts k).2.2.2.1 (pts k).2.2.2.2.1 (pts k).2.2.2.2.2, e41 k (pts k).1 (pts k).2.1 (pts k).2.2.1 (pts k).2.2.2.1 (pts k).2.2.2.2.1 (pts k).2.2.2.2.2, e33 k (pts k).1 (pts k).2.1 (pts k).2.2.1 (pts k).2.2.2.1 (pts k).2.2.2.2.1 (pts k).2.2.2.2.2)
def p5 (k : Nat) : Unit → Option ((List Int) × Int) := (pts k).1
def p17 (k : Nat) : (List Int) → Int → Int → Option ((List Int) × Int) := (pts k).2.1
def p29 (k : Nat) : (List Int) → (List Int) → Int → Int → Int → Option ((List Int) × Int) := (pts k).2.2.1
def p0 (k : Nat) : (List Int) → (List Int) → Int → Int → Int → Int → Option ((List Int) × Int) := (pts k).2.2.2.1
def p41 (k : Nat) : (List Int) → (List Int) → Int → Int → Int → Int → Int → Option ((List Int) × Int) := (pts k).2.2.2.2.1
def p33 (k : Nat) : (List Int) → (List Int) → Int → Int → Int → Int → Option ((List Int) × Int) := (pts k).2.2.2.2.2
theorem p5_succ (k : Nat) (x0 : Unit) : p5 (k + 1) x0 = e5 k (p5 k) (p17 k) (p29 k) (p0 k) (p41 k) (p33 k) x0 := rfl
theorem p17_succ (k : Nat) (x0 : (List Int)) (x1 : Int) (x2 : Int) : p17 (k + 1) x0 x1 x2 = e17 k (p5 k) (p17 k) (p29 k) (p0 k) (p41 k) (p33 k) x0 x1 x2 := rfl
theorem p29_succ (k : Nat) (x0 : (List Int)) (x1 : (List Int)) (x2 : Int) (x3 : Int) (x4 : Int) : p29 (k + 1) x0 x1 x2 x3 x4 = e29 k (p5 k) (p17 k) (p29 k) (p0 k) (p41 k) (p33 k) x0 x1 x2 x3 x4 := rfl
theorem p0_succ (k : Nat) (x0 : (List Int)) (x1 : (List Int)) (x2 : Int) (x3 : Int) (x4 : Int) (x5 : Int) : p0 (k + 1) x0 x1 x2 x3 x4 x5 = e0 k (p5 k) (p17 k) (p29 k) (p0 k) (p41 k) (p33 k) x0 x1 x2 x3 x4 x5 := rfl
theorem p41_succ (k : Nat) (x0 : (List Int)) (x1 : (List Int)) (x2 : Int) (x3 : Int) (x4 : Int) (x5 : Int) (x6 : Int) : p41 (k + 1) x0 x1 x2 x3 x4 x5 x6 = e41 k (p5 k) (p17 k) (p29 k) (p0 k) (p41 k) (p33 k) x0 x1 x2 x3 x4 x5 x6 := rfl
theorem p33_succ (k : Nat) (x0 : (List Int)) (x1 : (List Int)) (x2 : Int) (x3 : Int) (x4 : Int) (x5 : Int) : p33 (k + 1) x0 x1 x2 x3 x4 x5 = e33 k (p5 k) (p17 k) (p29 k) (p0 k) (p41 k) (p33 k) x0 x1 x2 x3 x4 x5 := rfl
def f (k : Nat) (a0 : (List Int)) (a1 : Int) : Option ((List Int) × Int) := e k (p5 k) (p17 k) (p29 k) (p0 k) (p41 k) (p33 k) a0 a1
end ref01_Shift

namespace ref01_Sub
def e0 (k : Nat) (q0 : (List Int) → (List Int) → (List Int) → Int → Int → Option ((List Int) × Int)) (b0 : (List Int)) (b1 : (List Int)) (b2 : (List Int)) (b3 : Int) (b4 : Int) : Option ((List Int) × Int) :=
  (bif (decide (b4 < (b1.length : Int))) then
    (Option.bind (ref01_at.f k b1 b4) fun r2 =>
      (Option.bind (ref01_at.f k b2 b4) fun r3 =>
        (bif (decide (0 ≤ b4) && decide (b4 < (b0.length : Int))) then
          q0 (setN (IntKind.u32.wrap (IntKind.u64.wrap ((IntKind.u64.wrap (r2 - r3)) - b3))) b0 (Int.toNat b4)) b1 b2 (Int.fdiv (IntKind.u64.wrap ((IntKind.u64.wrap (r2 - r3)) - b3)) (2 ^ 63)) (IntKind.i64.wrap (b4 + (1 : Int)))
        else
          none)))
  else
    (Option.bind (ref01_Norm.f k b0) fun r4 =>
      (some (r4, (0 : Int)))))
def e (k : Nat) (q0 : (List Int) → (List Int) → (List Int) → Int → Int → Option ((List Int) × Int)) (a0 : (List Int)) (a1 : (List Int)) : Option ((List Int) × Int) :=
  (Option.bind (ref01_Cmp.f k a0 a1) fun r1 =>
    (bif (decide (r1 < (0 : Int))) then
      (some (([] : List Int), (10 : Int)))
    else
      (bif (decide (0 ≤ (a0.length : Int)) && decide ((a0.length : Int) * 4 ≤ 281474976710656) && decide ((a0.length : Int) ≤ 9223372036854775807)) then
        q0 (List.replicate (Int.toNat (a0.length : Int)) (0 : Int)) a0 a1 (0 : Int) (0 : Int)
      else
        none)))
def pts : Nat → ((List Int) → (List Int) → (List Int) → Int → Int → Option ((List Int) × Int))
  | 0 => fun _ _ _ _ _ => none
  | k + 1 => e0 k (pts k)
def p0 (k : Nat) : (List Int) → (List Int) → (List Int) → Int → Int → Option ((List Int) × Int) := (pts k)
theorem p0_succ (k : Nat) (x0 : (List Int)) (x1 : (List Int)) (x2 : (List Int)) (x3 : Int) (x4 : Int) : p0 (k + 1) x0 x1 x2 x3 x4 = e0 k (p0 k) x0 x1 x2 x3 x4 := rfl
def f (k : Nat) (a0 : (List Int)) (a1 : (List Int)) : Option ((List Int) × Int) := e k (p0 k) a0 a1
end ref01_Sub

namespace ref01_twice
def e11 (_k : Nat) (_q11 : (List Int) → (List Int) → Int → Option (List Int)) (q0 : (List Int) → (List Int) → Int → Int → Option (List Int)) (b0 : (List Int)) (b1 : (List Int)) (b2 : Int) : Option (List Int) :=
  q0 b0 b1 b2 (0 : Int)
def e0 (k : Nat) (_q11 : (List Int) → (List Int) → Int → Option (List Int)) (q0 : (List Int) → (List Int) → Int → Int → Option (List Int)) (b0 : (List Int)) (b1 : (List Int)) (b2 : Int) (b3 : Int) : Option (List Int) :=
  (bif (decide (b3 < (b1.length : Int))) then
    (bif (decide (0 ≤ b3) && decide (b3 < (b1.length : Int))) then
      (bif (decide (0 ≤ b3) && decide (b3 < (b0.length : Int))) then
        (bif (decide (0 ≤ b3) && decide (b3 < (b1.length : Int))) then
          q0 (setN (bitsI .or .u32 (IntKind.u32.wrap ((nthD (0 : Int) b1 (Int.toNat b3)) * 2 ^ 1)) b2) b0 (Int.toNat b3)) b1 (Int.fdiv (nthD (0 : Int) b1 (Int.toNat b3)) (2 ^ 31)) (IntKind.i64.wrap (b3 + (1 : Int)))
        else
          none)
      else
        none)
    else
      none)
  else
    (bif (decide (0 ≤ (b1.length : Int)) && decide ((b1.length : Int) < (b0.length : Int))) then
      (Option.bind (ref01_Norm.f k (setN b2 b0 (Int.toNat (b1.length : Int)))) fun r1 =>
        (some r1))
    else
      none))
def e (_k : Nat) (q11 : (List Int) → (List Int) → Int → Option (List Int)) (_q0 : (List Int) → (List Int) → Int → Int → Option (List Int)) (a0 : (List Int)) (a1 : Bool) : Option (List Int) :=
  (bif (decide (0 ≤ (IntKind.i64.wrap ((a0.length : Int) + (1 : Int)))) && decide ((IntKind.i64.wrap ((a0.length : Int) + (1 : Int))) * 4 ≤ 281474976710656) && decide ((IntKind.i64.wrap ((a0.length : Int) + (1 : Int))) ≤ 9223372036854775807)) then
    (bif a1 then
      q11 (List.replicate (Int.toNat (IntKind.i64.wrap ((a0.length : Int) + (1 : Int)))) (0 : Int)) a0 (1 : Int)
    else
      q11 (List.replicate (Int.toNat (IntKind.i64.wrap ((a0.length : Int) + (1 : Int)))) (0 : Int)) a0 (0 : Int))
  else
    none)
def pts : Nat → ((List Int) → (List Int) → Int → Option (List Int)) × ((List Int) → (List Int) → Int → Int → Option (List Int))
  | 0 => (fun _ _ _ => none, fun _ _ _ _ => none)
  | k + 1 => (e11 k (pts k).1 (pts k).2, e0 k (pts k).1 (pts k).2)
def p11 (k : Nat) : (List Int) → (List Int) → Int → Option (List Int) := (pts k).1
def p0 (k : Nat) : (List Int) → (List Int) → Int → Int → Option (List Int) := (pts k).2
theorem p11_succ (k : Nat) (x0 : (List Int)) (x1 : (List Int)) (x2 : Int) : p11 (k + 1) x0 x1 x2 = e11 k (p11 k) (p0 k) x0 x1 x2 := rfl
theorem p0_succ (k : Nat) (x0 : (List Int)) (x1 : (List Int)) (x2 : Int) (x3 : Int) : p0 (k + 1) x0 x1 x2 x3 = e0 k (p11 k) (p0 k) x0 x1 x2 x3 := rfl
def f (k : Nat) (a0 : (List Int)) (a1 : Bool) : Option (List Int) := e k (p11 k) (p0 k) a0 a1
end ref01_twice

namespace ref01_Gcd
def e19 (_k : Nat) (_q19 : (List Int) → Option (List Int)) (_q0 : (List Int) → (List Int) → Int → Option (List Int)) (_q4 : (List Int) → (List Int) → Int → Option (List Int)) (_q8 : (List Int) → (List Int) → Int → Option (List Int)) (_q16 : (List Int) → Int → Int → Option (List Int)) (_q12 : (List Int) → (List Int) → Int → Option (List Int)) (_q45 : (List Int) → (List Int) → Int → Option (List Int)) (b0 : (List Int)) : Option (List Int) :=
  (some b0)
def e0 (k : Nat) (_q19 : (List Int) → Option (List Int)) (q0 : (List Int) → (List Int) → Int → Option (List Int)) (q4 : (List Int) → (List Int) → Int → Option (List Int)) (_q8 : (List Int) → (List Int) → Int → Option (List Int)) (_q16 : (List Int) → Int → Int → Option (List Int)) (_q12 : (List Int) → (List Int) → Int → Option (List Int)) (_q45 : (List Int) → (List Int) → Int → Option (List Int)) (b0 : (List Int)) (b1 : (List Int)) (b2 : Int) : Option (List Int) :=
  (Option.bind (ref01_Bit.f k b0 (0 : Int)) fun r5 =>
    (bif (!r5) then
      (Option.bind (ref01_Bit.f k b1 (0 : Int)) fun r6 =>
        (bif (!r6) then
          (Option.bind (ref01_Shift.f k b0 (-1 : Int)) fun r7 =>
            (Option.bind (ref01_Shift.f k b1 (-1 : Int)) fun r8 =>
              q0 r7.1 r8.1 (IntKind.i64.wrap (b2 + (1 : Int)))))
        else
          q4 b0 b1 b2))
    else
      q4 b0 b1 b2))
def e4 (_k : Nat) (_q19 : (List Int) → Option (List Int)) (_q0 : (List Int) → (List Int) → Int → Option (List Int)) (_q4 : (List Int) → (List Int) → Int → Option (List Int)) (q8 : (List Int) → (List Int) → Int → Option (List Int)) (q16 : (List Int) → Int → Int → Option (List Int)) (_q12 : (List Int) → (List Int) → Int → Option (List Int)) (_q45 : (List Int) → (List Int) → Int → Option (List Int)) (b0 : (List Int)) (b1 : (List Int)) (b2 : Int) : Option (List Int) :=
  (bif (decide ((b1.length : Int) > (0 : Int))) then
    q8 b0 b1 b2
  else
    q16 b0 b2 (0 : Int))
def e8 (k : Nat) (_q19 : (List Int) → Option (List Int)) (_q0 : (List Int) → (List Int) → Int → Option (List Int)) (_q4 : (List Int) → (List Int) → Int → Option (List Int)) (q8 : (List Int) → (List Int) → Int → Option (List Int)) (_q16 : (List Int) → Int → Int → Option (List Int)) (q12 : (List Int) → (List Int) → Int → Option (List Int)) (_q45 : (List Int) → (List Int) → Int → Option (List Int)) (b0 : (List Int)) (b1 : (List Int)) (b2 : Int) : Option (List Int) :=
  (Option.bind (ref01_Bit.f k b0 (0 : Int)) fun r9 =>
    (bif (!r9) then
      (Option.bind (ref01_Shift.f k b0 (-1 : Int)) fun r10 =>
        q8 r10.1 b1 b2)
    else
      q12 b0 b1 b2))
def e16 (k : Nat) (_q19 : (List Int) → Option (List Int)) (_q0 : (List Int) → (List Int) → Int → Option (List Int)) (_q4 : (List Int) → (List Int) → Int → Option (List Int)) (_q8 : (List Int) → (List Int) → Int → Option (List Int)) (q16 : (List Int) → Int → Int → Option (List Int)) (_q12 : (List Int) → (List Int) → Int → Option (List Int)) (_q45 : (List Int) → (List Int) → Int → Option (List Int)) (b0 : (List Int)) (b1 : Int) (b2 : Int) : Option (List Int) :=
  (bif (decide (b2 < b1)) then
    (Option.bind (ref01_twice.f k b0 false) fun r11 =>
      q16 r11 b1 (IntKind.i64.wrap (b2 + (1 : Int))))
  else
    (some b0))
def e12 (k : Nat) (_q19 : (List Int) → Option (List Int)) (_q0 : (List Int) → (List Int) → Int → Option (List Int)) (_q4 : (List Int) → (List Int) → Int → Option (List Int)) (_q8 : (List Int) → (List Int) → Int → Option (List Int)) (_q16 : (List Int) → Int → Int → Option (List Int)) (q12 : (List Int) → (List Int) → Int → Option (List Int)) (q45 : (List Int) → (List Int) → Int → Option (List Int)) (b0 : (List Int)) (b1 : (List Int)) (b2 : Int) : Option (List Int) :=
  (Option.bind (ref01_Bit.f k b1 (0 : Int)) fun r12 =>
    (bif (!r12) then
      (Option.bind (ref01_Shift.f k b1 (-1 : Int)) fun r13 =>
        q12 b0 r13.1 b2)
    else
      (Option.bind (ref01_Cmp.f k b0 b1) fun r14 =>
        (bif (decide (r14 > (0 : Int))) then
          q45 b1 b0 b2
        else
          q45 b0 b1 b2))))
def e45 (k : Nat) (_q19 : (List Int) → Option (List Int)) (_q0 : (List Int) → (List Int) → Int → Option (List Int)) (q4 : (List Int) → (List Int) → Int → Option (List Int)) (_q8 : (List Int) → (List Int) → Int → Option (List Int)) (_q16 : (List Int) → Int → Int → Option (List Int)) (_q12 : (List Int) → (List Int) → Int → Option (List Int)) (_q45 : (List Int) → (List Int) → Int → Option (List Int)) (b0 : (List Int)) (b1 : (List Int)) (b2 : Int) : Option (List Int) :=
  (Option.bind (ref01_Sub.f k b1 b0) fun r15 =>
    q4 b0 r15.1 b2)
def e (k : Nat) (q19 : (List Int) → Option (List Int)) (q0 : (List Int) → (List Int) → Int → Option (List Int)) (_q4 : (List Int) → (List Int) → Int → Option (List Int)) (_q8 : (List Int) → (List Int) → Int → Option (List Int)) (_q16 : (List Int) → Int → Int → Option (List Int)) (_q12 : (List Int) → (List Int) → Int → Option (List Int)) (_q45 : (List Int) → (List Int) → Int → Option (List Int)) (a0 : (List Int)) (a1 : (List Int)) : Option (List Int) :=
  (Option.bind (ref01_Norm.f k a0) fun r1 =>
    (Option.bind (ref01_Norm.f k a1) fun r2 =>
      (bif (decide ((r1.length : Int) = (0 : Int))) then
        (some r2)
      else
        (bif (decide ((r2.length : Int) = (0 : Int))) then
          (some r1)
        else
          (Option.bind (ref01_Cmp.f k r1 [(1 : Int)]) fun r3 =>
            (bif (decide (r3 = (0 : Int))) then
              q19 [(1 : Int)]
            else
              (Option.bind (ref01_Cmp.f k r2 [(1 : Int)]) fun r4 =>
                (bif (decide (r4 = (0 : Int))) then
                  q19 [(1 : Int)]
                else
                  q0 r1 r2 (0 : Int)))))))))
def pts : Nat → ((List Int) → Option (List Int)) × ((List Int) → (List Int) → Int → Option (List Int)) × ((List Int) → (List Int) → Int → Option (List Int)) × ((List Int) → (List Int) → Int → Option (List Int)) × ((List Int) → Int → Int → Option (List Int)) × ((List Int) → (List Int) → Int → Option (List Int)) × ((List Int) → (List Int) → Int → Option (List Int))
  | 0 => (fun _ => none, fun _ _ _ => none, fun _ _ _ => none, fun _ _ _ => none, fun _ _ _ => none, fun _ _ _ => none, fun _ _ _ => none)
  | k + 1 => (e19 k (pts k).1 (pts k).2.1 (pts k).2.2.1 (pts k).2.2.2.1 (pts k).2.2.2.2.1 (pts k).2.2.2.2.2.1 (pts k).2.2.2.2.2.2, e0 k (pts k).1 (pts k).2.1 (pts k).2.2.1 (pts k).2.2.2.1 (pts k).2.2.2.2.1 (pts k).2.2.2.2.2.1 (pts k).2.2.2.2.2.2, e4 k (pts k).1 (pts k).2.1 (pts k).2.2.1 (pts k).2.2.2.1 (pts k).2.2.2.2.1 (pts k).2.2.2.2.2.1 (pts k).2.2.2.2.2.2, e8 k (pts k).1 (pts k).2.1 (pts k).2.2.1 (pts k).2.2.2.1 (pts k).2.2.2.2.1 (pts k).2.2.2.2.2.1 (pts k).2.2.2.2.2.2, e16 k (pts k).1 (pts k).2.1 (pts k).2.2.1 (pts k).2.2.2.1 (pts k).2.2.2.2.1 (pts k).2.2.2.2.2.1 (pts k).2.2.2.2.2.2, e12 k (pts k).1 (pts k).2.1 (pts k).2.2.1 (pts k).2.2.2.1 (pts k).2.2.2.2.1 (pts k).2.2.2.2.2.1 (pts k).2.2.2.2.2.2, e45 k (pts k).1 (pts k).2.1 (pts k).2.2.1 (pts k).2.2.2.1 (pts k).2.2.2.2.1 (pts k).2.2.2.2.2.1 (pts k).2.2.2.2.2.2)
def p19 (k : Nat) : (List Int) → Option (List Int) := (pts k).1
def p0 (k : Nat) : (List Int) → (List Int) → Int → Option (List Int) := (pts k).2.1
def p4 (k : Nat) : (List Int) → (List Int) → Int → Option (List Int) := (pts k).2.2.1
def p8 (k : Nat) : (List Int) → (List Int) → Int → Option (List Int) := (pts k).2.2.2.1
def p16 (k : Nat) : (List Int) → Int → Int → Option (List Int) := (pts k).2.2.2.2.1
def p12 (k : Nat) : (List Int) → (List Int) → Int → Option (List Int) := (pts k).2.2.2.2.2.1
def p45 (k : Nat) : (List Int) → (List Int) → Int → Option (List Int) := (pts k).2.2.2.2.2.2
theorem p19_succ (k : Nat) (x0 : (List Int)) : p19 (k + 1) x0 = e19 k (p19 k) (p0 k) (p4 k) (p8 k) (p16 k) (p12 k) (p45 k) x0 := rfl
theorem p0_succ (k : Nat) (x0 : (List Int)) (x1 : (List Int)) (x2 : Int) : p0 (k + 1) x0 x1 x2 = e0 k (p19 k) (p0 k) (p4 k) (p8 k) (p16 k) (p12 k) (p45 k) x0 x1 x2 := rfl
theorem p4_succ (k : Nat) (x0 : (List Int)) (x1 : (List Int)) (x2 : Int) : p4 (k + 1) x0 x1 x2 = e4 k (p19 k) (p0 k) (p4 k) (p8 k) (p16 k) (p12 k) (p45 k) x0 x1 x2 := rfl
theorem p8_succ (k : Nat) (x0 : (List Int)) (x1 : (List Int)) (x2 : Int) : p8 (k + 1) x0 x1 x2 = e8 k (p19 k) (p0 k) (p4 k) (p8 k) (p16 k) (p12 k) (p45 k) x0 x1 x2 := rfl
theorem p16_succ (k : Nat) (x0 : (List Int)) (x1 : Int) (x2 : Int) : p16 (k + 1) x0 x1 x2 = e16 k (p19 k) (p0 k) (p4 k) (p8 k) (p16 k) (p12 k) (p45 k) x0 x1 x2 := rfl
theorem p12_succ (k : Nat) (x0 : (List Int)) (x1 : (List Int)) (x2 : Int) : p12 (k + 1) x0 x1 x2 = e12 k (p19 k) (p0 k) (p4 k) (p8 k) (p16 k) (p12 k) (p45 k) x0 x1 x2 := rfl
theorem p45_succ (k : Nat) (x0 : (List Int)) (x1 : (List Int)) (x2 : Int) : p45 (k + 1) x0 x1 x2 = e45 k (p19 k) (p0 k) (p4 k) (p8 k) (p16 k) (p12 k) (p45 k) x0 x1 x2 := rfl
def f (k : Nat) (a0 : (List Int)) (a1 : (List Int)) : Option (List Int) := e k (p19 k) (p0 k) (p4 k) (p8 k) (p16 k) (p12 k) (p45 k) a0 a1
end ref01_Gcd

namespace ref01_Div
def e19 (k : Nat) (_q19 : (List Int) → (List Int) → (List Int) → Int → Option ((List Int) × (List Int) × Int)) (q0 : (List Int) → (List Int) → (List Int) → (List Int) → Int → Option ((List Int) × (List Int) × Int)) (_q25 : (List Int) → (List Int) → (List Int) → (List Int) → Int → Option ((List Int) × (List Int) × Int)) (b0 : (List Int)) (b1 : (List Int)) (b2 : (List Int)) (b3 : Int) : Option ((List Int) × (List Int) × Int) :=
  (bif (decide (0 ≤ (IntKind.i64.wrap ((b1.length : Int) - b3))) && decide ((IntKind.i64.wrap ((b1.length : Int) - b3)) ≤ (b1.length : Int)) && decide ((b1.length : Int) ≤ (b1.length : Int))) then
    (Option.bind (ref01_Norm.f k ((b1.take (Int.toNat (b1.length : Int))).drop (Int.toNat (IntKind.i64.wrap ((b1.length : Int) - b3))))) fun r3 =>
      q0 b0 b1 b2 r3 (IntKind.i64.wrap ((IntKind.i64.wrap ((32 : Int) * (IntKind.i64.wrap ((b1.length : Int) - b3)))) - (1 : Int))))
  else
    none)
def e0 (k : Nat) (_q19 : (List Int) → (List Int) → (List Int) → Int → Option ((List Int) × (List Int) × Int)) (_q0 : (List Int) → (List Int) → (List Int) → (List Int) → Int → Option ((List Int) × (List Int) × Int)) (q25 : (List Int) → (List Int) → (List Int) → (List Int) → Int → Option ((List Int) × (List Int) × Int)) (b0 : (List Int)) (b1 : (List Int)) (b2 : (List Int)) (b3 : (List Int)) (b4 : Int) : Option ((List Int) × (List Int) × Int) :=
  (bif (decide (b4 ≥ (0 : Int))) then
    (Option.bind (ref01_Bit.f k b1 b4) fun r4 =>
      (Option.bind (ref01_twice.f k b3 r4) fun r5 =>
        (Option.bind (ref01_Cmp.f k r5 b2) fun r6 =>
          (bif (decide (r6 ≥ (0 : Int))) then
            (Option.bind (ref01_Sub.f k r5 b2) fun r7 =>
              (bif (decide (0 ≤ (IntKind.i64.wrap (Int.tdiv b4 (32 : Int)))) && decide ((IntKind.i64.wrap (Int.tdiv b4 (32 : Int))) < (b0.length : Int))) then
                (bif (decide ((IntKind.u64.wrap (Int.tmod b4 (32 : Int))) < 0)) then
                  none
                else
                  (bif (decide (0 ≤ (IntKind.i64.wrap (Int.tdiv b4 (32 : Int)))) && decide ((IntKind.i64.wrap (Int.tdiv b4 (32 : Int))) < (b0.length : Int))) then
                    q25 (setN (bitsI .or .u32 (nthD (0 : Int) b0 (Int.toNat (IntKind.i64.wrap (Int.tdiv b4 (32 : Int))))) (IntKind.u32.wrap ((1 : Int) * 2 ^ min (Int.toNat (IntKind.u64.wrap (Int.tmod b4 (32 : Int)))) 32))) b0 (Int.toNat (IntKind.i64.wrap (Int.tdiv b4 (32 : Int))))) b1 b2 r7.1 b4
                  else
                    none))
              else
                none))
          else
            q25 b0 b1 b2 r5 b4))))
  else
    (Option.bind (ref01_Norm.f k b0) fun r8 =>
      (some (r8, b3, (0 : Int)))))
def e25 (_k : Nat) (_q19 : (List Int) → (List Int) → (List Int) → Int → Option ((List Int) × (List Int) × Int)) (q0 : (List Int) → (List Int) → (List Int) → (List Int) → Int → Option ((List Int) × (List Int) × Int)) (_q25 : (List Int) → (List Int) → (List Int) → (List Int) → Int → Option ((List Int) × (List Int) × Int)) (b0 : (List Int)) (b1 : (List Int)) (b2 : (List Int)) (b3 : (List Int)) (b4 : Int) : Option ((List Int) × (List Int) × Int) :=
  q0 b0 b1 b2 b3 (IntKind.i64.wrap (b4 - (1 : Int)))
def e (k : Nat) (q19 : (List Int) → (List Int) → (List Int) → Int → Option ((List Int) × (List Int) × Int)) (_q0 : (List Int) → (List Int) → (List Int) → (List Int) → Int → Option ((List Int) × (List Int) × Int)) (_q25 : (List Int) → (List Int) → (List Int) → (List Int) → Int → Option ((List Int) × (List Int) × Int)) (a0 : (List Int)) (a1 : (List Int)) : Option ((List Int) × (List Int) × Int) :=
  (Option.bind (ref01_Norm.f k a1) fun r1 =>
    (bif (decide ((r1.length : Int) = (0 : Int))) then
      (some (([] : List Int), ([] : List Int), (11 : Int)))
    else
      (Option.bind (ref01_Norm.f k a0) fun r2 =>
        (bif (decide (0 ≤ (r2.length : Int)) && decide ((r2.length : Int) * 4 ≤ 281474976710656) && decide ((r2.length : Int) ≤ 9223372036854775807)) then
          (bif (decide ((IntKind.i64.wrap ((r1.length : Int) - (1 : Int))) > (r2.length : Int))) then
            q19 (List.replicate (Int.toNat (r2.length : Int)) (0 : Int)) r2 r1 (r2.length : Int)
          else
            q19 (List.replicate (Int.toNat (r2.length : Int)) (0 : Int)) r2 r1 (IntKind.i64.wrap ((r1.length : Int) - (1 : Int))))
        else
          none))))
def pts : Nat → ((List Int) → (List Int) → (List Int) → Int → Option ((List Int) × (List Int) × Int)) × ((List Int) → (List Int) → (List Int) → (List Int) → Int → Option ((List Int) × (List Int) × Int)) × ((List Int) → (List Int) → (List Int) → (List Int) → Int → Option ((List Int) × (List Int) × Int))
  | 0 => (fun _ _ _ _ => none, fun _ _ _ _ _ => none, fun _ _ _ _ _ => none)
  | k + 1 => (e19 k (pts k).1 (pts k).2.1 (pts k).2.2, e0 k (pts k).1 (pts k).2.1 (pts k).2.2, e25 k (pts k).1 (pts k).2.1 (pts k).2.2)
def p19 (k : Nat) : (List Int) → (List Int) → (List Int) → Int → Option ((List Int) × (List Int) × Int) := (pts k).1
def p0 (k : Nat) : (List Int) → (List Int) → (List Int) → (List Int) → Int → Option ((List Int) × (List Int) × Int) := (pts k).2.1
def p25 (k : Nat) : (List Int) → (List Int) → (List Int) → (List Int) → Int → Option ((List Int) × (List Int) × Int) := (pts k).2.2
theorem p19_succ (k : Nat) (x0 : (List Int)) (x1 : (List Int)) (x2 : (List Int)) (x3 : Int) : p19 (k + 1) x0 x1 x2 x3 = e19 k (p19 k) (p0 k) (p25 k) x0 x1 x2 x3 := rfl
theorem p0_succ (k : Nat) (x0 : (List Int)) (x1 : (List Int)) (x2 : (List Int)) (x3 : (List Int)) (x4 : Int) : p0 (k + 1) x0 x1 x2 x3 x4 = e0 k (p19 k) (p0 k) (p25 k) x0 x1 x2 x3 x4 := rfl
theorem p25_succ (k : Nat) (x0 : (List Int)) (x1 : (List Int)) (x2 : (List Int)) (x3 : (List Int)) (x4 : Int) : p25 (k + 1) x0 x1 x2 x3 x4 = e25 k (p19 k) (p0 k) (p25 k) x0 x1 x2 x3 x4 := rfl
def f (k : Nat) (a0 : (List Int)) (a1 : (List Int)) : Option ((List Int) × (List Int) × Int) := e k (p19 k) (p0 k) (p25 k) a0 a1
end ref01_Div

namespace ref03_Norm
def e9 (_k : Nat) (_q9 : ((Bool × (List Int)) × (List Int)) → Option ((Bool × (List Int)) × (List Int))) (_b0 : ((Bool × (List Int)) × (List Int))) : Option ((Bool × (List Int)) × (List Int)) :=
  (some ((false, ([] : List Int)), [(1 : Int)]))
def e (k : Nat) (q9 : ((Bool × (List Int)) × (List Int)) → Option ((Bool × (List Int)) × (List Int))) (a0 : ((Bool × (List Int)) × (List Int))) : Option ((Bool × (List Int)) × (List Int)) :=
  (Option.bind (ref02_Norm.f k a0.1) fun r1 =>
    (Option.bind (ref01_Norm.f k a0.2) fun r2 =>
      (bif (decide ((r2.length : Int) = (0 : Int))) then
        q9 ((false, ([] : List Int)), ([] : List Int))
      else
        (bif (decide ((r1.2.length : Int) = (0 : Int))) then
          q9 ((false, ([] : List Int)), ([] : List Int))
        else
          (Option.bind (ref01_Gcd.f k r1.2 r2) fun r3 =>
            (Option.bind (ref01_Div.f k r1.2 r3) fun r4 =>
              (Option.bind (ref01_Div.f k r2 r3) fun r5 =>
                (some ((r1.1, r4.1), r5.1)))))))))
def pts : Nat → (((Bool × (List Int)) × (List Int)) → Option ((Bool × (List Int)) × (List Int)))
  | 0 => fun _ => none
  | k + 1 => e9 k (pts k)
def p9 (k : Nat) : ((Bool × (List Int)) × (List Int)) → Option ((Bool × (List Int)) × (List Int)) := (pts k)
theorem p9_succ (k : Nat) (x0 : ((Bool × (List Int)) × (List Int))) : p9 (k + 1) x0 = e9 k (p9 k) x0 := rfl
def f (k : Nat) (a0 : ((Bool × (List Int)) × (List Int))) : Option ((Bool × (List Int)) × (List Int)) := e k (p9 k) a0
end ref03_Norm

namespace ref03_Whole
def e (k : Nat) (a0 : Int) : Option ((Bool × (List Int)) × (List Int)) :=
  (Option.bind (ref02_Of.f k a0) fun r1 =>
    (Option.bind (ref03_Norm.f k (r1, [(1 : Int)])) fun r2 =>
      (some r2)))
def f (k : Nat) (a0 : Int) : Option ((Bool × (List Int)) × (List Int)) := e k a0
end ref03_Whole

namespace ref01_Same
def e0 (_k : Nat) (q0 : (List Int) → (List Int) → Int → Option Bool) (b0 : (List Int)) (b1 : (List Int)) (b2 : Int) : Option Bool :=
  (bif (decide (b2 < (b0.length : Int))) then
    (bif (decide (0 ≤ b2) && decide (b2 < (b0.length : Int))) then
      (bif (decide (0 ≤ b2) && decide (b2 < (b1.length : Int))) then
        (bif (!decide ((nthD (0 : Int) b0 (Int.toNat b2)) = (nthD (0 : Int) b1 (Int.toNat b2)))) then
          (some false)
        else
          q0 b0 b1 (IntKind.i64.wrap (b2 + (1 : Int))))
      else
        none)
    else
      none)
  else
    (some true))
def e (_k : Nat) (q0 : (List Int) → (List Int) → Int → Option Bool) (a0 : (List Int)) (a1 : (List Int)) : Option Bool :=
  (bif (!decide ((a0.length : Int) = (a1.length : Int))) then
    (some false)
  else
    q0 a0 a1 (0 : Int))
def pts : Nat → ((List Int) → (List Int) → Int → Option Bool)
  | 0 => fun _ _ _ => none
  | k + 1 => e0 k (pts k)
def p0 (k : Nat) : (List Int) → (List Int) → Int → Option Bool := (pts k)
theorem p0_succ (k : Nat) (x0 : (List Int)) (x1 : (List Int)) (x2 : Int) : p0 (k + 1) x0 x1 x2 = e0 k (p0 k) x0 x1 x2 := rfl
def f (k : Nat) (a0 : (List Int)) (a1 : (List Int)) : Option Bool := e k (p0 k) a0 a1
end ref01_Same

namespace ref03_Same
def e (k : Nat) (a0 : ((Bool × (List Int)) × (List Int))) (a1 : ((Bool × (List Int)) × (List Int))) : Option Bool :=
  (bif (a0.1.1 == a1.1.1) then
    (Option.bind (ref01_Same.f k a0.1.2 a1.1.2) fun r1 =>
      (bif r1 then
        (Option.bind (ref01_Same.f k a0.2 a1.2) fun r2 =>
          (some r2))
      else
        (some false)))
  else
    (some false))
def f (k : Nat) (a0 : ((Bool × (List Int)) × (List Int))) (a1 : ((Bool × (List Int)) × (List Int))) : Option Bool := e k a0 a1
end ref03_Same

namespace ref05_Same
def e (k : Nat) (a0 : (((Bool × (List Int)) × (List Int)) × ((Bool × (List Int)) × (List Int)))) (a1 : (((Bool × (List Int)) × (List Int)) × ((Bool × (List Int)) × (List Int)))) : Option Bool :=
  (Option.bind (ref03_Same.f k a0.1 a1.1) fun r1 =>
    (bif r1 then
      (Option.bind (ref03_Same.f k a0.2 a1.2) fun r2 =>
        (some r2))
    else
      (some false)))
def f (k : Nat) (a0 : (((Bool × (List Int)) × (List Int)) × ((Bool × (List Int)) × (List Int)))) (a1 : (((Bool × (List Int)) × (List Int)) × ((Bool × (List Int)) × (List Int)))) : Option Bool := e k a0 a1
end ref05_Same

namespace law05_same
def e (k : Nat) (a0 : (((Bool × (List Int)) × (List Int)) × ((Bool × (List Int)) × (List Int)))) (a1 : (((Bool × (List Int)) × (List Int)) × ((Bool × (List Int)) × (List Int)))) : Option Bool :=
  (Option.bind (ref05_Same.f k a0 a1) fun r1 =>
    (some r1))
def f (k : Nat) (a0 : (((Bool × (List Int)) × (List Int)) × ((Bool × (List Int)) × (List Int)))) (a1 : (((Bool × (List Int)) × (List Int)) × ((Bool × (List Int)) × (List Int)))) : Option Bool := e k a0 a1
end law05_same

namespace law05_lives
def e (k : Nat) (_ : Unit) : Option Bool :=
  (Option.bind (delta_Parse.f k (ByteArray.mk #[51, 45, 50, 100])) fun r1 =>
    (bif (decide (r1.2 = (0 : Int))) then
      (Option.bind (ref03_Whole.f k (3 : Int)) fun r2 =>
        (Option.bind (ref03_Whole.f k (-2 : Int)) fun r3 =>
          (Option.bind (law05_same.f k r1.1 (r2, r3)) fun r4 =>
            (some r4))))
    else
      (some false)))
def f (k : Nat) (a0 : Unit) : Option Bool := e k a0
end law05_lives

namespace ref01_Mul
def e0 (k : Nat) (_q0 : (List Int) → (List Int) → (List Int) → Int → Option (List Int)) (q4 : (List Int) → (List Int) → (List Int) → Int → Int → Int → Option (List Int)) (b0 : (List Int)) (b1 : (List Int)) (b2 : (List Int)) (b3 : Int) : Option (List Int) :=
  (bif (decide (b3 < (b1.length : Int))) then
    q4 b0 b1 b2 b3 (0 : Int) (0 : Int)
  else
    (Option.bind (ref01_Norm.f k b0) fun r1 =>
      (some r1)))
def e4 (_k : Nat) (q0 : (List Int) → (List Int) → (List Int) → Int → Option (List Int)) (q4 : (List Int) → (List Int) → (List Int) → Int → Int → Int → Option (List Int)) (b0 : (List Int)) (b1 : (List Int)) (b2 : (List Int)) (b3 : Int) (b4 : Int) (b5 : Int) : Option (List Int) :=
  (bif (decide (b5 < (b2.length : Int))) then
    (bif (decide (0 ≤ b3) && decide (b3 < (b1.length : Int))) then
      (bif (decide (0 ≤ b5) && decide (b5 < (b2.length : Int))) then
        (bif (decide (0 ≤ (IntKind.i64.wrap (b3 + b5))) && decide ((IntKind.i64.wrap (b3 + b5)) < (b0.length : Int))) then
          (bif (decide (0 ≤ (IntKind.i64.wrap (b3 + b5))) && decide ((IntKind.i64.wrap (b3 + b5)) < (b0.length : Int))) then
            q4 (setN (IntKind.u32.wrap (IntKind.u64.wrap ((IntKind.u64.wrap ((IntKind.u64.wrap ((IntKind.u64.wrap (nthD (0 : Int) b1 (Int.toNat b3))) * (IntKind.u64.wrap (nthD (0 : Int) b2 (Int.toNat b5))))) + (IntKind.u64.wrap (nthD (0 : Int) b0 (Int.toNat (IntKind.i64.wrap (b3 + b5))))))) + b4))) b0 (Int.toNat (IntKind.i64.wrap (b3 + b5)))) b1 b2 b3 (Int.fdiv (IntKind.u64.wrap ((IntKind.u64.wrap ((IntKind.u64.wrap ((IntKind.u64.wrap (nthD (0 : Int) b1 (Int.toNat b3))) * (IntKind.u64.wrap (nthD (0 : Int) b2 (Int.toNat b5))))) + (IntKind.u64.wrap (nthD (0 : Int) b0 (Int.toNat (IntKind.i64.wrap (b3 + b5))))))) + b4)) (2 ^ 32)) (IntKind.i64.wrap (b5 + (1 : Int)))
          else
            none)
        else
          none)
      else
        none)
    else
      none)
  else
    (bif (decide (0 ≤ (IntKind.i64.wrap (b3 + (b2.length : Int)))) && decide ((IntKind.i64.wrap (b3 + (b2.length : Int))) < (b0.length : Int))) then
      q0 (setN (IntKind.u32.wrap b4) b0 (Int.toNat (IntKind.i64.wrap (b3 + (b2.length : Int))))) b1 b2 (IntKind.i64.wrap (b3 + (1 : Int)))
    else
      none))
def e (_k : Nat) (q0 : (List Int) → (List Int) → (List Int) → Int → Option (List Int)) (_q4 : (List Int) → (List Int) → (List Int) → Int → Int → Int → Option (List Int)) (a0 : (List Int)) (a1 : (List Int)) : Option (List Int) :=
  (bif (decide (0 ≤ (IntKind.i64.wrap ((a0.length : Int) + (a1.length : Int)))) && decide ((IntKind.i64.wrap ((a0.length : Int) + (a1.length : Int))) * 4 ≤ 281474976710656) && decide ((IntKind.i64.wrap ((a0.length : Int) + (a1.length : Int))) ≤ 9223372036854775807)) then
    q0 (List.replicate (Int.toNat (IntKind.i64.wrap ((a0.length : Int) + (a1.length : Int)))) (0 : Int)) a0 a1 (0 : Int)
  else
    none)
def pts : Nat → ((List Int) → (List Int) → (List Int) → Int → Option (List Int)) × ((List Int) → (List Int) → (List Int) → Int → Int → Int → Option (List Int))
  | 0 => (fun _ _ _ _ => none, fun _ _ _ _ _ _ => none)
  | k + 1 => (e0 k (pts k).1 (pts k).2, e4 k (pts k).1 (pts k).2)
def p0 (k : Nat) : (List Int) → (List Int) → (List Int) → Int → Option (List Int) := (pts k).1
def p4 (k : Nat) : (List Int) → (List Int) → (List Int) → Int → Int → Int → Option (List Int) := (pts k).2
theorem p0_succ (k : Nat) (x0 : (List Int)) (x1 : (List Int)) (x2 : (List Int)) (x3 : Int) : p0 (k + 1) x0 x1 x2 x3 = e0 k (p0 k) (p4 k) x0 x1 x2 x3 := rfl
theorem p4_succ (k : Nat) (x0 : (List Int)) (x1 : (List Int)) (x2 : (List Int)) (x3 : Int) (x4 : Int) (x5 : Int) : p4 (k + 1) x0 x1 x2 x3 x4 x5 = e4 k (p0 k) (p4 k) x0 x1 x2 x3 x4 x5 := rfl
def f (k : Nat) (a0 : (List Int)) (a1 : (List Int)) : Option (List Int) := e k (p0 k) (p4 k) a0 a1
end ref01_Mul

namespace ref02_Mul
def e (k : Nat) (a0 : (Bool × (List Int))) (a1 : (Bool × (List Int))) : Option (Bool × (List Int)) :=
  (Option.bind (ref01_Mul.f k a0.2 a1.2) fun r1 =>
    (Option.bind (ref02_made.f k (!(a0.1 == a1.1)) r1) fun r2 =>
      (some r2)))
def f (k : Nat) (a0 : (Bool × (List Int))) (a1 : (Bool × (List Int))) : Option (Bool × (List Int)) := e k a0 a1
end ref02_Mul

namespace ref03_Mul
def e (k : Nat) (a0 : ((Bool × (List Int)) × (List Int))) (a1 : ((Bool × (List Int)) × (List Int))) : Option ((Bool × (List Int)) × (List Int)) :=
  (Option.bind (ref03_Norm.f k a0) fun r1 =>
    (Option.bind (ref03_Norm.f k a1) fun r2 =>
      (Option.bind (ref02_Mul.f k r1.1 r2.1) fun r3 =>
        (Option.bind (ref01_Mul.f k r1.2 r2.2) fun r4 =>
          (Option.bind (ref03_Norm.f k (r3, r4)) fun r5 =>
            (some r5))))))
def f (k : Nat) (a0 : ((Bool × (List Int)) × (List Int))) (a1 : ((Bool × (List Int)) × (List Int))) : Option ((Bool × (List Int)) × (List Int)) := e k a0 a1
end ref03_Mul

namespace law05_part
def e (k : Nat) (a0 : ((Bool × (List Int)) × (List Int))) (a1 : Int) (a2 : Int) : Option ((Bool × (List Int)) × (List Int)) :=
  (bif (decide ((IntKind.u64.wrap ((IntKind.u64.wrap ((IntKind.u64.wrap a2) + (1 : Int))) + (1 : Int))) = 0)) then
    none
  else
    (bif (decide ((IntKind.u64.wrap ((IntKind.u64.wrap ((IntKind.u64.wrap a2) + (1 : Int))) + (1 : Int))) = 0)) then
      none
    else
      (Option.bind (ref03_Mul.f k a0 ((false, [(IntKind.u32.wrap (Int.tmod (IntKind.u64.wrap a1) (IntKind.u64.wrap ((IntKind.u64.wrap ((IntKind.u64.wrap a2) + (1 : Int))) + (1 : Int))))), (IntKind.u32.wrap (Int.fdiv (Int.tmod (IntKind.u64.wrap a1) (IntKind.u64.wrap ((IntKind.u64.wrap ((IntKind.u64.wrap a2) + (1 : Int))) + (1 : Int)))) (2 ^ 32)))]), [(IntKind.u32.wrap (IntKind.u64.wrap ((IntKind.u64.wrap a2) + (1 : Int)))), (IntKind.u32.wrap (Int.fdiv (IntKind.u64.wrap ((IntKind.u64.wrap a2) + (1 : Int))) (2 ^ 32)))])) fun r1 =>
        (some r1))))
def f (k : Nat) (a0 : ((Bool × (List Int)) × (List Int))) (a1 : Int) (a2 : Int) : Option ((Bool × (List Int)) × (List Int)) := e k a0 a1 a2
end law05_part

namespace ref02_Sign
def e (k : Nat) (a0 : (Bool × (List Int))) : Option Int :=
  (Option.bind (ref02_Norm.f k a0) fun r1 =>
    (bif r1.1 then
      (some (-1 : Int))
    else
      (bif (decide ((r1.2.length : Int) > (0 : Int))) then
        (some (1 : Int))
      else
        (some (0 : Int)))))
def f (k : Nat) (a0 : (Bool × (List Int))) : Option Int := e k a0
end ref02_Sign

namespace ref03_Sign
def e (k : Nat) (a0 : ((Bool × (List Int)) × (List Int))) : Option Int :=
  (Option.bind (ref03_Norm.f k a0) fun r1 =>
    (Option.bind (ref02_Sign.f k r1.1) fun r2 =>
      (some r2)))
def f (k : Nat) (a0 : ((Bool × (List Int)) × (List Int))) : Option Int := e k a0
end ref03_Sign

namespace delta_At
def e (k : Nat) (a0 : (((Bool × (List Int)) × (List Int)) × ((Bool × (List Int)) × (List Int)))) (a1 : ((Bool × (List Int)) × (List Int))) : Option ((Bool × (List Int)) × (List Int)) :=
  (Option.bind (ratio_Mul.f k a0.2 a1) fun r1 =>
    (Option.bind (ratio_Add.f k a0.1 r1) fun r2 =>
      (some r2)))
def f (k : Nat) (a0 : (((Bool × (List Int)) × (List Int)) × ((Bool × (List Int)) × (List Int)))) (a1 : ((Bool × (List Int)) × (List Int))) : Option ((Bool × (List Int)) × (List Int)) := e k a0 a1
end delta_At

namespace ref02_Neg
def e (k : Nat) (a0 : (Bool × (List Int))) : Option (Bool × (List Int)) :=
  (Option.bind (ref02_made.f k (!a0.1) a0.2) fun r1 =>
    (some r1))
def f (k : Nat) (a0 : (Bool × (List Int))) : Option (Bool × (List Int)) := e k a0
end ref02_Neg

namespace ref03_Neg
def e (k : Nat) (a0 : ((Bool × (List Int)) × (List Int))) : Option ((Bool × (List Int)) × (List Int)) :=
  (Option.bind (ref03_Norm.f k a0) fun r1 =>
    (Option.bind (ref02_Neg.f k r1.1) fun r2 =>
      (Option.bind (ref03_Norm.f k (r2, r1.2)) fun r3 =>
        (some r3))))
def f (k : Nat) (a0 : ((Bool × (List Int)) × (List Int))) : Option ((Bool × (List Int)) × (List Int)) := e k a0
end ref03_Neg

namespace ref03_positive
def e (_k : Nat) (a0 : (List Int)) : Option (Bool × (List Int)) :=
  (some (false, a0))
def f (k : Nat) (a0 : (List Int)) : Option (Bool × (List Int)) := e k a0
end ref03_positive

namespace ref01_Add
def e9 (_k : Nat) (_q9 : (List Int) → (List Int) → Int → Option (List Int)) (q0 : (List Int) → (List Int) → (List Int) → Int → Int → Int → Option (List Int)) (b0 : (List Int)) (b1 : (List Int)) (b2 : Int) : Option (List Int) :=
  (bif (decide (0 ≤ (IntKind.i64.wrap (b2 + (1 : Int)))) && decide ((IntKind.i64.wrap (b2 + (1 : Int))) * 4 ≤ 281474976710656) && decide ((IntKind.i64.wrap (b2 + (1 : Int))) ≤ 9223372036854775807)) then
    q0 (List.replicate (Int.toNat (IntKind.i64.wrap (b2 + (1 : Int)))) (0 : Int)) b0 b1 b2 (0 : Int) (0 : Int)
  else
    none)
def e0 (k : Nat) (_q9 : (List Int) → (List Int) → Int → Option (List Int)) (q0 : (List Int) → (List Int) → (List Int) → Int → Int → Int → Option (List Int)) (b0 : (List Int)) (b1 : (List Int)) (b2 : (List Int)) (b3 : Int) (b4 : Int) (b5 : Int) : Option (List Int) :=
  (bif (decide (b5 ≤ b3)) then
    (Option.bind (ref01_at.f k b1 b5) fun r1 =>
      (Option.bind (ref01_at.f k b2 b5) fun r2 =>
        (bif (decide (0 ≤ b5) && decide (b5 < (b0.length : Int))) then
          q0 (setN (IntKind.u32.wrap (IntKind.u64.wrap ((IntKind.u64.wrap (r1 + r2)) + b4))) b0 (Int.toNat b5)) b1 b2 b3 (Int.fdiv (IntKind.u64.wrap ((IntKind.u64.wrap (r1 + r2)) + b4)) (2 ^ 32)) (IntKind.i64.wrap (b5 + (1 : Int)))
        else
          none)))
  else
    (Option.bind (ref01_Norm.f k b0) fun r3 =>
      (some r3)))
def e (_k : Nat) (q9 : (List Int) → (List Int) → Int → Option (List Int)) (_q0 : (List Int) → (List Int) → (List Int) → Int → Int → Int → Option (List Int)) (a0 : (List Int)) (a1 : (List Int)) : Option (List Int) :=
  (bif (decide ((a1.length : Int) > (a0.length : Int))) then
    q9 a0 a1 (a1.length : Int)
  else
    q9 a0 a1 (a0.length : Int))
def pts : Nat → ((List Int) → (List Int) → Int → Option (List Int)) × ((List Int) → (List Int) → (List Int) → Int → Int → Int → Option (List Int))
  | 0 => (fun _ _ _ => none, fun _ _ _ _ _ _ => none)
  | k + 1 => (e9 k (pts k).1 (pts k).2, e0 k (pts k).1 (pts k).2)
def p9 (k : Nat) : (List Int) → (List Int) → Int → Option (List Int) := (pts k).1
def p0 (k : Nat) : (List Int) → (List Int) → (List Int) → Int → Int → Int → Option (List Int) := (pts k).2
theorem p9_succ (k : Nat) (x0 : (List Int)) (x1 : (List Int)) (x2 : Int) : p9 (k + 1) x0 x1 x2 = e9 k (p9 k) (p0 k) x0 x1 x2 := rfl
theorem p0_succ (k : Nat) (x0 : (List Int)) (x1 : (List Int)) (x2 : (List Int)) (x3 : Int) (x4 : Int) (x5 : Int) : p0 (k + 1) x0 x1 x2 x3 x4 x5 = e0 k (p9 k) (p0 k) x0 x1 x2 x3 x4 x5 := rfl
def f (k : Nat) (a0 : (List Int)) (a1 : (List Int)) : Option (List Int) := e k (p9 k) (p0 k) a0 a1
end ref01_Add

namespace ref02_Add
def e (k : Nat) (a0 : (Bool × (List Int))) (a1 : (Bool × (List Int))) : Option (Bool × (List Int)) :=
  (bif (a0.1 == a1.1) then
    (Option.bind (ref01_Add.f k a0.2 a1.2) fun r1 =>
      (Option.bind (ref02_made.f k a0.1 r1) fun r2 =>
        (some r2)))
  else
    (Option.bind (ref01_Cmp.f k a0.2 a1.2) fun r3 =>
      (bif (decide (r3 ≥ (0 : Int))) then
        (Option.bind (ref01_Sub.f k a0.2 a1.2) fun r4 =>
          (Option.bind (ref02_made.f k a0.1 r4.1) fun r5 =>
            (some r5)))
      else
        (Option.bind (ref01_Sub.f k a1.2 a0.2) fun r6 =>
          (Option.bind (ref02_made.f k a1.1 r6.1) fun r7 =>
            (some r7))))))
def f (k : Nat) (a0 : (Bool × (List Int))) (a1 : (Bool × (List Int))) : Option (Bool × (List Int)) := e k a0 a1
end ref02_Add

namespace ref03_Add
def e (k : Nat) (a0 : ((Bool × (List Int)) × (List Int))) (a1 : ((Bool × (List Int)) × (List Int))) : Option ((Bool × (List Int)) × (List Int)) :=
  (Option.bind (ref03_Norm.f k a0) fun r1 =>
    (Option.bind (ref03_Norm.f k a1) fun r2 =>
      (Option.bind (ref03_positive.f k r2.2) fun r3 =>
        (Option.bind (ref02_Mul.f k r1.1 r3) fun r4 =>
          (Option.bind (ref03_positive.f k r1.2) fun r5 =>
            (Option.bind (ref02_Mul.f k r2.1 r5) fun r6 =>
              (Option.bind (ref02_Add.f k r4 r6) fun r7 =>
                (Option.bind (ref01_Mul.f k r1.2 r2.2) fun r8 =>
                  (Option.bind (ref03_Norm.f k (r7, r8)) fun r9 =>
                    (some r9))))))))))
def f (k : Nat) (a0 : ((Bool × (List Int)) × (List Int))) (a1 : ((Bool × (List Int)) × (List Int))) : Option ((Bool × (List Int)) × (List Int)) := e k a0 a1
end ref03_Add

namespace ref03_Sub
def e (k : Nat) (a0 : ((Bool × (List Int)) × (List Int))) (a1 : ((Bool × (List Int)) × (List Int))) : Option ((Bool × (List Int)) × (List Int)) :=
  (Option.bind (ref03_Neg.f k a1) fun r1 =>
    (Option.bind (ref03_Add.f k a0 r1) fun r2 =>
      (some r2)))
def f (k : Nat) (a0 : ((Bool × (List Int)) × (List Int))) (a1 : ((Bool × (List Int)) × (List Int))) : Option ((Bool × (List Int)) × (List Int)) := e k a0 a1
end ref03_Sub

namespace ref03_Cmp
def e (k : Nat) (a0 : ((Bool × (List Int)) × (List Int))) (a1 : ((Bool × (List Int)) × (List Int))) : Option Int :=
  (Option.bind (ref03_Sub.f k a0 a1) fun r1 =>
    (Option.bind (ref03_Sign.f k r1) fun r2 =>
      (some r2)))
def f (k : Nat) (a0 : ((Bool × (List Int)) × (List Int))) (a1 : ((Bool × (List Int)) × (List Int))) : Option Int := e k a0 a1
end ref03_Cmp

namespace law05_DeltaTells
def e13 (k : Nat) (_q13 : (Int × Int) → (((Bool × (List Int)) × (List Int)) × ((Bool × (List Int)) × (List Int))) → (((Bool × (List Int)) × (List Int)) × ((Bool × (List Int)) × (List Int))) → (((Bool × (List Int)) × (List Int)) × ((Bool × (List Int)) × (List Int))) → (((Bool × (List Int)) × (List Int)) × ((Bool × (List Int)) × (List Int))) → Int → Option Bool) (q17 : Unit → Option Bool) (b0 : (Int × Int)) (b1 : (((Bool × (List Int)) × (List Int)) × ((Bool × (List Int)) × (List Int)))) (b2 : (((Bool × (List Int)) × (List Int)) × ((Bool × (List Int)) × (List Int)))) (b3 : (((Bool × (List Int)) × (List Int)) × ((Bool × (List Int)) × (List Int)))) (b4 : (((Bool × (List Int)) × (List Int)) × ((Bool × (List Int)) × (List Int)))) (b5 : Int) : Option Bool :=
  (Option.bind (law05_gaps.f k [(b3, b4)]) fun r4 =>
    (Option.bind (delta_Small.f k r4) fun r5 =>
      (bif (!decide (r5.2 = (0 : Int))) then
        q17 ()
      else
        (Option.bind (law05_lives.f k ()) fun r6 =>
          (bif (!r6) then
            q17 ()
          else
            (Option.bind (law05_part.f k r5.1 b0.1 b0.2) fun r7 =>
              (Option.bind (ref03_Mul.f k r7 ((false, [(1 : Int)]), [(2 : Int)])) fun r8 =>
                (Option.bind (ref03_Sign.f k r8) fun r9 =>
                  (bif (decide (r9 = (0 : Int))) then
                    (some true)
                  else
                    (Option.bind (law05_twin.f k b1) fun r10 =>
                      (Option.bind (delta_At.f k r10 r8) fun r11 =>
                        (Option.bind (law05_twin.f k b2) fun r12 =>
                          (Option.bind (delta_At.f k r12 r8) fun r13 =>
                            (Option.bind (ref03_Cmp.f k r11 r13) fun r14 =>
                              (some (decide (r14 = b5)))))))))))))))))
def e17 (_k : Nat) (_q13 : (Int × Int) → (((Bool × (List Int)) × (List Int)) × ((Bool × (List Int)) × (List Int))) → (((Bool × (List Int)) × (List Int)) × ((Bool × (List Int)) × (List Int))) → (((Bool × (List Int)) × (List Int)) × ((Bool × (List Int)) × (List Int))) → (((Bool × (List Int)) × (List Int)) × ((Bool × (List Int)) × (List Int))) → Int → Option Bool) (_q17 : Unit → Option Bool) (_ : Unit) : Option Bool :=
  (some false)
def e (k : Nat) (q13 : (Int × Int) → (((Bool × (List Int)) × (List Int)) × ((Bool × (List Int)) × (List Int))) → (((Bool × (List Int)) × (List Int)) × ((Bool × (List Int)) × (List Int))) → (((Bool × (List Int)) × (List Int)) × ((Bool × (List Int)) × (List Int))) → (((Bool × (List Int)) × (List Int)) × ((Bool × (List Int)) × (List Int))) → Int → Option Bool) (_q17 : Unit → Option Bool) (a0 : ((((Bool × (List Int)) × (List Int)) × ((Bool × (List Int)) × (List Int))) × (((Bool × (List Int)) × (List Int)) × ((Bool × (List Int)) × (List Int))))) (a1 : (Int × Int)) : Option Bool :=
  (Option.bind (law05_twin.f k a0.1) fun r1 =>
    (Option.bind (law05_twin.f k a0.2) fun r2 =>
      (Option.bind (delta_Cmp.f k r1 r2) fun r3 =>
        (bif (decide (r3 > (0 : Int))) then
          q13 a1 a0.1 a0.2 a0.2 a0.1 r3
        else
          q13 a1 a0.1 a0.2 a0.1 a0.2 r3))))
def pts : Nat → ((Int × Int) → (((Bool × (List Int)) × (List Int)) × ((Bool × (List Int)) × (List Int))) → (((Bool × (List Int)) × (List Int)) × ((Bool × (List Int)) × (List Int))) → (((Bool × (List Int)) × (List Int)) × ((Bool × (List Int)) × (List Int))) → (((Bool × (List Int)) × (List Int)) × ((Bool × (List Int)) × (List Int))) → Int → Option Bool) × (Unit → Option Bool)
  | 0 => (fun _ _ _ _ _ _ => none, fun _ => none)
  | k + 1 => (e13 k (pts k).1 (pts k).2, e17 k (pts k).1 (pts k).2)
def p13 (k : Nat) : (Int × Int) → (((Bool × (List Int)) × (List Int)) × ((Bool × (List Int)) × (List Int))) → (((Bool × (List Int)) × (List Int)) × ((Bool × (List Int)) × (List Int))) → (((Bool × (List Int)) × (List Int)) × ((Bool × (List Int)) × (List Int))) → (((Bool × (List Int)) × (List Int)) × ((Bool × (List Int)) × (List Int))) → Int → Option Bool := (pts k).1
def p17 (k : Nat) : Unit → Option Bool := (pts k).2
theorem p13_succ (k : Nat) (x0 : (Int × Int)) (x1 : (((Bool × (List Int)) × (List Int)) × ((Bool × (List Int)) × (List Int)))) (x2 : (((Bool × (List Int)) × (List Int)) × ((Bool × (List Int)) × (List Int)))) (x3 : (((Bool × (List Int)) × (List Int)) × ((Bool × (List Int)) × (List Int)))) (x4 : (((Bool × (List Int)) × (List Int)) × ((Bool × (List Int)) × (List Int)))) (x5 : Int) : p13 (k + 1) x0 x1 x2 x3 x4 x5 = e13 k (p13 k) (p17 k) x0 x1 x2 x3 x4 x5 := by
  have h : pts (k + 1) = (e13 k (pts k).1 (pts k).2, e17 k (pts k).1 (pts k).2) := by rw [pts]
  unfold p13 p17
  rw [h]
theorem p17_succ (k : Nat) (x0 : Unit) : p17 (k + 1) x0 = e17 k (p13 k) (p17 k) x0 := rfl
def f (k : Nat) (a0 : ((((Bool × (List Int)) × (List Int)) × ((Bool × (List Int)) × (List Int))) × (((Bool × (List Int)) × (List Int)) × ((Bool × (List Int)) × (List Int))))) (a1 : (Int × Int)) : Option Bool := e k (p13 k) (p17 k) a0 a1
end law05_DeltaTells
end Go.FK
