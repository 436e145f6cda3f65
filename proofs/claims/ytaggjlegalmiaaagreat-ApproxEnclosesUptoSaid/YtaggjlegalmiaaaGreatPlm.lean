/- Plain functions, printed by fgen.py: what the loaded functions come to. -/
import Derived.Test.YtaggjlegalmiaaaGreatF2
namespace Go.FK
/-- ???????????????????????????????????????????????????????????? -/
def str_14a5d850c2 : ByteArray := (ByteArray.mk #[0, 1, 2, 2, 3, 3, 3, 3, 4, 4, 4, 4, 4, 4, 4, 4, 5, 5, 5, 5, 5, 5, 5, 5, 5, 5, 5, 5, 5, 5, 5, 5, 6, 6, 6, 6, 6, 6, 6, 6, 6, 6, 6, 6, 6, 6, 6, 6, 6, 6, 6, 6, 6, 6, 6, 6, 6, 6, 6, 6, 6, 6, 6, 6, 7, 7, 7, 7, 7, 7, 7, 7, 7, 7, 7, 7, 7, 7, 7, 7, 7, 7, 7, 7, 7, 7, 7, 7, 7, 7, 7, 7, 7, 7, 7, 7, 7, 7, 7, 7, 7, 7, 7, 7, 7, 7, 7, 7, 7, 7, 7, 7, 7, 7, 7, 7, 7, 7, 7, 7, 7, 7, 7, 7, 7, 7, 7, 7, 8, 8, 8, 8, 8, 8, 8, 8, 8, 8, 8, 8, 8, 8, 8, 8, 8, 8, 8, 8, 8, 8, 8, 8, 8, 8, 8, 8, 8, 8, 8, 8, 8, 8, 8, 8, 8, 8, 8, 8, 8, 8, 8, 8, 8, 8, 8, 8, 8, 8, 8, 8, 8, 8, 8, 8, 8, 8, 8, 8, 8, 8, 8, 8, 8, 8, 8, 8, 8, 8, 8, 8, 8, 8, 8, 8, 8, 8, 8, 8, 8, 8, 8, 8, 8, 8, 8, 8, 8, 8, 8, 8, 8, 8, 8, 8, 8, 8, 8, 8, 8, 8, 8, 8, 8, 8, 8, 8, 8, 8, 8, 8, 8, 8, 8, 8, 8, 8, 8, 8, 8, 8, 8, 8, 8, 8, 8, 8])
namespace nat_trim
def e0 (_k : Nat) (q0 : (List Int) → Int → Option (List Int)) (q9 : (List Int) → Int → Option (List Int)) (b0 : (List Int)) (b1 : Int) : Option (List Int) :=
  (bif (decide (b1 > (0 : Int))) then
    (bif (decide (0 ≤ (IntKind.i64.wrap (b1 - (1 : Int)))) && decide ((IntKind.i64.wrap (b1 - (1 : Int))) < (b0.length : Int))) then
      (bif (decide ((nthD (0 : Int) b0 (Int.toNat (IntKind.i64.wrap (b1 - (1 : Int))))) = (0 : Int))) then
        q0 b0 (IntKind.i64.wrap (b1 - (1 : Int)))
      else
        q9 b0 b1)
    else
      none)
  else
    q9 b0 b1)
def e9 (_k : Nat) (_q0 : (List Int) → Int → Option (List Int)) (_q9 : (List Int) → Int → Option (List Int)) (b0 : (List Int)) (b1 : Int) : Option (List Int) :=
  (bif (decide (0 ≤ (0 : Int)) && decide ((0 : Int) ≤ b1) && decide (b1 ≤ (b0.length : Int))) then
    (some ((b0.take (Int.toNat b1)).drop (Int.toNat (0 : Int))))
  else
    none)
def e (_k : Nat) (q0 : (List Int) → Int → Option (List Int)) (_q9 : (List Int) → Int → Option (List Int)) (a0 : (List Int)) : Option (List Int) :=
  q0 a0 (a0.length : Int)
def pts : Nat → ((List Int) → Int → Option (List Int)) × ((List Int) → Int → Option (List Int))
  | 0 => (fun _ _ => none, fun _ _ => none)
  | k + 1 => (e0 k (pts k).1 (pts k).2, e9 k (pts k).1 (pts k).2)
def p0 (k : Nat) : (List Int) → Int → Option (List Int) := (pts k).1
def p9 (k : Nat) : (List Int) → Int → Option (List Int) := (pts k).2
theorem p0_succ (k : Nat) (x0 : (List Int)) (x1 : Int) : p0 (k + 1) x0 x1 = e0 k (p0 k) (p9 k) x0 x1 := rfl
theorem p9_succ (k : Nat) (x0 : (List Int)) (x1 : Int) : p9 (k + 1) x0 x1 = e9 k (p0 k) (p9 k) x0 x1 := rfl
def f (k : Nat) (a0 : (List Int)) : Option (List Int) := e k (p0 k) (p9 k) a0
end nat_trim

namespace bits_Len32
def e9 (_k : Nat) (_q9 : Int → Int → Option Int) (q15 : Int → Int → Option Int) (b0 : Int) (b1 : Int) : Option Int :=
  (bif (decide (b0 ≥ (256 : Int))) then
    q15 (Int.fdiv b0 (2 ^ 8)) (IntKind.i64.wrap (b1 + (8 : Int)))
  else
    q15 b0 b1)
def e15 (_k : Nat) (_q9 : Int → Int → Option Int) (_q15 : Int → Int → Option Int) (b0 : Int) (b1 : Int) : Option Int :=
  (bif (decide (0 ≤ (IntKind.u8.wrap b0)) && decide ((IntKind.u8.wrap b0) < (str_14a5d850c2.size : Int))) then
    (some (IntKind.i64.wrap (b1 + (IntKind.i64.wrap (btI str_14a5d850c2 (IntKind.u8.wrap b0))))))
  else
    none)
def e (_k : Nat) (q9 : Int → Int → Option Int) (_q15 : Int → Int → Option Int) (a0 : Int) : Option Int :=
  (bif (decide (a0 ≥ (65536 : Int))) then
    q9 (Int.fdiv a0 (2 ^ 16)) (16 : Int)
  else
    q9 a0 (0 : Int))
def pts : Nat → (Int → Int → Option Int) × (Int → Int → Option Int)
  | 0 => (fun _ _ => none, fun _ _ => none)
  | k + 1 => (e9 k (pts k).1 (pts k).2, e15 k (pts k).1 (pts k).2)
def p9 (k : Nat) : Int → Int → Option Int := (pts k).1
def p15 (k : Nat) : Int → Int → Option Int := (pts k).2
theorem p9_succ (k : Nat) (x0 : Int) (x1 : Int) : p9 (k + 1) x0 x1 = e9 k (p9 k) (p15 k) x0 x1 := rfl
theorem p15_succ (k : Nat) (x0 : Int) (x1 : Int) : p15 (k + 1) x0 x1 = e15 k (p9 k) (p15 k) x0 x1 := rfl
def f (k : Nat) (a0 : Int) : Option Int := e k (p9 k) (p15 k) a0
end bits_Len32

namespace nat_Bits
def e (k : Nat) (a0 : (List Int)) : Option Int :=
  (Option.bind (nat_trim.f k a0) fun r1 =>
    (bif (decide ((r1.length : Int) = (0 : Int))) then
      (some (0 : Int))
    else
      (bif (decide (0 ≤ (IntKind.i64.wrap ((r1.length : Int) - (1 : Int)))) && decide ((IntKind.i64.wrap ((r1.length : Int) - (1 : Int))) < (r1.length : Int))) then
        (Option.bind (bits_Len32.f k (nthD (0 : Int) r1 (Int.toNat (IntKind.i64.wrap ((r1.length : Int) - (1 : Int)))))) fun r2 =>
          (some (IntKind.i64.wrap ((IntKind.i64.wrap ((32 : Int) * (IntKind.i64.wrap ((r1.length : Int) - (1 : Int))))) + r2))))
      else
        none)))
def f (k : Nat) (a0 : (List Int)) : Option Int := e k a0
end nat_Bits

namespace nat_own
def e (k : Nat) (a0 : (List Int)) : Option (List Int) :=
  (Option.bind (nat_trim.f k a0) fun r1 =>
    (bif (decide ((r1.length : Int) = (0 : Int))) then
      (some ([] : List Int))
    else
      (bif (decide (0 ≤ (r1.length : Int)) && decide ((r1.length : Int) * 4 ≤ 281474976710656) && decide ((r1.length : Int) ≤ 9223372036854775807)) then
        (some (r1.take (List.replicate (Int.toNat (r1.length : Int)) (0 : Int)).length ++ (List.replicate (Int.toNat (r1.length : Int)) (0 : Int)).drop r1.length))
      else
        none)))
def f (k : Nat) (a0 : (List Int)) : Option (List Int) := e k a0
end nat_own

namespace nat_Cmp
def e0 (_k : Nat) (q0 : (List Int) → (List Int) → Int → Option Int) (b0 : (List Int)) (b1 : (List Int)) (b2 : Int) : Option Int :=
  (bif (decide (b2 ≥ (0 : Int))) then
    (bif (decide (0 ≤ b2) && decide (b2 < (b0.length : Int))) then
      (bif (decide (0 ≤ b2) && decide (b2 < (b1.length : Int))) then
        (bif (!decide ((nthD (0 : Int) b0 (Int.toNat b2)) = (nthD (0 : Int) b1 (Int.toNat b2)))) then
          (bif (decide (0 ≤ b2) && decide (b2 < (b0.length : Int))) then
            (bif (decide (0 ≤ b2) && decide (b2 < (b1.length : Int))) then
              (bif (decide ((nthD (0 : Int) b0 (Int.toNat b2)) < (nthD (0 : Int) b1 (Int.toNat b2)))) then
                (some (-1 : Int))
              else
                (some (1 : Int)))
            else
              none)
          else
            none)
        else
          q0 b0 b1 (IntKind.i64.wrap (b2 - (1 : Int))))
      else
        none)
    else
      none)
  else
    (some (0 : Int)))
def e (k : Nat) (q0 : (List Int) → (List Int) → Int → Option Int) (a0 : (List Int)) (a1 : (List Int)) : Option Int :=
  (Option.bind (nat_trim.f k a0) fun r1 =>
    (Option.bind (nat_trim.f k a1) fun r2 =>
      (bif (!decide ((r1.length : Int) = (r2.length : Int))) then
        (bif (decide ((r1.length : Int) < (r2.length : Int))) then
          (some (-1 : Int))
        else
          (some (1 : Int)))
      else
        q0 r1 r2 (IntKind.i64.wrap ((r1.length : Int) - (1 : Int))))))
def pts : Nat → ((List Int) → (List Int) → Int → Option Int)
  | 0 => fun _ _ _ => none
  | k + 1 => e0 k (pts k)
def p0 (k : Nat) : (List Int) → (List Int) → Int → Option Int := (pts k)
theorem p0_succ (k : Nat) (x0 : (List Int)) (x1 : (List Int)) (x2 : Int) : p0 (k + 1) x0 x1 x2 = e0 k (p0 k) x0 x1 x2 := rfl
def f (k : Nat) (a0 : (List Int)) (a1 : (List Int)) : Option Int := e k (p0 k) a0 a1
end nat_Cmp

namespace bits_Div32
def e7 (_k : Nat) (_q7 : Int → Int → Int → Option (Int × Int)) (b0 : Int) (b1 : Int) (b2 : Int) : Option (Int × Int) :=
  (bif (decide ((IntKind.u64.wrap b2) = 0)) then
    none
  else
    (bif (decide ((IntKind.u64.wrap b2) = 0)) then
      none
    else
      (some ((IntKind.u32.wrap (IntKind.u64.wrap (Int.tdiv (bitsI .or .u64 (IntKind.u64.wrap ((IntKind.u64.wrap b0) * 2 ^ 32)) (IntKind.u64.wrap b1)) (IntKind.u64.wrap b2)))), (IntKind.u32.wrap (Int.tmod (bitsI .or .u64 (IntKind.u64.wrap ((IntKind.u64.wrap b0) * 2 ^ 32)) (IntKind.u64.wrap b1)) (IntKind.u64.wrap b2)))))))
def e (_k : Nat) (q7 : Int → Int → Int → Option (Int × Int)) (a0 : Int) (a1 : Int) (a2 : Int) : Option (Int × Int) :=
  (bif (!decide (a2 = (0 : Int))) then
    (bif (decide (a2 ≤ a0)) then
      none
    else
      q7 a0 a1 a2)
  else
    q7 a0 a1 a2)
def pts : Nat → (Int → Int → Int → Option (Int × Int))
  | 0 => fun _ _ _ => none
  | k + 1 => e7 k (pts k)
def p7 (k : Nat) : Int → Int → Int → Option (Int × Int) := (pts k)
theorem p7_succ (k : Nat) (x0 : Int) (x1 : Int) (x2 : Int) : p7 (k + 1) x0 x1 x2 = e7 k (p7 k) x0 x1 x2 := rfl
def f (k : Nat) (a0 : Int) (a1 : Int) (a2 : Int) : Option (Int × Int) := e k (p7 k) a0 a1 a2
end bits_Div32

namespace nat_short
def e0 (k : Nat) (q0 : (List Int) → (List Int) → Int → Int → Int → Option ((List Int) × Int)) (b0 : (List Int)) (b1 : (List Int)) (b2 : Int) (b3 : Int) (b4 : Int) : Option ((List Int) × Int) :=
  (bif (decide (b4 ≥ (0 : Int))) then
    (bif (decide (0 ≤ b4) && decide (b4 < (b1.length : Int))) then
      (Option.bind (bits_Div32.f k b3 (nthD (0 : Int) b1 (Int.toNat b4)) b2) fun r1 =>
        (bif (decide (0 ≤ b4) && decide (b4 < (b0.length : Int))) then
          q0 (setN r1.1 b0 (Int.toNat b4)) b1 b2 r1.2 (IntKind.i64.wrap (b4 - (1 : Int)))
        else
          none))
    else
      none)
  else
    (some (b0, b3)))
def e (_k : Nat) (q0 : (List Int) → (List Int) → Int → Int → Int → Option ((List Int) × Int)) (a0 : (List Int)) (a1 : Int) : Option ((List Int) × Int) :=
  (bif (decide (0 ≤ (a0.length : Int)) && decide ((a0.length : Int) * 4 ≤ 281474976710656) && decide ((a0.length : Int) ≤ 9223372036854775807)) then
    q0 (List.replicate (Int.toNat (a0.length : Int)) (0 : Int)) a0 a1 (0 : Int) (IntKind.i64.wrap ((a0.length : Int) - (1 : Int)))
  else
    none)
def pts : Nat → ((List Int) → (List Int) → Int → Int → Int → Option ((List Int) × Int))
  | 0 => fun _ _ _ _ _ => none
  | k + 1 => e0 k (pts k)
def p0 (k : Nat) : (List Int) → (List Int) → Int → Int → Int → Option ((List Int) × Int) := (pts k)
theorem p0_succ (k : Nat) (x0 : (List Int)) (x1 : (List Int)) (x2 : Int) (x3 : Int) (x4 : Int) : p0 (k + 1) x0 x1 x2 x3 x4 = e0 k (p0 k) x0 x1 x2 x3 x4 := rfl
def f (k : Nat) (a0 : (List Int)) (a1 : Int) : Option ((List Int) × Int) := e k (p0 k) a0 a1
end nat_short

namespace bits_LeadingZeros32
def e (k : Nat) (a0 : Int) : Option Int :=
  (Option.bind (bits_Len32.f k a0) fun r1 =>
    (some (IntKind.i64.wrap ((32 : Int) - r1))))
def f (k : Nat) (a0 : Int) : Option Int := e k a0
end bits_LeadingZeros32

namespace nat_moved
def e0 (_k : Nat) (q0 : (List Int) → (List Int) → Int → Int → Int → Option (List Int)) (b0 : (List Int)) (b1 : (List Int)) (b2 : Int) (b3 : Int) (b4 : Int) : Option (List Int) :=
  (bif (decide (b4 < b3)) then
    (bif (decide (0 ≤ b4) && decide (b4 < (b0.length : Int))) then
      (bif (decide (0 ≤ b4) && decide (b4 < (b1.length : Int))) then
        (bif (decide (b2 < 0)) then
          none
        else
          (bif (decide (0 ≤ b4) && decide (b4 < (b0.length : Int))) then
            (bif (decide (0 ≤ b4) && decide (b4 < (b1.length : Int))) then
              (bif (decide ((IntKind.i64.wrap ((32 : Int) - b2)) < 0)) then
                none
              else
                (bif (decide (0 ≤ (IntKind.i64.wrap (b4 + (1 : Int)))) && decide ((IntKind.i64.wrap (b4 + (1 : Int))) < ((setN (bitsI .or .u32 (nthD (0 : Int) b0 (Int.toNat b4)) (IntKind.u32.wrap ((nthD (0 : Int) b1 (Int.toNat b4)) * 2 ^ min (Int.toNat b2) 32))) b0 (Int.toNat b4)).length : Int))) then
                  q0 (setN (IntKind.u32.wrap (Int.fdiv (IntKind.u64.wrap (nthD (0 : Int) b1 (Int.toNat b4))) (2 ^ min (Int.toNat (IntKind.i64.wrap ((32 : Int) - b2))) 64))) (setN (bitsI .or .u32 (nthD (0 : Int) b0 (Int.toNat b4)) (IntKind.u32.wrap ((nthD (0 : Int) b1 (Int.toNat b4)) * 2 ^ min (Int.toNat b2) 32))) b0 (Int.toNat b4)) (Int.toNat (IntKind.i64.wrap (b4 + (1 : Int))))) b1 b2 b3 (IntKind.i64.wrap (b4 + (1 : Int)))
                else
                  none))
            else
              none)
          else
            none))
      else
        none)
    else
      none)
  else
    (some b0))
def e (_k : Nat) (q0 : (List Int) → (List Int) → Int → Int → Int → Option (List Int)) (a0 : (List Int)) (a1 : Int) : Option (List Int) :=
  (bif (decide (0 ≤ (IntKind.i64.wrap ((a0.length : Int) + (1 : Int)))) && decide ((IntKind.i64.wrap ((a0.length : Int) + (1 : Int))) * 4 ≤ 281474976710656) && decide ((IntKind.i64.wrap ((a0.length : Int) + (1 : Int))) ≤ 9223372036854775807)) then
    q0 (List.replicate (Int.toNat (IntKind.i64.wrap ((a0.length : Int) + (1 : Int)))) (0 : Int)) a0 a1 (a0.length : Int) (0 : Int)
  else
    none)
def pts : Nat → ((List Int) → (List Int) → Int → Int → Int → Option (List Int))
  | 0 => fun _ _ _ _ _ => none
  | k + 1 => e0 k (pts k)
def p0 (k : Nat) : (List Int) → (List Int) → Int → Int → Int → Option (List Int) := (pts k)
theorem p0_succ (k : Nat) (x0 : (List Int)) (x1 : (List Int)) (x2 : Int) (x3 : Int) (x4 : Int) : p0 (k + 1) x0 x1 x2 x3 x4 = e0 k (p0 k) x0 x1 x2 x3 x4 := rfl
def f (k : Nat) (a0 : (List Int)) (a1 : Int) : Option (List Int) := e k (p0 k) a0 a1
end nat_moved

namespace bits_Sub32
def e (_k : Nat) (a0 : Int) (a1 : Int) (a2 : Int) : Option (Int × Int) :=
  (some ((IntKind.u32.wrap ((IntKind.u32.wrap (a0 - a1)) - a2)), (Int.fdiv (bitsI .or .u32 (bitsI .and .u32 (bitsI .xor .u32 IntKind.u32.max a0) a1) (bitsI .and .u32 (bitsI .xor .u32 IntKind.u32.max (bitsI .xor .u32 a0 a1)) (IntKind.u32.wrap ((IntKind.u32.wrap (a0 - a1)) - a2)))) (2 ^ 31))))
def f (k : Nat) (a0 : Int) (a1 : Int) (a2 : Int) : Option (Int × Int) := e k a0 a1 a2
end bits_Sub32

namespace bits_Add32
def e (_k : Nat) (a0 : Int) (a1 : Int) (a2 : Int) : Option (Int × Int) :=
  (some ((IntKind.u32.wrap (IntKind.u64.wrap ((IntKind.u64.wrap ((IntKind.u64.wrap a0) + (IntKind.u64.wrap a1))) + (IntKind.u64.wrap a2)))), (IntKind.u32.wrap (Int.fdiv (IntKind.u64.wrap ((IntKind.u64.wrap ((IntKind.u64.wrap a0) + (IntKind.u64.wrap a1))) + (IntKind.u64.wrap a2))) (2 ^ 32)))))
def f (k : Nat) (a0 : Int) (a1 : Int) (a2 : Int) : Option (Int × Int) := e k a0 a1 a2
end bits_Add32

namespace nat_digit
def e0 (_k : Nat) (_q0 : (List Int) → Nat → Nat → (List Int) → Int → Int → Int → Option ((List Int) × Int)) (q11 : (List Int) → Nat → Nat → (List Int) → Int → Int → Int → Option ((List Int) × Int)) (q4 : (List Int) → Nat → Nat → (List Int) → Int → Int → Int → Int → Int → Int → Option ((List Int) × Int)) (_q8 : (List Int) → Nat → Nat → (List Int) → Int → Int → Int → Int → Int → Option ((List Int) × Int)) (b0 : (List Int)) (b1 : Nat) (b2 : Nat) (b3 : (List Int)) (b4 : Int) (b5 : Int) (b6 : Int) : Option ((List Int) × Int) :=
  (bif (!decide ((Int.fdiv b5 (2 ^ 32)) = (0 : Int))) then
    q11 b0 b1 b2 b3 b4 b5 b6
  else
    (bif (decide (0 ≤ (IntKind.i64.wrap (b4 - (2 : Int)))) && decide ((IntKind.i64.wrap (b4 - (2 : Int))) < (b3.length : Int))) then
      (bif (decide (0 ≤ (IntKind.i64.wrap (b4 - (2 : Int)))) && decide ((IntKind.i64.wrap (b4 - (2 : Int))) < (b2 : Int))) then
        (bif (decide ((IntKind.u64.wrap (b5 * (IntKind.u64.wrap (nthD (0 : Int) b3 (Int.toNat (IntKind.i64.wrap (b4 - (2 : Int)))))))) > (bitsI .or .u64 (IntKind.u64.wrap (b6 * 2 ^ 32)) (IntKind.u64.wrap (nthD (0 : Int) b0 (b1 + Int.toNat (IntKind.i64.wrap (b4 - (2 : Int))))))))) then
          q11 b0 b1 b2 b3 b4 b5 b6
        else
          q4 b0 b1 b2 b3 b4 b5 (0 : Int) (0 : Int) b4 (0 : Int))
      else
        none)
    else
      none))
def e11 (_k : Nat) (q0 : (List Int) → Nat → Nat → (List Int) → Int → Int → Int → Option ((List Int) × Int)) (_q11 : (List Int) → Nat → Nat → (List Int) → Int → Int → Int → Option ((List Int) × Int)) (q4 : (List Int) → Nat → Nat → (List Int) → Int → Int → Int → Int → Int → Int → Option ((List Int) × Int)) (_q8 : (List Int) → Nat → Nat → (List Int) → Int → Int → Int → Int → Int → Option ((List Int) × Int)) (b0 : (List Int)) (b1 : Nat) (b2 : Nat) (b3 : (List Int)) (b4 : Int) (b5 : Int) (b6 : Int) : Option ((List Int) × Int) :=
  (bif (decide (0 ≤ (IntKind.i64.wrap (b4 - (1 : Int)))) && decide ((IntKind.i64.wrap (b4 - (1 : Int))) < (b3.length : Int))) then
    (bif (!decide ((Int.fdiv (IntKind.u64.wrap (b6 + (IntKind.u64.wrap (nthD (0 : Int) b3 (Int.toNat (IntKind.i64.wrap (b4 - (1 : Int)))))))) (2 ^ 32)) = (0 : Int))) then
      q4 b0 b1 b2 b3 b4 (IntKind.u64.wrap (b5 - (1 : Int))) (0 : Int) (0 : Int) b4 (0 : Int)
    else
      q0 b0 b1 b2 b3 b4 (IntKind.u64.wrap (b5 - (1 : Int))) (IntKind.u64.wrap (b6 + (IntKind.u64.wrap (nthD (0 : Int) b3 (Int.toNat (IntKind.i64.wrap (b4 - (1 : Int)))))))))
  else
    none)
def e4 (k : Nat) (_q0 : (List Int) → Nat → Nat → (List Int) → Int → Int → Int → Option ((List Int) × Int)) (_q11 : (List Int) → Nat → Nat → (List Int) → Int → Int → Int → Option ((List Int) × Int)) (q4 : (List Int) → Nat → Nat → (List Int) → Int → Int → Int → Int → Int → Int → Option ((List Int) × Int)) (q8 : (List Int) → Nat → Nat → (List Int) → Int → Int → Int → Int → Int → Option ((List Int) × Int)) (b0 : (List Int)) (b1 : Nat) (b2 : Nat) (b3 : (List Int)) (b4 : Int) (b5 : Int) (b6 : Int) (b7 : Int) (b8 : Int) (b9 : Int) : Option ((List Int) × Int) :=
  (bif (decide (b9 < b8)) then
    (bif (decide (0 ≤ b9) && decide (b9 < (b3.length : Int))) then
      (bif (decide (0 ≤ b9) && decide (b9 < (b2 : Int))) then
        (Option.bind (bits_Sub32.f k (nthD (0 : Int) b0 (b1 + Int.toNat b9)) (IntKind.u32.wrap (IntKind.u64.wrap ((IntKind.u64.wrap (b5 * (IntKind.u64.wrap (nthD (0 : Int) b3 (Int.toNat b9))))) + b7))) b6) fun r1 =>
          (bif (decide (0 ≤ b9) && decide (b9 < (b2 : Int))) then
            q4 (setN r1.1 b0 (b1 + Int.toNat b9)) b1 b2 b3 b4 b5 r1.2 (Int.fdiv (IntKind.u64.wrap ((IntKind.u64.wrap (b5 * (IntKind.u64.wrap (nthD (0 : Int) b3 (Int.toNat b9))))) + b7)) (2 ^ 32)) b8 (IntKind.i64.wrap (b9 + (1 : Int)))
          else
            none))
      else
        none)
    else
      none)
  else
    (bif (decide (0 ≤ b4) && decide (b4 < (b2 : Int))) then
      (Option.bind (bits_Sub32.f k (nthD (0 : Int) b0 (b1 + Int.toNat b4)) (IntKind.u32.wrap b7) b6) fun r2 =>
        (bif (decide (0 ≤ b4) && decide (b4 < (b2 : Int))) then
          (bif (decide (r2.2 = (1 : Int))) then
            q8 (setN r2.1 b0 (b1 + Int.toNat b4)) b1 b2 b3 b4 (IntKind.u64.wrap (b5 - (1 : Int))) (0 : Int) b4 (0 : Int)
          else
            (some ((setN r2.1 b0 (b1 + Int.toNat b4)), (IntKind.u32.wrap b5))))
        else
          none))
    else
      none))
def e8 (k : Nat) (_q0 : (List Int) → Nat → Nat → (List Int) → Int → Int → Int → Option ((List Int) × Int)) (_q11 : (List Int) → Nat → Nat → (List Int) → Int → Int → Int → Option ((List Int) × Int)) (_q4 : (List Int) → Nat → Nat → (List Int) → Int → Int → Int → Int → Int → Int → Option ((List Int) × Int)) (q8 : (List Int) → Nat → Nat → (List Int) → Int → Int → Int → Int → Int → Option ((List Int) × Int)) (b0 : (List Int)) (b1 : Nat) (b2 : Nat) (b3 : (List Int)) (b4 : Int) (b5 : Int) (b6 : Int) (b7 : Int) (b8 : Int) : Option ((List Int) × Int) :=
  (bif (decide (b8 < b7)) then
    (bif (decide (0 ≤ b8) && decide (b8 < (b2 : Int))) then
      (bif (decide (0 ≤ b8) && decide (b8 < (b3.length : Int))) then
        (Option.bind (bits_Add32.f k (nthD (0 : Int) b0 (b1 + Int.toNat b8)) (nthD (0 : Int) b3 (Int.toNat b8)) b6) fun r3 =>
          (bif (decide (0 ≤ b8) && decide (b8 < (b2 : Int))) then
            q8 (setN r3.1 b0 (b1 + Int.toNat b8)) b1 b2 b3 b4 b5 r3.2 b7 (IntKind.i64.wrap (b8 + (1 : Int)))
          else
            none))
      else
        none)
    else
      none)
  else
    (bif (decide (0 ≤ b4) && decide (b4 < (b2 : Int))) then
      (bif (decide (0 ≤ b4) && decide (b4 < (b2 : Int))) then
        (some ((setN (IntKind.u32.wrap ((nthD (0 : Int) b0 (b1 + Int.toNat b4)) + b6)) b0 (b1 + Int.toNat b4)), (IntKind.u32.wrap b5)))
      else
        none)
    else
      none))
def e (_k : Nat) (q0 : (List Int) → Nat → Nat → (List Int) → Int → Int → Int → Option ((List Int) × Int)) (_q11 : (List Int) → Nat → Nat → (List Int) → Int → Int → Int → Option ((List Int) × Int)) (_q4 : (List Int) → Nat → Nat → (List Int) → Int → Int → Int → Int → Int → Int → Option ((List Int) × Int)) (_q8 : (List Int) → Nat → Nat → (List Int) → Int → Int → Int → Int → Int → Option ((List Int) × Int)) (a0 : (List Int)) (a1 : Nat) (a2 : Nat) (a3 : (List Int)) : Option ((List Int) × Int) :=
  (bif (decide (0 ≤ (a3.length : Int)) && decide ((a3.length : Int) < (a2 : Int))) then
    (bif (decide (0 ≤ (IntKind.i64.wrap ((a3.length : Int) - (1 : Int)))) && decide ((IntKind.i64.wrap ((a3.length : Int) - (1 : Int))) < (a2 : Int))) then
      (bif (decide (0 ≤ (IntKind.i64.wrap ((a3.length : Int) - (1 : Int)))) && decide ((IntKind.i64.wrap ((a3.length : Int) - (1 : Int))) < (a3.length : Int))) then
        (bif (decide ((IntKind.u64.wrap (nthD (0 : Int) a3 (Int.toNat (IntKind.i64.wrap ((a3.length : Int) - (1 : Int)))))) = 0)) then
          none
        else
          (bif (decide (0 ≤ (IntKind.i64.wrap ((a3.length : Int) - (1 : Int)))) && decide ((IntKind.i64.wrap ((a3.length : Int) - (1 : Int))) < (a3.length : Int))) then
            (bif (decide ((IntKind.u64.wrap (nthD (0 : Int) a3 (Int.toNat (IntKind.i64.wrap ((a3.length : Int) - (1 : Int)))))) = 0)) then
              none
            else
              q0 a0 a1 a2 a3 (a3.length : Int) (IntKind.u64.wrap (Int.tdiv (bitsI .or .u64 (IntKind.u64.wrap ((IntKind.u64.wrap (nthD (0 : Int) a0 (a1 + Int.toNat (a3.length : Int)))) * 2 ^ 32)) (IntKind.u64.wrap (nthD (0 : Int) a0 (a1 + Int.toNat (IntKind.i64.wrap ((a3.length : Int) - (1 : Int))))))) (IntKind.u64.wrap (nthD (0 : Int) a3 (Int.toNat (IntKind.i64.wrap ((a3.length : Int) - (1 : Int)))))))) (Int.tmod (bitsI .or .u64 (IntKind.u64.wrap ((IntKind.u64.wrap (nthD (0 : Int) a0 (a1 + Int.toNat (a3.length : Int)))) * 2 ^ 32)) (IntKind.u64.wrap (nthD (0 : Int) a0 (a1 + Int.toNat (IntKind.i64.wrap ((a3.length : Int) - (1 : Int))))))) (IntKind.u64.wrap (nthD (0 : Int) a3 (Int.toNat (IntKind.i64.wrap ((a3.length : Int) - (1 : Int))))))))
          else
            none))
      else
        none)
    else
      none)
  else
    none)
def pts : Nat → ((List Int) → Nat → Nat → (List Int) → Int → Int → Int → Option ((List Int) × Int)) × ((List Int) → Nat → Nat → (List Int) → Int → Int → Int → Option ((List Int) × Int)) × ((List Int) → Nat → Nat → (List Int) → Int → Int → Int → Int → Int → Int → Option ((List Int) × Int)) × ((List Int) → Nat → Nat → (List Int) → Int → Int → Int → Int → Int → Option ((List Int) × Int))
  | 0 => (fun _ _ _ _ _ _ _ => none, fun _ _ _ _ _ _ _ => none, fun _ _ _ _ _ _ _ _ _ _ => none, fun _ _ _ _ _ _ _ _ _ => none)
  | k + 1 => (e0 k (pts k).1 (pts k).2.1 (pts k).2.2.1 (pts k).2.2.2, e11 k (pts k).1 (pts k).2.1 (pts k).2.2.1 (pts k).2.2.2, e4 k (pts k).1 (pts k).2.1 (pts k).2.2.1 (pts k).2.2.2, e8 k (pts k).1 (pts k).2.1 (pts k).2.2.1 (pts k).2.2.2)
def p0 (k : Nat) : (List Int) → Nat → Nat → (List Int) → Int → Int → Int → Option ((List Int) × Int) := (pts k).1
def p11 (k : Nat) : (List Int) → Nat → Nat → (List Int) → Int → Int → Int → Option ((List Int) × Int) := (pts k).2.1
def p4 (k : Nat) : (List Int) → Nat → Nat → (List Int) → Int → Int → Int → Int → Int → Int → Option ((List Int) × Int) := (pts k).2.2.1
def p8 (k : Nat) : (List Int) → Nat → Nat → (List Int) → Int → Int → Int → Int → Int → Option ((List Int) × Int) := (pts k).2.2.2
theorem p0_succ (k : Nat) (x0 : (List Int)) (x1 : Nat) (x2 : Nat) (x3 : (List Int)) (x4 : Int) (x5 : Int) (x6 : Int) : p0 (k + 1) x0 x1 x2 x3 x4 x5 x6 = e0 k (p0 k) (p11 k) (p4 k) (p8 k) x0 x1 x2 x3 x4 x5 x6 := rfl
theorem p11_succ (k : Nat) (x0 : (List Int)) (x1 : Nat) (x2 : Nat) (x3 : (List Int)) (x4 : Int) (x5 : Int) (x6 : Int) : p11 (k + 1) x0 x1 x2 x3 x4 x5 x6 = e11 k (p0 k) (p11 k) (p4 k) (p8 k) x0 x1 x2 x3 x4 x5 x6 := rfl
theorem p4_succ (k : Nat) (x0 : (List Int)) (x1 : Nat) (x2 : Nat) (x3 : (List Int)) (x4 : Int) (x5 : Int) (x6 : Int) (x7 : Int) (x8 : Int) (x9 : Int) : p4 (k + 1) x0 x1 x2 x3 x4 x5 x6 x7 x8 x9 = e4 k (p0 k) (p11 k) (p4 k) (p8 k) x0 x1 x2 x3 x4 x5 x6 x7 x8 x9 := rfl
theorem p8_succ (k : Nat) (x0 : (List Int)) (x1 : Nat) (x2 : Nat) (x3 : (List Int)) (x4 : Int) (x5 : Int) (x6 : Int) (x7 : Int) (x8 : Int) : p8 (k + 1) x0 x1 x2 x3 x4 x5 x6 x7 x8 = e8 k (p0 k) (p11 k) (p4 k) (p8 k) x0 x1 x2 x3 x4 x5 x6 x7 x8 := rfl
def f (k : Nat) (a0 : (List Int)) (a1 : Nat) (a2 : Nat) (a3 : (List Int)) : Option ((List Int) × Int) := e k (p0 k) (p11 k) (p4 k) (p8 k) a0 a1 a2 a3
end nat_digit

namespace nat_long
def e0 (k : Nat) (q0 : (List Int) → (List Int) → Int → (List Int) → Int → Int → Option ((List Int) × (List Int))) (q4 : (List Int) → (List Int) → (List Int) → Int → Int → Int → Option ((List Int) × (List Int))) (b0 : (List Int)) (b1 : (List Int)) (b2 : Int) (b3 : (List Int)) (b4 : Int) (b5 : Int) : Option ((List Int) × (List Int)) :=
  (bif (decide (b5 ≥ (0 : Int))) then
    (bif (decide (0 ≤ b5) && decide (b5 ≤ (IntKind.i64.wrap ((IntKind.i64.wrap (b5 + b4)) + (1 : Int)))) && decide ((IntKind.i64.wrap ((IntKind.i64.wrap (b5 + b4)) + (1 : Int))) ≤ (b0.length : Int))) then
      (bif (decide (b5 < (IntKind.i64.wrap ((IntKind.i64.wrap (b5 + b4)) + (1 : Int))))) then
        (Option.bind (nat_digit.f k b0 (Int.toNat b5) (Int.toNat ((IntKind.i64.wrap ((IntKind.i64.wrap (b5 + b4)) + (1 : Int))) - b5)) b3) fun r4 =>
          (bif (decide (0 ≤ b5) && decide (b5 < (b1.length : Int))) then
            q0 r4.1 (setN r4.2 b1 (Int.toNat b5)) b2 b3 b4 (IntKind.i64.wrap (b5 - (1 : Int)))
          else
            none))
      else
        none)
    else
      none)
  else
    (bif (decide (0 ≤ b4) && decide (b4 * 4 ≤ 281474976710656) && decide (b4 ≤ 9223372036854775807)) then
      q4 b0 b1 (List.replicate (Int.toNat b4) (0 : Int)) b2 b4 (0 : Int)
    else
      none))
def e4 (k : Nat) (_q0 : (List Int) → (List Int) → Int → (List Int) → Int → Int → Option ((List Int) × (List Int))) (q4 : (List Int) → (List Int) → (List Int) → Int → Int → Int → Option ((List Int) × (List Int))) (b0 : (List Int)) (b1 : (List Int)) (b2 : (List Int)) (b3 : Int) (b4 : Int) (b5 : Int) : Option ((List Int) × (List Int)) :=
  (bif (decide (b5 < b4)) then
    (bif (decide (0 ≤ b5) && decide (b5 < (b0.length : Int))) then
      (bif (decide (b3 < 0)) then
        none
      else
        (bif (decide (0 ≤ (IntKind.i64.wrap (b5 + (1 : Int)))) && decide ((IntKind.i64.wrap (b5 + (1 : Int))) < (b0.length : Int))) then
          (bif (decide ((IntKind.i64.wrap ((32 : Int) - b3)) < 0)) then
            none
          else
            (bif (decide (0 ≤ b5) && decide (b5 < (b2.length : Int))) then
              q4 b0 b1 (setN (bitsI .or .u32 (Int.fdiv (nthD (0 : Int) b0 (Int.toNat b5)) (2 ^ min (Int.toNat b3) 32)) (IntKind.u32.wrap (IntKind.u64.wrap ((IntKind.u64.wrap (nthD (0 : Int) b0 (Int.toNat (IntKind.i64.wrap (b5 + (1 : Int)))))) * 2 ^ min (Int.toNat (IntKind.i64.wrap ((32 : Int) - b3))) 64)))) b2 (Int.toNat b5)) b3 b4 (IntKind.i64.wrap (b5 + (1 : Int)))
            else
              none))
        else
          none))
    else
      none)
  else
    (Option.bind (nat_own.f k b1) fun r5 =>
      (Option.bind (nat_own.f k b2) fun r6 =>
        (some (r5, r6)))))
def e (k : Nat) (q0 : (List Int) → (List Int) → Int → (List Int) → Int → Int → Option ((List Int) × (List Int))) (_q4 : (List Int) → (List Int) → (List Int) → Int → Int → Int → Option ((List Int) × (List Int))) (a0 : (List Int)) (a1 : (List Int)) : Option ((List Int) × (List Int)) :=
  (bif (decide (0 ≤ (IntKind.i64.wrap ((a1.length : Int) - (1 : Int)))) && decide ((IntKind.i64.wrap ((a1.length : Int) - (1 : Int))) < (a1.length : Int))) then
    (Option.bind (bits_LeadingZeros32.f k (nthD (0 : Int) a1 (Int.toNat (IntKind.i64.wrap ((a1.length : Int) - (1 : Int)))))) fun r1 =>
      (Option.bind (nat_moved.f k a1 r1) fun r2 =>
        (bif (decide (0 ≤ (0 : Int)) && decide ((0 : Int) ≤ (a1.length : Int)) && decide ((a1.length : Int) ≤ (r2.length : Int))) then
          (Option.bind (nat_moved.f k a0 r1) fun r3 =>
            (bif (decide (0 ≤ (IntKind.i64.wrap ((r3.length : Int) - (((r2.take (Int.toNat (a1.length : Int))).drop (Int.toNat (0 : Int))).length : Int)))) && decide ((IntKind.i64.wrap ((r3.length : Int) - (((r2.take (Int.toNat (a1.length : Int))).drop (Int.toNat (0 : Int))).length : Int))) * 4 ≤ 281474976710656) && decide ((IntKind.i64.wrap ((r3.length : Int) - (((r2.take (Int.toNat (a1.length : Int))).drop (Int.toNat (0 : Int))).length : Int))) ≤ 9223372036854775807)) then
              q0 r3 (List.replicate (Int.toNat (IntKind.i64.wrap ((r3.length : Int) - (((r2.take (Int.toNat (a1.length : Int))).drop (Int.toNat (0 : Int))).length : Int)))) (0 : Int)) r1 ((r2.take (Int.toNat (a1.length : Int))).drop (Int.toNat (0 : Int))) (((r2.take (Int.toNat (a1.length : Int))).drop (Int.toNat (0 : Int))).length : Int) (IntKind.i64.wrap ((IntKind.i64.wrap ((r3.length : Int) - (((r2.take (Int.toNat (a1.length : Int))).drop (Int.toNat (0 : Int))).length : Int))) - (1 : Int)))
            else
              none))
        else
          none)))
  else
    none)
def pts : Nat → ((List Int) → (List Int) → Int → (List Int) → Int → Int → Option ((List Int) × (List Int))) × ((List Int) → (List Int) → (List Int) → Int → Int → Int → Option ((List Int) × (List Int)))
  | 0 => (fun _ _ _ _ _ _ => none, fun _ _ _ _ _ _ => none)
  | k + 1 => (e0 k (pts k).1 (pts k).2, e4 k (pts k).1 (pts k).2)
def p0 (k : Nat) : (List Int) → (List Int) → Int → (List Int) → Int → Int → Option ((List Int) × (List Int)) := (pts k).1
def p4 (k : Nat) : (List Int) → (List Int) → (List Int) → Int → Int → Int → Option ((List Int) × (List Int)) := (pts k).2
theorem p0_succ (k : Nat) (x0 : (List Int)) (x1 : (List Int)) (x2 : Int) (x3 : (List Int)) (x4 : Int) (x5 : Int) : p0 (k + 1) x0 x1 x2 x3 x4 x5 = e0 k (p0 k) (p4 k) x0 x1 x2 x3 x4 x5 := rfl
theorem p4_succ (k : Nat) (x0 : (List Int)) (x1 : (List Int)) (x2 : (List Int)) (x3 : Int) (x4 : Int) (x5 : Int) : p4 (k + 1) x0 x1 x2 x3 x4 x5 = e4 k (p0 k) (p4 k) x0 x1 x2 x3 x4 x5 := rfl
def f (k : Nat) (a0 : (List Int)) (a1 : (List Int)) : Option ((List Int) × (List Int)) := e k (p0 k) (p4 k) a0 a1
end nat_long

namespace nat_Div
def e (k : Nat) (a0 : (List Int)) (a1 : (List Int)) : Option ((List Int) × (List Int) × Int) :=
  (Option.bind (nat_trim.f k a0) fun r1 =>
    (Option.bind (nat_trim.f k a1) fun r2 =>
      (bif (decide ((r2.length : Int) = (0 : Int))) then
        (some (([] : List Int), ([] : List Int), (11 : Int)))
      else
        (Option.bind (nat_Cmp.f k r1 r2) fun r3 =>
          (bif (decide (r3 < (0 : Int))) then
            (Option.bind (nat_own.f k r1) fun r4 =>
              (some (([] : List Int), r4, (0 : Int))))
          else
            (bif (decide ((r2.length : Int) = (1 : Int))) then
              (bif (decide ((0 : Int) < (r2.length : Int))) then
                (Option.bind (nat_short.f k r1 (nthD (0 : Int) r2 0)) fun r5 =>
                  (Option.bind (nat_own.f k r5.1) fun r6 =>
                    (Option.bind (nat_own.f k [r5.2]) fun r7 =>
                      (some (r6, r7, (0 : Int))))))
              else
                none)
            else
              (Option.bind (nat_long.f k r1 r2) fun r8 =>
                (some (r8.1, r8.2, (0 : Int))))))))))
def f (k : Nat) (a0 : (List Int)) (a1 : (List Int)) : Option ((List Int) × (List Int) × Int) := e k a0 a1
end nat_Div

namespace nat_Gcd
def e0 (k : Nat) (q0 : (List Int) → (List Int) → Option (List Int)) (b0 : (List Int)) (b1 : (List Int)) : Option (List Int) :=
  (bif (decide ((b1.length : Int) > (0 : Int))) then
    (Option.bind (nat_Div.f k b0 b1) fun r3 =>
      q0 b1 r3.2.1)
  else
    (some b0))
def e (k : Nat) (q0 : (List Int) → (List Int) → Option (List Int)) (a0 : (List Int)) (a1 : (List Int)) : Option (List Int) :=
  (Option.bind (nat_own.f k a0) fun r1 =>
    (Option.bind (nat_own.f k a1) fun r2 =>
      q0 r1 r2))
def pts : Nat → ((List Int) → (List Int) → Option (List Int))
  | 0 => fun _ _ => none
  | k + 1 => e0 k (pts k)
def p0 (k : Nat) : (List Int) → (List Int) → Option (List Int) := (pts k)
theorem p0_succ (k : Nat) (x0 : (List Int)) (x1 : (List Int)) : p0 (k + 1) x0 x1 = e0 k (p0 k) x0 x1 := rfl
def f (k : Nat) (a0 : (List Int)) (a1 : (List Int)) : Option (List Int) := e k (p0 k) a0 a1
end nat_Gcd

namespace whole_core
def e0 (_k : Nat) (q0 : (List Int) → Int → Option (List Int)) (q9 : (List Int) → Int → Option (List Int)) (b0 : (List Int)) (b1 : Int) : Option (List Int) :=
  (bif (decide (b1 > (0 : Int))) then
    (bif (decide (0 ≤ (IntKind.i64.wrap (b1 - (1 : Int)))) && decide ((IntKind.i64.wrap (b1 - (1 : Int))) < (b0.length : Int))) then
      (bif (decide ((nthD (0 : Int) b0 (Int.toNat (IntKind.i64.wrap (b1 - (1 : Int))))) = (0 : Int))) then
        q0 b0 (IntKind.i64.wrap (b1 - (1 : Int)))
      else
        q9 b0 b1)
    else
      none)
  else
    q9 b0 b1)
def e9 (_k : Nat) (_q0 : (List Int) → Int → Option (List Int)) (_q9 : (List Int) → Int → Option (List Int)) (b0 : (List Int)) (b1 : Int) : Option (List Int) :=
  (bif (decide (0 ≤ (0 : Int)) && decide ((0 : Int) ≤ b1) && decide (b1 ≤ b1) && decide (b1 ≤ (b0.length : Int))) then
    (some ((b0.take (Int.toNat b1)).drop (Int.toNat (0 : Int))))
  else
    none)
def e (_k : Nat) (q0 : (List Int) → Int → Option (List Int)) (_q9 : (List Int) → Int → Option (List Int)) (a0 : (List Int)) : Option (List Int) :=
  q0 a0 (a0.length : Int)
def pts : Nat → ((List Int) → Int → Option (List Int)) × ((List Int) → Int → Option (List Int))
  | 0 => (fun _ _ => none, fun _ _ => none)
  | k + 1 => (e0 k (pts k).1 (pts k).2, e9 k (pts k).1 (pts k).2)
def p0 (k : Nat) : (List Int) → Int → Option (List Int) := (pts k).1
def p9 (k : Nat) : (List Int) → Int → Option (List Int) := (pts k).2
theorem p0_succ (k : Nat) (x0 : (List Int)) (x1 : Int) : p0 (k + 1) x0 x1 = e0 k (p0 k) (p9 k) x0 x1 := rfl
theorem p9_succ (k : Nat) (x0 : (List Int)) (x1 : Int) : p9 (k + 1) x0 x1 = e9 k (p0 k) (p9 k) x0 x1 := rfl
def f (k : Nat) (a0 : (List Int)) : Option (List Int) := e k (p0 k) (p9 k) a0
end whole_core

namespace whole_Sign
def e (k : Nat) (a0 : (Bool × (List Int))) : Option Int :=
  (Option.bind (whole_core.f k a0.2) fun r1 =>
    (bif (decide ((r1.length : Int) = (0 : Int))) then
      (some (0 : Int))
    else
      (bif a0.1 then
        (some (-1 : Int))
      else
        (some (1 : Int)))))
def f (k : Nat) (a0 : (Bool × (List Int))) : Option Int := e k a0
end whole_Sign

namespace nat_Norm
def e (k : Nat) (a0 : (List Int)) : Option (List Int) :=
  (Option.bind (nat_own.f k a0) fun r1 =>
    (some r1))
def f (k : Nat) (a0 : (List Int)) : Option (List Int) := e k a0
end nat_Norm

namespace whole_signed
def e0 (_k : Nat) (q0 : (Bool × (List Int)) → (List Int) → Int → (List Int) → Int → Int → Option (Bool × (List Int))) (b0 : (Bool × (List Int))) (b1 : (List Int)) (b2 : Int) (b3 : (List Int)) (b4 : Int) (b5 : Int) : Option (Bool × (List Int)) :=
  (bif (decide (b5 < b4)) then
    (bif (decide (0 ≤ b5) && decide (b5 < (b3.length : Int))) then
      q0 b0 b1 (IntKind.i64.wrap (b2 * (nthD (0 : Int) b3 (Int.toNat b5)))) b3 b4 (IntKind.i64.wrap (b5 + (1 : Int)))
    else
      none)
  else
    (bif (decide (b2 < (0 : Int))) then
      (some ((decide ((b1.length : Int) > (0 : Int))), b1))
    else
      (some (false, b1))))
def e (k : Nat) (q0 : (Bool × (List Int)) → (List Int) → Int → (List Int) → Int → Int → Option (Bool × (List Int))) (a0 : (List Int)) (a1 : (List Int)) : Option (Bool × (List Int)) :=
  (Option.bind (nat_Norm.f k a0) fun r1 =>
    q0 (false, ([] : List Int)) r1 (1 : Int) a1 (a1.length : Int) (0 : Int))
def pts : Nat → ((Bool × (List Int)) → (List Int) → Int → (List Int) → Int → Int → Option (Bool × (List Int)))
  | 0 => fun _ _ _ _ _ _ => none
  | k + 1 => e0 k (pts k)
def p0 (k : Nat) : (Bool × (List Int)) → (List Int) → Int → (List Int) → Int → Int → Option (Bool × (List Int)) := (pts k)
theorem p0_succ (k : Nat) (x0 : (Bool × (List Int))) (x1 : (List Int)) (x2 : Int) (x3 : (List Int)) (x4 : Int) (x5 : Int) : p0 (k + 1) x0 x1 x2 x3 x4 x5 = e0 k (p0 k) x0 x1 x2 x3 x4 x5 := rfl
def f (k : Nat) (a0 : (List Int)) (a1 : (List Int)) : Option (Bool × (List Int)) := e k (p0 k) a0 a1
end whole_signed

namespace whole_Norm
def e (k : Nat) (a0 : (Bool × (List Int))) : Option (Bool × (List Int)) :=
  (Option.bind (whole_Sign.f k a0) fun r1 =>
    (Option.bind (whole_signed.f k a0.2 [r1]) fun r2 =>
      (some r2)))
def f (k : Nat) (a0 : (Bool × (List Int))) : Option (Bool × (List Int)) := e k a0
end whole_Norm

namespace ratio_made
def e (k : Nat) (a0 : (Bool × (List Int))) (a1 : (List Int)) : Option ((Bool × (List Int)) × (List Int)) :=
  (Option.bind (nat_Gcd.f k a0.2 a1) fun r1 =>
    (Option.bind (nat_Div.f k a0.2 r1) fun r2 =>
      (Option.bind (nat_Div.f k a1 r1) fun r3 =>
        (Option.bind (whole_Norm.f k (a0.1, r2.1)) fun r4 =>
          (some (r4, r3.1))))))
def f (k : Nat) (a0 : (Bool × (List Int))) (a1 : (List Int)) : Option ((Bool × (List Int)) × (List Int)) := e k a0 a1
end ratio_made

namespace ratio_Norm
def e (k : Nat) (a0 : ((Bool × (List Int)) × (List Int))) : Option ((Bool × (List Int)) × (List Int)) :=
  (Option.bind (nat_Bits.f k a0.2) fun r1 =>
    (bif (decide (r1 = (0 : Int))) then
      (some ((false, ([] : List Int)), [(1 : Int)]))
    else
      (Option.bind (ratio_made.f k a0.1 a0.2) fun r2 =>
        (some r2))))
def f (k : Nat) (a0 : ((Bool × (List Int)) × (List Int))) : Option ((Bool × (List Int)) × (List Int)) := e k a0
end ratio_Norm

namespace ratio_Sign
def e (k : Nat) (a0 : ((Bool × (List Int)) × (List Int))) : Option Int :=
  (Option.bind (ratio_Norm.f k a0) fun r1 =>
    (Option.bind (whole_Sign.f k r1.1) fun r2 =>
      (some r2)))
def f (k : Nat) (a0 : ((Bool × (List Int)) × (List Int))) : Option Int := e k a0
end ratio_Sign

namespace whole_Neg
def e (k : Nat) (a0 : (Bool × (List Int))) : Option (Bool × (List Int)) :=
  (Option.bind (whole_Sign.f k a0) fun r1 =>
    (Option.bind (whole_signed.f k a0.2 [(-1 : Int), r1]) fun r2 =>
      (some r2)))
def f (k : Nat) (a0 : (Bool × (List Int))) : Option (Bool × (List Int)) := e k a0
end whole_Neg

namespace ratio_Neg
def e (k : Nat) (a0 : ((Bool × (List Int)) × (List Int))) : Option ((Bool × (List Int)) × (List Int)) :=
  (Option.bind (ratio_Norm.f k a0) fun r1 =>
    (Option.bind (whole_Neg.f k r1.1) fun r2 =>
      (some (r2, r1.2))))
def f (k : Nat) (a0 : ((Bool × (List Int)) × (List Int))) : Option ((Bool × (List Int)) × (List Int)) := e k a0
end ratio_Neg

namespace ratio_Abs
def e (k : Nat) (a0 : ((Bool × (List Int)) × (List Int))) : Option ((Bool × (List Int)) × (List Int)) :=
  (Option.bind (ratio_Sign.f k a0) fun r1 =>
    (bif (decide (r1 < (0 : Int))) then
      (Option.bind (ratio_Neg.f k a0) fun r2 =>
        (some r2))
    else
      (Option.bind (ratio_Norm.f k a0) fun r3 =>
        (some r3))))
def f (k : Nat) (a0 : ((Bool × (List Int)) × (List Int))) : Option ((Bool × (List Int)) × (List Int)) := e k a0
end ratio_Abs

namespace math_Float64bits
def f (_k : Nat) (a0 : Nat) : Option Int := some (a0 : Int)
end math_Float64bits

namespace nat_Shift
def e5 (_k : Nat) (_q5 : Unit → Option ((List Int) × Int)) (_q0 : (List Int) → (List Int) → Int → Int → Int → Option ((List Int) × Int)) (_q39 : (List Int) → (List Int) → Int → Int → Int → Option ((List Int) × Int)) (_ : Unit) : Option ((List Int) × Int) :=
  (some (([] : List Int), (12 : Int)))
def e0 (k : Nat) (_q5 : Unit → Option ((List Int) × Int)) (_q0 : (List Int) → (List Int) → Int → Int → Int → Option ((List Int) × Int)) (q39 : (List Int) → (List Int) → Int → Int → Int → Option ((List Int) × Int)) (b0 : (List Int)) (b1 : (List Int)) (b2 : Int) (b3 : Int) (b4 : Int) : Option ((List Int) × Int) :=
  (bif (decide (b4 < b3)) then
    (bif (decide (0 ≤ b4) && decide (b4 < (b1.length : Int))) then
      (bif (decide (b2 < 0)) then
        none
      else
        (bif (decide (0 ≤ b4) && decide (b4 < (b0.length : Int))) then
          (bif (decide ((IntKind.i64.wrap (b4 + (1 : Int))) < (b1.length : Int))) then
            (bif (decide (0 ≤ b4) && decide (b4 < ((setN (Int.fdiv (nthD (0 : Int) b1 (Int.toNat b4)) (2 ^ min (Int.toNat b2) 32)) b0 (Int.toNat b4)).length : Int))) then
              (bif (decide (0 ≤ (IntKind.i64.wrap (b4 + (1 : Int)))) && decide ((IntKind.i64.wrap (b4 + (1 : Int))) < (b1.length : Int))) then
                (bif (decide ((IntKind.i64.wrap ((32 : Int) - b2)) < 0)) then
                  none
                else
                  (bif (decide (0 ≤ b4) && decide (b4 < ((setN (Int.fdiv (nthD (0 : Int) b1 (Int.toNat b4)) (2 ^ min (Int.toNat b2) 32)) b0 (Int.toNat b4)).length : Int))) then
                    q39 (setN (bitsI .or .u32 (nthD (0 : Int) (setN (Int.fdiv (nthD (0 : Int) b1 (Int.toNat b4)) (2 ^ min (Int.toNat b2) 32)) b0 (Int.toNat b4)) (Int.toNat b4)) (IntKind.u32.wrap (IntKind.u64.wrap ((IntKind.u64.wrap (nthD (0 : Int) b1 (Int.toNat (IntKind.i64.wrap (b4 + (1 : Int)))))) * 2 ^ min (Int.toNat (IntKind.i64.wrap ((32 : Int) - b2))) 64)))) (setN (Int.fdiv (nthD (0 : Int) b1 (Int.toNat b4)) (2 ^ min (Int.toNat b2) 32)) b0 (Int.toNat b4)) (Int.toNat b4)) b1 b2 b3 b4
                  else
                    none))
              else
                none)
            else
              none)
          else
            q39 (setN (Int.fdiv (nthD (0 : Int) b1 (Int.toNat b4)) (2 ^ min (Int.toNat b2) 32)) b0 (Int.toNat b4)) b1 b2 b3 b4)
        else
          none))
    else
      none)
  else
    (Option.bind (nat_own.f k b0) fun r4 =>
      (some (r4, (0 : Int)))))
def e39 (_k : Nat) (_q5 : Unit → Option ((List Int) × Int)) (q0 : (List Int) → (List Int) → Int → Int → Int → Option ((List Int) × Int)) (_q39 : (List Int) → (List Int) → Int → Int → Int → Option ((List Int) × Int)) (b0 : (List Int)) (b1 : (List Int)) (b2 : Int) (b3 : Int) (b4 : Int) : Option ((List Int) × Int) :=
  q0 b0 b1 b2 b3 (IntKind.i64.wrap (b4 + (1 : Int)))
def e (k : Nat) (q5 : Unit → Option ((List Int) × Int)) (q0 : (List Int) → (List Int) → Int → Int → Int → Option ((List Int) × Int)) (_q39 : (List Int) → (List Int) → Int → Int → Int → Option ((List Int) × Int)) (a0 : (List Int)) (a1 : Int) : Option ((List Int) × Int) :=
  (bif (decide (a1 < (-1048576 : Int))) then
    q5 ()
  else
    (bif (decide (a1 > (1048576 : Int))) then
      q5 ()
    else
      (Option.bind (nat_trim.f k a0) fun r1 =>
        (bif (decide (a1 ≥ (0 : Int))) then
          (bif (decide (0 ≤ (IntKind.i64.wrap ((IntKind.i64.wrap ((IntKind.i64.wrap (Int.tdiv a1 (32 : Int))) + (r1.length : Int))) + (1 : Int)))) && decide ((IntKind.i64.wrap ((IntKind.i64.wrap ((IntKind.i64.wrap (Int.tdiv a1 (32 : Int))) + (r1.length : Int))) + (1 : Int))) * 4 ≤ 281474976710656) && decide ((IntKind.i64.wrap ((IntKind.i64.wrap ((IntKind.i64.wrap (Int.tdiv a1 (32 : Int))) + (r1.length : Int))) + (1 : Int))) ≤ 9223372036854775807)) then
            (bif (decide (0 ≤ (IntKind.i64.wrap (Int.tdiv a1 (32 : Int)))) && decide ((IntKind.i64.wrap (Int.tdiv a1 (32 : Int))) ≤ ((List.replicate (Int.toNat (IntKind.i64.wrap ((IntKind.i64.wrap ((IntKind.i64.wrap (Int.tdiv a1 (32 : Int))) + (r1.length : Int))) + (1 : Int)))) (0 : Int)).length : Int)) && decide (((List.replicate (Int.toNat (IntKind.i64.wrap ((IntKind.i64.wrap ((IntKind.i64.wrap (Int.tdiv a1 (32 : Int))) + (r1.length : Int))) + (1 : Int)))) (0 : Int)).length : Int) ≤ ((List.replicate (Int.toNat (IntKind.i64.wrap ((IntKind.i64.wrap ((IntKind.i64.wrap (Int.tdiv a1 (32 : Int))) + (r1.length : Int))) + (1 : Int)))) (0 : Int)).length : Int))) then
              (bif (decide ((IntKind.i64.wrap (Int.tdiv a1 (32 : Int))) < ((List.replicate (Int.toNat (IntKind.i64.wrap ((IntKind.i64.wrap ((IntKind.i64.wrap (Int.tdiv a1 (32 : Int))) + (r1.length : Int))) + (1 : Int)))) (0 : Int)).length : Int))) then
                (Option.bind (nat_moved.f k r1 (Int.tmod a1 (32 : Int))) fun r2 =>
                  (Option.bind (nat_own.f k ((List.replicate (Int.toNat (IntKind.i64.wrap ((IntKind.i64.wrap ((IntKind.i64.wrap (Int.tdiv a1 (32 : Int))) + (r1.length : Int))) + (1 : Int)))) (0 : Int)).take (Int.toNat (IntKind.i64.wrap (Int.tdiv a1 (32 : Int)))) ++ (r2.take (Int.toNat (((List.replicate (Int.toNat (IntKind.i64.wrap ((IntKind.i64.wrap ((IntKind.i64.wrap (Int.tdiv a1 (32 : Int))) + (r1.length : Int))) + (1 : Int)))) (0 : Int)).length : Int) - (IntKind.i64.wrap (Int.tdiv a1 (32 : Int))))) ++ (List.replicate (Int.toNat (IntKind.i64.wrap ((IntKind.i64.wrap ((IntKind.i64.wrap (Int.tdiv a1 (32 : Int))) + (r1.length : Int))) + (1 : Int)))) (0 : Int)).drop ((Int.toNat (IntKind.i64.wrap (Int.tdiv a1 (32 : Int)))) + min r2.length (Int.toNat (((List.replicate (Int.toNat (IntKind.i64.wrap ((IntKind.i64.wrap ((IntKind.i64.wrap (Int.tdiv a1 (32 : Int))) + (r1.length : Int))) + (1 : Int)))) (0 : Int)).length : Int) - (IntKind.i64.wrap (Int.tdiv a1 (32 : Int))))))))) fun r3 =>
                    (some (r3, (0 : Int)))))
              else
                none)
            else
              none)
          else
            none)
        else
          (bif (decide ((IntKind.i64.wrap (Int.tdiv (IntKind.i64.wrap (0 - a1)) (32 : Int))) ≥ (r1.length : Int))) then
            (some (([] : List Int), (0 : Int)))
          else
            (bif (decide (0 ≤ (IntKind.i64.wrap (Int.tdiv (IntKind.i64.wrap (0 - a1)) (32 : Int)))) && decide ((IntKind.i64.wrap (Int.tdiv (IntKind.i64.wrap (0 - a1)) (32 : Int))) ≤ (r1.length : Int)) && decide ((r1.length : Int) ≤ (r1.length : Int))) then
              (bif (decide (0 ≤ (((r1.take (Int.toNat (r1.length : Int))).drop (Int.toNat (IntKind.i64.wrap (Int.tdiv (IntKind.i64.wrap (0 - a1)) (32 : Int))))).length : Int)) && decide ((((r1.take (Int.toNat (r1.length : Int))).drop (Int.toNat (IntKind.i64.wrap (Int.tdiv (IntKind.i64.wrap (0 - a1)) (32 : Int))))).length : Int) * 4 ≤ 281474976710656) && decide ((((r1.take (Int.toNat (r1.length : Int))).drop (Int.toNat (IntKind.i64.wrap (Int.tdiv (IntKind.i64.wrap (0 - a1)) (32 : Int))))).length : Int) ≤ 9223372036854775807)) then
                q0 (List.replicate (Int.toNat (((r1.take (Int.toNat (r1.length : Int))).drop (Int.toNat (IntKind.i64.wrap (Int.tdiv (IntKind.i64.wrap (0 - a1)) (32 : Int))))).length : Int)) (0 : Int)) ((r1.take (Int.toNat (r1.length : Int))).drop (Int.toNat (IntKind.i64.wrap (Int.tdiv (IntKind.i64.wrap (0 - a1)) (32 : Int))))) (Int.tmod (IntKind.i64.wrap (0 - a1)) (32 : Int)) (((r1.take (Int.toNat (r1.length : Int))).drop (Int.toNat (IntKind.i64.wrap (Int.tdiv (IntKind.i64.wrap (0 - a1)) (32 : Int))))).length : Int) (0 : Int)
              else
                none)
            else
              none))))))
def pts : Nat → (Unit → Option ((List Int) × Int)) × ((List Int) → (List Int) → Int → Int → Int → Option ((List Int) × Int)) × ((List Int) → (List Int) → Int → Int → Int → Option ((List Int) × Int))
  | 0 => (fun _ => none, fun _ _ _ _ _ => none, fun _ _ _ _ _ => none)
  | k + 1 => (e5 k (pts k).1 (pts k).2.1 (pts k).2.2, e0 k (pts k).1 (pts k).2.1 (pts k).2.2, e39 k (pts k).1 (pts k).2.1 (pts k).2.2)
def p5 (k : Nat) : Unit → Option ((List Int) × Int) := (pts k).1
def p0 (k : Nat) : (List Int) → (List Int) → Int → Int → Int → Option ((List Int) × Int) := (pts k).2.1
def p39 (k : Nat) : (List Int) → (List Int) → Int → Int → Int → Option ((List Int) × Int) := (pts k).2.2
theorem p5_succ (k : Nat) (x0 : Unit) : p5 (k + 1) x0 = e5 k (p5 k) (p0 k) (p39 k) x0 := rfl
theorem p0_succ (k : Nat) (x0 : (List Int)) (x1 : (List Int)) (x2 : Int) (x3 : Int) (x4 : Int) : p0 (k + 1) x0 x1 x2 x3 x4 = e0 k (p5 k) (p0 k) (p39 k) x0 x1 x2 x3 x4 := rfl
theorem p39_succ (k : Nat) (x0 : (List Int)) (x1 : (List Int)) (x2 : Int) (x3 : Int) (x4 : Int) : p39 (k + 1) x0 x1 x2 x3 x4 = e39 k (p5 k) (p0 k) (p39 k) x0 x1 x2 x3 x4 := rfl
def f (k : Nat) (a0 : (List Int)) (a1 : Int) : Option ((List Int) × Int) := e k (p5 k) (p0 k) (p39 k) a0 a1
end nat_Shift

namespace approx_cut
def e9 (k : Nat) (_q9 : (List Int) → (List Int) → Option ((List Int) × (List Int) × (List Int))) (b0 : (List Int)) (b1 : (List Int)) : Option ((List Int) × (List Int) × (List Int)) :=
  (Option.bind (nat_Div.f k b0 b1) fun r3 =>
    (some (r3.1, r3.2.1, b1)))
def e (k : Nat) (q9 : (List Int) → (List Int) → Option ((List Int) × (List Int) × (List Int))) (a0 : (List Int)) (a1 : (List Int)) (a2 : Int) : Option ((List Int) × (List Int) × (List Int)) :=
  (bif (decide (a2 < (0 : Int))) then
    (Option.bind (nat_Shift.f k a0 (IntKind.i64.wrap (0 - a2))) fun r1 =>
      q9 r1.1 a1)
  else
    (Option.bind (nat_Shift.f k a1 a2) fun r2 =>
      q9 a0 r2.1))
def pts : Nat → ((List Int) → (List Int) → Option ((List Int) × (List Int) × (List Int)))
  | 0 => fun _ _ => none
  | k + 1 => e9 k (pts k)
def p9 (k : Nat) : (List Int) → (List Int) → Option ((List Int) × (List Int) × (List Int)) := (pts k)
theorem p9_succ (k : Nat) (x0 : (List Int)) (x1 : (List Int)) : p9 (k + 1) x0 x1 = e9 k (p9 k) x0 x1 := rfl
def f (k : Nat) (a0 : (List Int)) (a1 : (List Int)) (a2 : Int) : Option ((List Int) × (List Int) × (List Int)) := e k (p9 k) a0 a1 a2
end approx_cut

namespace nat_Small
def e0 (_k : Nat) (q0 : (List Int) → Int → Int → Int → Option (Int × Bool)) (b0 : (List Int)) (b1 : Int) (b2 : Int) (b3 : Int) : Option (Int × Bool) :=
  (bif (decide (b3 < b2)) then
    (bif (decide (0 ≤ b3) && decide (b3 < (b0.length : Int))) then
      (bif (decide ((IntKind.i64.wrap ((32 : Int) * b3)) < 0)) then
        none
      else
        q0 b0 (bitsI .or .u64 b1 (IntKind.u64.wrap ((IntKind.u64.wrap (nthD (0 : Int) b0 (Int.toNat b3))) * 2 ^ min (Int.toNat (IntKind.i64.wrap ((32 : Int) * b3))) 64))) b2 (IntKind.i64.wrap (b3 + (1 : Int))))
    else
      none)
  else
    (some (b1, true)))
def e (k : Nat) (q0 : (List Int) → Int → Int → Int → Option (Int × Bool)) (a0 : (List Int)) : Option (Int × Bool) :=
  (Option.bind (nat_trim.f k a0) fun r1 =>
    (bif (decide ((r1.length : Int) > (2 : Int))) then
      (some ((0 : Int), false))
    else
      q0 r1 (0 : Int) (r1.length : Int) (0 : Int)))
def pts : Nat → ((List Int) → Int → Int → Int → Option (Int × Bool))
  | 0 => fun _ _ _ _ => none
  | k + 1 => e0 k (pts k)
def p0 (k : Nat) : (List Int) → Int → Int → Int → Option (Int × Bool) := (pts k)
theorem p0_succ (k : Nat) (x0 : (List Int)) (x1 : Int) (x2 : Int) (x3 : Int) : p0 (k + 1) x0 x1 x2 x3 = e0 k (p0 k) x0 x1 x2 x3 := rfl
def f (k : Nat) (a0 : (List Int)) : Option (Int × Bool) := e k (p0 k) a0
end nat_Small

namespace nat_Add
def e7 (_k : Nat) (_q7 : (List Int) → (List Int) → Option (List Int)) (q0 : (List Int) → (List Int) → (List Int) → Int → Int → Int → Option (List Int)) (_q23 : (List Int) → (List Int) → (List Int) → Int → Int → Int → Int → Int → Option (List Int)) (b0 : (List Int)) (b1 : (List Int)) : Option (List Int) :=
  (bif (decide (0 ≤ (IntKind.i64.wrap ((b0.length : Int) + (1 : Int)))) && decide ((IntKind.i64.wrap ((b0.length : Int) + (1 : Int))) * 4 ≤ 281474976710656) && decide ((IntKind.i64.wrap ((b0.length : Int) + (1 : Int))) ≤ 9223372036854775807)) then
    q0 (List.replicate (Int.toNat (IntKind.i64.wrap ((b0.length : Int) + (1 : Int)))) (0 : Int)) b0 b1 (0 : Int) (b0.length : Int) (0 : Int)
  else
    none)
def e0 (k : Nat) (_q7 : (List Int) → (List Int) → Option (List Int)) (_q0 : (List Int) → (List Int) → (List Int) → Int → Int → Int → Option (List Int)) (q23 : (List Int) → (List Int) → (List Int) → Int → Int → Int → Int → Int → Option (List Int)) (b0 : (List Int)) (b1 : (List Int)) (b2 : (List Int)) (b3 : Int) (b4 : Int) (b5 : Int) : Option (List Int) :=
  (bif (decide (b5 < b4)) then
    (bif (decide (b5 < (b2.length : Int))) then
      (bif (decide (0 ≤ b5) && decide (b5 < (b2.length : Int))) then
        q23 b0 b1 b2 b3 b5 (nthD (0 : Int) b2 (Int.toNat b5)) b4 b5
      else
        none)
    else
      q23 b0 b1 b2 b3 b5 (0 : Int) b4 b5)
  else
    (bif (decide (0 ≤ (b1.length : Int)) && decide ((b1.length : Int) < (b0.length : Int))) then
      (Option.bind (nat_own.f k (setN b3 b0 (Int.toNat (b1.length : Int)))) fun r1 =>
        (some r1))
    else
      none))
def e23 (k : Nat) (_q7 : (List Int) → (List Int) → Option (List Int)) (q0 : (List Int) → (List Int) → (List Int) → Int → Int → Int → Option (List Int)) (_q23 : (List Int) → (List Int) → (List Int) → Int → Int → Int → Int → Int → Option (List Int)) (b0 : (List Int)) (b1 : (List Int)) (b2 : (List Int)) (b3 : Int) (b4 : Int) (b5 : Int) (b6 : Int) (b7 : Int) : Option (List Int) :=
  (bif (decide (0 ≤ b4) && decide (b4 < (b1.length : Int))) then
    (Option.bind (bits_Add32.f k (nthD (0 : Int) b1 (Int.toNat b4)) b5 b3) fun r2 =>
      (bif (decide (0 ≤ b4) && decide (b4 < (b0.length : Int))) then
        q0 (setN r2.1 b0 (Int.toNat b4)) b1 b2 r2.2 b6 (IntKind.i64.wrap (b7 + (1 : Int)))
      else
        none))
  else
    none)
def e (_k : Nat) (q7 : (List Int) → (List Int) → Option (List Int)) (_q0 : (List Int) → (List Int) → (List Int) → Int → Int → Int → Option (List Int)) (_q23 : (List Int) → (List Int) → (List Int) → Int → Int → Int → Int → Int → Option (List Int)) (a0 : (List Int)) (a1 : (List Int)) : Option (List Int) :=
  (bif (decide ((a0.length : Int) < (a1.length : Int))) then
    q7 a1 a0
  else
    q7 a0 a1)
def pts : Nat → ((List Int) → (List Int) → Option (List Int)) × ((List Int) → (List Int) → (List Int) → Int → Int → Int → Option (List Int)) × ((List Int) → (List Int) → (List Int) → Int → Int → Int → Int → Int → Option (List Int))
  | 0 => (fun _ _ => none, fun _ _ _ _ _ _ => none, fun _ _ _ _ _ _ _ _ => none)
  | k + 1 => (e7 k (pts k).1 (pts k).2.1 (pts k).2.2, e0 k (pts k).1 (pts k).2.1 (pts k).2.2, e23 k (pts k).1 (pts k).2.1 (pts k).2.2)
def p7 (k : Nat) : (List Int) → (List Int) → Option (List Int) := (pts k).1
def p0 (k : Nat) : (List Int) → (List Int) → (List Int) → Int → Int → Int → Option (List Int) := (pts k).2.1
def p23 (k : Nat) : (List Int) → (List Int) → (List Int) → Int → Int → Int → Int → Int → Option (List Int) := (pts k).2.2
theorem p7_succ (k : Nat) (x0 : (List Int)) (x1 : (List Int)) : p7 (k + 1) x0 x1 = e7 k (p7 k) (p0 k) (p23 k) x0 x1 := rfl
theorem p0_succ (k : Nat) (x0 : (List Int)) (x1 : (List Int)) (x2 : (List Int)) (x3 : Int) (x4 : Int) (x5 : Int) : p0 (k + 1) x0 x1 x2 x3 x4 x5 = e0 k (p7 k) (p0 k) (p23 k) x0 x1 x2 x3 x4 x5 := rfl
theorem p23_succ (k : Nat) (x0 : (List Int)) (x1 : (List Int)) (x2 : (List Int)) (x3 : Int) (x4 : Int) (x5 : Int) (x6 : Int) (x7 : Int) : p23 (k + 1) x0 x1 x2 x3 x4 x5 x6 x7 = e23 k (p7 k) (p0 k) (p23 k) x0 x1 x2 x3 x4 x5 x6 x7 := rfl
def f (k : Nat) (a0 : (List Int)) (a1 : (List Int)) : Option (List Int) := e k (p7 k) (p0 k) (p23 k) a0 a1
end nat_Add

namespace approx_rounded
def e29 (k : Nat) (_q29 : Int → (List Int) → (List Int) → (List Int) → Option (Int × Int)) (q41 : (List Int) → (List Int) → Int → Option (Int × Int)) (b0 : Int) (b1 : (List Int)) (b2 : (List Int)) (b3 : (List Int)) : Option (Int × Int) :=
  (bif (decide (b0 > (971 : Int))) then
    (Option.bind (math_Float64bits.f k (9218868437227405311 : Nat)) fun r8 =>
      (some (r8, (2 : Int))))
  else
    (Option.bind (nat_Small.f k b1) fun r9 =>
      (bif (decide (r9.1 ≥ (4503599627370496 : Int))) then
        q41 b2 b3 (IntKind.u64.wrap ((IntKind.u64.wrap (r9.1 - (4503599627370496 : Int))) + (IntKind.u64.wrap ((IntKind.u64.wrap (IntKind.i64.wrap ((IntKind.i64.wrap (b0 - (-1074 : Int))) + (1 : Int)))) * 2 ^ 52))))
      else
        q41 b2 b3 r9.1)))
def e41 (k : Nat) (_q29 : Int → (List Int) → (List Int) → (List Int) → Option (Int × Int)) (_q41 : (List Int) → (List Int) → Int → Option (Int × Int)) (b0 : (List Int)) (b1 : (List Int)) (b2 : Int) : Option (Int × Int) :=
  (bif (decide ((b0.length : Int) = (0 : Int))) then
    (some (b2, (-1 : Int)))
  else
    (Option.bind (nat_Add.f k b0 b0) fun r10 =>
      (Option.bind (nat_Cmp.f k r10 b1) fun r11 =>
        (some (b2, (IntKind.i64.wrap ((1 : Int) + r11)))))))
def e (k : Nat) (q29 : Int → (List Int) → (List Int) → (List Int) → Option (Int × Int)) (_q41 : (List Int) → (List Int) → Int → Option (Int × Int)) (a0 : ((Bool × (List Int)) × (List Int))) : Option (Int × Int) :=
  (Option.bind (ratio_Sign.f k a0) fun r1 =>
    (bif (decide (r1 = (0 : Int))) then
      (some ((0 : Int), (-1 : Int)))
    else
      (Option.bind (nat_Bits.f k a0.1.2) fun r2 =>
        (Option.bind (nat_Bits.f k a0.2) fun r3 =>
          (bif (decide ((IntKind.i64.wrap (r2 - r3)) > (1075 : Int))) then
            (Option.bind (math_Float64bits.f k (9218868437227405311 : Nat)) fun r4 =>
              (some (r4, (2 : Int))))
          else
            (bif (decide ((IntKind.i64.wrap (r2 - r3)) < (-1126 : Int))) then
              (some ((0 : Int), (0 : Int)))
            else
              (Option.bind (approx_cut.f k a0.1.2 a0.2 (bif decide ((-1074 : Int) > (IntKind.i64.wrap ((IntKind.i64.wrap ((IntKind.i64.wrap (r2 - r3)) - (52 : Int))) - (1 : Int)))) then (-1074 : Int) else (IntKind.i64.wrap ((IntKind.i64.wrap ((IntKind.i64.wrap (r2 - r3)) - (52 : Int))) - (1 : Int))))) fun r5 =>
                (Option.bind (nat_Bits.f k r5.1) fun r6 =>
                  (bif (decide (r6 > (53 : Int))) then
                    (Option.bind (approx_cut.f k a0.1.2 a0.2 (IntKind.i64.wrap ((bif decide ((-1074 : Int) > (IntKind.i64.wrap ((IntKind.i64.wrap ((IntKind.i64.wrap (r2 - r3)) - (52 : Int))) - (1 : Int)))) then (-1074 : Int) else (IntKind.i64.wrap ((IntKind.i64.wrap ((IntKind.i64.wrap (r2 - r3)) - (52 : Int))) - (1 : Int)))) + (1 : Int)))) fun r7 =>
                      q29 (IntKind.i64.wrap ((bif decide ((-1074 : Int) > (IntKind.i64.wrap ((IntKind.i64.wrap ((IntKind.i64.wrap (r2 - r3)) - (52 : Int))) - (1 : Int)))) then (-1074 : Int) else (IntKind.i64.wrap ((IntKind.i64.wrap ((IntKind.i64.wrap (r2 - r3)) - (52 : Int))) - (1 : Int)))) + (1 : Int))) r7.1 r7.2.1 r7.2.2)
                  else
                    q29 (bif decide ((-1074 : Int) > (IntKind.i64.wrap ((IntKind.i64.wrap ((IntKind.i64.wrap (r2 - r3)) - (52 : Int))) - (1 : Int)))) then (-1074 : Int) else (IntKind.i64.wrap ((IntKind.i64.wrap ((IntKind.i64.wrap (r2 - r3)) - (52 : Int))) - (1 : Int)))) r5.1 r5.2.1 r5.2.2)))))))))
def pts : Nat → (Int → (List Int) → (List Int) → (List Int) → Option (Int × Int)) × ((List Int) → (List Int) → Int → Option (Int × Int))
  | 0 => (fun _ _ _ _ => none, fun _ _ _ => none)
  | k + 1 => (e29 k (pts k).1 (pts k).2, e41 k (pts k).1 (pts k).2)
def p29 (k : Nat) : Int → (List Int) → (List Int) → (List Int) → Option (Int × Int) := (pts k).1
def p41 (k : Nat) : (List Int) → (List Int) → Int → Option (Int × Int) := (pts k).2
theorem p29_succ (k : Nat) (x0 : Int) (x1 : (List Int)) (x2 : (List Int)) (x3 : (List Int)) : p29 (k + 1) x0 x1 x2 x3 = e29 k (p29 k) (p41 k) x0 x1 x2 x3 := rfl
theorem p41_succ (k : Nat) (x0 : (List Int)) (x1 : (List Int)) (x2 : Int) : p41 (k + 1) x0 x1 x2 = e41 k (p29 k) (p41 k) x0 x1 x2 := rfl
def f (k : Nat) (a0 : ((Bool × (List Int)) × (List Int))) : Option (Int × Int) := e k (p29 k) (p41 k) a0
end approx_rounded

namespace math_Float64frombits
def f (_k : Nat) (a0 : Int) : Option Nat := some a0.toNat
end math_Float64frombits

namespace approx_float
def e7 (k : Nat) (_q7 : Int → Option Nat) (b0 : Int) : Option Nat :=
  (Option.bind (math_Float64frombits.f k b0) fun r1 =>
    (some r1))
def e (_k : Nat) (q7 : Int → Option Nat) (a0 : Int) (a1 : Int) : Option Nat :=
  (bif (decide (a1 < (0 : Int))) then
    q7 (bitsI .or .u64 a0 (9223372036854775808 : Int))
  else
    q7 a0)
def pts : Nat → (Int → Option Nat)
  | 0 => fun _ => none
  | k + 1 => e7 k (pts k)
def p7 (k : Nat) : Int → Option Nat := (pts k)
theorem p7_succ (k : Nat) (x0 : Int) : p7 (k + 1) x0 = e7 k (p7 k) x0 := rfl
def f (k : Nat) (a0 : Int) (a1 : Int) : Option Nat := e k (p7 k) a0 a1
end approx_float

namespace approx_toward
def e9 (k : Nat) (_q9 : ((Bool × (List Int)) × (List Int)) → Int → Option Nat) (b0 : ((Bool × (List Int)) × (List Int))) (b1 : Int) : Option Nat :=
  (Option.bind (ratio_Sign.f k b0) fun r3 =>
    (Option.bind (approx_float.f k b1 r3) fun r4 =>
      (some r4)))
def e (k : Nat) (q9 : ((Bool × (List Int)) × (List Int)) → Int → Option Nat) (a0 : ((Bool × (List Int)) × (List Int))) (a1 : Bool) : Option Nat :=
  (Option.bind (ratio_Abs.f k a0) fun r1 =>
    (Option.bind (approx_rounded.f k r1) fun r2 =>
      (bif a1 then
        (bif (decide (r2.2 ≥ (0 : Int))) then
          q9 a0 (IntKind.u64.wrap (r2.1 + (1 : Int)))
        else
          q9 a0 r2.1)
      else
        q9 a0 r2.1)))
def pts : Nat → (((Bool × (List Int)) × (List Int)) → Int → Option Nat)
  | 0 => fun _ _ => none
  | k + 1 => e9 k (pts k)
def p9 (k : Nat) : ((Bool × (List Int)) × (List Int)) → Int → Option Nat := (pts k)
theorem p9_succ (k : Nat) (x0 : ((Bool × (List Int)) × (List Int))) (x1 : Int) : p9 (k + 1) x0 x1 = e9 k (p9 k) x0 x1 := rfl
def f (k : Nat) (a0 : ((Bool × (List Int)) × (List Int))) (a1 : Bool) : Option Nat := e k (p9 k) a0 a1
end approx_toward

namespace approx_Down
def e (k : Nat) (a0 : ((Bool × (List Int)) × (List Int))) : Option Nat :=
  (Option.bind (ratio_Sign.f k a0) fun r1 =>
    (Option.bind (approx_toward.f k a0 (decide (r1 < (0 : Int)))) fun r2 =>
      (some r2)))
def f (k : Nat) (a0 : ((Bool × (List Int)) × (List Int))) : Option Nat := e k a0
end approx_Down

namespace approx_Up
def e (k : Nat) (a0 : ((Bool × (List Int)) × (List Int))) : Option Nat :=
  (Option.bind (ratio_Sign.f k a0) fun r1 =>
    (Option.bind (approx_toward.f k a0 (decide (r1 > (0 : Int)))) fun r2 =>
      (some r2)))
def f (k : Nat) (a0 : ((Bool × (List Int)) × (List Int))) : Option Nat := e k a0
end approx_Up

namespace approx_Around
def e (k : Nat) (a0 : ((Bool × (List Int)) × (List Int))) : Option (Nat × Nat) :=
  (Option.bind (approx_Down.f k a0) fun r1 =>
    (Option.bind (approx_Up.f k a0) fun r2 =>
      (some (r1, r2))))
def f (k : Nat) (a0 : ((Bool × (List Int)) × (List Int))) : Option (Nat × Nat) := e k a0
end approx_Around

namespace ref01_Bit
def e (_k : Nat) (a0 : (List Int)) (a1 : Int) : Option Bool :=
  (bif (decide (a1 ≥ (0 : Int))) then
    (bif (decide ((IntKind.i64.wrap (Int.tdiv a1 (32 : Int))) < (a0.length : Int))) then
      (bif (decide (0 ≤ (IntKind.i64.wrap (Int.tdiv a1 (32 : Int)))) && decide ((IntKind.i64.wrap (Int.tdiv a1 (32 : Int))) < (a0.length : Int))) then
        (bif (decide ((IntKind.u64.wrap (Int.tmod a1 (32 : Int))) < 0)) then
          none
        else
          (some (decide ((bitsI .and .u32 (Int.fdiv (nthD (0 : Int) a0 (Int.toNat (IntKind.i64.wrap (Int.tdiv a1 (32 : Int))))) (2 ^ min (Int.toNat (IntKind.u64.wrap (Int.tmod a1 (32 : Int)))) 32)) (1 : Int)) = (1 : Int)))))
      else
        none)
    else
      (some false))
  else
    (some false))
def f (k : Nat) (a0 : (List Int)) (a1 : Int) : Option Bool := e k a0 a1
end ref01_Bit

namespace ref01_Bits
def e0 (k : Nat) (q0 : (List Int) → Int → Option Int) (b0 : (List Int)) (b1 : Int) : Option Int :=
  (bif (decide (b1 ≥ (0 : Int))) then
    (Option.bind (ref01_Bit.f k b0 b1) fun r1 =>
      (bif r1 then
        (some (IntKind.i64.wrap (b1 + (1 : Int))))
      else
        q0 b0 (IntKind.i64.wrap (b1 - (1 : Int)))))
  else
    (some (0 : Int)))
def e (_k : Nat) (q0 : (List Int) → Int → Option Int) (a0 : (List Int)) : Option Int :=
  q0 a0 (IntKind.i64.wrap ((IntKind.i64.wrap ((32 : Int) * (a0.length : Int))) - (1 : Int)))
def pts : Nat → ((List Int) → Int → Option Int)
  | 0 => fun _ _ => none
  | k + 1 => e0 k (pts k)
def p0 (k : Nat) : (List Int) → Int → Option Int := (pts k)
theorem p0_succ (k : Nat) (x0 : (List Int)) (x1 : Int) : p0 (k + 1) x0 x1 = e0 k (p0 k) x0 x1 := rfl
def f (k : Nat) (a0 : (List Int)) : Option Int := e k (p0 k) a0
end ref01_Bits

namespace ref04_amount
def e9 (_k : Nat) (_q9 : ((Bool × (List Int)) × (List Int)) → ((Bool × (List Int)) × (List Int)) → Option (((Bool × (List Int)) × (List Int)) × Int)) (_b0 : ((Bool × (List Int)) × (List Int))) (b1 : ((Bool × (List Int)) × (List Int))) : Option (((Bool × (List Int)) × (List Int)) × Int) :=
  (some (b1, (0 : Int)))
def e (k : Nat) (q9 : ((Bool × (List Int)) × (List Int)) → ((Bool × (List Int)) × (List Int)) → Option (((Bool × (List Int)) × (List Int)) × Int)) (a0 : ((Bool × (List Int)) × (List Int))) : Option (((Bool × (List Int)) × (List Int)) × Int) :=
  (bif a0.1.1 then
    (Option.bind (ref01_Bits.f k a0.1.2) fun r1 =>
      (bif (decide (r1 > (0 : Int))) then
        (Option.bind (ref01_Bits.f k a0.2) fun r2 =>
          (bif (decide (r2 > (0 : Int))) then
            (some (((false, a0.1.2), a0.2), (9223372036854775808 : Int)))
          else
            q9 ((false, ([] : List Int)), ([] : List Int)) ((false, a0.1.2), a0.2)))
      else
        q9 ((false, ([] : List Int)), ([] : List Int)) ((false, a0.1.2), a0.2)))
  else
    q9 ((false, ([] : List Int)), ([] : List Int)) ((false, a0.1.2), a0.2))
def pts : Nat → (((Bool × (List Int)) × (List Int)) → ((Bool × (List Int)) × (List Int)) → Option (((Bool × (List Int)) × (List Int)) × Int))
  | 0 => fun _ _ => none
  | k + 1 => e9 k (pts k)
def p9 (k : Nat) : ((Bool × (List Int)) × (List Int)) → ((Bool × (List Int)) × (List Int)) → Option (((Bool × (List Int)) × (List Int)) × Int) := (pts k)
theorem p9_succ (k : Nat) (x0 : ((Bool × (List Int)) × (List Int))) (x1 : ((Bool × (List Int)) × (List Int))) : p9 (k + 1) x0 x1 = e9 k (p9 k) x0 x1 := rfl
def f (k : Nat) (a0 : ((Bool × (List Int)) × (List Int))) : Option (((Bool × (List Int)) × (List Int)) × Int) := e k (p9 k) a0
end ref04_amount

namespace ref01_Norm
def e0 (_k : Nat) (q0 : (List Int) → Int → Option (List Int)) (q9 : (List Int) → Int → Option (List Int)) (_q4 : (List Int) → (List Int) → Int → Int → Option (List Int)) (b0 : (List Int)) (b1 : Int) : Option (List Int) :=
  (bif (decide (b1 > (0 : Int))) then
    (bif (decide (0 ≤ (IntKind.i64.wrap (b1 - (1 : Int)))) && decide ((IntKind.i64.wrap (b1 - (1 : Int))) < (b0.length : Int))) then
      (bif (decide ((nthD (0 : Int) b0 (Int.toNat (IntKind.i64.wrap (b1 - (1 : Int))))) = (0 : Int))) then
        q0 b0 (IntKind.i64.wrap (b1 - (1 : Int)))
      else
        q9 b0 b1)
    else
      none)
  else
    q9 b0 b1)
def e9 (_k : Nat) (_q0 : (List Int) → Int → Option (List Int)) (_q9 : (List Int) → Int → Option (List Int)) (q4 : (List Int) → (List Int) → Int → Int → Option (List Int)) (b0 : (List Int)) (b1 : Int) : Option (List Int) :=
  (bif (decide (0 ≤ b1) && decide (b1 * 4 ≤ 281474976710656) && decide (b1 ≤ 9223372036854775807)) then
    q4 (List.replicate (Int.toNat b1) (0 : Int)) b0 b1 (0 : Int)
  else
    none)
def e4 (_k : Nat) (_q0 : (List Int) → Int → Option (List Int)) (_q9 : (List Int) → Int → Option (List Int)) (q4 : (List Int) → (List Int) → Int → Int → Option (List Int)) (b0 : (List Int)) (b1 : (List Int)) (b2 : Int) (b3 : Int) : Option (List Int) :=
  (bif (decide (b3 < b2)) then
    (bif (decide (0 ≤ b3) && decide (b3 < (b1.length : Int))) then
      (bif (decide (0 ≤ b3) && decide (b3 < (b0.length : Int))) then
        q4 (setN (nthD (0 : Int) b1 (Int.toNat b3)) b0 (Int.toNat b3)) b1 b2 (IntKind.i64.wrap (b3 + (1 : Int)))
      else
        none)
    else
      none)
  else
    (some b0))
def e (_k : Nat) (q0 : (List Int) → Int → Option (List Int)) (_q9 : (List Int) → Int → Option (List Int)) (_q4 : (List Int) → (List Int) → Int → Int → Option (List Int)) (a0 : (List Int)) : Option (List Int) :=
  q0 a0 (a0.length : Int)
def pts : Nat → ((List Int) → Int → Option (List Int)) × ((List Int) → Int → Option (List Int)) × ((List Int) → (List Int) → Int → Int → Option (List Int))
  | 0 => (fun _ _ => none, fun _ _ => none, fun _ _ _ _ => none)
  | k + 1 => (e0 k (pts k).1 (pts k).2.1 (pts k).2.2, e9 k (pts k).1 (pts k).2.1 (pts k).2.2, e4 k (pts k).1 (pts k).2.1 (pts k).2.2)
def p0 (k : Nat) : (List Int) → Int → Option (List Int) := (pts k).1
def p9 (k : Nat) : (List Int) → Int → Option (List Int) := (pts k).2.1
def p4 (k : Nat) : (List Int) → (List Int) → Int → Int → Option (List Int) := (pts k).2.2
theorem p0_succ (k : Nat) (x0 : (List Int)) (x1 : Int) : p0 (k + 1) x0 x1 = e0 k (p0 k) (p9 k) (p4 k) x0 x1 := rfl
theorem p9_succ (k : Nat) (x0 : (List Int)) (x1 : Int) : p9 (k + 1) x0 x1 = e9 k (p0 k) (p9 k) (p4 k) x0 x1 := rfl
theorem p4_succ (k : Nat) (x0 : (List Int)) (x1 : (List Int)) (x2 : Int) (x3 : Int) : p4 (k + 1) x0 x1 x2 x3 = e4 k (p0 k) (p9 k) (p4 k) x0 x1 x2 x3 := rfl
def f (k : Nat) (a0 : (List Int)) : Option (List Int) := e k (p0 k) (p9 k) (p4 k) a0
end ref01_Norm

namespace ref01_Shift
def e5 (_k : Nat) (_q5 : Unit → Option ((List Int) × Int)) (_q17 : (List Int) → Int → Int → Option ((List Int) × Int)) (_q29 : (List Int) → (List Int) → Int → Int → Int → Option ((List Int) × Int)) (_q0 : (List Int) → (List Int) → Int → Int → Int → Int → Option ((List Int) × Int)) (_q41 : (List Int) → (List Int) → Int → Int → Int → Int → Int → Option ((List Int) × Int)) (_q33 : (List Int) → (List Int) → Int → Int → Int → Int → Option ((List Int) × Int)) (_ : Unit) : Option ((List Int) × Int) :=
  (some (([] : List Int), (12 : Int)))
def e17 (_k : Nat) (_q5 : Unit → Option ((List Int) × Int)) (_q17 : (List Int) → Int → Int → Option ((List Int) × Int)) (q29 : (List Int) → (List Int) → Int → Int → Int → Option ((List Int) × Int)) (_q0 : (List Int) → (List Int) → Int → Int → Int → Int → Option ((List Int) × Int)) (_q41 : (List Int) → (List Int) → Int → Int → Int → Int → Int → Option ((List Int) × Int)) (_q33 : (List Int) → (List Int) → Int → Int → Int → Int → Option ((List Int) × Int)) (b0 : (List Int)) (b1 : Int) (b2 : Int) : Option ((List Int) × Int) :=
  (bif (decide (0 ≤ b2) && decide (b2 * 4 ≤ 281474976710656) && decide (b2 ≤ 9223372036854775807)) then
    (bif (decide ((Int.tmod b1 (32 : Int)) < (0 : Int))) then
      q29 (List.replicate (Int.toNat b2) (0 : Int)) b0 b2 (IntKind.i64.wrap ((IntKind.i64.wrap (Int.tdiv b1 (32 : Int))) - (1 : Int))) (IntKind.i64.wrap ((Int.tmod b1 (32 : Int)) + (32 : Int)))
    else
      q29 (List.replicate (Int.toNat b2) (0 : Int)) b0 b2 (IntKind.i64.wrap (Int.tdiv b1 (32 : Int))) (Int.tmod b1 (32 : Int)))
  else
    none)
def e29 (_k : Nat) (_q5 : Unit → Option ((List Int) × Int)) (_q17 : (List Int) → Int → Int → Option ((List Int) × Int)) (_q29 : (List Int) → (List Int) → Int → Int → Int → Option ((List Int) × Int)) (q0 : (List Int) → (List Int) → Int → Int → Int → Int → Option ((List Int) × Int)) (_q41 : (List Int) → (List Int) → Int → Int → Int → Int → Int → Option ((List Int) × Int)) (_q33 : (List Int) → (List Int) → Int → Int → Int → Int → Option ((List Int) × Int)) (b0 : (List Int)) (b1 : (List Int)) (b2 : Int) (b3 : Int) (b4 : Int) : Option ((List Int) × Int) :=
  q0 b0 b1 b2 b3 b4 (0 : Int)
def e0 (k : Nat) (_q5 : Unit → Option ((List Int) × Int)) (_q17 : (List Int) → Int → Int → Option ((List Int) × Int)) (_q29 : (List Int) → (List Int) → Int → Int → Int → Option ((List Int) × Int)) (_q0 : (List Int) → (List Int) → Int → Int → Int → Int → Option ((List Int) × Int)) (q41 : (List Int) → (List Int) → Int → Int → Int → Int → Int → Option ((List Int) × Int)) (_q33 : (List Int) → (List Int) → Int → Int → Int → Int → Option ((List Int) × Int)) (b0 : (List Int)) (b1 : (List Int)) (b2 : Int) (b3 : Int) (b4 : Int) (b5 : Int) : Option ((List Int) × Int) :=
  (bif (decide (b5 < (b1.length : Int))) then
    (bif (decide (0 ≤ b5) && decide (b5 < (b1.length : Int))) then
      (bif (decide ((IntKind.u64.wrap b4) < 0)) then
        none
      else
        (bif (decide ((IntKind.i64.wrap (b5 + b3)) ≥ (0 : Int))) then
          (bif (decide ((IntKind.i64.wrap (b5 + b3)) < b2)) then
            (bif (decide (0 ≤ (IntKind.i64.wrap (b5 + b3))) && decide ((IntKind.i64.wrap (b5 + b3)) < (b0.length : Int))) then
              (bif (decide (0 ≤ (IntKind.i64.wrap (b5 + b3))) && decide ((IntKind.i64.wrap (b5 + b3)) < (b0.length : Int))) then
                q41 (setN (bitsI .or .u32 (nthD (0 : Int) b0 (Int.toNat (IntKind.i64.wrap (b5 + b3)))) (IntKind.u32.wrap (IntKind.u64.wrap ((IntKind.u64.wrap (nthD (0 : Int) b1 (Int.toNat b5))) * 2 ^ min (Int.toNat (IntKind.u64.wrap b4)) 64)))) b0 (Int.toNat (IntKind.i64.wrap (b5 + b3)))) b1 b2 b3 b4 b5 (IntKind.u64.wrap ((IntKind.u64.wrap (nthD (0 : Int) b1 (Int.toNat b5))) * 2 ^ min (Int.toNat (IntKind.u64.wrap b4)) 64))
              else
                none)
            else
              none)
          else
            q41 b0 b1 b2 b3 b4 b5 (IntKind.u64.wrap ((IntKind.u64.wrap (nthD (0 : Int) b1 (Int.toNat b5))) * 2 ^ min (Int.toNat (IntKind.u64.wrap b4)) 64)))
        else
          q41 b0 b1 b2 b3 b4 b5 (IntKind.u64.wrap ((IntKind.u64.wrap (nthD (0 : Int) b1 (Int.toNat b5))) * 2 ^ min (Int.toNat (IntKind.u64.wrap b4)) 64))))
    else
      none)
  else
    (Option.bind (ref01_Norm.f k b0) fun r2 =>
      (some (r2, (0 : Int)))))
def e41 (_k : Nat) (_q5 : Unit → Option ((List Int) × Int)) (_q17 : (List Int) → Int → Int → Option ((List Int) × Int)) (_q29 : (List Int) → (List Int) → Int → Int → Int → Option ((List Int) × Int)) (_q0 : (List Int) → (List Int) → Int → Int → Int → Int → Option ((List Int) × Int)) (_q41 : (List Int) → (List Int) → Int → Int → Int → Int → Int → Option ((List Int) × Int)) (q33 : (List Int) → (List Int) → Int → Int → Int → Int → Option ((List Int) × Int)) (b0 : (List Int)) (b1 : (List Int)) (b2 : Int) (b3 : Int) (b4 : Int) (b5 : Int) (b6 : Int) : Option ((List Int) × Int) :=
  (bif (decide ((IntKind.i64.wrap ((IntKind.i64.wrap (b5 + b3)) + (1 : Int))) ≥ (0 : Int))) then
    (bif (decide ((IntKind.i64.wrap ((IntKind.i64.wrap (b5 + b3)) + (1 : Int))) < b2)) then
      (bif (decide (0 ≤ (IntKind.i64.wrap ((IntKind.i64.wrap (b5 + b3)) + (1 : Int)))) && decide ((IntKind.i64.wrap ((IntKind.i64.wrap (b5 + b3)) + (1 : Int))) < (b0.length : Int))) then
        (bif (decide (0 ≤ (IntKind.i64.wrap ((IntKind.i64.wrap (b5 + b3)) + (1 : Int)))) && decide ((IntKind.i64.wrap ((IntKind.i64.wrap (b5 + b3)) + (1 : Int))) < (b0.length : Int))) then
          q33 (setN (bitsI .or .u32 (nthD (0 : Int) b0 (Int.toNat (IntKind.i64.wrap ((IntKind.i64.wrap (b5 + b3)) + (1 : Int))))) (IntKind.u32.wrap (Int.fdiv b6 (2 ^ 32)))) b0 (Int.toNat (IntKind.i64.wrap ((IntKind.i64.wrap (b5 + b3)) + (1 : Int))))) b1 b2 b3 b4 b5
        else
          none)
      else
        none)
    else
      q33 b0 b1 b2 b3 b4 b5)
  else
    q33 b0 b1 b2 b3 b4 b5)
def e33 (_k : Nat) (_q5 : Unit → Option ((List Int) × Int)) (_q17 : (List Int) → Int → Int → Option ((List Int) × Int)) (_q29 : (List Int) → (List Int) → Int → Int → Int → Option ((List Int) × Int)) (q0 : (List Int) → (List Int) → Int → Int → Int → Int → Option ((List Int) × Int)) (_q41 : (List Int) → (List Int) → Int → Int → Int → Int → Int → Option ((List Int) × Int)) (_q33 : (List Int) → (List Int) → Int → Int → Int → Int → Option ((List Int) × Int)) (b0 : (List Int)) (b1 : (List Int)) (b2 : Int) (b3 : Int) (b4 : Int) (b5 : Int) : Option ((List Int) × Int) :=
  q0 b0 b1 b2 b3 b4 (IntKind.i64.wrap (b5 + (1 : Int)))
def e (k : Nat) (q5 : Unit → Option ((List Int) × Int)) (q17 : (List Int) → Int → Int → Option ((List Int) × Int)) (_q29 : (List Int) → (List Int) → Int → Int → Int → Option ((List Int) × Int)) (_q0 : (List Int) → (List Int) → Int → Int → Int → Int → Option ((List Int) × Int)) (_q41 : (List Int) → (List Int) → Int → Int → Int → Int → Int → Option ((List Int) × Int)) (_q33 : (List Int) → (List Int) → Int → Int → Int → Int → Option ((List Int) × Int)) (a0 : (List Int)) (a1 : Int) : Option ((List Int) × Int) :=
  (bif (decide (a1 < (-1048576 : Int))) then
    q5 ()
  else
    (bif (decide (a1 > (1048576 : Int))) then
      q5 ()
    else
      (Option.bind (ref01_Norm.f k a0) fun r1 =>
        (bif (decide ((r1.length : Int) = (0 : Int))) then
          (some (([] : List Int), (0 : Int)))
        else
          (bif (decide (a1 > (0 : Int))) then
            q17 a0 a1 (IntKind.i64.wrap ((a0.length : Int) + (IntKind.i64.wrap ((IntKind.i64.wrap (Int.tdiv a1 (32 : Int))) + (1 : Int)))))
          else
            q17 a0 a1 (a0.length : Int))))))
def pts : Nat → (Unit → Option ((List Int) × Int)) × ((List Int) → Int → Int → Option ((List Int) × Int)) × ((List Int) → (List Int) → Int → Int → Int → Option ((List Int) × Int)) × ((List Int) → (List Int) → Int → Int → Int → Int → Option ((List Int) × Int)) × ((List Int) → (List Int) → Int → Int → Int → Int → Int → Option ((List Int) × Int)) × ((List Int) → (List Int) → Int → Int → Int → Int → Option ((List Int) × Int))
  | 0 => (fun _ => none, fun _ _ _ => none, fun _ _ _ _ _ => none, fun _ _ _ _ _ _ => none, fun _ _ _ _ _ _ _ => none, fun _ _ _ _ _ _ => none)
  | k + 1 => (e5 k (pts k).1 (pts k).2.1 (pts k).2.2.1 (pts k).2.2.2.1 (pts k).2.2.2.2.1 (pts k).2.2.2.2.2, e17 k (pts k).1 (pts k).2.1 (pts k).2.2.1 (pts k).2.2.2.1 (pts k).2.2.2.2.1 (pts k).2.2.2.2.2, e29 k (pts k).1 (pts k).2.1 (pts k).2.2.1 (pts k).2.2.2.1 (pts k).2.2.2.2.1 (pts k).2.2.2.2.2, e0 k (pts k).1 (pts k).2.1 (pts k).2.2.1 (pts k).2.2.2.1 (pts k).2.2.2.2.1 (pts k).2.2.2.2.2, e41 k (pts k).1 (pts k).2.1 (pts k).2.2.1 (pts k).2.2.2.1 (pts k).2.2.2.2.1 (pts k).2.2.2.2.2, e33 k (pts k).1 (pts k).2.1 (pts k).2.2.1 (pts k).2.2.2.1 (pts k).2.2.2.2.1 (pts k).2.2.2.2.2)
def p5 (k : Nat) : Unit → Option ((List Int) × Int) := (pts k).1
def p17 (k : Nat) : (List Int) → Int → Int → Option ((List Int) × Int) := (pts k).2.1
def p29 (k : Nat) : (List Int) → (List Int) → Int → Int → Int → Option ((List Int) × Int) := (pts k).2.2.1
def p0 (k : Nat) : (List Int) → (List Int) → Int → Int → Int → Int → Option ((List Int) × Int) := (pts k).2.2.2.1
def p41 (k : Nat) : (List Int) → (List Int) → Int → Int → Int → Int → Int → Option ((List Int) × Int) := (pts k).2.2.2.2.1
def p33 (k : Nat) : (List Int) → (List Int) → Int → Int → Int → Int → Option ((List Int) × Int) := (pts k).2.2.2.2.2
theorem p5_succ (k : Nat) (x0 : Unit) : p5 (k + 1) x0 = e5 k (p5 k) (p17 k) (p29 k) (p0 k) (p41 k) (p33 k) x0 := rfl
theorem p17_succ (k : Nat) (x0 : (List Int)) (x1 : Int) (x2 : Int) : p17 (k + 1) x0 x1 x2 = e17 k (p5 k) (p17 k) (p29 k) (p0 k) (p41 k) (p33 k) x0 x1 x2 := rfl
theorem p29_succ (k : Nat) (x0 : (List Int)) (x1 : (List Int)) (x2 : Int) (x3 : Int) (x4 : Int) : p29 (k + 1) x0 x1 x2 x3 x4 = e29 k (p5 k) (p17 k) (p29 k) (p0 k) (p41 k) (p33 k) x0 x1 x2 x3 x4 := rfl
theorem p0_succ (k : Nat) (x0 : (List Int)) (x1 : (List Int)) (x2 : Int) (x3 : Int) (x4 : Int) (x5 : Int) : p0 (k + 1) x0 x1 x2 x3 x4 x5 = e0 k (p5 k) (p17 k) (p29 k) (p0 k) (p41 k) (p33 k) x0 x1 x2 x3 x4 x5 := rfl
theorem p41_succ (k : Nat) (x0 : (List Int)) (x1 : (List Int)) (x2 : Int) (x3 : Int) (x4 : Int) (x5 : Int) (x6 : Int) : p41 (k + 1) x0 x1 x2 x3 x4 x5 x6 = e41 k (p5 k) (p17 k) (p29 k) (p0 k) (p41 k) (p33 k) x0 x1 x2 x3 x4 x5 x6 := rfl
theorem p33_succ (k : Nat) (x0 : (List Int)) (x1 : (List Int)) (x2 : Int) (x3 : Int) (x4 : Int) (x5 : Int) : p33 (k + 1) x0 x1 x2 x3 x4 x5 = e33 k (p5 k) (p17 k) (p29 k) (p0 k) (p41 k) (p33 k) x0 x1 x2 x3 x4 x5 := rfl
def f (k : Nat) (a0 : (List Int)) (a1 : Int) : Option ((List Int) × Int) := e k (p5 k) (p17 k) (p29 k) (p0 k) (p41 k) (p33 k) a0 a1
end ref01_Shift

namespace ref01_twice
def e11 (_k : Nat) (_q11 : (List Int) → (List Int) → Int → Option (List Int)) (q0 : (List Int) → (List Int) → Int → Int → Option (List Int)) (b0 : (List Int)) (b1 : (List Int)) (b2 : Int) : Option (List Int) :=
  q0 b0 b1 b2 (0 : Int)
def e0 (k : Nat) (_q11 : (List Int) → (List Int) → Int → Option (List Int)) (q0 : (List Int) → (List Int) → Int → Int → Option (List Int)) (b0 : (List Int)) (b1 : (List Int)) (b2 : Int) (b3 : Int) : Option (List Int) :=
  (bif (decide (b3 < (b1.length : Int))) then
    (bif (decide (0 ≤ b3) && decide (b3 < (b1.length : Int))) then
      (bif (decide (0 ≤ b3) && decide (b3 < (b0.length : Int))) then
        (bif (decide (0 ≤ b3) && decide (b3 < (b1.length : Int))) then
          q0 (setN (bitsI .or .u32 (IntKind.u32.wrap ((nthD (0 : Int) b1 (Int.toNat b3)) * 2 ^ 1)) b2) b0 (Int.toNat b3)) b1 (Int.fdiv (nthD (0 : Int) b1 (Int.toNat b3)) (2 ^ 31)) (IntKind.i64.wrap (b3 + (1 : Int)))
        else
          none)
      else
        none)
    else
      none)
  else
    (bif (decide (0 ≤ (b1.length : Int)) && decide ((b1.length : Int) < (b0.length : Int))) then
      (Option.bind (ref01_Norm.f k (setN b2 b0 (Int.toNat (b1.length : Int)))) fun r1 =>
        (some r1))
    else
      none))
def e (_k : Nat) (q11 : (List Int) → (List Int) → Int → Option (List Int)) (_q0 : (List Int) → (List Int) → Int → Int → Option (List Int)) (a0 : (List Int)) (a1 : Bool) : Option (List Int) :=
  (bif (decide (0 ≤ (IntKind.i64.wrap ((a0.length : Int) + (1 : Int)))) && decide ((IntKind.i64.wrap ((a0.length : Int) + (1 : Int))) * 4 ≤ 281474976710656) && decide ((IntKind.i64.wrap ((a0.length : Int) + (1 : Int))) ≤ 9223372036854775807)) then
    (bif a1 then
      q11 (List.replicate (Int.toNat (IntKind.i64.wrap ((a0.length : Int) + (1 : Int)))) (0 : Int)) a0 (1 : Int)
    else
      q11 (List.replicate (Int.toNat (IntKind.i64.wrap ((a0.length : Int) + (1 : Int)))) (0 : Int)) a0 (0 : Int))
  else
    none)
def pts : Nat → ((List Int) → (List Int) → Int → Option (List Int)) × ((List Int) → (List Int) → Int → Int → Option (List Int))
  | 0 => (fun _ _ _ => none, fun _ _ _ _ => none)
  | k + 1 => (e11 k (pts k).1 (pts k).2, e0 k (pts k).1 (pts k).2)
def p11 (k : Nat) : (List Int) → (List Int) → Int → Option (List Int) := (pts k).1
def p0 (k : Nat) : (List Int) → (List Int) → Int → Int → Option (List Int) := (pts k).2
theorem p11_succ (k : Nat) (x0 : (List Int)) (x1 : (List Int)) (x2 : Int) : p11 (k + 1) x0 x1 x2 = e11 k (p11 k) (p0 k) x0 x1 x2 := rfl
theorem p0_succ (k : Nat) (x0 : (List Int)) (x1 : (List Int)) (x2 : Int) (x3 : Int) : p0 (k + 1) x0 x1 x2 x3 = e0 k (p11 k) (p0 k) x0 x1 x2 x3 := rfl
def f (k : Nat) (a0 : (List Int)) (a1 : Bool) : Option (List Int) := e k (p11 k) (p0 k) a0 a1
end ref01_twice

namespace ref01_at
def e (_k : Nat) (a0 : (List Int)) (a1 : Int) : Option Int :=
  (bif (decide (a1 ≥ (a0.length : Int))) then
    (some (0 : Int))
  else
    (bif (decide (0 ≤ a1) && decide (a1 < (a0.length : Int))) then
      (some (IntKind.u64.wrap (nthD (0 : Int) a0 (Int.toNat a1))))
    else
      none))
def f (k : Nat) (a0 : (List Int)) (a1 : Int) : Option Int := e k a0 a1
end ref01_at

namespace ref01_Cmp
def e9 (_k : Nat) (_q9 : (List Int) → (List Int) → Int → Option Int) (q0 : (List Int) → (List Int) → Int → Option Int) (b0 : (List Int)) (b1 : (List Int)) (b2 : Int) : Option Int :=
  q0 b0 b1 (IntKind.i64.wrap (b2 - (1 : Int)))
def e0 (k : Nat) (_q9 : (List Int) → (List Int) → Int → Option Int) (q0 : (List Int) → (List Int) → Int → Option Int) (b0 : (List Int)) (b1 : (List Int)) (b2 : Int) : Option Int :=
  (bif (decide (b2 ≥ (0 : Int))) then
    (Option.bind (ref01_at.f k b0 b2) fun r1 =>
      (Option.bind (ref01_at.f k b1 b2) fun r2 =>
        (bif (decide (r1 < r2)) then
          (some (-1 : Int))
        else
          (Option.bind (ref01_at.f k b0 b2) fun r3 =>
            (Option.bind (ref01_at.f k b1 b2) fun r4 =>
              (bif (decide (r3 > r4)) then
                (some (1 : Int))
              else
                q0 b0 b1 (IntKind.i64.wrap (b2 - (1 : Int)))))))))
  else
    (some (0 : Int)))
def e (_k : Nat) (q9 : (List Int) → (List Int) → Int → Option Int) (_q0 : (List Int) → (List Int) → Int → Option Int) (a0 : (List Int)) (a1 : (List Int)) : Option Int :=
  (bif (decide ((a1.length : Int) > (a0.length : Int))) then
    q9 a0 a1 (a1.length : Int)
  else
    q9 a0 a1 (a0.length : Int))
def pts : Nat → ((List Int) → (List Int) → Int → Option Int) × ((List Int) → (List Int) → Int → Option Int)
  | 0 => (fun _ _ _ => none, fun _ _ _ => none)
  | k + 1 => (e9 k (pts k).1 (pts k).2, e0 k (pts k).1 (pts k).2)
def p9 (k : Nat) : (List Int) → (List Int) → Int → Option Int := (pts k).1
def p0 (k : Nat) : (List Int) → (List Int) → Int → Option Int := (pts k).2
theorem p9_succ (k : Nat) (x0 : (List Int)) (x1 : (List Int)) (x2 : Int) : p9 (k + 1) x0 x1 x2 = e9 k (p9 k) (p0 k) x0 x1 x2 := rfl
theorem p0_succ (k : Nat) (x0 : (List Int)) (x1 : (List Int)) (x2 : Int) : p0 (k + 1) x0 x1 x2 = e0 k (p9 k) (p0 k) x0 x1 x2 := rfl
def f (k : Nat) (a0 : (List Int)) (a1 : (List Int)) : Option Int := e k (p9 k) (p0 k) a0 a1
end ref01_Cmp

namespace ref01_Sub
def e0 (k : Nat) (q0 : (List Int) → (List Int) → (List Int) → Int → Int → Option ((List Int) × Int)) (b0 : (List Int)) (b1 : (List Int)) (b2 : (List Int)) (b3 : Int) (b4 : Int) : Option ((List Int) × Int) :=
  (bif (decide (b4 < (b1.length : Int))) then
    (Option.bind (ref01_at.f k b1 b4) fun r2 =>
      (Option.bind (ref01_at.f k b2 b4) fun r3 =>
        (bif (decide (0 ≤ b4) && decide (b4 < (b0.length : Int))) then
          q0 (setN (IntKind.u32.wrap (IntKind.u64.wrap ((IntKind.u64.wrap (r2 - r3)) - b3))) b0 (Int.toNat b4)) b1 b2 (Int.fdiv (IntKind.u64.wrap ((IntKind.u64.wrap (r2 - r3)) - b3)) (2 ^ 63)) (IntKind.i64.wrap (b4 + (1 : Int)))
        else
          none)))
  else
    (Option.bind (ref01_Norm.f k b0) fun r4 =>
      (some (r4, (0 : Int)))))
def e (k : Nat) (q0 : (List Int) → (List Int) → (List Int) → Int → Int → Option ((List Int) × Int)) (a0 : (List Int)) (a1 : (List Int)) : Option ((List Int) × Int) :=
  (Option.bind (ref01_Cmp.f k a0 a1) fun r1 =>
    (bif (decide (r1 < (0 : Int))) then
      (some (([] : List Int), (10 : Int)))
    else
      (bif (decide (0 ≤ (a0.length : Int)) && decide ((a0.length : Int) * 4 ≤ 281474976710656) && decide ((a0.length : Int) ≤ 9223372036854775807)) then
        q0 (List.replicate (Int.toNat (a0.length : Int)) (0 : Int)) a0 a1 (0 : Int) (0 : Int)
      else
        none)))
def pts : Nat → ((List Int) → (List Int) → (List Int) → Int → Int → Option ((List Int) × Int))
  | 0 => fun _ _ _ _ _ => none
  | k + 1 => e0 k (pts k)
def p0 (k : Nat) : (List Int) → (List Int) → (List Int) → Int → Int → Option ((List Int) × Int) := (pts k)
theorem p0_succ (k : Nat) (x0 : (List Int)) (x1 : (List Int)) (x2 : (List Int)) (x3 : Int) (x4 : Int) : p0 (k + 1) x0 x1 x2 x3 x4 = e0 k (p0 k) x0 x1 x2 x3 x4 := rfl
def f (k : Nat) (a0 : (List Int)) (a1 : (List Int)) : Option ((List Int) × Int) := e k (p0 k) a0 a1
end ref01_Sub

namespace ref01_Div
def e19 (k : Nat) (_q19 : (List Int) → (List Int) → (List Int) → Int → Option ((List Int) × (List Int) × Int)) (q0 : (List Int) → (List Int) → (List Int) → (List Int) → Int → Option ((List Int) × (List Int) × Int)) (_q25 : (List Int) → (List Int) → (List Int) → (List Int) → Int → Option ((List Int) × (List Int) × Int)) (b0 : (List Int)) (b1 : (List Int)) (b2 : (List Int)) (b3 : Int) : Option ((List Int) × (List Int) × Int) :=
  (bif (decide (0 ≤ (IntKind.i64.wrap ((b1.length : Int) - b3))) && decide ((IntKind.i64.wrap ((b1.length : Int) - b3)) ≤ (b1.length : Int)) && decide ((b1.length : Int) ≤ (b1.length : Int))) then
    (Option.bind (ref01_Norm.f k ((b1.take (Int.toNat (b1.length : Int))).drop (Int.toNat (IntKind.i64.wrap ((b1.length : Int) - b3))))) fun r3 =>
      q0 b0 b1 b2 r3 (IntKind.i64.wrap ((IntKind.i64.wrap ((32 : Int) * (IntKind.i64.wrap ((b1.length : Int) - b3)))) - (1 : Int))))
  else
    none)
def e0 (k : Nat) (_q19 : (List Int) → (List Int) → (List Int) → Int → Option ((List Int) × (List Int) × Int)) (_q0 : (List Int) → (List Int) → (List Int) → (List Int) → Int → Option ((List Int) × (List Int) × Int)) (q25 : (List Int) → (List Int) → (List Int) → (List Int) → Int → Option ((List Int) × (List Int) × Int)) (b0 : (List Int)) (b1 : (List Int)) (b2 : (List Int)) (b3 : (List Int)) (b4 : Int) : Option ((List Int) × (List Int) × Int) :=
  (bif (decide (b4 ≥ (0 : Int))) then
    (Option.bind (ref01_Bit.f k b1 b4) fun r4 =>
      (Option.bind (ref01_twice.f k b3 r4) fun r5 =>
        (Option.bind (ref01_Cmp.f k r5 b2) fun r6 =>
          (bif (decide (r6 ≥ (0 : Int))) then
            (Option.bind (ref01_Sub.f k r5 b2) fun r7 =>
              (bif (decide (0 ≤ (IntKind.i64.wrap (Int.tdiv b4 (32 : Int)))) && decide ((IntKind.i64.wrap (Int.tdiv b4 (32 : Int))) < (b0.length : Int))) then
                (bif (decide ((IntKind.u64.wrap (Int.tmod b4 (32 : Int))) < 0)) then
                  none
                else
                  (bif (decide (0 ≤ (IntKind.i64.wrap (Int.tdiv b4 (32 : Int)))) && decide ((IntKind.i64.wrap (Int.tdiv b4 (32 : Int))) < (b0.length : Int))) then
                    q25 (setN (bitsI .or .u32 (nthD (0 : Int) b0 (Int.toNat (IntKind.i64.wrap (Int.tdiv b4 (32 : Int))))) (IntKind.u32.wrap ((1 : Int) * 2 ^ min (Int.toNat (IntKind.u64.wrap (Int.tmod b4 (32 : Int)))) 32))) b0 (Int.toNat (IntKind.i64.wrap (Int.tdiv b4 (32 : Int))))) b1 b2 r7.1 b4
                  else
                    none))
              else
                none))
          else
            q25 b0 b1 b2 r5 b4))))
  else
    (Option.bind (ref01_Norm.f k b0) fun r8 =>
      (some (r8, b3, (0 : Int)))))
def e25 (_k : Nat) (_q19 : (List Int) → (List Int) → (List Int) → Int → Option ((List Int) × (List Int) × Int)) (q0 : (List Int) → (List Int) → (List Int) → (List Int) → Int → Option ((List Int) × (List Int) × Int)) (_q25 : (List Int) → (List Int) → (List Int) → (List Int) → Int → Option ((List Int) × (List Int) × Int)) (b0 : (List Int)) (b1 : (List Int)) (b2 : (List Int)) (b3 : (List Int)) (b4 : Int) : Option ((List Int) × (List Int) × Int) :=
  q0 b0 b1 b2 b3 (IntKind.i64.wrap (b4 - (1 : Int)))
def e (k : Nat) (q19 : (List Int) → (List Int) → (List Int) → Int → Option ((List Int) × (List Int) × Int)) (_q0 : (List Int) → (List Int) → (List Int) → (List Int) → Int → Option ((List Int) × (List Int) × Int)) (_q25 : (List Int) → (List Int) → (List Int) → (List Int) → Int → Option ((List Int) × (List Int) × Int)) (a0 : (List Int)) (a1 : (List Int)) : Option ((List Int) × (List Int) × Int) :=
  (Option.bind (ref01_Norm.f k a1) fun r1 =>
    (bif (decide ((r1.length : Int) = (0 : Int))) then
      (some (([] : List Int), ([] : List Int), (11 : Int)))
    else
      (Option.bind (ref01_Norm.f k a0) fun r2 =>
        (bif (decide (0 ≤ (r2.length : Int)) && decide ((r2.length : Int) * 4 ≤ 281474976710656) && decide ((r2.length : Int) ≤ 9223372036854775807)) then
          (bif (decide ((IntKind.i64.wrap ((r1.length : Int) - (1 : Int))) > (r2.length : Int))) then
            q19 (List.replicate (Int.toNat (r2.length : Int)) (0 : Int)) r2 r1 (r2.length : Int)
          else
            q19 (List.replicate (Int.toNat (r2.length : Int)) (0 : Int)) r2 r1 (IntKind.i64.wrap ((r1.length : Int) - (1 : Int))))
        else
          none))))
def pts : Nat → ((List Int) → (List Int) → (List Int) → Int → Option ((List Int) × (List Int) × Int)) × ((List Int) → (List Int) → (List Int) → (List Int) → Int → Option ((List Int) × (List Int) × Int)) × ((List Int) → (List Int) → (List Int) → (List Int) → Int → Option ((List Int) × (List Int) × Int))
  | 0 => (fun _ _ _ _ => none, fun _ _ _ _ _ => none, fun _ _ _ _ _ => none)
  | k + 1 => (e19 k (pts k).1 (pts k).2.1 (pts k).2.2, e0 k (pts k).1 (pts k).2.1 (pts k).2.2, e25 k (pts k).1 (pts k).2.1 (pts k).2.2)
def p19 (k : Nat) : (List Int) → (List Int) → (List Int) → Int → Option ((List Int) × (List Int) × Int) := (pts k).1
def p0 (k : Nat) : (List Int) → (List Int) → (List Int) → (List Int) → Int → Option ((List Int) × (List Int) × Int) := (pts k).2.1
def p25 (k : Nat) : (List Int) → (List Int) → (List Int) → (List Int) → Int → Option ((List Int) × (List Int) × Int) := (pts k).2.2
theorem p19_succ (k : Nat) (x0 : (List Int)) (x1 : (List Int)) (x2 : (List Int)) (x3 : Int) : p19 (k + 1) x0 x1 x2 x3 = e19 k (p19 k) (p0 k) (p25 k) x0 x1 x2 x3 := rfl
theorem p0_succ (k : Nat) (x0 : (List Int)) (x1 : (List Int)) (x2 : (List Int)) (x3 : (List Int)) (x4 : Int) : p0 (k + 1) x0 x1 x2 x3 x4 = e0 k (p19 k) (p0 k) (p25 k) x0 x1 x2 x3 x4 := rfl
theorem p25_succ (k : Nat) (x0 : (List Int)) (x1 : (List Int)) (x2 : (List Int)) (x3 : (List Int)) (x4 : Int) : p25 (k + 1) x0 x1 x2 x3 x4 = e25 k (p19 k) (p0 k) (p25 k) x0 x1 x2 x3 x4 := rfl
def f (k : Nat) (a0 : (List Int)) (a1 : (List Int)) : Option ((List Int) × (List Int) × Int) := e k (p19 k) (p0 k) (p25 k) a0 a1
end ref01_Div

namespace ref04_quotient
def e13 (k : Nat) (_q13 : (List Int) → (List Int) → Option ((List Int) × Bool)) (b0 : (List Int)) (b1 : (List Int)) : Option ((List Int) × Bool) :=
  (Option.bind (ref01_Div.f k b0 b1) fun r3 =>
    (Option.bind (ref01_Bits.f k r3.2.1) fun r4 =>
      (some (r3.1, (decide (r4 = (0 : Int)))))))
def e (k : Nat) (q13 : (List Int) → (List Int) → Option ((List Int) × Bool)) (a0 : ((Bool × (List Int)) × (List Int))) (a1 : Int) : Option ((List Int) × Bool) :=
  (bif (decide (a1 < (0 : Int))) then
    (Option.bind (ref01_Shift.f k a0.1.2 (IntKind.i64.wrap ((0 : Int) - a1))) fun r1 =>
      q13 r1.1 a0.2)
  else
    (Option.bind (ref01_Shift.f k a0.2 a1) fun r2 =>
      q13 a0.1.2 r2.1))
def pts : Nat → ((List Int) → (List Int) → Option ((List Int) × Bool))
  | 0 => fun _ _ => none
  | k + 1 => e13 k (pts k)
def p13 (k : Nat) : (List Int) → (List Int) → Option ((List Int) × Bool) := (pts k)
theorem p13_succ (k : Nat) (x0 : (List Int)) (x1 : (List Int)) : p13 (k + 1) x0 x1 = e13 k (p13 k) x0 x1 := rfl
def f (k : Nat) (a0 : ((Bool × (List Int)) × (List Int))) (a1 : Int) : Option ((List Int) × Bool) := e k (p13 k) a0 a1
end ref04_quotient

namespace ref01_Small
def e0 (_k : Nat) (q0 : (List Int) → Int → Int → Option (Int × Bool)) (b0 : (List Int)) (b1 : Int) (b2 : Int) : Option (Int × Bool) :=
  (bif (decide (b2 ≥ (0 : Int))) then
    (bif (decide (0 ≤ b2) && decide (b2 < (b0.length : Int))) then
      q0 b0 (bitsI .or .u64 (IntKind.u64.wrap (b1 * 2 ^ 32)) (IntKind.u64.wrap (nthD (0 : Int) b0 (Int.toNat b2)))) (IntKind.i64.wrap (b2 - (1 : Int)))
    else
      none)
  else
    (some (b1, true)))
def e (k : Nat) (q0 : (List Int) → Int → Int → Option (Int × Bool)) (a0 : (List Int)) : Option (Int × Bool) :=
  (Option.bind (ref01_Norm.f k a0) fun r1 =>
    (bif (decide ((r1.length : Int) > (2 : Int))) then
      (some ((0 : Int), false))
    else
      q0 r1 (0 : Int) (IntKind.i64.wrap ((r1.length : Int) - (1 : Int)))))
def pts : Nat → ((List Int) → Int → Int → Option (Int × Bool))
  | 0 => fun _ _ _ => none
  | k + 1 => e0 k (pts k)
def p0 (k : Nat) : (List Int) → Int → Int → Option (Int × Bool) := (pts k)
theorem p0_succ (k : Nat) (x0 : (List Int)) (x1 : Int) (x2 : Int) : p0 (k + 1) x0 x1 x2 = e0 k (p0 k) x0 x1 x2 := rfl
def f (k : Nat) (a0 : (List Int)) : Option (Int × Bool) := e k (p0 k) a0
end ref01_Small

namespace ref04_below
def e5 (_k : Nat) (_q5 : Unit → Option (Int × Bool)) (_q23 : ((Bool × (List Int)) × (List Int)) → Int → Option (Int × Bool)) (_q0 : ((Bool × (List Int)) × (List Int)) → Int → (List Int) → Bool → Option (Int × Bool)) (_ : Unit) : Option (Int × Bool) :=
  (some ((0 : Int), true))
def e23 (k : Nat) (_q5 : Unit → Option (Int × Bool)) (_q23 : ((Bool × (List Int)) × (List Int)) → Int → Option (Int × Bool)) (q0 : ((Bool × (List Int)) × (List Int)) → Int → (List Int) → Bool → Option (Int × Bool)) (b0 : ((Bool × (List Int)) × (List Int))) (b1 : Int) : Option (Int × Bool) :=
  (Option.bind (ref04_quotient.f k b0 b1) fun r5 =>
    q0 b0 b1 r5.1 r5.2)
def e0 (k : Nat) (_q5 : Unit → Option (Int × Bool)) (_q23 : ((Bool × (List Int)) × (List Int)) → Int → Option (Int × Bool)) (q0 : ((Bool × (List Int)) × (List Int)) → Int → (List Int) → Bool → Option (Int × Bool)) (b0 : ((Bool × (List Int)) × (List Int))) (b1 : Int) (b2 : (List Int)) (b3 : Bool) : Option (Int × Bool) :=
  (Option.bind (ref01_Bits.f k b2) fun r6 =>
    (bif (decide (r6 > (53 : Int))) then
      (Option.bind (ref04_quotient.f k b0 (IntKind.i64.wrap (b1 + (1 : Int)))) fun r7 =>
        q0 b0 (IntKind.i64.wrap (b1 + (1 : Int))) r7.1 r7.2)
    else
      (bif (decide (b1 > (971 : Int))) then
        (some ((9218868437227405311 : Int), false))
      else
        (Option.bind (ref01_Small.f k b2) fun r8 =>
          (bif (decide (r8.1 < (4503599627370496 : Int))) then
            (some (r8.1, b3))
          else
            (some ((IntKind.u64.wrap ((IntKind.u64.wrap ((IntKind.u64.wrap ((IntKind.u64.wrap (IntKind.i64.wrap (b1 + (1075 : Int)))) * 2 ^ 52)) + r8.1)) - (4503599627370496 : Int))), b3)))))))
def e (k : Nat) (q5 : Unit → Option (Int × Bool)) (q23 : ((Bool × (List Int)) × (List Int)) → Int → Option (Int × Bool)) (_q0 : ((Bool × (List Int)) × (List Int)) → Int → (List Int) → Bool → Option (Int × Bool)) (a0 : ((Bool × (List Int)) × (List Int))) : Option (Int × Bool) :=
  (Option.bind (ref01_Bits.f k a0.1.2) fun r1 =>
    (bif (decide (r1 = (0 : Int))) then
      q5 ()
    else
      (Option.bind (ref01_Bits.f k a0.2) fun r2 =>
        (bif (decide (r2 = (0 : Int))) then
          q5 ()
        else
          (Option.bind (ref01_Bits.f k a0.1.2) fun r3 =>
            (Option.bind (ref01_Bits.f k a0.2) fun r4 =>
              (bif (decide ((IntKind.i64.wrap (r3 - r4)) > (1030 : Int))) then
                (some ((9218868437227405311 : Int), false))
              else
                (bif (decide ((IntKind.i64.wrap (r3 - r4)) < (-1100 : Int))) then
                  (some ((0 : Int), false))
                else
                  (bif (decide ((IntKind.i64.wrap ((IntKind.i64.wrap (r3 - r4)) - (54 : Int))) < (-1074 : Int))) then
                    q23 a0 (-1074 : Int)
                  else
                    q23 a0 (IntKind.i64.wrap ((IntKind.i64.wrap (r3 - r4)) - (54 : Int))))))))))))
def pts : Nat → (Unit → Option (Int × Bool)) × (((Bool × (List Int)) × (List Int)) → Int → Option (Int × Bool)) × (((Bool × (List Int)) × (List Int)) → Int → (List Int) → Bool → Option (Int × Bool))
  | 0 => (fun _ => none, fun _ _ => none, fun _ _ _ _ => none)
  | k + 1 => (e5 k (pts k).1 (pts k).2.1 (pts k).2.2, e23 k (pts k).1 (pts k).2.1 (pts k).2.2, e0 k (pts k).1 (pts k).2.1 (pts k).2.2)
def p5 (k : Nat) : Unit → Option (Int × Bool) := (pts k).1
def p23 (k : Nat) : ((Bool × (List Int)) × (List Int)) → Int → Option (Int × Bool) := (pts k).2.1
def p0 (k : Nat) : ((Bool × (List Int)) × (List Int)) → Int → (List Int) → Bool → Option (Int × Bool) := (pts k).2.2
theorem p5_succ (k : Nat) (x0 : Unit) : p5 (k + 1) x0 = e5 k (p5 k) (p23 k) (p0 k) x0 := rfl
theorem p23_succ (k : Nat) (x0 : ((Bool × (List Int)) × (List Int))) (x1 : Int) : p23 (k + 1) x0 x1 = e23 k (p5 k) (p23 k) (p0 k) x0 x1 := rfl
theorem p0_succ (k : Nat) (x0 : ((Bool × (List Int)) × (List Int))) (x1 : Int) (x2 : (List Int)) (x3 : Bool) : p0 (k + 1) x0 x1 x2 x3 = e0 k (p5 k) (p23 k) (p0 k) x0 x1 x2 x3 := rfl
def f (k : Nat) (a0 : ((Bool × (List Int)) × (List Int))) : Option (Int × Bool) := e k (p5 k) (p23 k) (p0 k) a0
end ref04_below

namespace ref04_away
def e (k : Nat) (a0 : ((Bool × (List Int)) × (List Int))) : Option Int :=
  (Option.bind (ref04_below.f k a0) fun r1 =>
    (bif r1.2 then
      (some r1.1)
    else
      (some (IntKind.u64.wrap (r1.1 + (1 : Int))))))
def f (k : Nat) (a0 : ((Bool × (List Int)) × (List Int))) : Option Int := e k a0
end ref04_away

namespace ref04_DownBits
def e (k : Nat) (a0 : ((Bool × (List Int)) × (List Int))) : Option Int :=
  (Option.bind (ref04_amount.f k a0) fun r1 =>
    (bif (!decide (r1.2 = (0 : Int))) then
      (Option.bind (ref04_away.f k r1.1) fun r2 =>
        (some (bitsI .or .u64 r1.2 r2)))
    else
      (Option.bind (ref04_below.f k r1.1) fun r3 =>
        (some r3.1))))
def f (k : Nat) (a0 : ((Bool × (List Int)) × (List Int))) : Option Int := e k a0
end ref04_DownBits

namespace ref04_Down
def e (k : Nat) (a0 : ((Bool × (List Int)) × (List Int))) : Option Nat :=
  (Option.bind (ref04_DownBits.f k a0) fun r1 =>
    (Option.bind (math_Float64frombits.f k r1) fun r2 =>
      (some r2)))
def f (k : Nat) (a0 : ((Bool × (List Int)) × (List Int))) : Option Nat := e k a0
end ref04_Down

namespace ref04_UpBits
def e (k : Nat) (a0 : ((Bool × (List Int)) × (List Int))) : Option Int :=
  (Option.bind (ref04_amount.f k a0) fun r1 =>
    (bif (decide (r1.2 = (0 : Int))) then
      (Option.bind (ref04_away.f k r1.1) fun r2 =>
        (some r2))
    else
      (Option.bind (ref04_below.f k r1.1) fun r3 =>
        (some (bitsI .or .u64 r1.2 r3.1)))))
def f (k : Nat) (a0 : ((Bool × (List Int)) × (List Int))) : Option Int := e k a0
end ref04_UpBits

namespace ref04_Up
def e (k : Nat) (a0 : ((Bool × (List Int)) × (List Int))) : Option Nat :=
  (Option.bind (ref04_UpBits.f k a0) fun r1 =>
    (Option.bind (math_Float64frombits.f k r1) fun r2 =>
      (some r2)))
def f (k : Nat) (a0 : ((Bool × (List Int)) × (List Int))) : Option Nat := e k a0
end ref04_Up

namespace ref04_Around
def e (k : Nat) (a0 : ((Bool × (List Int)) × (List Int))) : Option (Nat × Nat) :=
  (Option.bind (ref04_Down.f k a0) fun r1 =>
    (Option.bind (ref04_Up.f k a0) fun r2 =>
      (some (r1, r2))))
def f (k : Nat) (a0 : ((Bool × (List Int)) × (List Int))) : Option (Nat × Nat) := e k a0
end ref04_Around

namespace law04_same
def e (k : Nat) (a0 : Nat) (a1 : Nat) : Option Bool :=
  (Option.bind (math_Float64bits.f k a0) fun r1 =>
    (Option.bind (math_Float64bits.f k a1) fun r2 =>
      (some (decide (r1 = r2)))))
def f (k : Nat) (a0 : Nat) (a1 : Nat) : Option Bool := e k a0 a1
end law04_same

namespace law04_sameSpan
def e (k : Nat) (a0 : (Nat × Nat)) (a1 : (Nat × Nat)) : Option Bool :=
  (Option.bind (law04_same.f k a0.1 a1.1) fun r1 =>
    (bif r1 then
      (Option.bind (law04_same.f k a0.2 a1.2) fun r2 =>
        (some r2))
    else
      (some false)))
def f (k : Nat) (a0 : (Nat × Nat)) (a1 : (Nat × Nat)) : Option Bool := e k a0 a1
end law04_sameSpan

namespace math_Abs
def e (k : Nat) (a0 : Nat) : Option Nat :=
  (Option.bind (math_Float64bits.f k a0) fun r1 =>
    (Option.bind (math_Float64frombits.f k (bitsI .andNot .u64 r1 (9223372036854775808 : Int))) fun r2 =>
      (some r2)))
def f (k : Nat) (a0 : Nat) : Option Nat := e k a0
end math_Abs

namespace math_IsInf
def e11 (_k : Nat) (_q11 : Nat → Option Bool) (b0 : Nat) : Option Bool :=
  (some (fGt b0 (9218868437227405311 : Nat)))
def e (k : Nat) (q11 : Nat → Option Bool) (a0 : Nat) (a1 : Int) : Option Bool :=
  (bif (decide (a1 = (0 : Int))) then
    (Option.bind (math_Abs.f k a0) fun r1 =>
      q11 r1)
  else
    (bif (decide (a1 < (0 : Int))) then
      q11 (fNeg a0)
    else
      q11 a0))
def pts : Nat → (Nat → Option Bool)
  | 0 => fun _ => none
  | k + 1 => e11 k (pts k)
def p11 (k : Nat) : Nat → Option Bool := (pts k)
theorem p11_succ (k : Nat) (x0 : Nat) : p11 (k + 1) x0 = e11 k (p11 k) x0 := rfl
def f (k : Nat) (a0 : Nat) (a1 : Int) : Option Bool := e k (p11 k) a0 a1
end math_IsInf

namespace approx_Valid
def e (k : Nat) (a0 : (Nat × Nat)) : Option Bool :=
  (bif (fLt a0.1 a0.2 || fEq a0.1 a0.2) then
    (Option.bind (math_IsInf.f k a0.1 (1 : Int)) fun r1 =>
      (bif (!r1) then
        (Option.bind (math_IsInf.f k a0.2 (-1 : Int)) fun r2 =>
          (some (!r2)))
      else
        (some false)))
  else
    (some false))
def f (k : Nat) (a0 : (Nat × Nat)) : Option Bool := e k a0
end approx_Valid

namespace math_IsNaN
def e (_k : Nat) (a0 : Nat) : Option Bool :=
  (some (!(fEq a0 a0)))
def f (k : Nat) (a0 : Nat) : Option Bool := e k a0
end math_IsNaN

namespace nat_Of
def e (k : Nat) (a0 : Int) : Option (List Int) :=
  (Option.bind (nat_own.f k [(IntKind.u32.wrap a0), (IntKind.u32.wrap (Int.fdiv a0 (2 ^ 32)))]) fun r1 =>
    (some r1))
def f (k : Nat) (a0 : Int) : Option (List Int) := e k a0
end nat_Of

namespace whole_Of
def e (k : Nat) (a0 : Int) : Option (Bool × (List Int)) :=
  (bif (decide (a0 < (0 : Int))) then
    (Option.bind (nat_Of.f k (IntKind.u64.wrap (0 - (IntKind.u64.wrap a0)))) fun r1 =>
      (Option.bind (whole_signed.f k r1 [(-1 : Int)]) fun r2 =>
        (some r2)))
  else
    (Option.bind (nat_Of.f k (IntKind.u64.wrap a0)) fun r3 =>
      (Option.bind (whole_signed.f k r3 ([] : List Int)) fun r4 =>
        (some r4))))
def f (k : Nat) (a0 : Int) : Option (Bool × (List Int)) := e k a0
end whole_Of

namespace ratio_Of
def e11 (k : Nat) (_q11 : (Bool × (List Int)) → (Bool × (List Int)) → ((Bool × (List Int)) × (List Int)) → Option (((Bool × (List Int)) × (List Int)) × Int)) (b0 : (Bool × (List Int))) (b1 : (Bool × (List Int))) (_b2 : ((Bool × (List Int)) × (List Int))) : Option (((Bool × (List Int)) × (List Int)) × Int) :=
  (Option.bind (ratio_made.f k b0 b1.2) fun r4 =>
    (some (r4, (0 : Int))))
def e (k : Nat) (q11 : (Bool × (List Int)) → (Bool × (List Int)) → ((Bool × (List Int)) × (List Int)) → Option (((Bool × (List Int)) × (List Int)) × Int)) (a0 : (Bool × (List Int))) (a1 : (Bool × (List Int))) : Option (((Bool × (List Int)) × (List Int)) × Int) :=
  (Option.bind (whole_Sign.f k a1) fun r1 =>
    (bif (decide (r1 = (0 : Int))) then
      (some (((false, ([] : List Int)), ([] : List Int)), (11 : Int)))
    else
      (Option.bind (whole_Sign.f k a1) fun r2 =>
        (bif (decide (r2 < (0 : Int))) then
          (Option.bind (whole_Neg.f k a0) fun r3 =>
            q11 r3 a1 ((false, ([] : List Int)), ([] : List Int)))
        else
          q11 a0 a1 ((false, ([] : List Int)), ([] : List Int))))))
def pts : Nat → ((Bool × (List Int)) → (Bool × (List Int)) → ((Bool × (List Int)) × (List Int)) → Option (((Bool × (List Int)) × (List Int)) × Int))
  | 0 => fun _ _ _ => none
  | k + 1 => e11 k (pts k)
def p11 (k : Nat) : (Bool × (List Int)) → (Bool × (List Int)) → ((Bool × (List Int)) × (List Int)) → Option (((Bool × (List Int)) × (List Int)) × Int) := (pts k)
theorem p11_succ (k : Nat) (x0 : (Bool × (List Int))) (x1 : (Bool × (List Int))) (x2 : ((Bool × (List Int)) × (List Int))) : p11 (k + 1) x0 x1 x2 = e11 k (p11 k) x0 x1 x2 := rfl
def f (k : Nat) (a0 : (Bool × (List Int))) (a1 : (Bool × (List Int))) : Option (((Bool × (List Int)) × (List Int)) × Int) := e k (p11 k) a0 a1
end ratio_Of

namespace ratio_Inv
def e (k : Nat) (a0 : ((Bool × (List Int)) × (List Int))) : Option (((Bool × (List Int)) × (List Int)) × Int) :=
  (Option.bind (ratio_Norm.f k a0) fun r1 =>
    (Option.bind (ratio_Of.f k (false, r1.2) r1.1) fun r2 =>
      (some (r2.1, r2.2))))
def f (k : Nat) (a0 : ((Bool × (List Int)) × (List Int))) : Option (((Bool × (List Int)) × (List Int)) × Int) := e k a0
end ratio_Inv

namespace approx_two
def e11 (_k : Nat) (_q11 : ((Bool × (List Int)) × (List Int)) → ((Bool × (List Int)) × (List Int)) → Option ((Bool × (List Int)) × (List Int))) (_b0 : ((Bool × (List Int)) × (List Int))) (b1 : ((Bool × (List Int)) × (List Int))) : Option ((Bool × (List Int)) × (List Int)) :=
  (some b1)
def e (k : Nat) (q11 : ((Bool × (List Int)) × (List Int)) → ((Bool × (List Int)) × (List Int)) → Option ((Bool × (List Int)) × (List Int))) (a0 : Int) : Option ((Bool × (List Int)) × (List Int)) :=
  (Option.bind (nat_Of.f k (1 : Int)) fun r1 =>
    (Option.bind (nat_Shift.f k r1 (bif decide ((IntKind.i64.wrap (0 - a0)) > a0) then (IntKind.i64.wrap (0 - a0)) else a0)) fun r2 =>
      (Option.bind (whole_Of.f k (1 : Int)) fun r3 =>
        (Option.bind (ratio_Of.f k (false, r2.1) r3) fun r4 =>
          (bif (decide (a0 < (0 : Int))) then
            (Option.bind (ratio_Inv.f k r4.1) fun r5 =>
              q11 ((false, ([] : List Int)), ([] : List Int)) r5.1)
          else
            q11 ((false, ([] : List Int)), ([] : List Int)) r4.1)))))
def pts : Nat → (((Bool × (List Int)) × (List Int)) → ((Bool × (List Int)) × (List Int)) → Option ((Bool × (List Int)) × (List Int)))
  | 0 => fun _ _ => none
  | k + 1 => e11 k (pts k)
def p11 (k : Nat) : ((Bool × (List Int)) × (List Int)) → ((Bool × (List Int)) × (List Int)) → Option ((Bool × (List Int)) × (List Int)) := (pts k)
theorem p11_succ (k : Nat) (x0 : ((Bool × (List Int)) × (List Int))) (x1 : ((Bool × (List Int)) × (List Int))) : p11 (k + 1) x0 x1 = e11 k (p11 k) x0 x1 := rfl
def f (k : Nat) (a0 : Int) : Option ((Bool × (List Int)) × (List Int)) := e k (p11 k) a0
end approx_two

namespace nat_Mul
def e0 (k : Nat) (_q0 : (List Int) → (List Int) → (List Int) → Int → Int → Option (List Int)) (q4 : (List Int) → (List Int) → (List Int) → Int → Int → Int → Int → Int → Int → Option (List Int)) (b0 : (List Int)) (b1 : (List Int)) (b2 : (List Int)) (b3 : Int) (b4 : Int) : Option (List Int) :=
  (bif (decide (b4 < b3)) then
    q4 b0 b1 b2 b4 (0 : Int) b3 b4 (b2.length : Int) (0 : Int)
  else
    (Option.bind (nat_own.f k b0) fun r3 =>
      (some r3)))
def e4 (_k : Nat) (q0 : (List Int) → (List Int) → (List Int) → Int → Int → Option (List Int)) (q4 : (List Int) → (List Int) → (List Int) → Int → Int → Int → Int → Int → Int → Option (List Int)) (b0 : (List Int)) (b1 : (List Int)) (b2 : (List Int)) (b3 : Int) (b4 : Int) (b5 : Int) (b6 : Int) (b7 : Int) (b8 : Int) : Option (List Int) :=
  (bif (decide (b8 < b7)) then
    (bif (decide (0 ≤ b3) && decide (b3 < (b1.length : Int))) then
      (bif (decide (0 ≤ b8) && decide (b8 < (b2.length : Int))) then
        (bif (decide (0 ≤ (IntKind.i64.wrap (b3 + b8))) && decide ((IntKind.i64.wrap (b3 + b8)) < (b0.length : Int))) then
          (bif (decide (0 ≤ (IntKind.i64.wrap (b3 + b8))) && decide ((IntKind.i64.wrap (b3 + b8)) < (b0.length : Int))) then
            q4 (setN (IntKind.u32.wrap (IntKind.u64.wrap ((IntKind.u64.wrap ((IntKind.u64.wrap ((IntKind.u64.wrap (nthD (0 : Int) b1 (Int.toNat b3))) * (IntKind.u64.wrap (nthD (0 : Int) b2 (Int.toNat b8))))) + (IntKind.u64.wrap (nthD (0 : Int) b0 (Int.toNat (IntKind.i64.wrap (b3 + b8))))))) + b4))) b0 (Int.toNat (IntKind.i64.wrap (b3 + b8)))) b1 b2 b3 (Int.fdiv (IntKind.u64.wrap ((IntKind.u64.wrap ((IntKind.u64.wrap ((IntKind.u64.wrap (nthD (0 : Int) b1 (Int.toNat b3))) * (IntKind.u64.wrap (nthD (0 : Int) b2 (Int.toNat b8))))) + (IntKind.u64.wrap (nthD (0 : Int) b0 (Int.toNat (IntKind.i64.wrap (b3 + b8))))))) + b4)) (2 ^ 32)) b5 b6 b7 (IntKind.i64.wrap (b8 + (1 : Int)))
          else
            none)
        else
          none)
      else
        none)
    else
      none)
  else
    (bif (decide (0 ≤ (IntKind.i64.wrap (b3 + (b2.length : Int)))) && decide ((IntKind.i64.wrap (b3 + (b2.length : Int))) < (b0.length : Int))) then
      q0 (setN (IntKind.u32.wrap b4) b0 (Int.toNat (IntKind.i64.wrap (b3 + (b2.length : Int))))) b1 b2 b5 (IntKind.i64.wrap (b6 + (1 : Int)))
    else
      none))
def e (k : Nat) (q0 : (List Int) → (List Int) → (List Int) → Int → Int → Option (List Int)) (_q4 : (List Int) → (List Int) → (List Int) → Int → Int → Int → Int → Int → Int → Option (List Int)) (a0 : (List Int)) (a1 : (List Int)) : Option (List Int) :=
  (Option.bind (nat_trim.f k a0) fun r1 =>
    (Option.bind (nat_trim.f k a1) fun r2 =>
      (bif (decide (0 ≤ (IntKind.i64.wrap ((r1.length : Int) + (r2.length : Int)))) && decide ((IntKind.i64.wrap ((r1.length : Int) + (r2.length : Int))) * 4 ≤ 281474976710656) && decide ((IntKind.i64.wrap ((r1.length : Int) + (r2.length : Int))) ≤ 9223372036854775807)) then
        q0 (List.replicate (Int.toNat (IntKind.i64.wrap ((r1.length : Int) + (r2.length : Int)))) (0 : Int)) r1 r2 (r1.length : Int) (0 : Int)
      else
        none)))
def pts : Nat → ((List Int) → (List Int) → (List Int) → Int → Int → Option (List Int)) × ((List Int) → (List Int) → (List Int) → Int → Int → Int → Int → Int → Int → Option (List Int))
  | 0 => (fun _ _ _ _ _ => none, fun _ _ _ _ _ _ _ _ _ => none)
  | k + 1 => (e0 k (pts k).1 (pts k).2, e4 k (pts k).1 (pts k).2)
def p0 (k : Nat) : (List Int) → (List Int) → (List Int) → Int → Int → Option (List Int) := (pts k).1
def p4 (k : Nat) : (List Int) → (List Int) → (List Int) → Int → Int → Int → Int → Int → Int → Option (List Int) := (pts k).2
theorem p0_succ (k : Nat) (x0 : (List Int)) (x1 : (List Int)) (x2 : (List Int)) (x3 : Int) (x4 : Int) : p0 (k + 1) x0 x1 x2 x3 x4 = e0 k (p0 k) (p4 k) x0 x1 x2 x3 x4 := rfl
theorem p4_succ (k : Nat) (x0 : (List Int)) (x1 : (List Int)) (x2 : (List Int)) (x3 : Int) (x4 : Int) (x5 : Int) (x6 : Int) (x7 : Int) (x8 : Int) : p4 (k + 1) x0 x1 x2 x3 x4 x5 x6 x7 x8 = e4 k (p0 k) (p4 k) x0 x1 x2 x3 x4 x5 x6 x7 x8 := rfl
def f (k : Nat) (a0 : (List Int)) (a1 : (List Int)) : Option (List Int) := e k (p0 k) (p4 k) a0 a1
end nat_Mul

namespace whole_Mul
def e (k : Nat) (a0 : (Bool × (List Int))) (a1 : (Bool × (List Int))) : Option (Bool × (List Int)) :=
  (Option.bind (nat_Mul.f k a0.2 a1.2) fun r1 =>
    (Option.bind (whole_Sign.f k a0) fun r2 =>
      (Option.bind (whole_Sign.f k a1) fun r3 =>
        (Option.bind (whole_signed.f k r1 [r2, r3]) fun r4 =>
          (some r4)))))
def f (k : Nat) (a0 : (Bool × (List Int))) (a1 : (Bool × (List Int))) : Option (Bool × (List Int)) := e k a0 a1
end whole_Mul

namespace ratio_Mul
def e (k : Nat) (a0 : ((Bool × (List Int)) × (List Int))) (a1 : ((Bool × (List Int)) × (List Int))) : Option ((Bool × (List Int)) × (List Int)) :=
  (Option.bind (ratio_Norm.f k a0) fun r1 =>
    (Option.bind (ratio_Norm.f k a1) fun r2 =>
      (Option.bind (whole_Mul.f k r1.1 r2.1) fun r3 =>
        (Option.bind (nat_Mul.f k r1.2 r2.2) fun r4 =>
          (Option.bind (ratio_made.f k r3 r4) fun r5 =>
            (some r5))))))
def f (k : Nat) (a0 : ((Bool × (List Int)) × (List Int))) (a1 : ((Bool × (List Int)) × (List Int))) : Option ((Bool × (List Int)) × (List Int)) := e k a0 a1
end ratio_Mul

namespace approx_Exact
def e21 (k : Nat) (_q21 : ((Bool × (List Int)) × (List Int)) → Nat → Int → Int → Option (((Bool × (List Int)) × (List Int)) × Int)) (_b0 : ((Bool × (List Int)) × (List Int))) (b1 : Nat) (b2 : Int) (b3 : Int) : Option (((Bool × (List Int)) × (List Int)) × Int) :=
  (Option.bind (nat_Of.f k b2) fun r4 =>
    (Option.bind (whole_Of.f k (1 : Int)) fun r5 =>
      (Option.bind (ratio_Of.f k ((fLt b1 (0 : Nat)), r4) r5) fun r6 =>
        (Option.bind (approx_two.f k (IntKind.i64.wrap (b3 + (-1074 : Int)))) fun r7 =>
          (Option.bind (ratio_Mul.f k r6.1 r7) fun r8 =>
            (some (r8, (0 : Int))))))))
def e (k : Nat) (q21 : ((Bool × (List Int)) × (List Int)) → Nat → Int → Int → Option (((Bool × (List Int)) × (List Int)) × Int)) (a0 : Nat) : Option (((Bool × (List Int)) × (List Int)) × Int) :=
  (Option.bind (math_IsNaN.f k a0) fun r1 =>
    (bif r1 then
      (some (((false, ([] : List Int)), ([] : List Int)), (40 : Int)))
    else
      (Option.bind (math_IsInf.f k a0 (0 : Int)) fun r2 =>
        (bif r2 then
          (some (((false, ([] : List Int)), ([] : List Int)), (41 : Int)))
        else
          (Option.bind (math_Float64bits.f k a0) fun r3 =>
            (bif (decide ((IntKind.i64.wrap (Int.fdiv (bitsI .andNot .u64 r3 (9223372036854775808 : Int)) (2 ^ 52))) > (0 : Int))) then
              q21 ((false, ([] : List Int)), ([] : List Int)) a0 (bitsI .or .u64 (bitsI .and .u64 (bitsI .andNot .u64 r3 (9223372036854775808 : Int)) (4503599627370495 : Int)) (4503599627370496 : Int)) (IntKind.i64.wrap ((IntKind.i64.wrap (Int.fdiv (bitsI .andNot .u64 r3 (9223372036854775808 : Int)) (2 ^ 52))) - (1 : Int)))
            else
              q21 ((false, ([] : List Int)), ([] : List Int)) a0 (bitsI .and .u64 (bitsI .andNot .u64 r3 (9223372036854775808 : Int)) (4503599627370495 : Int)) (IntKind.i64.wrap (Int.fdiv (bitsI .andNot .u64 r3 (9223372036854775808 : Int)) (2 ^ 52)))))))))
def pts : Nat → (((Bool × (List Int)) × (List Int)) → Nat → Int → Int → Option (((Bool × (List Int)) × (List Int)) × Int))
  | 0 => fun _ _ _ _ => none
  | k + 1 => e21 k (pts k)
def p21 (k : Nat) : ((Bool × (List Int)) × (List Int)) → Nat → Int → Int → Option (((Bool × (List Int)) × (List Int)) × Int) := (pts k)
theorem p21_succ (k : Nat) (x0 : ((Bool × (List Int)) × (List Int))) (x1 : Nat) (x2 : Int) (x3 : Int) : p21 (k + 1) x0 x1 x2 x3 = e21 k (p21 k) x0 x1 x2 x3 := rfl
def f (k : Nat) (a0 : Nat) : Option (((Bool × (List Int)) × (List Int)) × Int) := e k (p21 k) a0
end approx_Exact

namespace approx_endOf
def e (k : Nat) (a0 : Nat) : Option (Int × ((Bool × (List Int)) × (List Int))) :=
  (Option.bind (math_IsInf.f k a0 (1 : Int)) fun r1 =>
    (bif r1 then
      (some ((1 : Int), ((false, ([] : List Int)), ([] : List Int))))
    else
      (Option.bind (math_IsInf.f k a0 (-1 : Int)) fun r2 =>
        (bif r2 then
          (some ((-1 : Int), ((false, ([] : List Int)), ([] : List Int))))
        else
          (Option.bind (approx_Exact.f k a0) fun r3 =>
            (some ((0 : Int), r3.1)))))))
def f (k : Nat) (a0 : Nat) : Option (Int × ((Bool × (List Int)) × (List Int))) := e k a0
end approx_endOf

namespace nat_Sub
def e0 (k : Nat) (_q0 : (List Int) → (List Int) → (List Int) → Int → Int → Int → Option ((List Int) × Int)) (q25 : (List Int) → (List Int) → (List Int) → Int → Int → Int → Int → Int → Option ((List Int) × Int)) (b0 : (List Int)) (b1 : (List Int)) (b2 : (List Int)) (b3 : Int) (b4 : Int) (b5 : Int) : Option ((List Int) × Int) :=
  (bif (decide (b5 < b4)) then
    (bif (decide (b5 < (b2.length : Int))) then
      (bif (decide (0 ≤ b5) && decide (b5 < (b2.length : Int))) then
        q25 b0 b1 b2 b3 b5 (nthD (0 : Int) b2 (Int.toNat b5)) b4 b5
      else
        none)
    else
      q25 b0 b1 b2 b3 b5 (0 : Int) b4 b5)
  else
    (Option.bind (nat_own.f k b0) fun r3 =>
      (some (r3, (0 : Int)))))
def e25 (k : Nat) (q0 : (List Int) → (List Int) → (List Int) → Int → Int → Int → Option ((List Int) × Int)) (_q25 : (List Int) → (List Int) → (List Int) → Int → Int → Int → Int → Int → Option ((List Int) × Int)) (b0 : (List Int)) (b1 : (List Int)) (b2 : (List Int)) (b3 : Int) (b4 : Int) (b5 : Int) (b6 : Int) (b7 : Int) : Option ((List Int) × Int) :=
  (bif (decide (0 ≤ b4) && decide (b4 < (b1.length : Int))) then
    (Option.bind (bits_Sub32.f k (nthD (0 : Int) b1 (Int.toNat b4)) b5 b3) fun r4 =>
      (bif (decide (0 ≤ b4) && decide (b4 < (b0.length : Int))) then
        q0 (setN r4.1 b0 (Int.toNat b4)) b1 b2 r4.2 b6 (IntKind.i64.wrap (b7 + (1 : Int)))
      else
        none))
  else
    none)
def e (k : Nat) (q0 : (List Int) → (List Int) → (List Int) → Int → Int → Int → Option ((List Int) × Int)) (_q25 : (List Int) → (List Int) → (List Int) → Int → Int → Int → Int → Int → Option ((List Int) × Int)) (a0 : (List Int)) (a1 : (List Int)) : Option ((List Int) × Int) :=
  (Option.bind (nat_Cmp.f k a0 a1) fun r1 =>
    (bif (decide (r1 < (0 : Int))) then
      (some (([] : List Int), (10 : Int)))
    else
      (Option.bind (nat_trim.f k a1) fun r2 =>
        (bif (decide (0 ≤ (a0.length : Int)) && decide ((a0.length : Int) * 4 ≤ 281474976710656) && decide ((a0.length : Int) ≤ 9223372036854775807)) then
          q0 (List.replicate (Int.toNat (a0.length : Int)) (0 : Int)) a0 r2 (0 : Int) (a0.length : Int) (0 : Int)
        else
          none))))
def pts : Nat → ((List Int) → (List Int) → (List Int) → Int → Int → Int → Option ((List Int) × Int)) × ((List Int) → (List Int) → (List Int) → Int → Int → Int → Int → Int → Option ((List Int) × Int))
  | 0 => (fun _ _ _ _ _ _ => none, fun _ _ _ _ _ _ _ _ => none)
  | k + 1 => (e0 k (pts k).1 (pts k).2, e25 k (pts k).1 (pts k).2)
def p0 (k : Nat) : (List Int) → (List Int) → (List Int) → Int → Int → Int → Option ((List Int) × Int) := (pts k).1
def p25 (k : Nat) : (List Int) → (List Int) → (List Int) → Int → Int → Int → Int → Int → Option ((List Int) × Int) := (pts k).2
theorem p0_succ (k : Nat) (x0 : (List Int)) (x1 : (List Int)) (x2 : (List Int)) (x3 : Int) (x4 : Int) (x5 : Int) : p0 (k + 1) x0 x1 x2 x3 x4 x5 = e0 k (p0 k) (p25 k) x0 x1 x2 x3 x4 x5 := rfl
theorem p25_succ (k : Nat) (x0 : (List Int)) (x1 : (List Int)) (x2 : (List Int)) (x3 : Int) (x4 : Int) (x5 : Int) (x6 : Int) (x7 : Int) : p25 (k + 1) x0 x1 x2 x3 x4 x5 x6 x7 = e25 k (p0 k) (p25 k) x0 x1 x2 x3 x4 x5 x6 x7 := rfl
def f (k : Nat) (a0 : (List Int)) (a1 : (List Int)) : Option ((List Int) × Int) := e k (p0 k) (p25 k) a0 a1
end nat_Sub

namespace whole_Add
def e (k : Nat) (a0 : (Bool × (List Int))) (a1 : (Bool × (List Int))) : Option (Bool × (List Int)) :=
  (Option.bind (whole_Sign.f k a0) fun r1 =>
    (Option.bind (whole_Sign.f k a1) fun r2 =>
      (bif (decide ((IntKind.i64.wrap (r1 * r2)) ≥ (0 : Int))) then
        (Option.bind (nat_Add.f k a0.2 a1.2) fun r3 =>
          (Option.bind (whole_signed.f k r3 [(bitsI .or .i64 (bitsI .or .i64 r1 r2) (1 : Int))]) fun r4 =>
            (some r4)))
      else
        (Option.bind (nat_Cmp.f k a0.2 a1.2) fun r5 =>
          (bif (decide (r5 ≥ (0 : Int))) then
            (Option.bind (nat_Sub.f k a0.2 a1.2) fun r6 =>
              (Option.bind (whole_signed.f k r6.1 [r1]) fun r7 =>
                (some r7)))
          else
            (Option.bind (nat_Sub.f k a1.2 a0.2) fun r8 =>
              (Option.bind (whole_signed.f k r8.1 [r2]) fun r9 =>
                (some r9))))))))
def f (k : Nat) (a0 : (Bool × (List Int))) (a1 : (Bool × (List Int))) : Option (Bool × (List Int)) := e k a0 a1
end whole_Add

namespace whole_Sub
def e (k : Nat) (a0 : (Bool × (List Int))) (a1 : (Bool × (List Int))) : Option (Bool × (List Int)) :=
  (Option.bind (whole_Neg.f k a1) fun r1 =>
    (Option.bind (whole_Add.f k a0 r1) fun r2 =>
      (some r2)))
def f (k : Nat) (a0 : (Bool × (List Int))) (a1 : (Bool × (List Int))) : Option (Bool × (List Int)) := e k a0 a1
end whole_Sub

namespace whole_Cmp
def e (k : Nat) (a0 : (Bool × (List Int))) (a1 : (Bool × (List Int))) : Option Int :=
  (Option.bind (whole_Sub.f k a0 a1) fun r1 =>
    (Option.bind (whole_Sign.f k r1) fun r2 =>
      (some r2)))
def f (k : Nat) (a0 : (Bool × (List Int))) (a1 : (Bool × (List Int))) : Option Int := e k a0 a1
end whole_Cmp

namespace ratio_Cmp
def e (k : Nat) (a0 : ((Bool × (List Int)) × (List Int))) (a1 : ((Bool × (List Int)) × (List Int))) : Option Int :=
  (Option.bind (ratio_Norm.f k a0) fun r1 =>
    (Option.bind (ratio_Norm.f k a1) fun r2 =>
      (Option.bind (whole_Mul.f k r1.1 (false, r2.2)) fun r3 =>
        (Option.bind (whole_Mul.f k r2.1 (false, r1.2)) fun r4 =>
          (Option.bind (whole_Cmp.f k r3 r4) fun r5 =>
            (some r5))))))
def f (k : Nat) (a0 : ((Bool × (List Int)) × (List Int))) (a1 : ((Bool × (List Int)) × (List Int))) : Option Int := e k a0 a1
end ratio_Cmp

namespace approx_cmp
def e (k : Nat) (a0 : (Int × ((Bool × (List Int)) × (List Int)))) (a1 : (Int × ((Bool × (List Int)) × (List Int)))) : Option Int :=
  (bif (!decide (a0.1 = a1.1)) then
    (some (IntKind.i64.wrap (a0.1 - a1.1)))
  else
    (bif (!decide (a0.1 = (0 : Int))) then
      (some (0 : Int))
    else
      (Option.bind (ratio_Cmp.f k a0.2 a1.2) fun r1 =>
        (some r1))))
def f (k : Nat) (a0 : (Int × ((Bool × (List Int)) × (List Int)))) (a1 : (Int × ((Bool × (List Int)) × (List Int)))) : Option Int := e k a0 a1
end approx_cmp

namespace approx_In
def e (k : Nat) (a0 : ((Bool × (List Int)) × (List Int))) (a1 : (Nat × Nat)) : Option Bool :=
  (Option.bind (approx_Valid.f k a1) fun r1 =>
    (bif r1 then
      (Option.bind (approx_endOf.f k a1.1) fun r2 =>
        (Option.bind (approx_cmp.f k r2 ((0 : Int), a0)) fun r3 =>
          (bif (decide (r3 ≤ (0 : Int))) then
            (Option.bind (approx_endOf.f k a1.2) fun r4 =>
              (Option.bind (approx_cmp.f k ((0 : Int), a0) r4) fun r5 =>
                (some (decide (r5 ≤ (0 : Int))))))
          else
            (some false))))
    else
      (some false)))
def f (k : Nat) (a0 : ((Bool × (List Int)) × (List Int))) (a1 : (Nat × Nat)) : Option Bool := e k a0 a1
end approx_In

namespace ref02_made
def e (k : Nat) (a0 : Bool) (a1 : (List Int)) : Option (Bool × (List Int)) :=
  (Option.bind (ref01_Norm.f k a1) fun r1 =>
    (bif a0 then
      (some ((decide ((r1.length : Int) > (0 : Int))), r1))
    else
      (some (false, r1))))
def f (k : Nat) (a0 : Bool) (a1 : (List Int)) : Option (Bool × (List Int)) := e k a0 a1
end ref02_made

namespace ref02_Norm
def e (k : Nat) (a0 : (Bool × (List Int))) : Option (Bool × (List Int)) :=
  (Option.bind (ref02_made.f k a0.1 a0.2) fun r1 =>
    (some r1))
def f (k : Nat) (a0 : (Bool × (List Int))) : Option (Bool × (List Int)) := e k a0
end ref02_Norm

namespace ref01_Gcd
def e19 (_k : Nat) (_q19 : (List Int) → Option (List Int)) (_q0 : (List Int) → (List Int) → Int → Option (List Int)) (_q4 : (List Int) → (List Int) → Int → Option (List Int)) (_q8 : (List Int) → (List Int) → Int → Option (List Int)) (_q16 : (List Int) → Int → Int → Option (List Int)) (_q12 : (List Int) → (List Int) → Int → Option (List Int)) (_q45 : (List Int) → (List Int) → Int → Option (List Int)) (b0 : (List Int)) : Option (List Int) :=
  (some b0)
def e0 (k : Nat) (_q19 : (List Int) → Option (List Int)) (q0 : (List Int) → (List Int) → Int → Option (List Int)) (q4 : (List Int) → (List Int) → Int → Option (List Int)) (_q8 : (List Int) → (List Int) → Int → Option (List Int)) (_q16 : (List Int) → Int → Int → Option (List Int)) (_q12 : (List Int) → (List Int) → Int → Option (List Int)) (_q45 : (List Int) → (List Int) → Int → Option (List Int)) (b0 : (List Int)) (b1 : (List Int)) (b2 : Int) : Option (List Int) :=
  (Option.bind (ref01_Bit.f k b0 (0 : Int)) fun r5 =>
    (bif (!r5) then
      (Option.bind (ref01_Bit.f k b1 (0 : Int)) fun r6 =>
        (bif (!r6) then
          (Option.bind (ref01_Shift.f k b0 (-1 : Int)) fun r7 =>
            (Option.bind (ref01_Shift.f k b1 (-1 : Int)) fun r8 =>
              q0 r7.1 r8.1 (IntKind.i64.wrap (b2 + (1 : Int)))))
        else
          q4 b0 b1 b2))
    else
      q4 b0 b1 b2))
def e4 (_k : Nat) (_q19 : (List Int) → Option (List Int)) (_q0 : (List Int) → (List Int) → Int → Option (List Int)) (_q4 : (List Int) → (List Int) → Int → Option (List Int)) (q8 : (List Int) → (List Int) → Int → Option (List Int)) (q16 : (List Int) → Int → Int → Option (List Int)) (_q12 : (List Int) → (List Int) → Int → Option (List Int)) (_q45 : (List Int) → (List Int) → Int → Option (List Int)) (b0 : (List Int)) (b1 : (List Int)) (b2 : Int) : Option (List Int) :=
  (bif (decide ((b1.length : Int) > (0 : Int))) then
    q8 b0 b1 b2
  else
    q16 b0 b2 (0 : Int))
def e8 (k : Nat) (_q19 : (List Int) → Option (List Int)) (_q0 : (List Int) → (List Int) → Int → Option (List Int)) (_q4 : (List Int) → (List Int) → Int → Option (List Int)) (q8 : (List Int) → (List Int) → Int → Option (List Int)) (_q16 : (List Int) → Int → Int → Option (List Int)) (q12 : (List Int) → (List Int) → Int → Option (List Int)) (_q45 : (List Int) → (List Int) → Int → Option (List Int)) (b0 : (List Int)) (b1 : (List Int)) (b2 : Int) : Option (List Int) :=
  (Option.bind (ref01_Bit.f k b0 (0 : Int)) fun r9 =>
    (bif (!r9) then
      (Option.bind (ref01_Shift.f k b0 (-1 : Int)) fun r10 =>
        q8 r10.1 b1 b2)
    else
      q12 b0 b1 b2))
def e16 (k : Nat) (_q19 : (List Int) → Option (List Int)) (_q0 : (List Int) → (List Int) → Int → Option (List Int)) (_q4 : (List Int) → (List Int) → Int → Option (List Int)) (_q8 : (List Int) → (List Int) → Int → Option (List Int)) (q16 : (List Int) → Int → Int → Option (List Int)) (_q12 : (List Int) → (List Int) → Int → Option (List Int)) (_q45 : (List Int) → (List Int) → Int → Option (List Int)) (b0 : (List Int)) (b1 : Int) (b2 : Int) : Option (List Int) :=
  (bif (decide (b2 < b1)) then
    (Option.bind (ref01_twice.f k b0 false) fun r11 =>
      q16 r11 b1 (IntKind.i64.wrap (b2 + (1 : Int))))
  else
    (some b0))
def e12 (k : Nat) (_q19 : (List Int) → Option (List Int)) (_q0 : (List Int) → (List Int) → Int → Option (List Int)) (_q4 : (List Int) → (List Int) → Int → Option (List Int)) (_q8 : (List Int) → (List Int) → Int → Option (List Int)) (_q16 : (List Int) → Int → Int → Option (List Int)) (q12 : (List Int) → (List Int) → Int → Option (List Int)) (q45 : (List Int) → (List Int) → Int → Option (List Int)) (b0 : (List Int)) (b1 : (List Int)) (b2 : Int) : Option (List Int) :=
  (Option.bind (ref01_Bit.f k b1 (0 : Int)) fun r12 =>
    (bif (!r12) then
      (Option.bind (ref01_Shift.f k b1 (-1 : Int)) fun r13 =>
        q12 b0 r13.1 b2)
    else
      (Option.bind (ref01_Cmp.f k b0 b1) fun r14 =>
        (bif (decide (r14 > (0 : Int))) then
          q45 b1 b0 b2
        else
          q45 b0 b1 b2))))
def e45 (k : Nat) (_q19 : (List Int) → Option (List Int)) (_q0 : (List Int) → (List Int) → Int → Option (List Int)) (q4 : (List Int) → (List Int) → Int → Option (List Int)) (_q8 : (List Int) → (List Int) → Int → Option (List Int)) (_q16 : (List Int) → Int → Int → Option (List Int)) (_q12 : (List Int) → (List Int) → Int → Option (List Int)) (_q45 : (List Int) → (List Int) → Int → Option (List Int)) (b0 : (List Int)) (b1 : (List Int)) (b2 : Int) : Option (List Int) :=
  (Option.bind (ref01_Sub.f k b1 b0) fun r15 =>
    q4 b0 r15.1 b2)
def e (k : Nat) (q19 : (List Int) → Option (List Int)) (q0 : (List Int) → (List Int) → Int → Option (List Int)) (_q4 : (List Int) → (List Int) → Int → Option (List Int)) (_q8 : (List Int) → (List Int) → Int → Option (List Int)) (_q16 : (List Int) → Int → Int → Option (List Int)) (_q12 : (List Int) → (List Int) → Int → Option (List Int)) (_q45 : (List Int) → (List Int) → Int → Option (List Int)) (a0 : (List Int)) (a1 : (List Int)) : Option (List Int) :=
  (Option.bind (ref01_Norm.f k a0) fun r1 =>
    (Option.bind (ref01_Norm.f k a1) fun r2 =>
      (bif (decide ((r1.length : Int) = (0 : Int))) then
        (some r2)
      else
        (bif (decide ((r2.length : Int) = (0 : Int))) then
          (some r1)
        else
          (Option.bind (ref01_Cmp.f k r1 [(1 : Int)]) fun r3 =>
            (bif (decide (r3 = (0 : Int))) then
              q19 [(1 : Int)]
            else
              (Option.bind (ref01_Cmp.f k r2 [(1 : Int)]) fun r4 =>
                (bif (decide (r4 = (0 : Int))) then
                  q19 [(1 : Int)]
                else
                  q0 r1 r2 (0 : Int)))))))))
def pts : Nat → ((List Int) → Option (List Int)) × ((List Int) → (List Int) → Int → Option (List Int)) × ((List Int) → (List Int) → Int → Option (List Int)) × ((List Int) → (List Int) → Int → Option (List Int)) × ((List Int) → Int → Int → Option (List Int)) × ((List Int) → (List Int) → Int → Option (List Int)) × ((List Int) → (List Int) → Int → Option (List Int))
  | 0 => (fun _ => none, fun _ _ _ => none, fun _ _ _ => none, fun _ _ _ => none, fun _ _ _ => none, fun _ _ _ => none, fun _ _ _ => none)
  | k + 1 => (e19 k (pts k).1 (pts k).2.1 (pts k).2.2.1 (pts k).2.2.2.1 (pts k).2.2.2.2.1 (pts k).2.2.2.2.2.1 (pts k).2.2.2.2.2.2, e0 k (pts k).1 (pts k).2.1 (pts k).2.2.1 (pts k).2.2.2.1 (pts k).2.2.2.2.1 (pts k).2.2.2.2.2.1 (pts k).2.2.2.2.2.2, e4 k (pts k).1 (pts k).2.1 (pts k).2.2.1 (pts k).2.2.2.1 (pts k).2.2.2.2.1 (pts k).2.2.2.2.2.1 (pts k).2.2.2.2.2.2, e8 k (pts k).1 (pts k).2.1 (pts k).2.2.1 (pts k).2.2.2.1 (pts k).2.2.2.2.1 (pts k).2.2.2.2.2.1 (pts k).2.2.2.2.2.2, e16 k (pts k).1 (pts k).2.1 (pts k).2.2.1 (pts k).2.2.2.1 (pts k).2.2.2.2.1 (pts k).2.2.2.2.2.1 (pts k).2.2.2.2.2.2, e12 k (pts k).1 (pts k).2.1 (pts k).2.2.1 (pts k).2.2.2.1 (pts k).2.2.2.2.1 (pts k).2.2.2.2.2.1 (pts k).2.2.2.2.2.2, e45 k (pts k).1 (pts k).2.1 (pts k).2.2.1 (pts k).2.2.2.1 (pts k).2.2.2.2.1 (pts k).2.2.2.2.2.1 (pts k).2.2.2.2.2.2)
def p19 (k : Nat) : (List Int) → Option (List Int) := (pts k).1
def p0 (k : Nat) : (List Int) → (List Int) → Int → Option (List Int) := (pts k).2.1
def p4 (k : Nat) : (List Int) → (List Int) → Int → Option (List Int) := (pts k).2.2.1
def p8 (k : Nat) : (List Int) → (List Int) → Int → Option (List Int) := (pts k).2.2.2.1
def p16 (k : Nat) : (List Int) → Int → Int → Option (List Int) := (pts k).2.2.2.2.1
def p12 (k : Nat) : (List Int) → (List Int) → Int → Option (List Int) := (pts k).2.2.2.2.2.1
def p45 (k : Nat) : (List Int) → (List Int) → Int → Option (List Int) := (pts k).2.2.2.2.2.2
theorem p19_succ (k : Nat) (x0 : (List Int)) : p19 (k + 1) x0 = e19 k (p19 k) (p0 k) (p4 k) (p8 k) (p16 k) (p12 k) (p45 k) x0 := rfl
theorem p0_succ (k : Nat) (x0 : (List Int)) (x1 : (List Int)) (x2 : Int) : p0 (k + 1) x0 x1 x2 = e0 k (p19 k) (p0 k) (p4 k) (p8 k) (p16 k) (p12 k) (p45 k) x0 x1 x2 := rfl
theorem p4_succ (k : Nat) (x0 : (List Int)) (x1 : (List Int)) (x2 : Int) : p4 (k + 1) x0 x1 x2 = e4 k (p19 k) (p0 k) (p4 k) (p8 k) (p16 k) (p12 k) (p45 k) x0 x1 x2 := rfl
theorem p8_succ (k : Nat) (x0 : (List Int)) (x1 : (List Int)) (x2 : Int) : p8 (k + 1) x0 x1 x2 = e8 k (p19 k) (p0 k) (p4 k) (p8 k) (p16 k) (p12 k) (p45 k) x0 x1 x2 := rfl
theorem p16_succ (k : Nat) (x0 : (List Int)) (x1 : Int) (x2 : Int) : p16 (k + 1) x0 x1 x2 = e16 k (p19 k) (p0 k) (p4 k) (p8 k) (p16 k) (p12 k) (p45 k) x0 x1 x2 := rfl
theorem p12_succ (k : Nat) (x0 : (List Int)) (x1 : (List Int)) (x2 : Int) : p12 (k + 1) x0 x1 x2 = e12 k (p19 k) (p0 k) (p4 k) (p8 k) (p16 k) (p12 k) (p45 k) x0 x1 x2 := rfl
theorem p45_succ (k : Nat) (x0 : (List Int)) (x1 : (List Int)) (x2 : Int) : p45 (k + 1) x0 x1 x2 = e45 k (p19 k) (p0 k) (p4 k) (p8 k) (p16 k) (p12 k) (p45 k) x0 x1 x2 := rfl
def f (k : Nat) (a0 : (List Int)) (a1 : (List Int)) : Option (List Int) := e k (p19 k) (p0 k) (p4 k) (p8 k) (p16 k) (p12 k) (p45 k) a0 a1
end ref01_Gcd

namespace ref03_Norm
def e9 (_k : Nat) (_q9 : ((Bool × (List Int)) × (List Int)) → Option ((Bool × (List Int)) × (List Int))) (_b0 : ((Bool × (List Int)) × (List Int))) : Option ((Bool × (List Int)) × (List Int)) :=
  (some ((false, ([] : List Int)), [(1 : Int)]))
def e (k : Nat) (q9 : ((Bool × (List Int)) × (List Int)) → Option ((Bool × (List Int)) × (List Int))) (a0 : ((Bool × (List Int)) × (List Int))) : Option ((Bool × (List Int)) × (List Int)) :=
  (Option.bind (ref02_Norm.f k a0.1) fun r1 =>
    (Option.bind (ref01_Norm.f k a0.2) fun r2 =>
      (bif (decide ((r2.length : Int) = (0 : Int))) then
        q9 ((false, ([] : List Int)), ([] : List Int))
      else
        (bif (decide ((r1.2.length : Int) = (0 : Int))) then
          q9 ((false, ([] : List Int)), ([] : List Int))
        else
          (Option.bind (ref01_Gcd.f k r1.2 r2) fun r3 =>
            (Option.bind (ref01_Div.f k r1.2 r3) fun r4 =>
              (Option.bind (ref01_Div.f k r2 r3) fun r5 =>
                (some ((r1.1, r4.1), r5.1)))))))))
def pts : Nat → (((Bool × (List Int)) × (List Int)) → Option ((Bool × (List Int)) × (List Int)))
  | 0 => fun _ => none
  | k + 1 => e9 k (pts k)
def p9 (k : Nat) : ((Bool × (List Int)) × (List Int)) → Option ((Bool × (List Int)) × (List Int)) := (pts k)
theorem p9_succ (k : Nat) (x0 : ((Bool × (List Int)) × (List Int))) : p9 (k + 1) x0 = e9 k (p9 k) x0 := rfl
def f (k : Nat) (a0 : ((Bool × (List Int)) × (List Int))) : Option ((Bool × (List Int)) × (List Int)) := e k (p9 k) a0
end ref03_Norm

namespace ref04_IsNaN
def e (_k : Nat) (a0 : Int) : Option Bool :=
  (some (decide ((bitsI .andNot .u64 a0 (9223372036854775808 : Int)) > (9218868437227405312 : Int))))
def f (k : Nat) (a0 : Int) : Option Bool := e k a0
end ref04_IsNaN

namespace ref04_IsInf
def e (_k : Nat) (a0 : Int) : Option Bool :=
  (some (decide ((bitsI .andNot .u64 a0 (9223372036854775808 : Int)) = (9218868437227405312 : Int))))
def f (k : Nat) (a0 : Int) : Option Bool := e k a0
end ref04_IsInf

namespace ref04_parts
def e (_k : Nat) (a0 : Int) : Option (Int × Int) :=
  (bif (decide ((IntKind.i64.wrap (Int.fdiv a0 (2 ^ 52))) = (0 : Int))) then
    (some ((bitsI .and .u64 a0 (4503599627370495 : Int)), (-1074 : Int)))
  else
    (some ((IntKind.u64.wrap ((bitsI .and .u64 a0 (4503599627370495 : Int)) + (4503599627370496 : Int))), (IntKind.i64.wrap ((IntKind.i64.wrap (Int.fdiv a0 (2 ^ 52))) - (1075 : Int))))))
def f (k : Nat) (a0 : Int) : Option (Int × Int) := e k a0
end ref04_parts

namespace ref01_Of
def e (k : Nat) (a0 : Int) : Option (List Int) :=
  (Option.bind (ref01_Norm.f k [(IntKind.u32.wrap a0), (IntKind.u32.wrap (Int.fdiv a0 (2 ^ 32)))]) fun r1 =>
    (some r1))
def f (k : Nat) (a0 : Int) : Option (List Int) := e k a0
end ref01_Of

namespace ref04_power
def e (k : Nat) (a0 : Int) : Option ((Bool × (List Int)) × (List Int)) :=
  (bif (decide (a0 < (0 : Int))) then
    (Option.bind (ref01_Shift.f k [(1 : Int)] (IntKind.i64.wrap ((0 : Int) - a0))) fun r1 =>
      (some ((false, [(1 : Int)]), r1.1)))
  else
    (Option.bind (ref01_Shift.f k [(1 : Int)] a0) fun r2 =>
      (some ((false, r2.1), [(1 : Int)]))))
def f (k : Nat) (a0 : Int) : Option ((Bool × (List Int)) × (List Int)) := e k a0
end ref04_power

namespace ref01_Mul
def e0 (k : Nat) (_q0 : (List Int) → (List Int) → (List Int) → Int → Option (List Int)) (q4 : (List Int) → (List Int) → (List Int) → Int → Int → Int → Option (List Int)) (b0 : (List Int)) (b1 : (List Int)) (b2 : (List Int)) (b3 : Int) : Option (List Int) :=
  (bif (decide (b3 < (b1.length : Int))) then
    q4 b0 b1 b2 b3 (0 : Int) (0 : Int)
  else
    (Option.bind (ref01_Norm.f k b0) fun r1 =>
      (some r1)))
def e4 (_k : Nat) (q0 : (List Int) → (List Int) → (List Int) → Int → Option (List Int)) (q4 : (List Int) → (List Int) → (List Int) → Int → Int → Int → Option (List Int)) (b0 : (List Int)) (b1 : (List Int)) (b2 : (List Int)) (b3 : Int) (b4 : Int) (b5 : Int) : Option (List Int) :=
  (bif (decide (b5 < (b2.length : Int))) then
    (bif (decide (0 ≤ b3) && decide (b3 < (b1.length : Int))) then
      (bif (decide (0 ≤ b5) && decide (b5 < (b2.length : Int))) then
        (bif (decide (0 ≤ (IntKind.i64.wrap (b3 + b5))) && decide ((IntKind.i64.wrap (b3 + b5)) < (b0.length : Int))) then
          (bif (decide (0 ≤ (IntKind.i64.wrap (b3 + b5))) && decide ((IntKind.i64.wrap (b3 + b5)) < (b0.length : Int))) then
            q4 (setN (IntKind.u32.wrap (IntKind.u64.wrap ((IntKind.u64.wrap ((IntKind.u64.wrap ((IntKind.u64.wrap (nthD (0 : Int) b1 (Int.toNat b3))) * (IntKind.u64.wrap (nthD (0 : Int) b2 (Int.toNat b5))))) + (IntKind.u64.wrap (nthD (0 : Int) b0 (Int.toNat (IntKind.i64.wrap (b3 + b5))))))) + b4))) b0 (Int.toNat (IntKind.i64.wrap (b3 + b5)))) b1 b2 b3 (Int.fdiv (IntKind.u64.wrap ((IntKind.u64.wrap ((IntKind.u64.wrap ((IntKind.u64.wrap (nthD (0 : Int) b1 (Int.toNat b3))) * (IntKind.u64.wrap (nthD (0 : Int) b2 (Int.toNat b5))))) + (IntKind.u64.wrap (nthD (0 : Int) b0 (Int.toNat (IntKind.i64.wrap (b3 + b5))))))) + b4)) (2 ^ 32)) (IntKind.i64.wrap (b5 + (1 : Int)))
          else
            none)
        else
          none)
      else
        none)
    else
      none)
  else
    (bif (decide (0 ≤ (IntKind.i64.wrap (b3 + (b2.length : Int)))) && decide ((IntKind.i64.wrap (b3 + (b2.length : Int))) < (b0.length : Int))) then
      q0 (setN (IntKind.u32.wrap b4) b0 (Int.toNat (IntKind.i64.wrap (b3 + (b2.length : Int))))) b1 b2 (IntKind.i64.wrap (b3 + (1 : Int)))
    else
      none))
def e (_k : Nat) (q0 : (List Int) → (List Int) → (List Int) → Int → Option (List Int)) (_q4 : (List Int) → (List Int) → (List Int) → Int → Int → Int → Option (List Int)) (a0 : (List Int)) (a1 : (List Int)) : Option (List Int) :=
  (bif (decide (0 ≤ (IntKind.i64.wrap ((a0.length : Int) + (a1.length : Int)))) && decide ((IntKind.i64.wrap ((a0.length : Int) + (a1.length : Int))) * 4 ≤ 281474976710656) && decide ((IntKind.i64.wrap ((a0.length : Int) + (a1.length : Int))) ≤ 9223372036854775807)) then
    q0 (List.replicate (Int.toNat (IntKind.i64.wrap ((a0.length : Int) + (a1.length : Int)))) (0 : Int)) a0 a1 (0 : Int)
  else
    none)
def pts : Nat → ((List Int) → (List Int) → (List Int) → Int → Option (List Int)) × ((List Int) → (List Int) → (List Int) → Int → Int → Int → Option (List Int))
  | 0 => (fun _ _ _ _ => none, fun _ _ _ _ _ _ => none)
  | k + 1 => (e0 k (pts k).1 (pts k).2, e4 k (pts k).1 (pts k).2)
def p0 (k : Nat) : (List Int) → (List Int) → (List Int) → Int → Option (List Int) := (pts k).1
def p4 (k : Nat) : (List Int) → (List Int) → (List Int) → Int → Int → Int → Option (List Int) := (pts k).2
theorem p0_succ (k : Nat) (x0 : (List Int)) (x1 : (List Int)) (x2 : (List Int)) (x3 : Int) : p0 (k + 1) x0 x1 x2 x3 = e0 k (p0 k) (p4 k) x0 x1 x2 x3 := rfl
theorem p4_succ (k : Nat) (x0 : (List Int)) (x1 : (List Int)) (x2 : (List Int)) (x3 : Int) (x4 : Int) (x5 : Int) : p4 (k + 1) x0 x1 x2 x3 x4 x5 = e4 k (p0 k) (p4 k) x0 x1 x2 x3 x4 x5 := rfl
def f (k : Nat) (a0 : (List Int)) (a1 : (List Int)) : Option (List Int) := e k (p0 k) (p4 k) a0 a1
end ref01_Mul

namespace ref02_Mul
def e (k : Nat) (a0 : (Bool × (List Int))) (a1 : (Bool × (List Int))) : Option (Bool × (List Int)) :=
  (Option.bind (ref01_Mul.f k a0.2 a1.2) fun r1 =>
    (Option.bind (ref02_made.f k (!(a0.1 == a1.1)) r1) fun r2 =>
      (some r2)))
def f (k : Nat) (a0 : (Bool × (List Int))) (a1 : (Bool × (List Int))) : Option (Bool × (List Int)) := e k a0 a1
end ref02_Mul

namespace ref03_Mul
def e (k : Nat) (a0 : ((Bool × (List Int)) × (List Int))) (a1 : ((Bool × (List Int)) × (List Int))) : Option ((Bool × (List Int)) × (List Int)) :=
  (Option.bind (ref03_Norm.f k a0) fun r1 =>
    (Option.bind (ref03_Norm.f k a1) fun r2 =>
      (Option.bind (ref02_Mul.f k r1.1 r2.1) fun r3 =>
        (Option.bind (ref01_Mul.f k r1.2 r2.2) fun r4 =>
          (Option.bind (ref03_Norm.f k (r3, r4)) fun r5 =>
            (some r5))))))
def f (k : Nat) (a0 : ((Bool × (List Int)) × (List Int))) (a1 : ((Bool × (List Int)) × (List Int))) : Option ((Bool × (List Int)) × (List Int)) := e k a0 a1
end ref03_Mul

namespace ref04_Amount
def e (k : Nat) (a0 : Int) : Option ((Bool × (List Int)) × (List Int)) :=
  (Option.bind (ref04_parts.f k a0) fun r1 =>
    (Option.bind (ref01_Of.f k r1.1) fun r2 =>
      (Option.bind (ref04_power.f k r1.2) fun r3 =>
        (Option.bind (ref03_Mul.f k ((false, r2), [(1 : Int)]) r3) fun r4 =>
          (some r4)))))
def f (k : Nat) (a0 : Int) : Option ((Bool × (List Int)) × (List Int)) := e k a0
end ref04_Amount

namespace ref02_Neg
def e (k : Nat) (a0 : (Bool × (List Int))) : Option (Bool × (List Int)) :=
  (Option.bind (ref02_made.f k (!a0.1) a0.2) fun r1 =>
    (some r1))
def f (k : Nat) (a0 : (Bool × (List Int))) : Option (Bool × (List Int)) := e k a0
end ref02_Neg

namespace ref03_Neg
def e (k : Nat) (a0 : ((Bool × (List Int)) × (List Int))) : Option ((Bool × (List Int)) × (List Int)) :=
  (Option.bind (ref03_Norm.f k a0) fun r1 =>
    (Option.bind (ref02_Neg.f k r1.1) fun r2 =>
      (Option.bind (ref03_Norm.f k (r2, r1.2)) fun r3 =>
        (some r3))))
def f (k : Nat) (a0 : ((Bool × (List Int)) × (List Int))) : Option ((Bool × (List Int)) × (List Int)) := e k a0
end ref03_Neg

namespace ref04_Number
def e (k : Nat) (a0 : Int) : Option ((Bool × (List Int)) × (List Int)) :=
  (bif (!decide ((bitsI .and .u64 a0 (9223372036854775808 : Int)) = (0 : Int))) then
    (Option.bind (ref04_Amount.f k (bitsI .andNot .u64 a0 (9223372036854775808 : Int))) fun r1 =>
      (Option.bind (ref03_Neg.f k r1) fun r2 =>
        (some r2)))
  else
    (Option.bind (ref04_Amount.f k a0) fun r3 =>
      (some r3)))
def f (k : Nat) (a0 : Int) : Option ((Bool × (List Int)) × (List Int)) := e k a0
end ref04_Number

namespace ref04_endOf
def e (k : Nat) (a0 : Nat) : Option (Int × ((Bool × (List Int)) × (List Int))) :=
  (Option.bind (math_Float64bits.f k a0) fun r1 =>
    (bif (decide (r1 = (9218868437227405312 : Int))) then
      (some ((1 : Int), ((false, ([] : List Int)), ([] : List Int))))
    else
      (Option.bind (ref04_IsInf.f k r1) fun r2 =>
        (bif r2 then
          (some ((-1 : Int), ((false, ([] : List Int)), ([] : List Int))))
        else
          (Option.bind (ref04_Number.f k r1) fun r3 =>
            (Option.bind (ref03_Norm.f k r3) fun r4 =>
              (some ((0 : Int), r4))))))))
def f (k : Nat) (a0 : Nat) : Option (Int × ((Bool × (List Int)) × (List Int))) := e k a0
end ref04_endOf

namespace ref03_positive
def e (_k : Nat) (a0 : (List Int)) : Option (Bool × (List Int)) :=
  (some (false, a0))
def f (k : Nat) (a0 : (List Int)) : Option (Bool × (List Int)) := e k a0
end ref03_positive

namespace ref01_Add
def e9 (_k : Nat) (_q9 : (List Int) → (List Int) → Int → Option (List Int)) (q0 : (List Int) → (List Int) → (List Int) → Int → Int → Int → Option (List Int)) (b0 : (List Int)) (b1 : (List Int)) (b2 : Int) : Option (List Int) :=
  (bif (decide (0 ≤ (IntKind.i64.wrap (b2 + (1 : Int)))) && decide ((IntKind.i64.wrap (b2 + (1 : Int))) * 4 ≤ 281474976710656) && decide ((IntKind.i64.wrap (b2 + (1 : Int))) ≤ 9223372036854775807)) then
    q0 (List.replicate (Int.toNat (IntKind.i64.wrap (b2 + (1 : Int)))) (0 : Int)) b0 b1 b2 (0 : Int) (0 : Int)
  else
    none)
def e0 (k : Nat) (_q9 : (List Int) → (List Int) → Int → Option (List Int)) (q0 : (List Int) → (List Int) → (List Int) → Int → Int → Int → Option (List Int)) (b0 : (List Int)) (b1 : (List Int)) (b2 : (List Int)) (b3 : Int) (b4 : Int) (b5 : Int) : Option (List Int) :=
  (bif (decide (b5 ≤ b3)) then
    (Option.bind (ref01_at.f k b1 b5) fun r1 =>
      (Option.bind (ref01_at.f k b2 b5) fun r2 =>
        (bif (decide (0 ≤ b5) && decide (b5 < (b0.length : Int))) then
          q0 (setN (IntKind.u32.wrap (IntKind.u64.wrap ((IntKind.u64.wrap (r1 + r2)) + b4))) b0 (Int.toNat b5)) b1 b2 b3 (Int.fdiv (IntKind.u64.wrap ((IntKind.u64.wrap (r1 + r2)) + b4)) (2 ^ 32)) (IntKind.i64.wrap (b5 + (1 : Int)))
        else
          none)))
  else
    (Option.bind (ref01_Norm.f k b0) fun r3 =>
      (some r3)))
def e (_k : Nat) (q9 : (List Int) → (List Int) → Int → Option (List Int)) (_q0 : (List Int) → (List Int) → (List Int) → Int → Int → Int → Option (List Int)) (a0 : (List Int)) (a1 : (List Int)) : Option (List Int) :=
  (bif (decide ((a1.length : Int) > (a0.length : Int))) then
    q9 a0 a1 (a1.length : Int)
  else
    q9 a0 a1 (a0.length : Int))
def pts : Nat → ((List Int) → (List Int) → Int → Option (List Int)) × ((List Int) → (List Int) → (List Int) → Int → Int → Int → Option (List Int))
  | 0 => (fun _ _ _ => none, fun _ _ _ _ _ _ => none)
  | k + 1 => (e9 k (pts k).1 (pts k).2, e0 k (pts k).1 (pts k).2)
def p9 (k : Nat) : (List Int) → (List Int) → Int → Option (List Int) := (pts k).1
def p0 (k : Nat) : (List Int) → (List Int) → (List Int) → Int → Int → Int → Option (List Int) := (pts k).2
theorem p9_succ (k : Nat) (x0 : (List Int)) (x1 : (List Int)) (x2 : Int) : p9 (k + 1) x0 x1 x2 = e9 k (p9 k) (p0 k) x0 x1 x2 := rfl
theorem p0_succ (k : Nat) (x0 : (List Int)) (x1 : (List Int)) (x2 : (List Int)) (x3 : Int) (x4 : Int) (x5 : Int) : p0 (k + 1) x0 x1 x2 x3 x4 x5 = e0 k (p9 k) (p0 k) x0 x1 x2 x3 x4 x5 := rfl
def f (k : Nat) (a0 : (List Int)) (a1 : (List Int)) : Option (List Int) := e k (p9 k) (p0 k) a0 a1
end ref01_Add

namespace ref02_Add
def e (k : Nat) (a0 : (Bool × (List Int))) (a1 : (Bool × (List Int))) : Option (Bool × (List Int)) :=
  (bif (a0.1 == a1.1) then
    (Option.bind (ref01_Add.f k a0.2 a1.2) fun r1 =>
      (Option.bind (ref02_made.f k a0.1 r1) fun r2 =>
        (some r2)))
  else
    (Option.bind (ref01_Cmp.f k a0.2 a1.2) fun r3 =>
      (bif (decide (r3 ≥ (0 : Int))) then
        (Option.bind (ref01_Sub.f k a0.2 a1.2) fun r4 =>
          (Option.bind (ref02_made.f k a0.1 r4.1) fun r5 =>
            (some r5)))
      else
        (Option.bind (ref01_Sub.f k a1.2 a0.2) fun r6 =>
          (Option.bind (ref02_made.f k a1.1 r6.1) fun r7 =>
            (some r7))))))
def f (k : Nat) (a0 : (Bool × (List Int))) (a1 : (Bool × (List Int))) : Option (Bool × (List Int)) := e k a0 a1
end ref02_Add

namespace ref03_Add
def e (k : Nat) (a0 : ((Bool × (List Int)) × (List Int))) (a1 : ((Bool × (List Int)) × (List Int))) : Option ((Bool × (List Int)) × (List Int)) :=
  (Option.bind (ref03_Norm.f k a0) fun r1 =>
    (Option.bind (ref03_Norm.f k a1) fun r2 =>
      (Option.bind (ref03_positive.f k r2.2) fun r3 =>
        (Option.bind (ref02_Mul.f k r1.1 r3) fun r4 =>
          (Option.bind (ref03_positive.f k r1.2) fun r5 =>
            (Option.bind (ref02_Mul.f k r2.1 r5) fun r6 =>
              (Option.bind (ref02_Add.f k r4 r6) fun r7 =>
                (Option.bind (ref01_Mul.f k r1.2 r2.2) fun r8 =>
                  (Option.bind (ref03_Norm.f k (r7, r8)) fun r9 =>
                    (some r9))))))))))
def f (k : Nat) (a0 : ((Bool × (List Int)) × (List Int))) (a1 : ((Bool × (List Int)) × (List Int))) : Option ((Bool × (List Int)) × (List Int)) := e k a0 a1
end ref03_Add

namespace ref03_Sub
def e (k : Nat) (a0 : ((Bool × (List Int)) × (List Int))) (a1 : ((Bool × (List Int)) × (List Int))) : Option ((Bool × (List Int)) × (List Int)) :=
  (Option.bind (ref03_Neg.f k a1) fun r1 =>
    (Option.bind (ref03_Add.f k a0 r1) fun r2 =>
      (some r2)))
def f (k : Nat) (a0 : ((Bool × (List Int)) × (List Int))) (a1 : ((Bool × (List Int)) × (List Int))) : Option ((Bool × (List Int)) × (List Int)) := e k a0 a1
end ref03_Sub

namespace ref02_Sign
def e (k : Nat) (a0 : (Bool × (List Int))) : Option Int :=
  (Option.bind (ref02_Norm.f k a0) fun r1 =>
    (bif r1.1 then
      (some (-1 : Int))
    else
      (bif (decide ((r1.2.length : Int) > (0 : Int))) then
        (some (1 : Int))
      else
        (some (0 : Int)))))
def f (k : Nat) (a0 : (Bool × (List Int))) : Option Int := e k a0
end ref02_Sign

namespace ref03_Sign
def e (k : Nat) (a0 : ((Bool × (List Int)) × (List Int))) : Option Int :=
  (Option.bind (ref03_Norm.f k a0) fun r1 =>
    (Option.bind (ref02_Sign.f k r1.1) fun r2 =>
      (some r2)))
def f (k : Nat) (a0 : ((Bool × (List Int)) × (List Int))) : Option Int := e k a0
end ref03_Sign

namespace ref03_Cmp
def e (k : Nat) (a0 : ((Bool × (List Int)) × (List Int))) (a1 : ((Bool × (List Int)) × (List Int))) : Option Int :=
  (Option.bind (ref03_Sub.f k a0 a1) fun r1 =>
    (Option.bind (ref03_Sign.f k r1) fun r2 =>
      (some r2)))
def f (k : Nat) (a0 : ((Bool × (List Int)) × (List Int))) (a1 : ((Bool × (List Int)) × (List Int))) : Option Int := e k a0 a1
end ref03_Cmp

namespace ref04_under
def e (k : Nat) (a0 : (Int × ((Bool × (List Int)) × (List Int)))) (a1 : (Int × ((Bool × (List Int)) × (List Int)))) : Option Bool :=
  (bif (!decide (a0.1 = a1.1)) then
    (some (decide (a0.1 < a1.1)))
  else
    (bif (decide (a0.1 = (0 : Int))) then
      (Option.bind (ref03_Cmp.f k a0.2 a1.2) fun r1 =>
        (some (decide (r1 < (0 : Int)))))
    else
      (some false)))
def f (k : Nat) (a0 : (Int × ((Bool × (List Int)) × (List Int)))) (a1 : (Int × ((Bool × (List Int)) × (List Int)))) : Option Bool := e k a0 a1
end ref04_under

namespace ref04_Valid
def e9 (_k : Nat) (_q9 : Unit → Option Bool) (_ : Unit) : Option Bool :=
  (some false)
def e (k : Nat) (q9 : Unit → Option Bool) (a0 : (Nat × Nat)) : Option Bool :=
  (Option.bind (math_Float64bits.f k a0.1) fun r1 =>
    (Option.bind (math_Float64bits.f k a0.2) fun r2 =>
      (Option.bind (ref04_IsNaN.f k r1) fun r3 =>
        (bif r3 then
          q9 ()
        else
          (Option.bind (ref04_IsNaN.f k r2) fun r4 =>
            (bif r4 then
              q9 ()
            else
              (bif (decide (r1 = (9218868437227405312 : Int))) then
                q9 ()
              else
                (bif (decide (r2 = (18442240474082181120 : Int))) then
                  q9 ()
                else
                  (Option.bind (ref04_endOf.f k a0.2) fun r5 =>
                    (Option.bind (ref04_endOf.f k a0.1) fun r6 =>
                      (Option.bind (ref04_under.f k r5 r6) fun r7 =>
                        (some (!r7)))))))))))))
def pts : Nat → (Unit → Option Bool)
  | 0 => fun _ => none
  | k + 1 => e9 k (pts k)
def p9 (k : Nat) : Unit → Option Bool := (pts k)
theorem p9_succ (k : Nat) (x0 : Unit) : p9 (k + 1) x0 = e9 k (p9 k) x0 := rfl
def f (k : Nat) (a0 : (Nat × Nat)) : Option Bool := e k (p9 k) a0
end ref04_Valid

namespace ref04_In
def e (k : Nat) (a0 : ((Bool × (List Int)) × (List Int))) (a1 : (Nat × Nat)) : Option Bool :=
  (Option.bind (ref03_Norm.f k a0) fun r1 =>
    (Option.bind (ref04_Valid.f k a1) fun r2 =>
      (bif r2 then
        (Option.bind (ref04_endOf.f k a1.1) fun r3 =>
          (Option.bind (ref04_under.f k ((0 : Int), r1) r3) fun r4 =>
            (bif (!r4) then
              (Option.bind (ref04_endOf.f k a1.2) fun r5 =>
                (Option.bind (ref04_under.f k r5 ((0 : Int), r1)) fun r6 =>
                  (some (!r6))))
            else
              (some false))))
      else
        (some false))))
def f (k : Nat) (a0 : ((Bool × (List Int)) × (List Int))) (a1 : (Nat × Nat)) : Option Bool := e k a0 a1
end ref04_In


namespace approx_both
def e (k : Nat) (a0 : (Nat × Nat)) (a1 : (Nat × Nat)) : Option Bool :=
  (Option.bind (approx_Valid.f k a0) fun r1 =>
    (bif r1 then
      (Option.bind (approx_Valid.f k a1) fun r2 =>
        (some r2))
    else
      (some false)))
def f (k : Nat) (a0 : (Nat × Nat)) (a1 : (Nat × Nat)) : Option Bool := e k a0 a1
end approx_both

namespace ratio_Add
def e (k : Nat) (a0 : ((Bool × (List Int)) × (List Int))) (a1 : ((Bool × (List Int)) × (List Int))) : Option ((Bool × (List Int)) × (List Int)) :=
  (Option.bind (ratio_Norm.f k a0) fun r1 =>
    (Option.bind (ratio_Norm.f k a1) fun r2 =>
      (Option.bind (whole_Mul.f k r1.1 (false, r2.2)) fun r3 =>
        (Option.bind (whole_Mul.f k r2.1 (false, r1.2)) fun r4 =>
          (Option.bind (whole_Add.f k r3 r4) fun r5 =>
            (Option.bind (nat_Mul.f k r1.2 r2.2) fun r6 =>
              (Option.bind (ratio_made.f k r5 r6) fun r7 =>
                (some r7))))))))
def f (k : Nat) (a0 : ((Bool × (List Int)) × (List Int))) (a1 : ((Bool × (List Int)) × (List Int))) : Option ((Bool × (List Int)) × (List Int)) := e k a0 a1
end ratio_Add

namespace approx_add
def e (k : Nat) (a0 : (Int × ((Bool × (List Int)) × (List Int)))) (a1 : (Int × ((Bool × (List Int)) × (List Int)))) : Option (Int × ((Bool × (List Int)) × (List Int))) :=
  (bif (!decide (a0.1 = (0 : Int))) then
    (some a0)
  else
    (bif (!decide (a1.1 = (0 : Int))) then
      (some a1)
    else
      (Option.bind (ratio_Add.f k a0.2 a1.2) fun r1 =>
        (some ((0 : Int), r1)))))
def f (k : Nat) (a0 : (Int × ((Bool × (List Int)) × (List Int)))) (a1 : (Int × ((Bool × (List Int)) × (List Int)))) : Option (Int × ((Bool × (List Int)) × (List Int))) := e k a0 a1
end approx_add

namespace math_Inf
def e11 (k : Nat) (_q11 : Int → Option Nat) (b0 : Int) : Option Nat :=
  (Option.bind (math_Float64frombits.f k b0) fun r1 =>
    (some r1))
def e (_k : Nat) (q11 : Int → Option Nat) (a0 : Int) : Option Nat :=
  (bif (decide (a0 ≥ (0 : Int))) then
    q11 (9218868437227405312 : Int)
  else
    q11 (18442240474082181120 : Int))
def pts : Nat → (Int → Option Nat)
  | 0 => fun _ => none
  | k + 1 => e11 k (pts k)
def p11 (k : Nat) : Int → Option Nat := (pts k)
theorem p11_succ (k : Nat) (x0 : Int) : p11 (k + 1) x0 = e11 k (p11 k) x0 := rfl
def f (k : Nat) (a0 : Int) : Option Nat := e k (p11 k) a0
end math_Inf

namespace approx_span
def e0 (k : Nat) (_q0 : (Nat × Nat) → (Int × ((Bool × (List Int)) × (List Int))) → (Int × ((Bool × (List Int)) × (List Int))) → (List (Int × ((Bool × (List Int)) × (List Int)))) → Int → Int → Option (Nat × Nat)) (q15 : (Nat × Nat) → (Int × ((Bool × (List Int)) × (List Int))) → (Int × ((Bool × (List Int)) × (List Int))) → (Int × ((Bool × (List Int)) × (List Int))) → (List (Int × ((Bool × (List Int)) × (List Int)))) → Int → Int → Option (Nat × Nat)) (q27 : (Nat × Nat) → (Int × ((Bool × (List Int)) × (List Int))) → (Nat × Nat) → Option (Nat × Nat)) (_q19 : (Nat × Nat) → (Int × ((Bool × (List Int)) × (List Int))) → (Int × ((Bool × (List Int)) × (List Int))) → (List (Int × ((Bool × (List Int)) × (List Int)))) → Int → Int → Option (Nat × Nat)) (_q31 : (Nat × Nat) → (Nat × Nat) → Option (Nat × Nat)) (b0 : (Nat × Nat)) (b1 : (Int × ((Bool × (List Int)) × (List Int)))) (b2 : (Int × ((Bool × (List Int)) × (List Int)))) (b3 : (List (Int × ((Bool × (List Int)) × (List Int))))) (b4 : Int) (b5 : Int) : Option (Nat × Nat) :=
  (bif (decide (b5 < b4)) then
    (bif (decide (0 ≤ b5) && decide (b5 < (b3.length : Int))) then
      (Option.bind (approx_cmp.f k (nthD ((0 : Int), ((false, ([] : List Int)), ([] : List Int))) b3 (Int.toNat b5)) b1) fun r1 =>
        (bif (decide (r1 < (0 : Int))) then
          q15 b0 (nthD ((0 : Int), ((false, ([] : List Int)), ([] : List Int))) b3 (Int.toNat b5)) b2 (nthD ((0 : Int), ((false, ([] : List Int)), ([] : List Int))) b3 (Int.toNat b5)) b3 b4 b5
        else
          q15 b0 b1 b2 (nthD ((0 : Int), ((false, ([] : List Int)), ([] : List Int))) b3 (Int.toNat b5)) b3 b4 b5))
    else
      none)
  else
    (Option.bind (math_Inf.f k b1.1) fun r2 =>
      (Option.bind (math_Inf.f k b2.1) fun r3 =>
        (bif (decide (b1.1 = (0 : Int))) then
          (Option.bind (approx_Down.f k b1.2) fun r4 =>
            q27 b0 b2 (r4, r3))
        else
          q27 b0 b2 (r2, r3)))))
def e15 (k : Nat) (_q0 : (Nat × Nat) → (Int × ((Bool × (List Int)) × (List Int))) → (Int × ((Bool × (List Int)) × (List Int))) → (List (Int × ((Bool × (List Int)) × (List Int)))) → Int → Int → Option (Nat × Nat)) (_q15 : (Nat × Nat) → (Int × ((Bool × (List Int)) × (List Int))) → (Int × ((Bool × (List Int)) × (List Int))) → (Int × ((Bool × (List Int)) × (List Int))) → (List (Int × ((Bool × (List Int)) × (List Int)))) → Int → Int → Option (Nat × Nat)) (_q27 : (Nat × Nat) → (Int × ((Bool × (List Int)) × (List Int))) → (Nat × Nat) → Option (Nat × Nat)) (q19 : (Nat × Nat) → (Int × ((Bool × (List Int)) × (List Int))) → (Int × ((Bool × (List Int)) × (List Int))) → (List (Int × ((Bool × (List Int)) × (List Int)))) → Int → Int → Option (Nat × Nat)) (_q31 : (Nat × Nat) → (Nat × Nat) → Option (Nat × Nat)) (b0 : (Nat × Nat)) (b1 : (Int × ((Bool × (List Int)) × (List Int)))) (b2 : (Int × ((Bool × (List Int)) × (List Int)))) (b3 : (Int × ((Bool × (List Int)) × (List Int)))) (b4 : (List (Int × ((Bool × (List Int)) × (List Int))))) (b5 : Int) (b6 : Int) : Option (Nat × Nat) :=
  (Option.bind (approx_cmp.f k b3 b2) fun r5 =>
    (bif (decide (r5 > (0 : Int))) then
      q19 b0 b1 b3 b4 b5 b6
    else
      q19 b0 b1 b2 b4 b5 b6))
def e27 (k : Nat) (_q0 : (Nat × Nat) → (Int × ((Bool × (List Int)) × (List Int))) → (Int × ((Bool × (List Int)) × (List Int))) → (List (Int × ((Bool × (List Int)) × (List Int)))) → Int → Int → Option (Nat × Nat)) (_q15 : (Nat × Nat) → (Int × ((Bool × (List Int)) × (List Int))) → (Int × ((Bool × (List Int)) × (List Int))) → (Int × ((Bool × (List Int)) × (List Int))) → (List (Int × ((Bool × (List Int)) × (List Int)))) → Int → Int → Option (Nat × Nat)) (_q27 : (Nat × Nat) → (Int × ((Bool × (List Int)) × (List Int))) → (Nat × Nat) → Option (Nat × Nat)) (_q19 : (Nat × Nat) → (Int × ((Bool × (List Int)) × (List Int))) → (Int × ((Bool × (List Int)) × (List Int))) → (List (Int × ((Bool × (List Int)) × (List Int)))) → Int → Int → Option (Nat × Nat)) (q31 : (Nat × Nat) → (Nat × Nat) → Option (Nat × Nat)) (b0 : (Nat × Nat)) (b1 : (Int × ((Bool × (List Int)) × (List Int)))) (b2 : (Nat × Nat)) : Option (Nat × Nat) :=
  (bif (decide (b1.1 = (0 : Int))) then
    (Option.bind (approx_Up.f k b1.2) fun r6 =>
      q31 b0 (b2.1, r6))
  else
    q31 b0 b2)
def e19 (_k : Nat) (q0 : (Nat × Nat) → (Int × ((Bool × (List Int)) × (List Int))) → (Int × ((Bool × (List Int)) × (List Int))) → (List (Int × ((Bool × (List Int)) × (List Int)))) → Int → Int → Option (Nat × Nat)) (_q15 : (Nat × Nat) → (Int × ((Bool × (List Int)) × (List Int))) → (Int × ((Bool × (List Int)) × (List Int))) → (Int × ((Bool × (List Int)) × (List Int))) → (List (Int × ((Bool × (List Int)) × (List Int)))) → Int → Int → Option (Nat × Nat)) (_q27 : (Nat × Nat) → (Int × ((Bool × (List Int)) × (List Int))) → (Nat × Nat) → Option (Nat × Nat)) (_q19 : (Nat × Nat) → (Int × ((Bool × (List Int)) × (List Int))) → (Int × ((Bool × (List Int)) × (List Int))) → (List (Int × ((Bool × (List Int)) × (List Int)))) → Int → Int → Option (Nat × Nat)) (_q31 : (Nat × Nat) → (Nat × Nat) → Option (Nat × Nat)) (b0 : (Nat × Nat)) (b1 : (Int × ((Bool × (List Int)) × (List Int)))) (b2 : (Int × ((Bool × (List Int)) × (List Int)))) (b3 : (List (Int × ((Bool × (List Int)) × (List Int))))) (b4 : Int) (b5 : Int) : Option (Nat × Nat) :=
  q0 b0 b1 b2 b3 b4 (IntKind.i64.wrap (b5 + (1 : Int)))
def e31 (_k : Nat) (_q0 : (Nat × Nat) → (Int × ((Bool × (List Int)) × (List Int))) → (Int × ((Bool × (List Int)) × (List Int))) → (List (Int × ((Bool × (List Int)) × (List Int)))) → Int → Int → Option (Nat × Nat)) (_q15 : (Nat × Nat) → (Int × ((Bool × (List Int)) × (List Int))) → (Int × ((Bool × (List Int)) × (List Int))) → (Int × ((Bool × (List Int)) × (List Int))) → (List (Int × ((Bool × (List Int)) × (List Int)))) → Int → Int → Option (Nat × Nat)) (_q27 : (Nat × Nat) → (Int × ((Bool × (List Int)) × (List Int))) → (Nat × Nat) → Option (Nat × Nat)) (_q19 : (Nat × Nat) → (Int × ((Bool × (List Int)) × (List Int))) → (Int × ((Bool × (List Int)) × (List Int))) → (List (Int × ((Bool × (List Int)) × (List Int)))) → Int → Int → Option (Nat × Nat)) (_q31 : (Nat × Nat) → (Nat × Nat) → Option (Nat × Nat)) (_b0 : (Nat × Nat)) (b1 : (Nat × Nat)) : Option (Nat × Nat) :=
  (some b1)
def e (_k : Nat) (q0 : (Nat × Nat) → (Int × ((Bool × (List Int)) × (List Int))) → (Int × ((Bool × (List Int)) × (List Int))) → (List (Int × ((Bool × (List Int)) × (List Int)))) → Int → Int → Option (Nat × Nat)) (_q15 : (Nat × Nat) → (Int × ((Bool × (List Int)) × (List Int))) → (Int × ((Bool × (List Int)) × (List Int))) → (Int × ((Bool × (List Int)) × (List Int))) → (List (Int × ((Bool × (List Int)) × (List Int)))) → Int → Int → Option (Nat × Nat)) (_q27 : (Nat × Nat) → (Int × ((Bool × (List Int)) × (List Int))) → (Nat × Nat) → Option (Nat × Nat)) (_q19 : (Nat × Nat) → (Int × ((Bool × (List Int)) × (List Int))) → (Int × ((Bool × (List Int)) × (List Int))) → (List (Int × ((Bool × (List Int)) × (List Int)))) → Int → Int → Option (Nat × Nat)) (_q31 : (Nat × Nat) → (Nat × Nat) → Option (Nat × Nat)) (a0 : (List (Int × ((Bool × (List Int)) × (List Int))))) : Option (Nat × Nat) :=
  (bif (decide ((0 : Int) < (a0.length : Int))) then
    (bif (decide ((0 : Int) < (a0.length : Int))) then
      q0 ((0 : Nat), (0 : Nat)) (nthD ((0 : Int), ((false, ([] : List Int)), ([] : List Int))) a0 0) (nthD ((0 : Int), ((false, ([] : List Int)), ([] : List Int))) a0 0) a0 (a0.length : Int) (0 : Int)
    else
      none)
  else
    none)
def pts : Nat → ((Nat × Nat) → (Int × ((Bool × (List Int)) × (List Int))) → (Int × ((Bool × (List Int)) × (List Int))) → (List (Int × ((Bool × (List Int)) × (List Int)))) → Int → Int → Option (Nat × Nat)) × ((Nat × Nat) → (Int × ((Bool × (List Int)) × (List Int))) → (Int × ((Bool × (List Int)) × (List Int))) → (Int × ((Bool × (List Int)) × (List Int))) → (List (Int × ((Bool × (List Int)) × (List Int)))) → Int → Int → Option (Nat × Nat)) × ((Nat × Nat) → (Int × ((Bool × (List Int)) × (List Int))) → (Nat × Nat) → Option (Nat × Nat)) × ((Nat × Nat) → (Int × ((Bool × (List Int)) × (List Int))) → (Int × ((Bool × (List Int)) × (List Int))) → (List (Int × ((Bool × (List Int)) × (List Int)))) → Int → Int → Option (Nat × Nat)) × ((Nat × Nat) → (Nat × Nat) → Option (Nat × Nat))
  | 0 => (fun _ _ _ _ _ _ => none, fun _ _ _ _ _ _ _ => none, fun _ _ _ => none, fun _ _ _ _ _ _ => none, fun _ _ => none)
  | k + 1 => (e0 k (pts k).1 (pts k).2.1 (pts k).2.2.1 (pts k).2.2.2.1 (pts k).2.2.2.2, e15 k (pts k).1 (pts k).2.1 (pts k).2.2.1 (pts k).2.2.2.1 (pts k).2.2.2.2, e27 k (pts k).1 (pts k).2.1 (pts k).2.2.1 (pts k).2.2.2.1 (pts k).2.2.2.2, e19 k (pts k).1 (pts k).2.1 (pts k).2.2.1 (pts k).2.2.2.1 (pts k).2.2.2.2, e31 k (pts k).1 (pts k).2.1 (pts k).2.2.1 (pts k).2.2.2.1 (pts k).2.2.2.2)
def p0 (k : Nat) : (Nat × Nat) → (Int × ((Bool × (List Int)) × (List Int))) → (Int × ((Bool × (List Int)) × (List Int))) → (List (Int × ((Bool × (List Int)) × (List Int)))) → Int → Int → Option (Nat × Nat) := (pts k).1
def p15 (k : Nat) : (Nat × Nat) → (Int × ((Bool × (List Int)) × (List Int))) → (Int × ((Bool × (List Int)) × (List Int))) → (Int × ((Bool × (List Int)) × (List Int))) → (List (Int × ((Bool × (List Int)) × (List Int)))) → Int → Int → Option (Nat × Nat) := (pts k).2.1
def p27 (k : Nat) : (Nat × Nat) → (Int × ((Bool × (List Int)) × (List Int))) → (Nat × Nat) → Option (Nat × Nat) := (pts k).2.2.1
def p19 (k : Nat) : (Nat × Nat) → (Int × ((Bool × (List Int)) × (List Int))) → (Int × ((Bool × (List Int)) × (List Int))) → (List (Int × ((Bool × (List Int)) × (List Int)))) → Int → Int → Option (Nat × Nat) := (pts k).2.2.2.1
def p31 (k : Nat) : (Nat × Nat) → (Nat × Nat) → Option (Nat × Nat) := (pts k).2.2.2.2
theorem p0_succ (k : Nat) (x0 : (Nat × Nat)) (x1 : (Int × ((Bool × (List Int)) × (List Int)))) (x2 : (Int × ((Bool × (List Int)) × (List Int)))) (x3 : (List (Int × ((Bool × (List Int)) × (List Int))))) (x4 : Int) (x5 : Int) : p0 (k + 1) x0 x1 x2 x3 x4 x5 = e0 k (p0 k) (p15 k) (p27 k) (p19 k) (p31 k) x0 x1 x2 x3 x4 x5 := rfl
theorem p15_succ (k : Nat) (x0 : (Nat × Nat)) (x1 : (Int × ((Bool × (List Int)) × (List Int)))) (x2 : (Int × ((Bool × (List Int)) × (List Int)))) (x3 : (Int × ((Bool × (List Int)) × (List Int)))) (x4 : (List (Int × ((Bool × (List Int)) × (List Int))))) (x5 : Int) (x6 : Int) : p15 (k + 1) x0 x1 x2 x3 x4 x5 x6 = e15 k (p0 k) (p15 k) (p27 k) (p19 k) (p31 k) x0 x1 x2 x3 x4 x5 x6 := rfl
theorem p27_succ (k : Nat) (x0 : (Nat × Nat)) (x1 : (Int × ((Bool × (List Int)) × (List Int)))) (x2 : (Nat × Nat)) : p27 (k + 1) x0 x1 x2 = e27 k (p0 k) (p15 k) (p27 k) (p19 k) (p31 k) x0 x1 x2 := rfl
theorem p19_succ (k : Nat) (x0 : (Nat × Nat)) (x1 : (Int × ((Bool × (List Int)) × (List Int)))) (x2 : (Int × ((Bool × (List Int)) × (List Int)))) (x3 : (List (Int × ((Bool × (List Int)) × (List Int))))) (x4 : Int) (x5 : Int) : p19 (k + 1) x0 x1 x2 x3 x4 x5 = e19 k (p0 k) (p15 k) (p27 k) (p19 k) (p31 k) x0 x1 x2 x3 x4 x5 := rfl
theorem p31_succ (k : Nat) (x0 : (Nat × Nat)) (x1 : (Nat × Nat)) : p31 (k + 1) x0 x1 = e31 k (p0 k) (p15 k) (p27 k) (p19 k) (p31 k) x0 x1 := rfl
def f (k : Nat) (a0 : (List (Int × ((Bool × (List Int)) × (List Int))))) : Option (Nat × Nat) := e k (p0 k) (p15 k) (p27 k) (p19 k) (p31 k) a0
end approx_span

namespace approx_Sum
def e (k : Nat) (a0 : (Nat × Nat)) (a1 : (Nat × Nat)) : Option ((Nat × Nat) × Int) :=
  (Option.bind (approx_both.f k a0 a1) fun r1 =>
    (bif (!r1) then
      (some (((0 : Nat), (0 : Nat)), (1 : Int)))
    else
      (Option.bind (approx_endOf.f k a0.1) fun r2 =>
        (Option.bind (approx_endOf.f k a1.1) fun r3 =>
          (Option.bind (approx_add.f k r2 r3) fun r4 =>
            (Option.bind (approx_endOf.f k a0.2) fun r5 =>
              (Option.bind (approx_endOf.f k a1.2) fun r6 =>
                (Option.bind (approx_add.f k r5 r6) fun r7 =>
                  (Option.bind (approx_span.f k [r4, r7]) fun r8 =>
                    (some (r8, (0 : Int))))))))))))
def f (k : Nat) (a0 : (Nat × Nat)) (a1 : (Nat × Nat)) : Option ((Nat × Nat) × Int) := e k a0 a1
end approx_Sum

namespace ref04_plus
def e (k : Nat) (a0 : (Int × ((Bool × (List Int)) × (List Int)))) (a1 : (Int × ((Bool × (List Int)) × (List Int)))) : Option (Int × ((Bool × (List Int)) × (List Int))) :=
  (bif (!decide (a0.1 = (0 : Int))) then
    (some a0)
  else
    (bif (!decide (a1.1 = (0 : Int))) then
      (some a1)
    else
      (Option.bind (ref03_Add.f k a0.2 a1.2) fun r1 =>
        (some ((0 : Int), r1)))))
def f (k : Nat) (a0 : (Int × ((Bool × (List Int)) × (List Int)))) (a1 : (Int × ((Bool × (List Int)) × (List Int)))) : Option (Int × ((Bool × (List Int)) × (List Int))) := e k a0 a1
end ref04_plus

namespace ref04_float
def e (k : Nat) (a0 : (Int × ((Bool × (List Int)) × (List Int)))) (a1 : Bool) : Option Nat :=
  (bif (decide (a0.1 > (0 : Int))) then
    (Option.bind (math_Float64frombits.f k (9218868437227405312 : Int)) fun r1 =>
      (some r1))
  else
    (bif (decide (a0.1 < (0 : Int))) then
      (Option.bind (math_Float64frombits.f k (18442240474082181120 : Int)) fun r2 =>
        (some r2))
    else
      (bif a1 then
        (Option.bind (ref04_Up.f k a0.2) fun r3 =>
          (some r3))
      else
        (Option.bind (ref04_Down.f k a0.2) fun r4 =>
          (some r4)))))
def f (k : Nat) (a0 : (Int × ((Bool × (List Int)) × (List Int)))) (a1 : Bool) : Option Nat := e k a0 a1
end ref04_float

namespace ref04_Sum
def e5 (_k : Nat) (_q5 : (Nat × Nat) → Option ((Nat × Nat) × Int)) (_b0 : (Nat × Nat)) : Option ((Nat × Nat) × Int) :=
  (some (((0 : Nat), (0 : Nat)), (1 : Int)))
def e (k : Nat) (q5 : (Nat × Nat) → Option ((Nat × Nat) × Int)) (a0 : (Nat × Nat)) (a1 : (Nat × Nat)) : Option ((Nat × Nat) × Int) :=
  (Option.bind (ref04_Valid.f k a0) fun r1 =>
    (bif (!r1) then
      q5 ((0 : Nat), (0 : Nat))
    else
      (Option.bind (ref04_Valid.f k a1) fun r2 =>
        (bif (!r2) then
          q5 ((0 : Nat), (0 : Nat))
        else
          (Option.bind (ref04_endOf.f k a0.1) fun r3 =>
            (Option.bind (ref04_endOf.f k a1.1) fun r4 =>
              (Option.bind (ref04_plus.f k r3 r4) fun r5 =>
                (Option.bind (ref04_endOf.f k a0.2) fun r6 =>
                  (Option.bind (ref04_endOf.f k a1.2) fun r7 =>
                    (Option.bind (ref04_plus.f k r6 r7) fun r8 =>
                      (Option.bind (ref04_float.f k r5 false) fun r9 =>
                        (Option.bind (ref04_float.f k r8 true) fun r10 =>
                          (some ((r9, r10), (0 : Int)))))))))))))))
def pts : Nat → ((Nat × Nat) → Option ((Nat × Nat) × Int))
  | 0 => fun _ => none
  | k + 1 => e5 k (pts k)
def p5 (k : Nat) : (Nat × Nat) → Option ((Nat × Nat) × Int) := (pts k)
theorem p5_succ (k : Nat) (x0 : (Nat × Nat)) : p5 (k + 1) x0 = e5 k (p5 k) x0 := rfl
def f (k : Nat) (a0 : (Nat × Nat)) (a1 : (Nat × Nat)) : Option ((Nat × Nat) × Int) := e k (p5 k) a0 a1
end ref04_Sum

namespace approx_neg
def e (k : Nat) (a0 : (Int × ((Bool × (List Int)) × (List Int)))) : Option (Int × ((Bool × (List Int)) × (List Int))) :=
  (Option.bind (ratio_Neg.f k a0.2) fun r1 =>
    (some ((IntKind.i64.wrap (0 - a0.1)), r1)))
def f (k : Nat) (a0 : (Int × ((Bool × (List Int)) × (List Int)))) : Option (Int × ((Bool × (List Int)) × (List Int))) := e k a0
end approx_neg

namespace approx_Diff
def e (k : Nat) (a0 : (Nat × Nat)) (a1 : (Nat × Nat)) : Option ((Nat × Nat) × Int) :=
  (Option.bind (approx_both.f k a0 a1) fun r1 =>
    (bif (!r1) then
      (some (((0 : Nat), (0 : Nat)), (1 : Int)))
    else
      (Option.bind (approx_endOf.f k a0.1) fun r2 =>
        (Option.bind (approx_endOf.f k a1.2) fun r3 =>
          (Option.bind (approx_neg.f k r3) fun r4 =>
            (Option.bind (approx_add.f k r2 r4) fun r5 =>
              (Option.bind (approx_endOf.f k a0.2) fun r6 =>
                (Option.bind (approx_endOf.f k a1.1) fun r7 =>
                  (Option.bind (approx_neg.f k r7) fun r8 =>
                    (Option.bind (approx_add.f k r6 r8) fun r9 =>
                      (Option.bind (approx_span.f k [r5, r9]) fun r10 =>
                        (some (r10, (0 : Int))))))))))))))
def f (k : Nat) (a0 : (Nat × Nat)) (a1 : (Nat × Nat)) : Option ((Nat × Nat) × Int) := e k a0 a1
end approx_Diff

namespace ref04_minus
def e (k : Nat) (a0 : (Int × ((Bool × (List Int)) × (List Int)))) : Option (Int × ((Bool × (List Int)) × (List Int))) :=
  (Option.bind (ref03_Neg.f k a0.2) fun r1 =>
    (some ((IntKind.i64.wrap ((0 : Int) - a0.1)), r1)))
def f (k : Nat) (a0 : (Int × ((Bool × (List Int)) × (List Int)))) : Option (Int × ((Bool × (List Int)) × (List Int))) := e k a0
end ref04_minus

namespace ref04_Diff
def e5 (_k : Nat) (_q5 : (Nat × Nat) → Option ((Nat × Nat) × Int)) (_b0 : (Nat × Nat)) : Option ((Nat × Nat) × Int) :=
  (some (((0 : Nat), (0 : Nat)), (1 : Int)))
def e (k : Nat) (q5 : (Nat × Nat) → Option ((Nat × Nat) × Int)) (a0 : (Nat × Nat)) (a1 : (Nat × Nat)) : Option ((Nat × Nat) × Int) :=
  (Option.bind (ref04_Valid.f k a0) fun r1 =>
    (bif (!r1) then
      q5 ((0 : Nat), (0 : Nat))
    else
      (Option.bind (ref04_Valid.f k a1) fun r2 =>
        (bif (!r2) then
          q5 ((0 : Nat), (0 : Nat))
        else
          (Option.bind (ref04_endOf.f k a0.1) fun r3 =>
            (Option.bind (ref04_endOf.f k a1.2) fun r4 =>
              (Option.bind (ref04_minus.f k r4) fun r5 =>
                (Option.bind (ref04_plus.f k r3 r5) fun r6 =>
                  (Option.bind (ref04_endOf.f k a0.2) fun r7 =>
                    (Option.bind (ref04_endOf.f k a1.1) fun r8 =>
                      (Option.bind (ref04_minus.f k r8) fun r9 =>
                        (Option.bind (ref04_plus.f k r7 r9) fun r10 =>
                          (Option.bind (ref04_float.f k r6 false) fun r11 =>
                            (Option.bind (ref04_float.f k r10 true) fun r12 =>
                              (some ((r11, r12), (0 : Int)))))))))))))))))
def pts : Nat → ((Nat × Nat) → Option ((Nat × Nat) × Int))
  | 0 => fun _ => none
  | k + 1 => e5 k (pts k)
def p5 (k : Nat) : (Nat × Nat) → Option ((Nat × Nat) × Int) := (pts k)
theorem p5_succ (k : Nat) (x0 : (Nat × Nat)) : p5 (k + 1) x0 = e5 k (p5 k) x0 := rfl
def f (k : Nat) (a0 : (Nat × Nat)) (a1 : (Nat × Nat)) : Option ((Nat × Nat) × Int) := e k (p5 k) a0 a1
end ref04_Diff

namespace _approx_end_sign
def e (k : Nat) (a0 : (Int × ((Bool × (List Int)) × (List Int)))) : Option Int :=
  (bif (!decide (a0.1 = (0 : Int))) then
    (some a0.1)
  else
    (Option.bind (ratio_Sign.f k a0.2) fun r1 =>
      (some r1)))
def f (k : Nat) (a0 : (Int × ((Bool × (List Int)) × (List Int)))) : Option Int := e k a0
end _approx_end_sign

namespace approx_mul
def e7 (k : Nat) (_q7 : (Int × ((Bool × (List Int)) × (List Int))) → (Int × ((Bool × (List Int)) × (List Int))) → (Int × ((Bool × (List Int)) × (List Int))) → Option (Int × ((Bool × (List Int)) × (List Int)))) (b0 : (Int × ((Bool × (List Int)) × (List Int)))) (b1 : (Int × ((Bool × (List Int)) × (List Int)))) (_b2 : (Int × ((Bool × (List Int)) × (List Int)))) : Option (Int × ((Bool × (List Int)) × (List Int))) :=
  (Option.bind (_approx_end_sign.f k b0) fun r2 =>
    (Option.bind (_approx_end_sign.f k b1) fun r3 =>
      (some ((IntKind.i64.wrap (r2 * r3)), ((false, ([] : List Int)), ([] : List Int))))))
def e (k : Nat) (q7 : (Int × ((Bool × (List Int)) × (List Int))) → (Int × ((Bool × (List Int)) × (List Int))) → (Int × ((Bool × (List Int)) × (List Int))) → Option (Int × ((Bool × (List Int)) × (List Int)))) (a0 : (Int × ((Bool × (List Int)) × (List Int)))) (a1 : (Int × ((Bool × (List Int)) × (List Int)))) : Option (Int × ((Bool × (List Int)) × (List Int))) :=
  (bif (decide (a0.1 = (0 : Int))) then
    (bif (decide (a1.1 = (0 : Int))) then
      (Option.bind (ratio_Mul.f k a0.2 a1.2) fun r1 =>
        (some ((0 : Int), r1)))
    else
      q7 a0 a1 ((0 : Int), ((false, ([] : List Int)), ([] : List Int))))
  else
    q7 a0 a1 ((0 : Int), ((false, ([] : List Int)), ([] : List Int))))
def pts : Nat → ((Int × ((Bool × (List Int)) × (List Int))) → (Int × ((Bool × (List Int)) × (List Int))) → (Int × ((Bool × (List Int)) × (List Int))) → Option (Int × ((Bool × (List Int)) × (List Int))))
  | 0 => fun _ _ _ => none
  | k + 1 => e7 k (pts k)
def p7 (k : Nat) : (Int × ((Bool × (List Int)) × (List Int))) → (Int × ((Bool × (List Int)) × (List Int))) → (Int × ((Bool × (List Int)) × (List Int))) → Option (Int × ((Bool × (List Int)) × (List Int))) := (pts k)
theorem p7_succ (k : Nat) (x0 : (Int × ((Bool × (List Int)) × (List Int)))) (x1 : (Int × ((Bool × (List Int)) × (List Int)))) (x2 : (Int × ((Bool × (List Int)) × (List Int)))) : p7 (k + 1) x0 x1 x2 = e7 k (p7 k) x0 x1 x2 := rfl
def f (k : Nat) (a0 : (Int × ((Bool × (List Int)) × (List Int)))) (a1 : (Int × ((Bool × (List Int)) × (List Int)))) : Option (Int × ((Bool × (List Int)) × (List Int))) := e k (p7 k) a0 a1
end approx_mul

namespace approx_four_f46
def e0 (k : Nat) (_q0 : (Nat × Nat) → (Nat × Nat) → (List (Int × ((Bool × (List Int)) × (List Int)))) → (Nat × Nat) → Int → Option (Nat × Nat)) (q11 : (Nat × Nat) → (Nat × Nat) → (List (Int × ((Bool × (List Int)) × (List Int)))) → Nat → (Nat × Nat) → Int → Option (Nat × Nat)) (_q4 : (Nat × Nat) → (Nat × Nat) → (List (Int × ((Bool × (List Int)) × (List Int)))) → Nat → (Nat × Nat) → Int → (Nat × Nat) → Int → Option (Nat × Nat)) (_q17 : (Nat × Nat) → (Nat × Nat) → (List (Int × ((Bool × (List Int)) × (List Int)))) → Nat → Nat → (Nat × Nat) → Int → (Nat × Nat) → Int → Option (Nat × Nat)) (b0 : (Nat × Nat)) (b1 : (Nat × Nat)) (b2 : (List (Int × ((Bool × (List Int)) × (List Int))))) (b3 : (Nat × Nat)) (b4 : Int) : Option (Nat × Nat) :=
  (bif (decide (b4 < (2 : Int))) then
    (bif (decide (b4 = (0 : Int))) then
      q11 b0 b1 b2 b3.1 b3 b4
    else
      (bif (decide (b4 = (1 : Int))) then
        q11 b0 b1 b2 b3.2 b3 b4
      else
        none))
  else
    (Option.bind (approx_span.f k b2) fun r1 =>
      (some r1)))
def e11 (_k : Nat) (_q0 : (Nat × Nat) → (Nat × Nat) → (List (Int × ((Bool × (List Int)) × (List Int)))) → (Nat × Nat) → Int → Option (Nat × Nat)) (_q11 : (Nat × Nat) → (Nat × Nat) → (List (Int × ((Bool × (List Int)) × (List Int)))) → Nat → (Nat × Nat) → Int → Option (Nat × Nat)) (q4 : (Nat × Nat) → (Nat × Nat) → (List (Int × ((Bool × (List Int)) × (List Int)))) → Nat → (Nat × Nat) → Int → (Nat × Nat) → Int → Option (Nat × Nat)) (_q17 : (Nat × Nat) → (Nat × Nat) → (List (Int × ((Bool × (List Int)) × (List Int)))) → Nat → Nat → (Nat × Nat) → Int → (Nat × Nat) → Int → Option (Nat × Nat)) (b0 : (Nat × Nat)) (b1 : (Nat × Nat)) (b2 : (List (Int × ((Bool × (List Int)) × (List Int))))) (b3 : Nat) (b4 : (Nat × Nat)) (b5 : Int) : Option (Nat × Nat) :=
  q4 b0 b1 b2 b3 b4 b5 (b0.1, b0.2) (0 : Int)
def e4 (_k : Nat) (q0 : (Nat × Nat) → (Nat × Nat) → (List (Int × ((Bool × (List Int)) × (List Int)))) → (Nat × Nat) → Int → Option (Nat × Nat)) (_q11 : (Nat × Nat) → (Nat × Nat) → (List (Int × ((Bool × (List Int)) × (List Int)))) → Nat → (Nat × Nat) → Int → Option (Nat × Nat)) (_q4 : (Nat × Nat) → (Nat × Nat) → (List (Int × ((Bool × (List Int)) × (List Int)))) → Nat → (Nat × Nat) → Int → (Nat × Nat) → Int → Option (Nat × Nat)) (q17 : (Nat × Nat) → (Nat × Nat) → (List (Int × ((Bool × (List Int)) × (List Int)))) → Nat → Nat → (Nat × Nat) → Int → (Nat × Nat) → Int → Option (Nat × Nat)) (b0 : (Nat × Nat)) (b1 : (Nat × Nat)) (b2 : (List (Int × ((Bool × (List Int)) × (List Int))))) (b3 : Nat) (b4 : (Nat × Nat)) (b5 : Int) (b6 : (Nat × Nat)) (b7 : Int) : Option (Nat × Nat) :=
  (bif (decide (b7 < (2 : Int))) then
    (bif (decide (b7 = (0 : Int))) then
      q17 b0 b1 b2 b3 b6.1 b4 b5 b6 b7
    else
      (bif (decide (b7 = (1 : Int))) then
        q17 b0 b1 b2 b3 b6.2 b4 b5 b6 b7
      else
        none))
  else
    q0 b0 b1 b2 b4 (IntKind.i64.wrap (b5 + (1 : Int))))
def e17 (k : Nat) (_q0 : (Nat × Nat) → (Nat × Nat) → (List (Int × ((Bool × (List Int)) × (List Int)))) → (Nat × Nat) → Int → Option (Nat × Nat)) (_q11 : (Nat × Nat) → (Nat × Nat) → (List (Int × ((Bool × (List Int)) × (List Int)))) → Nat → (Nat × Nat) → Int → Option (Nat × Nat)) (q4 : (Nat × Nat) → (Nat × Nat) → (List (Int × ((Bool × (List Int)) × (List Int)))) → Nat → (Nat × Nat) → Int → (Nat × Nat) → Int → Option (Nat × Nat)) (_q17 : (Nat × Nat) → (Nat × Nat) → (List (Int × ((Bool × (List Int)) × (List Int)))) → Nat → Nat → (Nat × Nat) → Int → (Nat × Nat) → Int → Option (Nat × Nat)) (b0 : (Nat × Nat)) (b1 : (Nat × Nat)) (b2 : (List (Int × ((Bool × (List Int)) × (List Int))))) (b3 : Nat) (b4 : Nat) (b5 : (Nat × Nat)) (b6 : Int) (b7 : (Nat × Nat)) (b8 : Int) : Option (Nat × Nat) :=
  (Option.bind (approx_endOf.f k b3) fun r2 =>
    (Option.bind (approx_endOf.f k b4) fun r3 =>
      (Option.bind (approx_mul.f k r2 r3) fun r4 =>
        (bif (Nat.ble ((b2.length + [r4].length) * 64) 140737488355328 && Nat.ble (b2.length + [r4].length) 9223372036854775807) then
          q4 b0 b1 (b2 ++ [r4]) b3 b5 b6 b7 (IntKind.i64.wrap (b8 + (1 : Int)))
        else
          none))))
def e (_k : Nat) (q0 : (Nat × Nat) → (Nat × Nat) → (List (Int × ((Bool × (List Int)) × (List Int)))) → (Nat × Nat) → Int → Option (Nat × Nat)) (_q11 : (Nat × Nat) → (Nat × Nat) → (List (Int × ((Bool × (List Int)) × (List Int)))) → Nat → (Nat × Nat) → Int → Option (Nat × Nat)) (_q4 : (Nat × Nat) → (Nat × Nat) → (List (Int × ((Bool × (List Int)) × (List Int)))) → Nat → (Nat × Nat) → Int → (Nat × Nat) → Int → Option (Nat × Nat)) (_q17 : (Nat × Nat) → (Nat × Nat) → (List (Int × ((Bool × (List Int)) × (List Int)))) → Nat → Nat → (Nat × Nat) → Int → (Nat × Nat) → Int → Option (Nat × Nat)) (a0 : (Nat × Nat)) (a1 : (Nat × Nat)) (_a2 : Unit) : Option (Nat × Nat) :=
  q0 a1 ((0 : Nat), (0 : Nat)) ([] : List (Int × ((Bool × (List Int)) × (List Int)))) (a0.1, a0.2) (0 : Int)
def pts : Nat → ((Nat × Nat) → (Nat × Nat) → (List (Int × ((Bool × (List Int)) × (List Int)))) → (Nat × Nat) → Int → Option (Nat × Nat)) × ((Nat × Nat) → (Nat × Nat) → (List (Int × ((Bool × (List Int)) × (List Int)))) → Nat → (Nat × Nat) → Int → Option (Nat × Nat)) × ((Nat × Nat) → (Nat × Nat) → (List (Int × ((Bool × (List Int)) × (List Int)))) → Nat → (Nat × Nat) → Int → (Nat × Nat) → Int → Option (Nat × Nat)) × ((Nat × Nat) → (Nat × Nat) → (List (Int × ((Bool × (List Int)) × (List Int)))) → Nat → Nat → (Nat × Nat) → Int → (Nat × Nat) → Int → Option (Nat × Nat))
  | 0 => (fun _ _ _ _ _ => none, fun _ _ _ _ _ _ => none, fun _ _ _ _ _ _ _ _ => none, fun _ _ _ _ _ _ _ _ _ => none)
  | k + 1 => (e0 k (pts k).1 (pts k).2.1 (pts k).2.2.1 (pts k).2.2.2, e11 k (pts k).1 (pts k).2.1 (pts k).2.2.1 (pts k).2.2.2, e4 k (pts k).1 (pts k).2.1 (pts k).2.2.1 (pts k).2.2.2, e17 k (pts k).1 (pts k).2.1 (pts k).2.2.1 (pts k).2.2.2)
def p0 (k : Nat) : (Nat × Nat) → (Nat × Nat) → (List (Int × ((Bool × (List Int)) × (List Int)))) → (Nat × Nat) → Int → Option (Nat × Nat) := (pts k).1
def p11 (k : Nat) : (Nat × Nat) → (Nat × Nat) → (List (Int × ((Bool × (List Int)) × (List Int)))) → Nat → (Nat × Nat) → Int → Option (Nat × Nat) := (pts k).2.1
def p4 (k : Nat) : (Nat × Nat) → (Nat × Nat) → (List (Int × ((Bool × (List Int)) × (List Int)))) → Nat → (Nat × Nat) → Int → (Nat × Nat) → Int → Option (Nat × Nat) := (pts k).2.2.1
def p17 (k : Nat) : (Nat × Nat) → (Nat × Nat) → (List (Int × ((Bool × (List Int)) × (List Int)))) → Nat → Nat → (Nat × Nat) → Int → (Nat × Nat) → Int → Option (Nat × Nat) := (pts k).2.2.2
theorem p0_succ (k : Nat) (x0 : (Nat × Nat)) (x1 : (Nat × Nat)) (x2 : (List (Int × ((Bool × (List Int)) × (List Int))))) (x3 : (Nat × Nat)) (x4 : Int) : p0 (k + 1) x0 x1 x2 x3 x4 = e0 k (p0 k) (p11 k) (p4 k) (p17 k) x0 x1 x2 x3 x4 := rfl
theorem p11_succ (k : Nat) (x0 : (Nat × Nat)) (x1 : (Nat × Nat)) (x2 : (List (Int × ((Bool × (List Int)) × (List Int))))) (x3 : Nat) (x4 : (Nat × Nat)) (x5 : Int) : p11 (k + 1) x0 x1 x2 x3 x4 x5 = e11 k (p0 k) (p11 k) (p4 k) (p17 k) x0 x1 x2 x3 x4 x5 := rfl
theorem p4_succ (k : Nat) (x0 : (Nat × Nat)) (x1 : (Nat × Nat)) (x2 : (List (Int × ((Bool × (List Int)) × (List Int))))) (x3 : Nat) (x4 : (Nat × Nat)) (x5 : Int) (x6 : (Nat × Nat)) (x7 : Int) : p4 (k + 1) x0 x1 x2 x3 x4 x5 x6 x7 = e4 k (p0 k) (p11 k) (p4 k) (p17 k) x0 x1 x2 x3 x4 x5 x6 x7 := rfl
theorem p17_succ (k : Nat) (x0 : (Nat × Nat)) (x1 : (Nat × Nat)) (x2 : (List (Int × ((Bool × (List Int)) × (List Int))))) (x3 : Nat) (x4 : Nat) (x5 : (Nat × Nat)) (x6 : Int) (x7 : (Nat × Nat)) (x8 : Int) : p17 (k + 1) x0 x1 x2 x3 x4 x5 x6 x7 x8 = e17 k (p0 k) (p11 k) (p4 k) (p17 k) x0 x1 x2 x3 x4 x5 x6 x7 x8 := rfl
def f (k : Nat) (a0 : (Nat × Nat)) (a1 : (Nat × Nat)) (a2 : Unit) : Option (Nat × Nat) := e k (p0 k) (p11 k) (p4 k) (p17 k) a0 a1 a2
end approx_four_f46

namespace approx_Prod
def e (k : Nat) (a0 : (Nat × Nat)) (a1 : (Nat × Nat)) : Option ((Nat × Nat) × Int) :=
  (Option.bind (approx_both.f k a0 a1) fun r1 =>
    (bif (!r1) then
      (some (((0 : Nat), (0 : Nat)), (1 : Int)))
    else
      (Option.bind (approx_four_f46.f k a0 a1 ()) fun r2 =>
        (some (r2, (0 : Int))))))
def f (k : Nat) (a0 : (Nat × Nat)) (a1 : (Nat × Nat)) : Option ((Nat × Nat) × Int) := e k a0 a1
end approx_Prod

namespace ref04_signOf
def e (k : Nat) (a0 : (Int × ((Bool × (List Int)) × (List Int)))) : Option Int :=
  (bif (!decide (a0.1 = (0 : Int))) then
    (some a0.1)
  else
    (Option.bind (ref03_Sign.f k a0.2) fun r1 =>
      (some r1)))
def f (k : Nat) (a0 : (Int × ((Bool × (List Int)) × (List Int)))) : Option Int := e k a0
end ref04_signOf

namespace ref04_times
def e11 (_k : Nat) (_q11 : (Int × ((Bool × (List Int)) × (List Int))) → Int → Option (Int × ((Bool × (List Int)) × (List Int)))) (_b0 : (Int × ((Bool × (List Int)) × (List Int)))) (b1 : Int) : Option (Int × ((Bool × (List Int)) × (List Int))) :=
  (some (b1, ((false, ([] : List Int)), ([] : List Int))))
def e (k : Nat) (q11 : (Int × ((Bool × (List Int)) × (List Int))) → Int → Option (Int × ((Bool × (List Int)) × (List Int)))) (a0 : (Int × ((Bool × (List Int)) × (List Int)))) (a1 : (Int × ((Bool × (List Int)) × (List Int)))) : Option (Int × ((Bool × (List Int)) × (List Int))) :=
  (Option.bind (ref04_signOf.f k a0) fun r1 =>
    (Option.bind (ref04_signOf.f k a1) fun r2 =>
      (bif (decide ((IntKind.i64.wrap (r1 * r2)) = (0 : Int))) then
        (some ((0 : Int), ((false, ([] : List Int)), ([] : List Int))))
      else
        (bif (!decide (a0.1 = (0 : Int))) then
          q11 ((0 : Int), ((false, ([] : List Int)), ([] : List Int))) (IntKind.i64.wrap (r1 * r2))
        else
          (bif (!decide (a1.1 = (0 : Int))) then
            q11 ((0 : Int), ((false, ([] : List Int)), ([] : List Int))) (IntKind.i64.wrap (r1 * r2))
          else
            (Option.bind (ref03_Mul.f k a0.2 a1.2) fun r3 =>
              (some ((0 : Int), r3))))))))
def pts : Nat → ((Int × ((Bool × (List Int)) × (List Int))) → Int → Option (Int × ((Bool × (List Int)) × (List Int))))
  | 0 => fun _ _ => none
  | k + 1 => e11 k (pts k)
def p11 (k : Nat) : (Int × ((Bool × (List Int)) × (List Int))) → Int → Option (Int × ((Bool × (List Int)) × (List Int))) := (pts k)
theorem p11_succ (k : Nat) (x0 : (Int × ((Bool × (List Int)) × (List Int)))) (x1 : Int) : p11 (k + 1) x0 x1 = e11 k (p11 k) x0 x1 := rfl
def f (k : Nat) (a0 : (Int × ((Bool × (List Int)) × (List Int)))) (a1 : (Int × ((Bool × (List Int)) × (List Int)))) : Option (Int × ((Bool × (List Int)) × (List Int))) := e k (p11 k) a0 a1
end ref04_times

namespace ref04_hull
def e0 (k : Nat) (_q0 : ((Int × ((Bool × (List Int)) × (List Int))) × (Int × ((Bool × (List Int)) × (List Int))) × (Int × ((Bool × (List Int)) × (List Int))) × (Int × ((Bool × (List Int)) × (List Int)))) → (Nat × Nat) → (Int × ((Bool × (List Int)) × (List Int))) → (Int × ((Bool × (List Int)) × (List Int))) → Int → Option (Nat × Nat)) (q15 : ((Int × ((Bool × (List Int)) × (List Int))) × (Int × ((Bool × (List Int)) × (List Int))) × (Int × ((Bool × (List Int)) × (List Int))) × (Int × ((Bool × (List Int)) × (List Int)))) → (Nat × Nat) → (Int × ((Bool × (List Int)) × (List Int))) → (Int × ((Bool × (List Int)) × (List Int))) → Int → Option (Nat × Nat)) (q17 : ((Int × ((Bool × (List Int)) × (List Int))) × (Int × ((Bool × (List Int)) × (List Int))) × (Int × ((Bool × (List Int)) × (List Int))) × (Int × ((Bool × (List Int)) × (List Int)))) → (Nat × Nat) → (Int × ((Bool × (List Int)) × (List Int))) → (Int × ((Bool × (List Int)) × (List Int))) → Int → Option (Nat × Nat)) (_q19 : ((Int × ((Bool × (List Int)) × (List Int))) × (Int × ((Bool × (List Int)) × (List Int))) × (Int × ((Bool × (List Int)) × (List Int))) × (Int × ((Bool × (List Int)) × (List Int)))) → (Nat × Nat) → (Int × ((Bool × (List Int)) × (List Int))) → (Int × ((Bool × (List Int)) × (List Int))) → Int → Option (Nat × Nat)) (_q11 : ((Int × ((Bool × (List Int)) × (List Int))) × (Int × ((Bool × (List Int)) × (List Int))) × (Int × ((Bool × (List Int)) × (List Int))) × (Int × ((Bool × (List Int)) × (List Int)))) → (Nat × Nat) → (Int × ((Bool × (List Int)) × (List Int))) → (Int × ((Bool × (List Int)) × (List Int))) → Int → Option (Nat × Nat)) (b0 : ((Int × ((Bool × (List Int)) × (List Int))) × (Int × ((Bool × (List Int)) × (List Int))) × (Int × ((Bool × (List Int)) × (List Int))) × (Int × ((Bool × (List Int)) × (List Int))))) (b1 : (Nat × Nat)) (b2 : (Int × ((Bool × (List Int)) × (List Int)))) (b3 : (Int × ((Bool × (List Int)) × (List Int)))) (b4 : Int) : Option (Nat × Nat) :=
  (bif (decide (b4 < (4 : Int))) then
    (bif (decide (b4 = (0 : Int))) then
      (Option.bind (ref04_under.f k b0.1 b2) fun r1 =>
        (bif r1 then
          q15 b0 b1 b2 b3 b4
        else
          q17 b0 b1 b2 b3 b4))
    else
      (bif (decide (b4 = (1 : Int))) then
        (Option.bind (ref04_under.f k b0.2.1 b2) fun r2 =>
          (bif r2 then
            q15 b0 b1 b2 b3 b4
          else
            q17 b0 b1 b2 b3 b4))
      else
        (bif (decide (b4 = (2 : Int))) then
          (Option.bind (ref04_under.f k b0.2.2.1 b2) fun r3 =>
            (bif r3 then
              q15 b0 b1 b2 b3 b4
            else
              q17 b0 b1 b2 b3 b4))
        else
          (bif (decide (b4 = (3 : Int))) then
            (Option.bind (ref04_under.f k b0.2.2.2 b2) fun r4 =>
              (bif r4 then
                q15 b0 b1 b2 b3 b4
              else
                q17 b0 b1 b2 b3 b4))
          else
            none))))
  else
    (Option.bind (ref04_float.f k b2 false) fun r5 =>
      (Option.bind (ref04_float.f k b3 true) fun r6 =>
        (some (r5, r6)))))
def e15 (_k : Nat) (_q0 : ((Int × ((Bool × (List Int)) × (List Int))) × (Int × ((Bool × (List Int)) × (List Int))) × (Int × ((Bool × (List Int)) × (List Int))) × (Int × ((Bool × (List Int)) × (List Int)))) → (Nat × Nat) → (Int × ((Bool × (List Int)) × (List Int))) → (Int × ((Bool × (List Int)) × (List Int))) → Int → Option (Nat × Nat)) (_q15 : ((Int × ((Bool × (List Int)) × (List Int))) × (Int × ((Bool × (List Int)) × (List Int))) × (Int × ((Bool × (List Int)) × (List Int))) × (Int × ((Bool × (List Int)) × (List Int)))) → (Nat × Nat) → (Int × ((Bool × (List Int)) × (List Int))) → (Int × ((Bool × (List Int)) × (List Int))) → Int → Option (Nat × Nat)) (q17 : ((Int × ((Bool × (List Int)) × (List Int))) × (Int × ((Bool × (List Int)) × (List Int))) × (Int × ((Bool × (List Int)) × (List Int))) × (Int × ((Bool × (List Int)) × (List Int)))) → (Nat × Nat) → (Int × ((Bool × (List Int)) × (List Int))) → (Int × ((Bool × (List Int)) × (List Int))) → Int → Option (Nat × Nat)) (_q19 : ((Int × ((Bool × (List Int)) × (List Int))) × (Int × ((Bool × (List Int)) × (List Int))) × (Int × ((Bool × (List Int)) × (List Int))) × (Int × ((Bool × (List Int)) × (List Int)))) → (Nat × Nat) → (Int × ((Bool × (List Int)) × (List Int))) → (Int × ((Bool × (List Int)) × (List Int))) → Int → Option (Nat × Nat)) (_q11 : ((Int × ((Bool × (List Int)) × (List Int))) × (Int × ((Bool × (List Int)) × (List Int))) × (Int × ((Bool × (List Int)) × (List Int))) × (Int × ((Bool × (List Int)) × (List Int)))) → (Nat × Nat) → (Int × ((Bool × (List Int)) × (List Int))) → (Int × ((Bool × (List Int)) × (List Int))) → Int → Option (Nat × Nat)) (b0 : ((Int × ((Bool × (List Int)) × (List Int))) × (Int × ((Bool × (List Int)) × (List Int))) × (Int × ((Bool × (List Int)) × (List Int))) × (Int × ((Bool × (List Int)) × (List Int))))) (b1 : (Nat × Nat)) (_b2 : (Int × ((Bool × (List Int)) × (List Int)))) (b3 : (Int × ((Bool × (List Int)) × (List Int)))) (b4 : Int) : Option (Nat × Nat) :=
  (bif (decide (b4 = (0 : Int))) then
    q17 b0 b1 b0.1 b3 b4
  else
    (bif (decide (b4 = (1 : Int))) then
      q17 b0 b1 b0.2.1 b3 b4
    else
      (bif (decide (b4 = (2 : Int))) then
        q17 b0 b1 b0.2.2.1 b3 b4
      else
        (bif (decide (b4 = (3 : Int))) then
          q17 b0 b1 b0.2.2.2 b3 b4
        else
          none))))
def e17 (k : Nat) (_q0 : ((Int × ((Bool × (List Int)) × (List Int))) × (Int × ((Bool × (List Int)) × (List Int))) × (Int × ((Bool × (List Int)) × (List Int))) × (Int × ((Bool × (List Int)) × (List Int)))) → (Nat × Nat) → (Int × ((Bool × (List Int)) × (List Int))) → (Int × ((Bool × (List Int)) × (List Int))) → Int → Option (Nat × Nat)) (_q15 : ((Int × ((Bool × (List Int)) × (List Int))) × (Int × ((Bool × (List Int)) × (List Int))) × (Int × ((Bool × (List Int)) × (List Int))) × (Int × ((Bool × (List Int)) × (List Int)))) → (Nat × Nat) → (Int × ((Bool × (List Int)) × (List Int))) → (Int × ((Bool × (List Int)) × (List Int))) → Int → Option (Nat × Nat)) (_q17 : ((Int × ((Bool × (List Int)) × (List Int))) × (Int × ((Bool × (List Int)) × (List Int))) × (Int × ((Bool × (List Int)) × (List Int))) × (Int × ((Bool × (List Int)) × (List Int)))) → (Nat × Nat) → (Int × ((Bool × (List Int)) × (List Int))) → (Int × ((Bool × (List Int)) × (List Int))) → Int → Option (Nat × Nat)) (q19 : ((Int × ((Bool × (List Int)) × (List Int))) × (Int × ((Bool × (List Int)) × (List Int))) × (Int × ((Bool × (List Int)) × (List Int))) × (Int × ((Bool × (List Int)) × (List Int)))) → (Nat × Nat) → (Int × ((Bool × (List Int)) × (List Int))) → (Int × ((Bool × (List Int)) × (List Int))) → Int → Option (Nat × Nat)) (q11 : ((Int × ((Bool × (List Int)) × (List Int))) × (Int × ((Bool × (List Int)) × (List Int))) × (Int × ((Bool × (List Int)) × (List Int))) × (Int × ((Bool × (List Int)) × (List Int)))) → (Nat × Nat) → (Int × ((Bool × (List Int)) × (List Int))) → (Int × ((Bool × (List Int)) × (List Int))) → Int → Option (Nat × Nat)) (b0 : ((Int × ((Bool × (List Int)) × (List Int))) × (Int × ((Bool × (List Int)) × (List Int))) × (Int × ((Bool × (List Int)) × (List Int))) × (Int × ((Bool × (List Int)) × (List Int))))) (b1 : (Nat × Nat)) (b2 : (Int × ((Bool × (List Int)) × (List Int)))) (b3 : (Int × ((Bool × (List Int)) × (List Int)))) (b4 : Int) : Option (Nat × Nat) :=
  (bif (decide (b4 = (0 : Int))) then
    (Option.bind (ref04_under.f k b3 b0.1) fun r7 =>
      (bif r7 then
        q19 b0 b1 b2 b3 b4
      else
        q11 b0 b1 b2 b3 b4))
  else
    (bif (decide (b4 = (1 : Int))) then
      (Option.bind (ref04_under.f k b3 b0.2.1) fun r8 =>
        (bif r8 then
          q19 b0 b1 b2 b3 b4
        else
          q11 b0 b1 b2 b3 b4))
    else
      (bif (decide (b4 = (2 : Int))) then
        (Option.bind (ref04_under.f k b3 b0.2.2.1) fun r9 =>
          (bif r9 then
            q19 b0 b1 b2 b3 b4
          else
            q11 b0 b1 b2 b3 b4))
      else
        (bif (decide (b4 = (3 : Int))) then
          (Option.bind (ref04_under.f k b3 b0.2.2.2) fun r10 =>
            (bif r10 then
              q19 b0 b1 b2 b3 b4
            else
              q11 b0 b1 b2 b3 b4))
        else
          none))))
def e19 (_k : Nat) (_q0 : ((Int × ((Bool × (List Int)) × (List Int))) × (Int × ((Bool × (List Int)) × (List Int))) × (Int × ((Bool × (List Int)) × (List Int))) × (Int × ((Bool × (List Int)) × (List Int)))) → (Nat × Nat) → (Int × ((Bool × (List Int)) × (List Int))) → (Int × ((Bool × (List Int)) × (List Int))) → Int → Option (Nat × Nat)) (_q15 : ((Int × ((Bool × (List Int)) × (List Int))) × (Int × ((Bool × (List Int)) × (List Int))) × (Int × ((Bool × (List Int)) × (List Int))) × (Int × ((Bool × (List Int)) × (List Int)))) → (Nat × Nat) → (Int × ((Bool × (List Int)) × (List Int))) → (Int × ((Bool × (List Int)) × (List Int))) → Int → Option (Nat × Nat)) (_q17 : ((Int × ((Bool × (List Int)) × (List Int))) × (Int × ((Bool × (List Int)) × (List Int))) × (Int × ((Bool × (List Int)) × (List Int))) × (Int × ((Bool × (List Int)) × (List Int)))) → (Nat × Nat) → (Int × ((Bool × (List Int)) × (List Int))) → (Int × ((Bool × (List Int)) × (List Int))) → Int → Option (Nat × Nat)) (_q19 : ((Int × ((Bool × (List Int)) × (List Int))) × (Int × ((Bool × (List Int)) × (List Int))) × (Int × ((Bool × (List Int)) × (List Int))) × (Int × ((Bool × (List Int)) × (List Int)))) → (Nat × Nat) → (Int × ((Bool × (List Int)) × (List Int))) → (Int × ((Bool × (List Int)) × (List Int))) → Int → Option (Nat × Nat)) (q11 : ((Int × ((Bool × (List Int)) × (List Int))) × (Int × ((Bool × (List Int)) × (List Int))) × (Int × ((Bool × (List Int)) × (List Int))) × (Int × ((Bool × (List Int)) × (List Int)))) → (Nat × Nat) → (Int × ((Bool × (List Int)) × (List Int))) → (Int × ((Bool × (List Int)) × (List Int))) → Int → Option (Nat × Nat)) (b0 : ((Int × ((Bool × (List Int)) × (List Int))) × (Int × ((Bool × (List Int)) × (List Int))) × (Int × ((Bool × (List Int)) × (List Int))) × (Int × ((Bool × (List Int)) × (List Int))))) (b1 : (Nat × Nat)) (b2 : (Int × ((Bool × (List Int)) × (List Int)))) (_b3 : (Int × ((Bool × (List Int)) × (List Int)))) (b4 : Int) : Option (Nat × Nat) :=
  (bif (decide (b4 = (0 : Int))) then
    q11 b0 b1 b2 b0.1 b4
  else
    (bif (decide (b4 = (1 : Int))) then
      q11 b0 b1 b2 b0.2.1 b4
    else
      (bif (decide (b4 = (2 : Int))) then
        q11 b0 b1 b2 b0.2.2.1 b4
      else
        (bif (decide (b4 = (3 : Int))) then
          q11 b0 b1 b2 b0.2.2.2 b4
        else
          none))))
def e11 (_k : Nat) (q0 : ((Int × ((Bool × (List Int)) × (List Int))) × (Int × ((Bool × (List Int)) × (List Int))) × (Int × ((Bool × (List Int)) × (List Int))) × (Int × ((Bool × (List Int)) × (List Int)))) → (Nat × Nat) → (Int × ((Bool × (List Int)) × (List Int))) → (Int × ((Bool × (List Int)) × (List Int))) → Int → Option (Nat × Nat)) (_q15 : ((Int × ((Bool × (List Int)) × (List Int))) × (Int × ((Bool × (List Int)) × (List Int))) × (Int × ((Bool × (List Int)) × (List Int))) × (Int × ((Bool × (List Int)) × (List Int)))) → (Nat × Nat) → (Int × ((Bool × (List Int)) × (List Int))) → (Int × ((Bool × (List Int)) × (List Int))) → Int → Option (Nat × Nat)) (_q17 : ((Int × ((Bool × (List Int)) × (List Int))) × (Int × ((Bool × (List Int)) × (List Int))) × (Int × ((Bool × (List Int)) × (List Int))) × (Int × ((Bool × (List Int)) × (List Int)))) → (Nat × Nat) → (Int × ((Bool × (List Int)) × (List Int))) → (Int × ((Bool × (List Int)) × (List Int))) → Int → Option (Nat × Nat)) (_q19 : ((Int × ((Bool × (List Int)) × (List Int))) × (Int × ((Bool × (List Int)) × (List Int))) × (Int × ((Bool × (List Int)) × (List Int))) × (Int × ((Bool × (List Int)) × (List Int)))) → (Nat × Nat) → (Int × ((Bool × (List Int)) × (List Int))) → (Int × ((Bool × (List Int)) × (List Int))) → Int → Option (Nat × Nat)) (_q11 : ((Int × ((Bool × (List Int)) × (List Int))) × (Int × ((Bool × (List Int)) × (List Int))) × (Int × ((Bool × (List Int)) × (List Int))) × (Int × ((Bool × (List Int)) × (List Int)))) → (Nat × Nat) → (Int × ((Bool × (List Int)) × (List Int))) → (Int × ((Bool × (List Int)) × (List Int))) → Int → Option (Nat × Nat)) (b0 : ((Int × ((Bool × (List Int)) × (List Int))) × (Int × ((Bool × (List Int)) × (List Int))) × (Int × ((Bool × (List Int)) × (List Int))) × (Int × ((Bool × (List Int)) × (List Int))))) (b1 : (Nat × Nat)) (b2 : (Int × ((Bool × (List Int)) × (List Int)))) (b3 : (Int × ((Bool × (List Int)) × (List Int)))) (b4 : Int) : Option (Nat × Nat) :=
  q0 b0 b1 b2 b3 (IntKind.i64.wrap (b4 + (1 : Int)))
def e (_k : Nat) (q0 : ((Int × ((Bool × (List Int)) × (List Int))) × (Int × ((Bool × (List Int)) × (List Int))) × (Int × ((Bool × (List Int)) × (List Int))) × (Int × ((Bool × (List Int)) × (List Int)))) → (Nat × Nat) → (Int × ((Bool × (List Int)) × (List Int))) → (Int × ((Bool × (List Int)) × (List Int))) → Int → Option (Nat × Nat)) (_q15 : ((Int × ((Bool × (List Int)) × (List Int))) × (Int × ((Bool × (List Int)) × (List Int))) × (Int × ((Bool × (List Int)) × (List Int))) × (Int × ((Bool × (List Int)) × (List Int)))) → (Nat × Nat) → (Int × ((Bool × (List Int)) × (List Int))) → (Int × ((Bool × (List Int)) × (List Int))) → Int → Option (Nat × Nat)) (_q17 : ((Int × ((Bool × (List Int)) × (List Int))) × (Int × ((Bool × (List Int)) × (List Int))) × (Int × ((Bool × (List Int)) × (List Int))) × (Int × ((Bool × (List Int)) × (List Int)))) → (Nat × Nat) → (Int × ((Bool × (List Int)) × (List Int))) → (Int × ((Bool × (List Int)) × (List Int))) → Int → Option (Nat × Nat)) (_q19 : ((Int × ((Bool × (List Int)) × (List Int))) × (Int × ((Bool × (List Int)) × (List Int))) × (Int × ((Bool × (List Int)) × (List Int))) × (Int × ((Bool × (List Int)) × (List Int)))) → (Nat × Nat) → (Int × ((Bool × (List Int)) × (List Int))) → (Int × ((Bool × (List Int)) × (List Int))) → Int → Option (Nat × Nat)) (_q11 : ((Int × ((Bool × (List Int)) × (List Int))) × (Int × ((Bool × (List Int)) × (List Int))) × (Int × ((Bool × (List Int)) × (List Int))) × (Int × ((Bool × (List Int)) × (List Int)))) → (Nat × Nat) → (Int × ((Bool × (List Int)) × (List Int))) → (Int × ((Bool × (List Int)) × (List Int))) → Int → Option (Nat × Nat)) (a0 : ((Int × ((Bool × (List Int)) × (List Int))) × (Int × ((Bool × (List Int)) × (List Int))) × (Int × ((Bool × (List Int)) × (List Int))) × (Int × ((Bool × (List Int)) × (List Int))))) : Option (Nat × Nat) :=
  q0 a0 ((0 : Nat), (0 : Nat)) a0.1 a0.1 (1 : Int)
def pts : Nat → (((Int × ((Bool × (List Int)) × (List Int))) × (Int × ((Bool × (List Int)) × (List Int))) × (Int × ((Bool × (List Int)) × (List Int))) × (Int × ((Bool × (List Int)) × (List Int)))) → (Nat × Nat) → (Int × ((Bool × (List Int)) × (List Int))) → (Int × ((Bool × (List Int)) × (List Int))) → Int → Option (Nat × Nat)) × (((Int × ((Bool × (List Int)) × (List Int))) × (Int × ((Bool × (List Int)) × (List Int))) × (Int × ((Bool × (List Int)) × (List Int))) × (Int × ((Bool × (List Int)) × (List Int)))) → (Nat × Nat) → (Int × ((Bool × (List Int)) × (List Int))) → (Int × ((Bool × (List Int)) × (List Int))) → Int → Option (Nat × Nat)) × (((Int × ((Bool × (List Int)) × (List Int))) × (Int × ((Bool × (List Int)) × (List Int))) × (Int × ((Bool × (List Int)) × (List Int))) × (Int × ((Bool × (List Int)) × (List Int)))) → (Nat × Nat) → (Int × ((Bool × (List Int)) × (List Int))) → (Int × ((Bool × (List Int)) × (List Int))) → Int → Option (Nat × Nat)) × (((Int × ((Bool × (List Int)) × (List Int))) × (Int × ((Bool × (List Int)) × (List Int))) × (Int × ((Bool × (List Int)) × (List Int))) × (Int × ((Bool × (List Int)) × (List Int)))) → (Nat × Nat) → (Int × ((Bool × (List Int)) × (List Int))) → (Int × ((Bool × (List Int)) × (List Int))) → Int → Option (Nat × Nat)) × (((Int × ((Bool × (List Int)) × (List Int))) × (Int × ((Bool × (List Int)) × (List Int))) × (Int × ((Bool × (List Int)) × (List Int))) × (Int × ((Bool × (List Int)) × (List Int)))) → (Nat × Nat) → (Int × ((Bool × (List Int)) × (List Int))) → (Int × ((Bool × (List Int)) × (List Int))) → Int → Option (Nat × Nat))
  | 0 => (fun _ _ _ _ _ => none, fun _ _ _ _ _ => none, fun _ _ _ _ _ => none, fun _ _ _ _ _ => none, fun _ _ _ _ _ => none)
  | k + 1 => (e0 k (pts k).1 (pts k).2.1 (pts k).2.2.1 (pts k).2.2.2.1 (pts k).2.2.2.2, e15 k (pts k).1 (pts k).2.1 (pts k).2.2.1 (pts k).2.2.2.1 (pts k).2.2.2.2, e17 k (pts k).1 (pts k).2.1 (pts k).2.2.1 (pts k).2.2.2.1 (pts k).2.2.2.2, e19 k (pts k).1 (pts k).2.1 (pts k).2.2.1 (pts k).2.2.2.1 (pts k).2.2.2.2, e11 k (pts k).1 (pts k).2.1 (pts k).2.2.1 (pts k).2.2.2.1 (pts k).2.2.2.2)
def p0 (k : Nat) : ((Int × ((Bool × (List Int)) × (List Int))) × (Int × ((Bool × (List Int)) × (List Int))) × (Int × ((Bool × (List Int)) × (List Int))) × (Int × ((Bool × (List Int)) × (List Int)))) → (Nat × Nat) → (Int × ((Bool × (List Int)) × (List Int))) → (Int × ((Bool × (List Int)) × (List Int))) → Int → Option (Nat × Nat) := (pts k).1
def p15 (k : Nat) : ((Int × ((Bool × (List Int)) × (List Int))) × (Int × ((Bool × (List Int)) × (List Int))) × (Int × ((Bool × (List Int)) × (List Int))) × (Int × ((Bool × (List Int)) × (List Int)))) → (Nat × Nat) → (Int × ((Bool × (List Int)) × (List Int))) → (Int × ((Bool × (List Int)) × (List Int))) → Int → Option (Nat × Nat) := (pts k).2.1
def p17 (k : Nat) : ((Int × ((Bool × (List Int)) × (List Int))) × (Int × ((Bool × (List Int)) × (List Int))) × (Int × ((Bool × (List Int)) × (List Int))) × (Int × ((Bool × (List Int)) × (List Int)))) → (Nat × Nat) → (Int × ((Bool × (List Int)) × (List Int))) → (Int × ((Bool × (List Int)) × (List Int))) → Int → Option (Nat × Nat) := (pts k).2.2.1
def p19 (k : Nat) : ((Int × ((Bool × (List Int)) × (List Int))) × (Int × ((Bool × (List Int)) × (List Int))) × (Int × ((Bool × (List Int)) × (List Int))) × (Int × ((Bool × (List Int)) × (List Int)))) → (Nat × Nat) → (Int × ((Bool × (List Int)) × (List Int))) → (Int × ((Bool × (List Int)) × (List Int))) → Int → Option (Nat × Nat) := (pts k).2.2.2.1
def p11 (k : Nat) : ((Int × ((Bool × (List Int)) × (List Int))) × (Int × ((Bool × (List Int)) × (List Int))) × (Int × ((Bool × (List Int)) × (List Int))) × (Int × ((Bool × (List Int)) × (List Int)))) → (Nat × Nat) → (Int × ((Bool × (List Int)) × (List Int))) → (Int × ((Bool × (List Int)) × (List Int))) → Int → Option (Nat × Nat) := (pts k).2.2.2.2
theorem p0_succ (k : Nat) (x0 : ((Int × ((Bool × (List Int)) × (List Int))) × (Int × ((Bool × (List Int)) × (List Int))) × (Int × ((Bool × (List Int)) × (List Int))) × (Int × ((Bool × (List Int)) × (List Int))))) (x1 : (Nat × Nat)) (x2 : (Int × ((Bool × (List Int)) × (List Int)))) (x3 : (Int × ((Bool × (List Int)) × (List Int)))) (x4 : Int) : p0 (k + 1) x0 x1 x2 x3 x4 = e0 k (p0 k) (p15 k) (p17 k) (p19 k) (p11 k) x0 x1 x2 x3 x4 := rfl
theorem p15_succ (k : Nat) (x0 : ((Int × ((Bool × (List Int)) × (List Int))) × (Int × ((Bool × (List Int)) × (List Int))) × (Int × ((Bool × (List Int)) × (List Int))) × (Int × ((Bool × (List Int)) × (List Int))))) (x1 : (Nat × Nat)) (x2 : (Int × ((Bool × (List Int)) × (List Int)))) (x3 : (Int × ((Bool × (List Int)) × (List Int)))) (x4 : Int) : p15 (k + 1) x0 x1 x2 x3 x4 = e15 k (p0 k) (p15 k) (p17 k) (p19 k) (p11 k) x0 x1 x2 x3 x4 := rfl
theorem p17_succ (k : Nat) (x0 : ((Int × ((Bool × (List Int)) × (List Int))) × (Int × ((Bool × (List Int)) × (List Int))) × (Int × ((Bool × (List Int)) × (List Int))) × (Int × ((Bool × (List Int)) × (List Int))))) (x1 : (Nat × Nat)) (x2 : (Int × ((Bool × (List Int)) × (List Int)))) (x3 : (Int × ((Bool × (List Int)) × (List Int)))) (x4 : Int) : p17 (k + 1) x0 x1 x2 x3 x4 = e17 k (p0 k) (p15 k) (p17 k) (p19 k) (p11 k) x0 x1 x2 x3 x4 := rfl
theorem p19_succ (k : Nat) (x0 : ((Int × ((Bool × (List Int)) × (List Int))) × (Int × ((Bool × (List Int)) × (List Int))) × (Int × ((Bool × (List Int)) × (List Int))) × (Int × ((Bool × (List Int)) × (List Int))))) (x1 : (Nat × Nat)) (x2 : (Int × ((Bool × (List Int)) × (List Int)))) (x3 : (Int × ((Bool × (List Int)) × (List Int)))) (x4 : Int) : p19 (k + 1) x0 x1 x2 x3 x4 = e19 k (p0 k) (p15 k) (p17 k) (p19 k) (p11 k) x0 x1 x2 x3 x4 := rfl
theorem p11_succ (k : Nat) (x0 : ((Int × ((Bool × (List Int)) × (List Int))) × (Int × ((Bool × (List Int)) × (List Int))) × (Int × ((Bool × (List Int)) × (List Int))) × (Int × ((Bool × (List Int)) × (List Int))))) (x1 : (Nat × Nat)) (x2 : (Int × ((Bool × (List Int)) × (List Int)))) (x3 : (Int × ((Bool × (List Int)) × (List Int)))) (x4 : Int) : p11 (k + 1) x0 x1 x2 x3 x4 = e11 k (p0 k) (p15 k) (p17 k) (p19 k) (p11 k) x0 x1 x2 x3 x4 := rfl
def f (k : Nat) (a0 : ((Int × ((Bool × (List Int)) × (List Int))) × (Int × ((Bool × (List Int)) × (List Int))) × (Int × ((Bool × (List Int)) × (List Int))) × (Int × ((Bool × (List Int)) × (List Int))))) : Option (Nat × Nat) := e k (p0 k) (p15 k) (p17 k) (p19 k) (p11 k) a0
end ref04_hull

namespace ref04_Prod
def e5 (_k : Nat) (_q5 : (Nat × Nat) → Option ((Nat × Nat) × Int)) (_b0 : (Nat × Nat)) : Option ((Nat × Nat) × Int) :=
  (some (((0 : Nat), (0 : Nat)), (1 : Int)))
def e (k : Nat) (q5 : (Nat × Nat) → Option ((Nat × Nat) × Int)) (a0 : (Nat × Nat)) (a1 : (Nat × Nat)) : Option ((Nat × Nat) × Int) :=
  (Option.bind (ref04_Valid.f k a0) fun r1 =>
    (bif (!r1) then
      q5 ((0 : Nat), (0 : Nat))
    else
      (Option.bind (ref04_Valid.f k a1) fun r2 =>
        (bif (!r2) then
          q5 ((0 : Nat), (0 : Nat))
        else
          (Option.bind (ref04_endOf.f k a0.1) fun r3 =>
            (Option.bind (ref04_endOf.f k a0.2) fun r4 =>
              (Option.bind (ref04_endOf.f k a1.1) fun r5 =>
                (Option.bind (ref04_endOf.f k a1.2) fun r6 =>
                  (Option.bind (ref04_times.f k r3 r5) fun r7 =>
                    (Option.bind (ref04_times.f k r3 r6) fun r8 =>
                      (Option.bind (ref04_times.f k r4 r5) fun r9 =>
                        (Option.bind (ref04_times.f k r4 r6) fun r10 =>
                          (Option.bind (ref04_hull.f k (r7, r8, r9, r10)) fun r11 =>
                            (some (r11, (0 : Int))))))))))))))))
def pts : Nat → ((Nat × Nat) → Option ((Nat × Nat) × Int))
  | 0 => fun _ => none
  | k + 1 => e5 k (pts k)
def p5 (k : Nat) : (Nat × Nat) → Option ((Nat × Nat) × Int) := (pts k)
theorem p5_succ (k : Nat) (x0 : (Nat × Nat)) : p5 (k + 1) x0 = e5 k (p5 k) x0 := rfl
def f (k : Nat) (a0 : (Nat × Nat)) (a1 : (Nat × Nat)) : Option ((Nat × Nat) × Int) := e k (p5 k) a0 a1
end ref04_Prod

namespace ratio_Div
def e (k : Nat) (a0 : ((Bool × (List Int)) × (List Int))) (a1 : ((Bool × (List Int)) × (List Int))) : Option (((Bool × (List Int)) × (List Int)) × Int) :=
  (Option.bind (ratio_Inv.f k a1) fun r1 =>
    (bif (!decide (r1.2 = (0 : Int))) then
      (some (((false, ([] : List Int)), ([] : List Int)), r1.2))
    else
      (Option.bind (ratio_Mul.f k a0 r1.1) fun r2 =>
        (some (r2, (0 : Int))))))
def f (k : Nat) (a0 : ((Bool × (List Int)) × (List Int))) (a1 : ((Bool × (List Int)) × (List Int))) : Option (((Bool × (List Int)) × (List Int)) × Int) := e k a0 a1
end ratio_Div

namespace approx_div
def e (k : Nat) (a0 : (Int × ((Bool × (List Int)) × (List Int)))) (a1 : (Int × ((Bool × (List Int)) × (List Int)))) : Option (Int × ((Bool × (List Int)) × (List Int))) :=
  (bif (!decide (a1.1 = (0 : Int))) then
    (some ((0 : Int), ((false, ([] : List Int)), ([] : List Int))))
  else
    (bif (!decide (a0.1 = (0 : Int))) then
      (Option.bind (_approx_end_sign.f k a1) fun r1 =>
        (some ((IntKind.i64.wrap (a0.1 * r1)), ((false, ([] : List Int)), ([] : List Int)))))
    else
      (Option.bind (ratio_Div.f k a0.2 a1.2) fun r2 =>
        (some ((0 : Int), r2.1)))))
def f (k : Nat) (a0 : (Int × ((Bool × (List Int)) × (List Int)))) (a1 : (Int × ((Bool × (List Int)) × (List Int)))) : Option (Int × ((Bool × (List Int)) × (List Int))) := e k a0 a1
end approx_div

namespace approx_four_f49
def e0 (k : Nat) (_q0 : (Nat × Nat) → (Nat × Nat) → (List (Int × ((Bool × (List Int)) × (List Int)))) → (Nat × Nat) → Int → Option (Nat × Nat)) (q11 : (Nat × Nat) → (Nat × Nat) → (List (Int × ((Bool × (List Int)) × (List Int)))) → Nat → (Nat × Nat) → Int → Option (Nat × Nat)) (_q4 : (Nat × Nat) → (Nat × Nat) → (List (Int × ((Bool × (List Int)) × (List Int)))) → Nat → (Nat × Nat) → Int → (Nat × Nat) → Int → Option (Nat × Nat)) (_q17 : (Nat × Nat) → (Nat × Nat) → (List (Int × ((Bool × (List Int)) × (List Int)))) → Nat → Nat → (Nat × Nat) → Int → (Nat × Nat) → Int → Option (Nat × Nat)) (b0 : (Nat × Nat)) (b1 : (Nat × Nat)) (b2 : (List (Int × ((Bool × (List Int)) × (List Int))))) (b3 : (Nat × Nat)) (b4 : Int) : Option (Nat × Nat) :=
  (bif (decide (b4 < (2 : Int))) then
    (bif (decide (b4 = (0 : Int))) then
      q11 b0 b1 b2 b3.1 b3 b4
    else
      (bif (decide (b4 = (1 : Int))) then
        q11 b0 b1 b2 b3.2 b3 b4
      else
        none))
  else
    (Option.bind (approx_span.f k b2) fun r1 =>
      (some r1)))
def e11 (_k : Nat) (_q0 : (Nat × Nat) → (Nat × Nat) → (List (Int × ((Bool × (List Int)) × (List Int)))) → (Nat × Nat) → Int → Option (Nat × Nat)) (_q11 : (Nat × Nat) → (Nat × Nat) → (List (Int × ((Bool × (List Int)) × (List Int)))) → Nat → (Nat × Nat) → Int → Option (Nat × Nat)) (q4 : (Nat × Nat) → (Nat × Nat) → (List (Int × ((Bool × (List Int)) × (List Int)))) → Nat → (Nat × Nat) → Int → (Nat × Nat) → Int → Option (Nat × Nat)) (_q17 : (Nat × Nat) → (Nat × Nat) → (List (Int × ((Bool × (List Int)) × (List Int)))) → Nat → Nat → (Nat × Nat) → Int → (Nat × Nat) → Int → Option (Nat × Nat)) (b0 : (Nat × Nat)) (b1 : (Nat × Nat)) (b2 : (List (Int × ((Bool × (List Int)) × (List Int))))) (b3 : Nat) (b4 : (Nat × Nat)) (b5 : Int) : Option (Nat × Nat) :=
  q4 b0 b1 b2 b3 b4 b5 (b0.1, b0.2) (0 : Int)
def e4 (_k : Nat) (q0 : (Nat × Nat) → (Nat × Nat) → (List (Int × ((Bool × (List Int)) × (List Int)))) → (Nat × Nat) → Int → Option (Nat × Nat)) (_q11 : (Nat × Nat) → (Nat × Nat) → (List (Int × ((Bool × (List Int)) × (List Int)))) → Nat → (Nat × Nat) → Int → Option (Nat × Nat)) (_q4 : (Nat × Nat) → (Nat × Nat) → (List (Int × ((Bool × (List Int)) × (List Int)))) → Nat → (Nat × Nat) → Int → (Nat × Nat) → Int → Option (Nat × Nat)) (q17 : (Nat × Nat) → (Nat × Nat) → (List (Int × ((Bool × (List Int)) × (List Int)))) → Nat → Nat → (Nat × Nat) → Int → (Nat × Nat) → Int → Option (Nat × Nat)) (b0 : (Nat × Nat)) (b1 : (Nat × Nat)) (b2 : (List (Int × ((Bool × (List Int)) × (List Int))))) (b3 : Nat) (b4 : (Nat × Nat)) (b5 : Int) (b6 : (Nat × Nat)) (b7 : Int) : Option (Nat × Nat) :=
  (bif (decide (b7 < (2 : Int))) then
    (bif (decide (b7 = (0 : Int))) then
      q17 b0 b1 b2 b3 b6.1 b4 b5 b6 b7
    else
      (bif (decide (b7 = (1 : Int))) then
        q17 b0 b1 b2 b3 b6.2 b4 b5 b6 b7
      else
        none))
  else
    q0 b0 b1 b2 b4 (IntKind.i64.wrap (b5 + (1 : Int))))
def e17 (k : Nat) (_q0 : (Nat × Nat) → (Nat × Nat) → (List (Int × ((Bool × (List Int)) × (List Int)))) → (Nat × Nat) → Int → Option (Nat × Nat)) (_q11 : (Nat × Nat) → (Nat × Nat) → (List (Int × ((Bool × (List Int)) × (List Int)))) → Nat → (Nat × Nat) → Int → Option (Nat × Nat)) (q4 : (Nat × Nat) → (Nat × Nat) → (List (Int × ((Bool × (List Int)) × (List Int)))) → Nat → (Nat × Nat) → Int → (Nat × Nat) → Int → Option (Nat × Nat)) (_q17 : (Nat × Nat) → (Nat × Nat) → (List (Int × ((Bool × (List Int)) × (List Int)))) → Nat → Nat → (Nat × Nat) → Int → (Nat × Nat) → Int → Option (Nat × Nat)) (b0 : (Nat × Nat)) (b1 : (Nat × Nat)) (b2 : (List (Int × ((Bool × (List Int)) × (List Int))))) (b3 : Nat) (b4 : Nat) (b5 : (Nat × Nat)) (b6 : Int) (b7 : (Nat × Nat)) (b8 : Int) : Option (Nat × Nat) :=
  (Option.bind (approx_endOf.f k b3) fun r2 =>
    (Option.bind (approx_endOf.f k b4) fun r3 =>
      (Option.bind (approx_div.f k r2 r3) fun r4 =>
        (bif (Nat.ble ((b2.length + [r4].length) * 64) 140737488355328 && Nat.ble (b2.length + [r4].length) 9223372036854775807) then
          q4 b0 b1 (b2 ++ [r4]) b3 b5 b6 b7 (IntKind.i64.wrap (b8 + (1 : Int)))
        else
          none))))
def e (_k : Nat) (q0 : (Nat × Nat) → (Nat × Nat) → (List (Int × ((Bool × (List Int)) × (List Int)))) → (Nat × Nat) → Int → Option (Nat × Nat)) (_q11 : (Nat × Nat) → (Nat × Nat) → (List (Int × ((Bool × (List Int)) × (List Int)))) → Nat → (Nat × Nat) → Int → Option (Nat × Nat)) (_q4 : (Nat × Nat) → (Nat × Nat) → (List (Int × ((Bool × (List Int)) × (List Int)))) → Nat → (Nat × Nat) → Int → (Nat × Nat) → Int → Option (Nat × Nat)) (_q17 : (Nat × Nat) → (Nat × Nat) → (List (Int × ((Bool × (List Int)) × (List Int)))) → Nat → Nat → (Nat × Nat) → Int → (Nat × Nat) → Int → Option (Nat × Nat)) (a0 : (Nat × Nat)) (a1 : (Nat × Nat)) (_a2 : Unit) : Option (Nat × Nat) :=
  q0 a1 ((0 : Nat), (0 : Nat)) ([] : List (Int × ((Bool × (List Int)) × (List Int)))) (a0.1, a0.2) (0 : Int)
def pts : Nat → ((Nat × Nat) → (Nat × Nat) → (List (Int × ((Bool × (List Int)) × (List Int)))) → (Nat × Nat) → Int → Option (Nat × Nat)) × ((Nat × Nat) → (Nat × Nat) → (List (Int × ((Bool × (List Int)) × (List Int)))) → Nat → (Nat × Nat) → Int → Option (Nat × Nat)) × ((Nat × Nat) → (Nat × Nat) → (List (Int × ((Bool × (List Int)) × (List Int)))) → Nat → (Nat × Nat) → Int → (Nat × Nat) → Int → Option (Nat × Nat)) × ((Nat × Nat) → (Nat × Nat) → (List (Int × ((Bool × (List Int)) × (List Int)))) → Nat → Nat → (Nat × Nat) → Int → (Nat × Nat) → Int → Option (Nat × Nat))
  | 0 => (fun _ _ _ _ _ => none, fun _ _ _ _ _ _ => none, fun _ _ _ _ _ _ _ _ => none, fun _ _ _ _ _ _ _ _ _ => none)
  | k + 1 => (e0 k (pts k).1 (pts k).2.1 (pts k).2.2.1 (pts k).2.2.2, e11 k (pts k).1 (pts k).2.1 (pts k).2.2.1 (pts k).2.2.2, e4 k (pts k).1 (pts k).2.1 (pts k).2.2.1 (pts k).2.2.2, e17 k (pts k).1 (pts k).2.1 (pts k).2.2.1 (pts k).2.2.2)
def p0 (k : Nat) : (Nat × Nat) → (Nat × Nat) → (List (Int × ((Bool × (List Int)) × (List Int)))) → (Nat × Nat) → Int → Option (Nat × Nat) := (pts k).1
def p11 (k : Nat) : (Nat × Nat) → (Nat × Nat) → (List (Int × ((Bool × (List Int)) × (List Int)))) → Nat → (Nat × Nat) → Int → Option (Nat × Nat) := (pts k).2.1
def p4 (k : Nat) : (Nat × Nat) → (Nat × Nat) → (List (Int × ((Bool × (List Int)) × (List Int)))) → Nat → (Nat × Nat) → Int → (Nat × Nat) → Int → Option (Nat × Nat) := (pts k).2.2.1
def p17 (k : Nat) : (Nat × Nat) → (Nat × Nat) → (List (Int × ((Bool × (List Int)) × (List Int)))) → Nat → Nat → (Nat × Nat) → Int → (Nat × Nat) → Int → Option (Nat × Nat) := (pts k).2.2.2
theorem p0_succ (k : Nat) (x0 : (Nat × Nat)) (x1 : (Nat × Nat)) (x2 : (List (Int × ((Bool × (List Int)) × (List Int))))) (x3 : (Nat × Nat)) (x4 : Int) : p0 (k + 1) x0 x1 x2 x3 x4 = e0 k (p0 k) (p11 k) (p4 k) (p17 k) x0 x1 x2 x3 x4 := rfl
theorem p11_succ (k : Nat) (x0 : (Nat × Nat)) (x1 : (Nat × Nat)) (x2 : (List (Int × ((Bool × (List Int)) × (List Int))))) (x3 : Nat) (x4 : (Nat × Nat)) (x5 : Int) : p11 (k + 1) x0 x1 x2 x3 x4 x5 = e11 k (p0 k) (p11 k) (p4 k) (p17 k) x0 x1 x2 x3 x4 x5 := rfl
theorem p4_succ (k : Nat) (x0 : (Nat × Nat)) (x1 : (Nat × Nat)) (x2 : (List (Int × ((Bool × (List Int)) × (List Int))))) (x3 : Nat) (x4 : (Nat × Nat)) (x5 : Int) (x6 : (Nat × Nat)) (x7 : Int) : p4 (k + 1) x0 x1 x2 x3 x4 x5 x6 x7 = e4 k (p0 k) (p11 k) (p4 k) (p17 k) x0 x1 x2 x3 x4 x5 x6 x7 := rfl
theorem p17_succ (k : Nat) (x0 : (Nat × Nat)) (x1 : (Nat × Nat)) (x2 : (List (Int × ((Bool × (List Int)) × (List Int))))) (x3 : Nat) (x4 : Nat) (x5 : (Nat × Nat)) (x6 : Int) (x7 : (Nat × Nat)) (x8 : Int) : p17 (k + 1) x0 x1 x2 x3 x4 x5 x6 x7 x8 = e17 k (p0 k) (p11 k) (p4 k) (p17 k) x0 x1 x2 x3 x4 x5 x6 x7 x8 := rfl
def f (k : Nat) (a0 : (Nat × Nat)) (a1 : (Nat × Nat)) (a2 : Unit) : Option (Nat × Nat) := e k (p0 k) (p11 k) (p4 k) (p17 k) a0 a1 a2
end approx_four_f49

namespace approx_Quot
def e11 (k : Nat) (_q11 : (Nat × Nat) → (Nat × Nat) → (Nat × Nat) → Option ((Nat × Nat) × Int)) (b0 : (Nat × Nat)) (b1 : (Nat × Nat)) (_b2 : (Nat × Nat)) : Option ((Nat × Nat) × Int) :=
  (Option.bind (approx_four_f49.f k b0 b1 ()) fun r2 =>
    (some (r2, (0 : Int))))
def e (k : Nat) (q11 : (Nat × Nat) → (Nat × Nat) → (Nat × Nat) → Option ((Nat × Nat) × Int)) (a0 : (Nat × Nat)) (a1 : (Nat × Nat)) : Option ((Nat × Nat) × Int) :=
  (Option.bind (approx_both.f k a0 a1) fun r1 =>
    (bif (!r1) then
      (some (((0 : Nat), (0 : Nat)), (1 : Int)))
    else
      (bif (fLt a1.1 (0 : Nat) || fEq a1.1 (0 : Nat)) then
        (bif (fGt a1.2 (0 : Nat) || fEq a1.2 (0 : Nat)) then
          (some (((0 : Nat), (0 : Nat)), (11 : Int)))
        else
          q11 a0 a1 ((0 : Nat), (0 : Nat)))
      else
        q11 a0 a1 ((0 : Nat), (0 : Nat)))))
def pts : Nat → ((Nat × Nat) → (Nat × Nat) → (Nat × Nat) → Option ((Nat × Nat) × Int))
  | 0 => fun _ _ _ => none
  | k + 1 => e11 k (pts k)
def p11 (k : Nat) : (Nat × Nat) → (Nat × Nat) → (Nat × Nat) → Option ((Nat × Nat) × Int) := (pts k)
theorem p11_succ (k : Nat) (x0 : (Nat × Nat)) (x1 : (Nat × Nat)) (x2 : (Nat × Nat)) : p11 (k + 1) x0 x1 x2 = e11 k (p11 k) x0 x1 x2 := rfl
def f (k : Nat) (a0 : (Nat × Nat)) (a1 : (Nat × Nat)) : Option ((Nat × Nat) × Int) := e k (p11 k) a0 a1
end approx_Quot

namespace ref03_Of
def e (k : Nat) (a0 : (Bool × (List Int))) (a1 : (Bool × (List Int))) : Option (((Bool × (List Int)) × (List Int)) × Int) :=
  (Option.bind (ref02_Norm.f k a0) fun r1 =>
    (Option.bind (ref02_Norm.f k a1) fun r2 =>
      (bif (decide ((r2.2.length : Int) = (0 : Int))) then
        (some (((false, ([] : List Int)), ([] : List Int)), (11 : Int)))
      else
        (Option.bind (ref03_Norm.f k (((!(r1.1 == r2.1)), r1.2), r2.2)) fun r3 =>
          (some (r3, (0 : Int)))))))
def f (k : Nat) (a0 : (Bool × (List Int))) (a1 : (Bool × (List Int))) : Option (((Bool × (List Int)) × (List Int)) × Int) := e k a0 a1
end ref03_Of

namespace ref03_Inv
def e (k : Nat) (a0 : ((Bool × (List Int)) × (List Int))) : Option (((Bool × (List Int)) × (List Int)) × Int) :=
  (Option.bind (ref03_Norm.f k a0) fun r1 =>
    (Option.bind (ref03_positive.f k r1.2) fun r2 =>
      (Option.bind (ref03_Of.f k r2 r1.1) fun r3 =>
        (some (r3.1, r3.2)))))
def f (k : Nat) (a0 : ((Bool × (List Int)) × (List Int))) : Option (((Bool × (List Int)) × (List Int)) × Int) := e k a0
end ref03_Inv

namespace ref03_Div
def e (k : Nat) (a0 : ((Bool × (List Int)) × (List Int))) (a1 : ((Bool × (List Int)) × (List Int))) : Option (((Bool × (List Int)) × (List Int)) × Int) :=
  (Option.bind (ref03_Inv.f k a1) fun r1 =>
    (bif (!decide (r1.2 = (0 : Int))) then
      (some (((false, ([] : List Int)), ([] : List Int)), r1.2))
    else
      (Option.bind (ref03_Mul.f k a0 r1.1) fun r2 =>
        (some (r2, (0 : Int))))))
def f (k : Nat) (a0 : ((Bool × (List Int)) × (List Int))) (a1 : ((Bool × (List Int)) × (List Int))) : Option (((Bool × (List Int)) × (List Int)) × Int) := e k a0 a1
end ref03_Div

namespace ref04_over
def e (k : Nat) (a0 : (Int × ((Bool × (List Int)) × (List Int)))) (a1 : (Int × ((Bool × (List Int)) × (List Int)))) : Option (Int × ((Bool × (List Int)) × (List Int))) :=
  (bif (!decide (a1.1 = (0 : Int))) then
    (some ((0 : Int), ((false, ([] : List Int)), ([] : List Int))))
  else
    (bif (!decide (a0.1 = (0 : Int))) then
      (Option.bind (ref04_signOf.f k a1) fun r1 =>
        (some ((IntKind.i64.wrap (a0.1 * r1)), ((false, ([] : List Int)), ([] : List Int)))))
    else
      (Option.bind (ref03_Div.f k a0.2 a1.2) fun r2 =>
        (some ((0 : Int), r2.1)))))
def f (k : Nat) (a0 : (Int × ((Bool × (List Int)) × (List Int)))) (a1 : (Int × ((Bool × (List Int)) × (List Int)))) : Option (Int × ((Bool × (List Int)) × (List Int))) := e k a0 a1
end ref04_over

namespace ref04_Quot
def e5 (_k : Nat) (_q5 : (Nat × Nat) → Option ((Nat × Nat) × Int)) (_b0 : (Nat × Nat)) : Option ((Nat × Nat) × Int) :=
  (some (((0 : Nat), (0 : Nat)), (1 : Int)))
def e (k : Nat) (q5 : (Nat × Nat) → Option ((Nat × Nat) × Int)) (a0 : (Nat × Nat)) (a1 : (Nat × Nat)) : Option ((Nat × Nat) × Int) :=
  (Option.bind (ref04_Valid.f k a0) fun r1 =>
    (bif (!r1) then
      q5 ((0 : Nat), (0 : Nat))
    else
      (Option.bind (ref04_Valid.f k a1) fun r2 =>
        (bif (!r2) then
          q5 ((0 : Nat), (0 : Nat))
        else
          (Option.bind (ref04_In.f k ((false, ([] : List Int)), ([] : List Int)) a1) fun r3 =>
            (bif r3 then
              (some (((0 : Nat), (0 : Nat)), (11 : Int)))
            else
              (Option.bind (ref04_endOf.f k a0.1) fun r4 =>
                (Option.bind (ref04_endOf.f k a0.2) fun r5 =>
                  (Option.bind (ref04_endOf.f k a1.1) fun r6 =>
                    (Option.bind (ref04_endOf.f k a1.2) fun r7 =>
                      (Option.bind (ref04_over.f k r4 r6) fun r8 =>
                        (Option.bind (ref04_over.f k r4 r7) fun r9 =>
                          (Option.bind (ref04_over.f k r5 r6) fun r10 =>
                            (Option.bind (ref04_over.f k r5 r7) fun r11 =>
                              (Option.bind (ref04_hull.f k (r8, r9, r10, r11)) fun r12 =>
                                (some (r12, (0 : Int))))))))))))))))))
def pts : Nat → ((Nat × Nat) → Option ((Nat × Nat) × Int))
  | 0 => fun _ => none
  | k + 1 => e5 k (pts k)
def p5 (k : Nat) : (Nat × Nat) → Option ((Nat × Nat) × Int) := (pts k)
theorem p5_succ (k : Nat) (x0 : (Nat × Nat)) : p5 (k + 1) x0 = e5 k (p5 k) x0 := rfl
def f (k : Nat) (a0 : (Nat × Nat)) (a1 : (Nat × Nat)) : Option ((Nat × Nat) × Int) := e k (p5 k) a0 a1
end ref04_Quot


namespace law04_ApproxEncloses
def e7 (k : Nat) (_q7 : (Nat × Nat) → ((Bool × (List Int)) × (List Int)) → Option Bool) (_q19 : Unit → Option Bool) (_q23 : Unit → Option Bool) (b0 : (Nat × Nat)) (b1 : ((Bool × (List Int)) × (List Int))) : Option Bool :=
  (Option.bind (approx_In.f k b1 b0) fun r16 =>
    (Option.bind (ref04_In.f k b1 b0) fun r17 =>
      (bif (r16 == r17) then
        (Option.bind (approx_In.f k ((false, ([] : List Int)), ([] : List Int)) ((0 : Nat), (0 : Nat))) fun r18 =>
          (some r18))
      else
        (some false))))
def e19 (_k : Nat) (_q7 : (Nat × Nat) → ((Bool × (List Int)) × (List Int)) → Option Bool) (_q19 : Unit → Option Bool) (_q23 : Unit → Option Bool) (_ : Unit) : Option Bool :=
  (some false)
def e23 (_k : Nat) (_q7 : (Nat × Nat) → ((Bool × (List Int)) × (List Int)) → Option Bool) (_q19 : Unit → Option Bool) (_q23 : Unit → Option Bool) (_ : Unit) : Option Bool :=
  (some false)
def e (k : Nat) (q7 : (Nat × Nat) → ((Bool × (List Int)) × (List Int)) → Option Bool) (q19 : Unit → Option Bool) (q23 : Unit → Option Bool) (a0 : ((Nat × Nat) × (Nat × Nat) × ((Bool × (List Int)) × (List Int)) × ((Bool × (List Int)) × (List Int)))) : Option Bool :=
  (Option.bind (ref04_In.f k a0.2.2.1 a0.1) fun r1 =>
    (bif (!r1) then
      q7 a0.1 a0.2.2.1
    else
      (Option.bind (ref04_In.f k a0.2.2.2 a0.2.1) fun r2 =>
        (bif (!r2) then
          q7 a0.1 a0.2.2.1
        else
          (Option.bind (approx_Sum.f k a0.1 a0.2.1) fun r3 =>
            (Option.bind (approx_Diff.f k a0.1 a0.2.1) fun r4 =>
              (Option.bind (approx_Prod.f k a0.1 a0.2.1) fun r5 =>
                (Option.bind (approx_Quot.f k a0.1 a0.2.1) fun r6 =>
                  (bif (!decide (r3.2 = (0 : Int))) then
                    q19 ()
                  else
                    (bif (!decide (r4.2 = (0 : Int))) then
                      q19 ()
                    else
                      (bif (!decide (r5.2 = (0 : Int))) then
                        q19 ()
                      else
                        (Option.bind (ref03_Add.f k a0.2.2.1 a0.2.2.2) fun r7 =>
                          (Option.bind (approx_In.f k r7 r3.1) fun r8 =>
                            (bif (!r8) then
                              q23 ()
                            else
                              (Option.bind (ref03_Sub.f k a0.2.2.1 a0.2.2.2) fun r9 =>
                                (Option.bind (approx_In.f k r9 r4.1) fun r10 =>
                                  (bif (!r10) then
                                    q23 ()
                                  else
                                    (Option.bind (ref03_Mul.f k a0.2.2.1 a0.2.2.2) fun r11 =>
                                      (Option.bind (approx_In.f k r11 r5.1) fun r12 =>
                                        (bif (!r12) then
                                          q23 ()
                                        else
                                          (Option.bind (ref04_In.f k ((false, ([] : List Int)), ([] : List Int)) a0.2.1) fun r13 =>
                                            (bif r13 then
                                              (some (decide (r6.2 = (11 : Int))))
                                            else
                                              (Option.bind (ref03_Div.f k a0.2.2.1 a0.2.2.2) fun r14 =>
                                                (bif (decide (r6.2 = (0 : Int))) then
                                                  (Option.bind (approx_In.f k r14.1 r6.1) fun r15 =>
                                                    (some r15))
                                                else
                                                  (some false)))))))))))))))))))))))))
def pts : Nat → ((Nat × Nat) → ((Bool × (List Int)) × (List Int)) → Option Bool) × (Unit → Option Bool) × (Unit → Option Bool)
  | 0 => (fun _ _ => none, fun _ => none, fun _ => none)
  | k + 1 => (e7 k (pts k).1 (pts k).2.1 (pts k).2.2, e19 k (pts k).1 (pts k).2.1 (pts k).2.2, e23 k (pts k).1 (pts k).2.1 (pts k).2.2)
def p7 (k : Nat) : (Nat × Nat) → ((Bool × (List Int)) × (List Int)) → Option Bool := (pts k).1
def p19 (k : Nat) : Unit → Option Bool := (pts k).2.1
def p23 (k : Nat) : Unit → Option Bool := (pts k).2.2
theorem p7_succ (k : Nat) (x0 : (Nat × Nat)) (x1 : ((Bool × (List Int)) × (List Int))) : p7 (k + 1) x0 x1 = e7 k (p7 k) (p19 k) (p23 k) x0 x1 := rfl
theorem p19_succ (k : Nat) (x0 : Unit) : p19 (k + 1) x0 = e19 k (p7 k) (p19 k) (p23 k) x0 := rfl
theorem p23_succ (k : Nat) (x0 : Unit) : p23 (k + 1) x0 = e23 k (p7 k) (p19 k) (p23 k) x0 := rfl
def f (k : Nat) (a0 : ((Nat × Nat) × (Nat × Nat) × ((Bool × (List Int)) × (List Int)) × ((Bool × (List Int)) × (List Int)))) : Option Bool := e k (p7 k) (p19 k) (p23 k) a0
end law04_ApproxEncloses
end Go.FK
