/- Plain functions, printed by fgen.py: what the loaded functions come to. -/
import Derived.Test.YtedocilafacliaaGreatDoorF2
import Derived.Lib.ItoaNum
namespace Go.FK
def tab_1 : List Int := [0, 1, 2, 3, 4, 5, 6, 7, 8, 9, 99, 99, 99, 99, 99, 99, 99, 99, 99, 99, 99, 99, 99, 99, 99, 99, 99, 99, 99, 99, 99, 99, 99, 99, 99, 99, 99, 99, 99, 99, 99, 99, 99, 99, 99, 99, 99, 99, 99, 10, 11, 12, 13, 14, 15]
/-- ???????????????????????????????????????????????????????????? -/
def str_14a5d850c2 : ByteArray := (ByteArray.mk #[0, 1, 2, 2, 3, 3, 3, 3, 4, 4, 4, 4, 4, 4, 4, 4, 5, 5, 5, 5, 5, 5, 5, 5, 5, 5, 5, 5, 5, 5, 5, 5, 6, 6, 6, 6, 6, 6, 6, 6, 6, 6, 6, 6, 6, 6, 6, 6, 6, 6, 6, 6, 6, 6, 6, 6, 6, 6, 6, 6, 6, 6, 6, 6, 7, 7, 7, 7, 7, 7, 7, 7, 7, 7, 7, 7, 7, 7, 7, 7, 7, 7, 7, 7, 7, 7, 7, 7, 7, 7, 7, 7, 7, 7, 7, 7, 7, 7, 7, 7, 7, 7, 7, 7, 7, 7, 7, 7, 7, 7, 7, 7, 7, 7, 7, 7, 7, 7, 7, 7, 7, 7, 7, 7, 7, 7, 7, 7, 8, 8, 8, 8, 8, 8, 8, 8, 8, 8, 8, 8, 8, 8, 8, 8, 8, 8, 8, 8, 8, 8, 8, 8, 8, 8, 8, 8, 8, 8, 8, 8, 8, 8, 8, 8, 8, 8, 8, 8, 8, 8, 8, 8, 8, 8, 8, 8, 8, 8, 8, 8, 8, 8, 8, 8, 8, 8, 8, 8, 8, 8, 8, 8, 8, 8, 8, 8, 8, 8, 8, 8, 8, 8, 8, 8, 8, 8, 8, 8, 8, 8, 8, 8, 8, 8, 8, 8, 8, 8, 8, 8, 8, 8, 8, 8, 8, 8, 8, 8, 8, 8, 8, 8, 8, 8, 8, 8, 8, 8, 8, 8, 8, 8, 8, 8, 8, 8, 8, 8, 8, 8, 8, 8, 8, 8, 8, 8])
/-- 0123456789abcdef -/
def str_9f9f5111f7 : ByteArray := (ByteArray.mk #[48, 49, 50, 51, 52, 53, 54, 55, 56, 57, 97, 98, 99, 100, 101, 102])
/-- 0123456789abcdefghijklmnopqrstuvwxyz -/
def str_74e7e5bb9d : ByteArray := (ByteArray.mk #[48, 49, 50, 51, 52, 53, 54, 55, 56, 57, 97, 98, 99, 100, 101, 102, 103, 104, 105, 106, 107, 108, 109, 110, 111, 112, 113, 114, 115, 116, 117, 118, 119, 120, 121, 122])
/-- 000102030405060708091011121314151617181920212223242526272829 -/
def str_bedfbc17df : ByteArray := (ByteArray.mk #[48, 48, 48, 49, 48, 50, 48, 51, 48, 52, 48, 53, 48, 54, 48, 55, 48, 56, 48, 57, 49, 48, 49, 49, 49, 50, 49, 51, 49, 52, 49, 53, 49, 54, 49, 55, 49, 56, 49, 57, 50, 48, 50, 49, 50, 50, 50, 51, 50, 52, 50, 53, 50, 54, 50, 55, 50, 56, 50, 57, 51, 48, 51, 49, 51, 50, 51, 51, 51, 52, 51, 53, 51, 54, 51, 55, 51, 56, 51, 57, 52, 48, 52, 49, 52, 50, 52, 51, 52, 52, 52, 53, 52, 54, 52, 55, 52, 56, 52, 57, 53, 48, 53, 49, 53, 50, 53, 51, 53, 52, 53, 53, 53, 54, 53, 55, 53, 56, 53, 57, 54, 48, 54, 49, 54, 50, 54, 51, 54, 52, 54, 53, 54, 54, 54, 55, 54, 56, 54, 57, 55, 48, 55, 49, 55, 50, 55, 51, 55, 52, 55, 53, 55, 54, 55, 55, 55, 56, 55, 57, 56, 48, 56, 49, 56, 50, 56, 51, 56, 52, 56, 53, 56, 54, 56, 55, 56, 56, 56, 57, 57, 48, 57, 49, 57, 50, 57, 51, 57, 52, 57, 53, 57, 54, 57, 55, 57, 56, 57, 57])
/-- invalid base  -/
def str_6737e6a749 : ByteArray := (ByteArray.mk #[105, 110, 118, 97, 108, 105, 100, 32, 98, 97, 115, 101, 32])
/-- invalid bit size  -/
def str_ea75b49c62 : ByteArray := (ByteArray.mk #[105, 110, 118, 97, 108, 105, 100, 32, 98, 105, 116, 32, 115, 105, 122, 101, 32])
abbrev LX : Type := List Int
abbrev ZX : Type := Bool × List Int
abbrev RX : Type := (Bool × List Int) × List Int

namespace math_IsNaN
def e (_k a0 : Nat) : Option Bool :=
 (some (!(fEq a0 a0)))
def f (k a0 : Nat) : Option Bool := e k a0
end math_IsNaN

namespace math_Float64bits
def f (_k a0 : Nat) : Option Int := some (a0 : Int)
end math_Float64bits

namespace math_Float64frombits
def f (_k : Nat) (a0 : Int) : Option Nat := some a0.toNat
end math_Float64frombits

namespace math_Abs
def e (k a0 : Nat) : Option Nat :=
 (Option.bind (math_Float64bits.f k a0) fun r1 =>
  (Option.bind (math_Float64frombits.f k (bitsI .andNot .u64 r1 (9223372036854775808 : Int))) fun r2 =>
   (some r2)))
def f (k a0 : Nat) : Option Nat := e k a0
end math_Abs

namespace math_IsInf
def e11 (_k : Nat) (_q11 : Nat → Option Bool) (b0 : Nat) : Option Bool :=
 (some (fGt b0 (9218868437227405311 : Nat)))
def e (k : Nat) (q11 : Nat → Option Bool) (a0 : Nat) (a1 : Int) : Option Bool :=
 (bif (decide (a1 = (0 : Int))) then
  (Option.bind (math_Abs.f k a0) fun r1 =>
   q11 r1)
 else
  (bif (decide (a1 < (0 : Int))) then
   q11 (fNeg a0)
  else
   q11 a0))
def pts : Nat → (Nat → Option Bool)
 | 0 => fun _ => none
 | k + 1 => e11 k (pts k)
def p11 (k : Nat) : Nat → Option Bool := (pts k)
theorem p11_succ (k x0 : Nat) : p11 (k + 1) x0 = e11 k (p11 k) x0 := rfl
def f (k a0 : Nat) (a1 : Int) : Option Bool := e k (p11 k) a0 a1
end math_IsInf

namespace nat_trim
abbrev Q0 : Type := LX → Int → Option LX
def e0 (_k : Nat) (q0 q9 : Q0) (b0 : LX) (b1 : Int) : Option LX :=
 (bif (decide (b1 > (0 : Int))) then
  (bif (decide (0 ≤ (IntKind.i64.wrap (b1 - (1 : Int)))) && decide ((IntKind.i64.wrap (b1 - (1 : Int))) < (b0.length : Int))) then
   (bif (decide ((nthD (0 : Int) b0 (Int.toNat (IntKind.i64.wrap (b1 - (1 : Int))))) = (0 : Int))) then
    q0 b0 (IntKind.i64.wrap (b1 - (1 : Int)))
   else
    q9 b0 b1)
  else
   none)
 else
  q9 b0 b1)
def e9 (_k : Nat) (_q0 _q9 : Q0) (b0 : LX) (b1 : Int) : Option LX :=
 (bif (decide (0 ≤ (0 : Int)) && decide ((0 : Int) ≤ b1) && decide (b1 ≤ (b0.length : Int))) then
  (some ((b0.take (Int.toNat b1)).drop (Int.toNat (0 : Int))))
 else
  none)
def e (_k : Nat) (q0 _q9 : Q0) (a0 : LX) : Option LX :=
 q0 a0 (a0.length : Int)
def pts : Nat → (Q0) × (Q0)
 | 0 => (fun _ _ => none, fun _ _ => none)
 | k + 1 => (e0 k (pts k).1 (pts k).2, e9 k (pts k).1 (pts k).2)
def p0 (k : Nat) : Q0 := (pts k).1
def p9 (k : Nat) : Q0 := (pts k).2
theorem p0_succ (k : Nat) (x0 : LX) (x1 : Int) : p0 (k + 1) x0 x1 = e0 k (p0 k) (p9 k) x0 x1 := rfl
theorem p9_succ (k : Nat) (x0 : LX) (x1 : Int) : p9 (k + 1) x0 x1 = e9 k (p0 k) (p9 k) x0 x1 := rfl
def f (k : Nat) (a0 : LX) : Option LX := e k (p0 k) (p9 k) a0
end nat_trim

namespace nat_own
def e (k : Nat) (a0 : LX) : Option LX :=
 (Option.bind (nat_trim.f k a0) fun r1 =>
  (bif (decide ((r1.length : Int) = (0 : Int))) then
   (some ([] : List Int))
  else
   (bif (decide (0 ≤ (r1.length : Int)) && decide ((r1.length : Int) * 4 ≤ 281474976710656) && decide ((r1.length : Int) ≤ 9223372036854775807)) then
    (some (r1.take (List.replicate (Int.toNat (r1.length : Int)) (0 : Int)).length ++ (List.replicate (Int.toNat (r1.length : Int)) (0 : Int)).drop r1.length))
   else
    none)))
def f (k : Nat) (a0 : LX) : Option LX := e k a0
end nat_own

namespace nat_Of
def e (k : Nat) (a0 : Int) : Option LX :=
 (Option.bind (nat_own.f k [(IntKind.u32.wrap a0), (IntKind.u32.wrap (Int.fdiv a0 (2 ^ 32)))]) fun r1 =>
  (some r1))
def f (k : Nat) (a0 : Int) : Option LX := e k a0
end nat_Of

namespace nat_Norm
def e (k : Nat) (a0 : LX) : Option LX :=
 (Option.bind (nat_own.f k a0) fun r1 =>
  (some r1))
def f (k : Nat) (a0 : LX) : Option LX := e k a0
end nat_Norm

namespace whole_signed
def e0 (_k : Nat) (q0 : ZX → LX → Int → LX → Int → Int → Option ZX) (b0 : ZX) (b1 : LX) (b2 : Int) (b3 : LX) (b4 b5 : Int) : Option ZX :=
 (bif (decide (b5 < b4)) then
  (bif (decide (0 ≤ b5) && decide (b5 < (b3.length : Int))) then
   q0 b0 b1 (IntKind.i64.wrap (b2 * (nthD (0 : Int) b3 (Int.toNat b5)))) b3 b4 (IntKind.i64.wrap (b5 + (1 : Int)))
  else
   none)
 else
  (bif (decide (b2 < (0 : Int))) then
   (some ((decide ((b1.length : Int) > (0 : Int))), b1))
  else
   (some (false, b1))))
def e (k : Nat) (q0 : ZX → LX → Int → LX → Int → Int → Option ZX) (a0 a1 : LX) : Option ZX :=
 (Option.bind (nat_Norm.f k a0) fun r1 =>
  q0 (false, ([] : List Int)) r1 (1 : Int) a1 (a1.length : Int) (0 : Int))
def pts : Nat → (ZX → LX → Int → LX → Int → Int → Option ZX)
 | 0 => fun _ _ _ _ _ _ => none
 | k + 1 => e0 k (pts k)
def p0 (k : Nat) : ZX → LX → Int → LX → Int → Int → Option ZX := (pts k)
theorem p0_succ (k : Nat) (x0 : ZX) (x1 : LX) (x2 : Int) (x3 : LX) (x4 x5 : Int) : p0 (k + 1) x0 x1 x2 x3 x4 x5 = e0 k (p0 k) x0 x1 x2 x3 x4 x5 := rfl
def f (k : Nat) (a0 a1 : LX) : Option ZX := e k (p0 k) a0 a1
end whole_signed

namespace whole_Of
def e (k : Nat) (a0 : Int) : Option ZX :=
 (bif (decide (a0 < (0 : Int))) then
  (Option.bind (nat_Of.f k (IntKind.u64.wrap (0 - (IntKind.u64.wrap a0)))) fun r1 =>
   (Option.bind (whole_signed.f k r1 [(-1 : Int)]) fun r2 =>
    (some r2)))
 else
  (Option.bind (nat_Of.f k (IntKind.u64.wrap a0)) fun r3 =>
   (Option.bind (whole_signed.f k r3 ([] : List Int)) fun r4 =>
    (some r4))))
def f (k : Nat) (a0 : Int) : Option ZX := e k a0
end whole_Of

namespace whole_core
abbrev Q0 : Type := LX → Int → Option LX
def e0 (_k : Nat) (q0 q9 : Q0) (b0 : LX) (b1 : Int) : Option LX :=
 (bif (decide (b1 > (0 : Int))) then
  (bif (decide (0 ≤ (IntKind.i64.wrap (b1 - (1 : Int)))) && decide ((IntKind.i64.wrap (b1 - (1 : Int))) < (b0.length : Int))) then
   (bif (decide ((nthD (0 : Int) b0 (Int.toNat (IntKind.i64.wrap (b1 - (1 : Int))))) = (0 : Int))) then
    q0 b0 (IntKind.i64.wrap (b1 - (1 : Int)))
   else
    q9 b0 b1)
  else
   none)
 else
  q9 b0 b1)
def e9 (_k : Nat) (_q0 _q9 : Q0) (b0 : LX) (b1 : Int) : Option LX :=
 (bif (decide (0 ≤ (0 : Int)) && decide ((0 : Int) ≤ b1) && decide (b1 ≤ b1) && decide (b1 ≤ (b0.length : Int))) then
  (some ((b0.take (Int.toNat b1)).drop (Int.toNat (0 : Int))))
 else
  none)
def e (_k : Nat) (q0 _q9 : Q0) (a0 : LX) : Option LX :=
 q0 a0 (a0.length : Int)
def pts : Nat → (Q0) × (Q0)
 | 0 => (fun _ _ => none, fun _ _ => none)
 | k + 1 => (e0 k (pts k).1 (pts k).2, e9 k (pts k).1 (pts k).2)
def p0 (k : Nat) : Q0 := (pts k).1
def p9 (k : Nat) : Q0 := (pts k).2
theorem p0_succ (k : Nat) (x0 : LX) (x1 : Int) : p0 (k + 1) x0 x1 = e0 k (p0 k) (p9 k) x0 x1 := rfl
theorem p9_succ (k : Nat) (x0 : LX) (x1 : Int) : p9 (k + 1) x0 x1 = e9 k (p0 k) (p9 k) x0 x1 := rfl
def f (k : Nat) (a0 : LX) : Option LX := e k (p0 k) (p9 k) a0
end whole_core

namespace whole_Sign
def e (k : Nat) (a0 : ZX) : Option Int :=
 (Option.bind (whole_core.f k a0.2) fun r1 =>
  (bif (decide ((r1.length : Int) = (0 : Int))) then
   (some (0 : Int))
  else
   (bif a0.1 then
    (some (-1 : Int))
   else
    (some (1 : Int)))))
def f (k : Nat) (a0 : ZX) : Option Int := e k a0
end whole_Sign

namespace whole_Neg
def e (k : Nat) (a0 : ZX) : Option ZX :=
 (Option.bind (whole_Sign.f k a0) fun r1 =>
  (Option.bind (whole_signed.f k a0.2 [(-1 : Int), r1]) fun r2 =>
   (some r2)))
def f (k : Nat) (a0 : ZX) : Option ZX := e k a0
end whole_Neg

namespace nat_Cmp
def e0 (_k : Nat) (q0 : LX → LX → Int → Option Int) (b0 b1 : LX) (b2 : Int) : Option Int :=
 (bif (decide (b2 ≥ (0 : Int))) then
  (bif (decide (0 ≤ b2) && decide (b2 < (b0.length : Int))) then
   (bif (decide (0 ≤ b2) && decide (b2 < (b1.length : Int))) then
    (bif (!decide ((nthD (0 : Int) b0 (Int.toNat b2)) = (nthD (0 : Int) b1 (Int.toNat b2)))) then
     (bif (decide (0 ≤ b2) && decide (b2 < (b0.length : Int))) then
      (bif (decide (0 ≤ b2) && decide (b2 < (b1.length : Int))) then
       (bif (decide ((nthD (0 : Int) b0 (Int.toNat b2)) < (nthD (0 : Int) b1 (Int.toNat b2)))) then
        (some (-1 : Int))
       else
        (some (1 : Int)))
      else
       none)
     else
      none)
    else
     q0 b0 b1 (IntKind.i64.wrap (b2 - (1 : Int))))
   else
    none)
  else
   none)
 else
  (some (0 : Int)))
def e (k : Nat) (q0 : LX → LX → Int → Option Int) (a0 a1 : LX) : Option Int :=
 (Option.bind (nat_trim.f k a0) fun r1 =>
  (Option.bind (nat_trim.f k a1) fun r2 =>
   (bif (!decide ((r1.length : Int) = (r2.length : Int))) then
    (bif (decide ((r1.length : Int) < (r2.length : Int))) then
     (some (-1 : Int))
    else
     (some (1 : Int)))
   else
    q0 r1 r2 (IntKind.i64.wrap ((r1.length : Int) - (1 : Int))))))
def pts : Nat → (LX → LX → Int → Option Int)
 | 0 => fun _ _ _ => none
 | k + 1 => e0 k (pts k)
def p0 (k : Nat) : LX → LX → Int → Option Int := (pts k)
theorem p0_succ (k : Nat) (x0 x1 : LX) (x2 : Int) : p0 (k + 1) x0 x1 x2 = e0 k (p0 k) x0 x1 x2 := rfl
def f (k : Nat) (a0 a1 : LX) : Option Int := e k (p0 k) a0 a1
end nat_Cmp

namespace bits_Div32
def e7 (_k : Nat) (_q7 : Int → Int → Int → Option (Int × Int)) (b0 b1 b2 : Int) : Option (Int × Int) :=
 (bif (decide ((IntKind.u64.wrap b2) = 0)) then
  none
 else
  (bif (decide ((IntKind.u64.wrap b2) = 0)) then
   none
  else
   (some ((IntKind.u32.wrap (IntKind.u64.wrap (Int.tdiv (bitsI .or .u64 (IntKind.u64.wrap ((IntKind.u64.wrap b0) * 2 ^ 32)) (IntKind.u64.wrap b1)) (IntKind.u64.wrap b2)))), (IntKind.u32.wrap (Int.tmod (bitsI .or .u64 (IntKind.u64.wrap ((IntKind.u64.wrap b0) * 2 ^ 32)) (IntKind.u64.wrap b1)) (IntKind.u64.wrap b2)))))))
def e (_k : Nat) (q7 : Int → Int → Int → Option (Int × Int)) (a0 a1 a2 : Int) : Option (Int × Int) :=
 (bif (!decide (a2 = (0 : Int))) then
  (bif (decide (a2 ≤ a0)) then
   none
  else
   q7 a0 a1 a2)
 else
  q7 a0 a1 a2)
def pts : Nat → (Int → Int → Int → Option (Int × Int))
 | 0 => fun _ _ _ => none
 | k + 1 => e7 k (pts k)
def p7 (k : Nat) : Int → Int → Int → Option (Int × Int) := (pts k)
theorem p7_succ (k : Nat) (x0 x1 x2 : Int) : p7 (k + 1) x0 x1 x2 = e7 k (p7 k) x0 x1 x2 := rfl
def f (k : Nat) (a0 a1 a2 : Int) : Option (Int × Int) := e k (p7 k) a0 a1 a2
end bits_Div32

namespace nat_short
def e0 (k : Nat) (q0 : LX → LX → Int → Int → Int → Option (LX × Int)) (b0 b1 : LX) (b2 b3 b4 : Int) : Option (LX × Int) :=
 (bif (decide (b4 ≥ (0 : Int))) then
  (bif (decide (0 ≤ b4) && decide (b4 < (b1.length : Int))) then
   (Option.bind (bits_Div32.f k b3 (nthD (0 : Int) b1 (Int.toNat b4)) b2) fun r1 =>
    (bif (decide (0 ≤ b4) && decide (b4 < (b0.length : Int))) then
     q0 (setN r1.1 b0 (Int.toNat b4)) b1 b2 r1.2 (IntKind.i64.wrap (b4 - (1 : Int)))
    else
     none))
  else
   none)
 else
  (some (b0, b3)))
def e (_k : Nat) (q0 : LX → LX → Int → Int → Int → Option (LX × Int)) (a0 : LX) (a1 : Int) : Option (LX × Int) :=
 (bif (decide (0 ≤ (a0.length : Int)) && decide ((a0.length : Int) * 4 ≤ 281474976710656) && decide ((a0.length : Int) ≤ 9223372036854775807)) then
  q0 (List.replicate (Int.toNat (a0.length : Int)) (0 : Int)) a0 a1 (0 : Int) (IntKind.i64.wrap ((a0.length : Int) - (1 : Int)))
 else
  none)
def pts : Nat → (LX → LX → Int → Int → Int → Option (LX × Int))
 | 0 => fun _ _ _ _ _ => none
 | k + 1 => e0 k (pts k)
def p0 (k : Nat) : LX → LX → Int → Int → Int → Option (LX × Int) := (pts k)
theorem p0_succ (k : Nat) (x0 x1 : LX) (x2 x3 x4 : Int) : p0 (k + 1) x0 x1 x2 x3 x4 = e0 k (p0 k) x0 x1 x2 x3 x4 := rfl
def f (k : Nat) (a0 : LX) (a1 : Int) : Option (LX × Int) := e k (p0 k) a0 a1
end nat_short

namespace bits_Len32
abbrev Q0 : Type := Int → Int → Option Int
def e9 (_k : Nat) (_q9 q15 : Q0) (b0 b1 : Int) : Option Int :=
 (bif (decide (b0 ≥ (256 : Int))) then
  q15 (Int.fdiv b0 (2 ^ 8)) (IntKind.i64.wrap (b1 + (8 : Int)))
 else
  q15 b0 b1)
def e15 (_k : Nat) (_q9 _q15 : Q0) (b0 b1 : Int) : Option Int :=
 (bif (decide (0 ≤ (IntKind.u8.wrap b0)) && decide ((IntKind.u8.wrap b0) < (str_14a5d850c2.size : Int))) then
  (some (IntKind.i64.wrap (b1 + (IntKind.i64.wrap (btI str_14a5d850c2 (IntKind.u8.wrap b0))))))
 else
  none)
def e (_k : Nat) (q9 _q15 : Q0) (a0 : Int) : Option Int :=
 (bif (decide (a0 ≥ (65536 : Int))) then
  q9 (Int.fdiv a0 (2 ^ 16)) (16 : Int)
 else
  q9 a0 (0 : Int))
def pts : Nat → (Q0) × (Q0)
 | 0 => (fun _ _ => none, fun _ _ => none)
 | k + 1 => (e9 k (pts k).1 (pts k).2, e15 k (pts k).1 (pts k).2)
def p9 (k : Nat) : Q0 := (pts k).1
def p15 (k : Nat) : Q0 := (pts k).2
theorem p9_succ (k : Nat) (x0 x1 : Int) : p9 (k + 1) x0 x1 = e9 k (p9 k) (p15 k) x0 x1 := rfl
theorem p15_succ (k : Nat) (x0 x1 : Int) : p15 (k + 1) x0 x1 = e15 k (p9 k) (p15 k) x0 x1 := rfl
def f (k : Nat) (a0 : Int) : Option Int := e k (p9 k) (p15 k) a0
end bits_Len32

namespace bits_LeadingZeros32
def e (k : Nat) (a0 : Int) : Option Int :=
 (Option.bind (bits_Len32.f k a0) fun r1 =>
  (some (IntKind.i64.wrap ((32 : Int) - r1))))
def f (k : Nat) (a0 : Int) : Option Int := e k a0
end bits_LeadingZeros32

namespace nat_moved
def e0 (_k : Nat) (q0 : LX → LX → Int → Int → Int → Option LX) (b0 b1 : LX) (b2 b3 b4 : Int) : Option LX :=
 (bif (decide (b4 < b3)) then
  (bif (decide (0 ≤ b4) && decide (b4 < (b0.length : Int))) then
   (bif (decide (0 ≤ b4) && decide (b4 < (b1.length : Int))) then
    (bif (decide (b2 < 0)) then
     none
    else
     (bif (decide (0 ≤ b4) && decide (b4 < (b0.length : Int))) then
      (bif (decide (0 ≤ b4) && decide (b4 < (b1.length : Int))) then
       (bif (decide ((IntKind.i64.wrap ((32 : Int) - b2)) < 0)) then
        none
       else
        (bif (decide (0 ≤ (IntKind.i64.wrap (b4 + (1 : Int)))) && decide ((IntKind.i64.wrap (b4 + (1 : Int))) < ((setN (bitsI .or .u32 (nthD (0 : Int) b0 (Int.toNat b4)) (IntKind.u32.wrap ((nthD (0 : Int) b1 (Int.toNat b4)) * 2 ^ min (Int.toNat b2) 32))) b0 (Int.toNat b4)).length : Int))) then
         q0 (setN (IntKind.u32.wrap (Int.fdiv (IntKind.u64.wrap (nthD (0 : Int) b1 (Int.toNat b4))) (2 ^ min (Int.toNat (IntKind.i64.wrap ((32 : Int) - b2))) 64))) (setN (bitsI .or .u32 (nthD (0 : Int) b0 (Int.toNat b4)) (IntKind.u32.wrap ((nthD (0 : Int) b1 (Int.toNat b4)) * 2 ^ min (Int.toNat b2) 32))) b0 (Int.toNat b4)) (Int.toNat (IntKind.i64.wrap (b4 + (1 : Int))))) b1 b2 b3 (IntKind.i64.wrap (b4 + (1 : Int)))
        else
         none))
      else
       none)
     else
      none))
   else
    none)
  else
   none)
 else
  (some b0))
def e (_k : Nat) (q0 : LX → LX → Int → Int → Int → Option LX) (a0 : LX) (a1 : Int) : Option LX :=
 (bif (decide (0 ≤ (IntKind.i64.wrap ((a0.length : Int) + (1 : Int)))) && decide ((IntKind.i64.wrap ((a0.length : Int) + (1 : Int))) * 4 ≤ 281474976710656) && decide ((IntKind.i64.wrap ((a0.length : Int) + (1 : Int))) ≤ 9223372036854775807)) then
  q0 (List.replicate (Int.toNat (IntKind.i64.wrap ((a0.length : Int) + (1 : Int)))) (0 : Int)) a0 a1 (a0.length : Int) (0 : Int)
 else
  none)
def pts : Nat → (LX → LX → Int → Int → Int → Option LX)
 | 0 => fun _ _ _ _ _ => none
 | k + 1 => e0 k (pts k)
def p0 (k : Nat) : LX → LX → Int → Int → Int → Option LX := (pts k)
theorem p0_succ (k : Nat) (x0 x1 : LX) (x2 x3 x4 : Int) : p0 (k + 1) x0 x1 x2 x3 x4 = e0 k (p0 k) x0 x1 x2 x3 x4 := rfl
def f (k : Nat) (a0 : LX) (a1 : Int) : Option LX := e k (p0 k) a0 a1
end nat_moved

namespace bits_Sub32
def e (_k : Nat) (a0 a1 a2 : Int) : Option (Int × Int) :=
 (some ((IntKind.u32.wrap ((IntKind.u32.wrap (a0 - a1)) - a2)), (Int.fdiv (bitsI .or .u32 (bitsI .and .u32 (bitsI .xor .u32 IntKind.u32.max a0) a1) (bitsI .and .u32 (bitsI .xor .u32 IntKind.u32.max (bitsI .xor .u32 a0 a1)) (IntKind.u32.wrap ((IntKind.u32.wrap (a0 - a1)) - a2)))) (2 ^ 31))))
def f (k : Nat) (a0 a1 a2 : Int) : Option (Int × Int) := e k a0 a1 a2
end bits_Sub32

namespace bits_Add32
def e (_k : Nat) (a0 a1 a2 : Int) : Option (Int × Int) :=
 (some ((IntKind.u32.wrap (IntKind.u64.wrap ((IntKind.u64.wrap ((IntKind.u64.wrap a0) + (IntKind.u64.wrap a1))) + (IntKind.u64.wrap a2)))), (IntKind.u32.wrap (Int.fdiv (IntKind.u64.wrap ((IntKind.u64.wrap ((IntKind.u64.wrap a0) + (IntKind.u64.wrap a1))) + (IntKind.u64.wrap a2))) (2 ^ 32)))))
def f (k : Nat) (a0 a1 a2 : Int) : Option (Int × Int) := e k a0 a1 a2
end bits_Add32

namespace nat_digit
abbrev Q0 : Type := LX → Nat → Nat → LX → Int → Int → Int → Option (LX × Int)
abbrev Q1 : Type := LX → Nat → Nat → LX → Int → Int → Int → Int → Int → Int → Option (LX × Int)
abbrev Q2 : Type := LX → Nat → Nat → LX → Int → Int → Int → Int → Int → Option (LX × Int)
def e0 (_k : Nat) (_q0 q11 : Q0) (q4 : Q1) (_q8 : Q2) (b0 : LX) (b1 b2 : Nat) (b3 : LX) (b4 b5 b6 : Int) : Option (LX × Int) :=
 (bif (!decide ((Int.fdiv b5 (2 ^ 32)) = (0 : Int))) then
  q11 b0 b1 b2 b3 b4 b5 b6
 else
  (bif (decide (0 ≤ (IntKind.i64.wrap (b4 - (2 : Int)))) && decide ((IntKind.i64.wrap (b4 - (2 : Int))) < (b3.length : Int))) then
   (bif (decide (0 ≤ (IntKind.i64.wrap (b4 - (2 : Int)))) && decide ((IntKind.i64.wrap (b4 - (2 : Int))) < (b2 : Int))) then
    (bif (decide ((IntKind.u64.wrap (b5 * (IntKind.u64.wrap (nthD (0 : Int) b3 (Int.toNat (IntKind.i64.wrap (b4 - (2 : Int)))))))) > (bitsI .or .u64 (IntKind.u64.wrap (b6 * 2 ^ 32)) (IntKind.u64.wrap (nthD (0 : Int) b0 (b1 + Int.toNat (IntKind.i64.wrap (b4 - (2 : Int))))))))) then
     q11 b0 b1 b2 b3 b4 b5 b6
    else
     q4 b0 b1 b2 b3 b4 b5 (0 : Int) (0 : Int) b4 (0 : Int))
   else
    none)
  else
   none))
def e11 (_k : Nat) (q0 _q11 : Q0) (q4 : Q1) (_q8 : Q2) (b0 : LX) (b1 b2 : Nat) (b3 : LX) (b4 b5 b6 : Int) : Option (LX × Int) :=
 (bif (decide (0 ≤ (IntKind.i64.wrap (b4 - (1 : Int)))) && decide ((IntKind.i64.wrap (b4 - (1 : Int))) < (b3.length : Int))) then
  (bif (!decide ((Int.fdiv (IntKind.u64.wrap (b6 + (IntKind.u64.wrap (nthD (0 : Int) b3 (Int.toNat (IntKind.i64.wrap (b4 - (1 : Int)))))))) (2 ^ 32)) = (0 : Int))) then
   q4 b0 b1 b2 b3 b4 (IntKind.u64.wrap (b5 - (1 : Int))) (0 : Int) (0 : Int) b4 (0 : Int)
  else
   q0 b0 b1 b2 b3 b4 (IntKind.u64.wrap (b5 - (1 : Int))) (IntKind.u64.wrap (b6 + (IntKind.u64.wrap (nthD (0 : Int) b3 (Int.toNat (IntKind.i64.wrap (b4 - (1 : Int)))))))))
 else
  none)
def e4 (k : Nat) (_q0 _q11 : Q0) (q4 : Q1) (q8 : Q2) (b0 : LX) (b1 b2 : Nat) (b3 : LX) (b4 b5 b6 b7 b8 b9 : Int) : Option (LX × Int) :=
 (bif (decide (b9 < b8)) then
  (bif (decide (0 ≤ b9) && decide (b9 < (b3.length : Int))) then
   (bif (decide (0 ≤ b9) && decide (b9 < (b2 : Int))) then
    (Option.bind (bits_Sub32.f k (nthD (0 : Int) b0 (b1 + Int.toNat b9)) (IntKind.u32.wrap (IntKind.u64.wrap ((IntKind.u64.wrap (b5 * (IntKind.u64.wrap (nthD (0 : Int) b3 (Int.toNat b9))))) + b7))) b6) fun r1 =>
     (bif (decide (0 ≤ b9) && decide (b9 < (b2 : Int))) then
      q4 (setN r1.1 b0 (b1 + Int.toNat b9)) b1 b2 b3 b4 b5 r1.2 (Int.fdiv (IntKind.u64.wrap ((IntKind.u64.wrap (b5 * (IntKind.u64.wrap (nthD (0 : Int) b3 (Int.toNat b9))))) + b7)) (2 ^ 32)) b8 (IntKind.i64.wrap (b9 + (1 : Int)))
     else
      none))
   else
    none)
  else
   none)
 else
  (bif (decide (0 ≤ b4) && decide (b4 < (b2 : Int))) then
   (Option.bind (bits_Sub32.f k (nthD (0 : Int) b0 (b1 + Int.toNat b4)) (IntKind.u32.wrap b7) b6) fun r2 =>
    (bif (decide (0 ≤ b4) && decide (b4 < (b2 : Int))) then
     (bif (decide (r2.2 = (1 : Int))) then
      q8 (setN r2.1 b0 (b1 + Int.toNat b4)) b1 b2 b3 b4 (IntKind.u64.wrap (b5 - (1 : Int))) (0 : Int) b4 (0 : Int)
     else
      (some ((setN r2.1 b0 (b1 + Int.toNat b4)), (IntKind.u32.wrap b5))))
    else
     none))
  else
   none))
def e8 (k : Nat) (_q0 _q11 : Q0) (_q4 : Q1) (q8 : Q2) (b0 : LX) (b1 b2 : Nat) (b3 : LX) (b4 b5 b6 b7 b8 : Int) : Option (LX × Int) :=
 (bif (decide (b8 < b7)) then
  (bif (decide (0 ≤ b8) && decide (b8 < (b2 : Int))) then
   (bif (decide (0 ≤ b8) && decide (b8 < (b3.length : Int))) then
    (Option.bind (bits_Add32.f k (nthD (0 : Int) b0 (b1 + Int.toNat b8)) (nthD (0 : Int) b3 (Int.toNat b8)) b6) fun r3 =>
     (bif (decide (0 ≤ b8) && decide (b8 < (b2 : Int))) then
      q8 (setN r3.1 b0 (b1 + Int.toNat b8)) b1 b2 b3 b4 b5 r3.2 b7 (IntKind.i64.wrap (b8 + (1 : Int)))
     else
      none))
   else
    none)
  else
   none)
 else
  (bif (decide (0 ≤ b4) && decide (b4 < (b2 : Int))) then
   (bif (decide (0 ≤ b4) && decide (b4 < (b2 : Int))) then
    (some ((setN (IntKind.u32.wrap ((nthD (0 : Int) b0 (b1 + Int.toNat b4)) + b6)) b0 (b1 + Int.toNat b4)), (IntKind.u32.wrap b5)))
   else
    none)
  else
   none))
def e (_k : Nat) (q0 _q11 : Q0) (_q4 : Q1) (_q8 : Q2) (a0 : LX) (a1 a2 : Nat) (a3 : LX) : Option (LX × Int) :=
 (bif (decide (0 ≤ (a3.length : Int)) && decide ((a3.length : Int) < (a2 : Int))) then
  (bif (decide (0 ≤ (IntKind.i64.wrap ((a3.length : Int) - (1 : Int)))) && decide ((IntKind.i64.wrap ((a3.length : Int) - (1 : Int))) < (a2 : Int))) then
   (bif (decide (0 ≤ (IntKind.i64.wrap ((a3.length : Int) - (1 : Int)))) && decide ((IntKind.i64.wrap ((a3.length : Int) - (1 : Int))) < (a3.length : Int))) then
    (bif (decide ((IntKind.u64.wrap (nthD (0 : Int) a3 (Int.toNat (IntKind.i64.wrap ((a3.length : Int) - (1 : Int)))))) = 0)) then
     none
    else
     (bif (decide (0 ≤ (IntKind.i64.wrap ((a3.length : Int) - (1 : Int)))) && decide ((IntKind.i64.wrap ((a3.length : Int) - (1 : Int))) < (a3.length : Int))) then
      (bif (decide ((IntKind.u64.wrap (nthD (0 : Int) a3 (Int.toNat (IntKind.i64.wrap ((a3.length : Int) - (1 : Int)))))) = 0)) then
       none
      else
       q0 a0 a1 a2 a3 (a3.length : Int) (IntKind.u64.wrap (Int.tdiv (bitsI .or .u64 (IntKind.u64.wrap ((IntKind.u64.wrap (nthD (0 : Int) a0 (a1 + Int.toNat (a3.length : Int)))) * 2 ^ 32)) (IntKind.u64.wrap (nthD (0 : Int) a0 (a1 + Int.toNat (IntKind.i64.wrap ((a3.length : Int) - (1 : Int))))))) (IntKind.u64.wrap (nthD (0 : Int) a3 (Int.toNat (IntKind.i64.wrap ((a3.length : Int) - (1 : Int)))))))) (Int.tmod (bitsI .or .u64 (IntKind.u64.wrap ((IntKind.u64.wrap (nthD (0 : Int) a0 (a1 + Int.toNat (a3.length : Int)))) * 2 ^ 32)) (IntKind.u64.wrap (nthD (0 : Int) a0 (a1 + Int.toNat (IntKind.i64.wrap ((a3.length : Int) - (1 : Int))))))) (IntKind.u64.wrap (nthD (0 : Int) a3 (Int.toNat (IntKind.i64.wrap ((a3.length : Int) - (1 : Int))))))))
     else
      none))
   else
    none)
  else
   none)
 else
  none)
def pts : Nat → (Q0) × (Q0) × (Q1) × (Q2)
 | 0 => (fun _ _ _ _ _ _ _ => none, fun _ _ _ _ _ _ _ => none, fun _ _ _ _ _ _ _ _ _ _ => none, fun _ _ _ _ _ _ _ _ _ => none)
 | k + 1 => (e0 k (pts k).1 (pts k).2.1 (pts k).2.2.1 (pts k).2.2.2, e11 k (pts k).1 (pts k).2.1 (pts k).2.2.1 (pts k).2.2.2, e4 k (pts k).1 (pts k).2.1 (pts k).2.2.1 (pts k).2.2.2, e8 k (pts k).1 (pts k).2.1 (pts k).2.2.1 (pts k).2.2.2)
def p0 (k : Nat) : Q0 := (pts k).1
def p11 (k : Nat) : Q0 := (pts k).2.1
def p4 (k : Nat) : Q1 := (pts k).2.2.1
def p8 (k : Nat) : Q2 := (pts k).2.2.2
theorem p0_succ (k : Nat) (x0 : LX) (x1 x2 : Nat) (x3 : LX) (x4 x5 x6 : Int) : p0 (k + 1) x0 x1 x2 x3 x4 x5 x6 = e0 k (p0 k) (p11 k) (p4 k) (p8 k) x0 x1 x2 x3 x4 x5 x6 := rfl
theorem p11_succ (k : Nat) (x0 : LX) (x1 x2 : Nat) (x3 : LX) (x4 x5 x6 : Int) : p11 (k + 1) x0 x1 x2 x3 x4 x5 x6 = e11 k (p0 k) (p11 k) (p4 k) (p8 k) x0 x1 x2 x3 x4 x5 x6 := rfl
theorem p4_succ (k : Nat) (x0 : LX) (x1 x2 : Nat) (x3 : LX) (x4 x5 x6 x7 x8 x9 : Int) : p4 (k + 1) x0 x1 x2 x3 x4 x5 x6 x7 x8 x9 = e4 k (p0 k) (p11 k) (p4 k) (p8 k) x0 x1 x2 x3 x4 x5 x6 x7 x8 x9 := rfl
theorem p8_succ (k : Nat) (x0 : LX) (x1 x2 : Nat) (x3 : LX) (x4 x5 x6 x7 x8 : Int) : p8 (k + 1) x0 x1 x2 x3 x4 x5 x6 x7 x8 = e8 k (p0 k) (p11 k) (p4 k) (p8 k) x0 x1 x2 x3 x4 x5 x6 x7 x8 := rfl
def f (k : Nat) (a0 : LX) (a1 a2 : Nat) (a3 : LX) : Option (LX × Int) := e k (p0 k) (p11 k) (p4 k) (p8 k) a0 a1 a2 a3
end nat_digit

namespace nat_long
abbrev Q0 : Type := LX → LX → Int → LX → Int → Int → Option (LX × LX)
abbrev Q1 : Type := LX → LX → LX → Int → Int → Int → Option (LX × LX)
def e0 (k : Nat) (q0 : Q0) (q4 : Q1) (b0 b1 : LX) (b2 : Int) (b3 : LX) (b4 b5 : Int) : Option (LX × LX) :=
 (bif (decide (b5 ≥ (0 : Int))) then
  (bif (decide (0 ≤ b5) && decide (b5 ≤ (IntKind.i64.wrap ((IntKind.i64.wrap (b5 + b4)) + (1 : Int)))) && decide ((IntKind.i64.wrap ((IntKind.i64.wrap (b5 + b4)) + (1 : Int))) ≤ (b0.length : Int))) then
   (bif (decide (b5 < (IntKind.i64.wrap ((IntKind.i64.wrap (b5 + b4)) + (1 : Int))))) then
    (Option.bind (nat_digit.f k b0 (Int.toNat b5) (Int.toNat ((IntKind.i64.wrap ((IntKind.i64.wrap (b5 + b4)) + (1 : Int))) - b5)) b3) fun r4 =>
     (bif (decide (0 ≤ b5) && decide (b5 < (b1.length : Int))) then
      q0 r4.1 (setN r4.2 b1 (Int.toNat b5)) b2 b3 b4 (IntKind.i64.wrap (b5 - (1 : Int)))
     else
      none))
   else
    none)
  else
   none)
 else
  (bif (decide (0 ≤ b4) && decide (b4 * 4 ≤ 281474976710656) && decide (b4 ≤ 9223372036854775807)) then
   q4 b0 b1 (List.replicate (Int.toNat b4) (0 : Int)) b2 b4 (0 : Int)
  else
   none))
def e4 (k : Nat) (_q0 : Q0) (q4 : Q1) (b0 b1 b2 : LX) (b3 b4 b5 : Int) : Option (LX × LX) :=
 (bif (decide (b5 < b4)) then
  (bif (decide (0 ≤ b5) && decide (b5 < (b0.length : Int))) then
   (bif (decide (b3 < 0)) then
    none
   else
    (bif (decide (0 ≤ (IntKind.i64.wrap (b5 + (1 : Int)))) && decide ((IntKind.i64.wrap (b5 + (1 : Int))) < (b0.length : Int))) then
     (bif (decide ((IntKind.i64.wrap ((32 : Int) - b3)) < 0)) then
      none
     else
      (bif (decide (0 ≤ b5) && decide (b5 < (b2.length : Int))) then
       q4 b0 b1 (setN (bitsI .or .u32 (Int.fdiv (nthD (0 : Int) b0 (Int.toNat b5)) (2 ^ min (Int.toNat b3) 32)) (IntKind.u32.wrap (IntKind.u64.wrap ((IntKind.u64.wrap (nthD (0 : Int) b0 (Int.toNat (IntKind.i64.wrap (b5 + (1 : Int)))))) * 2 ^ min (Int.toNat (IntKind.i64.wrap ((32 : Int) - b3))) 64)))) b2 (Int.toNat b5)) b3 b4 (IntKind.i64.wrap (b5 + (1 : Int)))
      else
       none))
    else
     none))
  else
   none)
 else
  (Option.bind (nat_own.f k b1) fun r5 =>
   (Option.bind (nat_own.f k b2) fun r6 =>
    (some (r5, r6)))))
def e (k : Nat) (q0 : Q0) (_q4 : Q1) (a0 a1 : LX) : Option (LX × LX) :=
 (bif (decide (0 ≤ (IntKind.i64.wrap ((a1.length : Int) - (1 : Int)))) && decide ((IntKind.i64.wrap ((a1.length : Int) - (1 : Int))) < (a1.length : Int))) then
  (Option.bind (bits_LeadingZeros32.f k (nthD (0 : Int) a1 (Int.toNat (IntKind.i64.wrap ((a1.length : Int) - (1 : Int)))))) fun r1 =>
   (Option.bind (nat_moved.f k a1 r1) fun r2 =>
    (bif (decide (0 ≤ (0 : Int)) && decide ((0 : Int) ≤ (a1.length : Int)) && decide ((a1.length : Int) ≤ (r2.length : Int))) then
     (Option.bind (nat_moved.f k a0 r1) fun r3 =>
      (bif (decide (0 ≤ (IntKind.i64.wrap ((r3.length : Int) - (((r2.take (Int.toNat (a1.length : Int))).drop (Int.toNat (0 : Int))).length : Int)))) && decide ((IntKind.i64.wrap ((r3.length : Int) - (((r2.take (Int.toNat (a1.length : Int))).drop (Int.toNat (0 : Int))).length : Int))) * 4 ≤ 281474976710656) && decide ((IntKind.i64.wrap ((r3.length : Int) - (((r2.take (Int.toNat (a1.length : Int))).drop (Int.toNat (0 : Int))).length : Int))) ≤ 9223372036854775807)) then
       q0 r3 (List.replicate (Int.toNat (IntKind.i64.wrap ((r3.length : Int) - (((r2.take (Int.toNat (a1.length : Int))).drop (Int.toNat (0 : Int))).length : Int)))) (0 : Int)) r1 ((r2.take (Int.toNat (a1.length : Int))).drop (Int.toNat (0 : Int))) (((r2.take (Int.toNat (a1.length : Int))).drop (Int.toNat (0 : Int))).length : Int) (IntKind.i64.wrap ((IntKind.i64.wrap ((r3.length : Int) - (((r2.take (Int.toNat (a1.length : Int))).drop (Int.toNat (0 : Int))).length : Int))) - (1 : Int)))
      else
       none))
    else
     none)))
 else
  none)
def pts : Nat → (Q0) × (Q1)
 | 0 => (fun _ _ _ _ _ _ => none, fun _ _ _ _ _ _ => none)
 | k + 1 => (e0 k (pts k).1 (pts k).2, e4 k (pts k).1 (pts k).2)
def p0 (k : Nat) : Q0 := (pts k).1
def p4 (k : Nat) : Q1 := (pts k).2
theorem p0_succ (k : Nat) (x0 x1 : LX) (x2 : Int) (x3 : LX) (x4 x5 : Int) : p0 (k + 1) x0 x1 x2 x3 x4 x5 = e0 k (p0 k) (p4 k) x0 x1 x2 x3 x4 x5 := rfl
theorem p4_succ (k : Nat) (x0 x1 x2 : LX) (x3 x4 x5 : Int) : p4 (k + 1) x0 x1 x2 x3 x4 x5 = e4 k (p0 k) (p4 k) x0 x1 x2 x3 x4 x5 := rfl
def f (k : Nat) (a0 a1 : LX) : Option (LX × LX) := e k (p0 k) (p4 k) a0 a1
end nat_long

namespace nat_Div
def e (k : Nat) (a0 a1 : LX) : Option (LX × LX × Int) :=
 (Option.bind (nat_trim.f k a0) fun r1 =>
  (Option.bind (nat_trim.f k a1) fun r2 =>
   (bif (decide ((r2.length : Int) = (0 : Int))) then
    (some (([] : List Int), ([] : List Int), (11 : Int)))
   else
    (Option.bind (nat_Cmp.f k r1 r2) fun r3 =>
     (bif (decide (r3 < (0 : Int))) then
      (Option.bind (nat_own.f k r1) fun r4 =>
       (some (([] : List Int), r4, (0 : Int))))
     else
      (bif (decide ((r2.length : Int) = (1 : Int))) then
       (bif (decide ((0 : Int) < (r2.length : Int))) then
        (Option.bind (nat_short.f k r1 (nthD (0 : Int) r2 0)) fun r5 =>
         (Option.bind (nat_own.f k r5.1) fun r6 =>
          (Option.bind (nat_own.f k [r5.2]) fun r7 =>
           (some (r6, r7, (0 : Int))))))
       else
        none)
      else
       (Option.bind (nat_long.f k r1 r2) fun r8 =>
        (some (r8.1, r8.2, (0 : Int))))))))))
def f (k : Nat) (a0 a1 : LX) : Option (LX × LX × Int) := e k a0 a1
end nat_Div

namespace nat_Gcd
def e0 (k : Nat) (q0 : LX → LX → Option LX) (b0 b1 : LX) : Option LX :=
 (bif (decide ((b1.length : Int) > (0 : Int))) then
  (Option.bind (nat_Div.f k b0 b1) fun r3 =>
   q0 b1 r3.2.1)
 else
  (some b0))
def e (k : Nat) (q0 : LX → LX → Option LX) (a0 a1 : LX) : Option LX :=
 (Option.bind (nat_own.f k a0) fun r1 =>
  (Option.bind (nat_own.f k a1) fun r2 =>
   q0 r1 r2))
def pts : Nat → (LX → LX → Option LX)
 | 0 => fun _ _ => none
 | k + 1 => e0 k (pts k)
def p0 (k : Nat) : LX → LX → Option LX := (pts k)
theorem p0_succ (k : Nat) (x0 x1 : LX) : p0 (k + 1) x0 x1 = e0 k (p0 k) x0 x1 := rfl
def f (k : Nat) (a0 a1 : LX) : Option LX := e k (p0 k) a0 a1
end nat_Gcd

namespace whole_Norm
def e (k : Nat) (a0 : ZX) : Option ZX :=
 (Option.bind (whole_Sign.f k a0) fun r1 =>
  (Option.bind (whole_signed.f k a0.2 [r1]) fun r2 =>
   (some r2)))
def f (k : Nat) (a0 : ZX) : Option ZX := e k a0
end whole_Norm

namespace ratio_made
def e (k : Nat) (a0 : ZX) (a1 : LX) : Option RX :=
 (Option.bind (nat_Gcd.f k a0.2 a1) fun r1 =>
  (Option.bind (nat_Div.f k a0.2 r1) fun r2 =>
   (Option.bind (nat_Div.f k a1 r1) fun r3 =>
    (Option.bind (whole_Norm.f k (a0.1, r2.1)) fun r4 =>
     (some (r4, r3.1))))))
def f (k : Nat) (a0 : ZX) (a1 : LX) : Option RX := e k a0 a1
end ratio_made

namespace ratio_Of
def e11 (k : Nat) (_q11 : ZX → ZX → RX → Option (RX × Int)) (b0 b1 : ZX) (_b2 : RX) : Option (RX × Int) :=
 (Option.bind (ratio_made.f k b0 b1.2) fun r4 =>
  (some (r4, (0 : Int))))
def e (k : Nat) (q11 : ZX → ZX → RX → Option (RX × Int)) (a0 a1 : ZX) : Option (RX × Int) :=
 (Option.bind (whole_Sign.f k a1) fun r1 =>
  (bif (decide (r1 = (0 : Int))) then
   (some (((false, ([] : List Int)), ([] : List Int)), (11 : Int)))
  else
   (Option.bind (whole_Sign.f k a1) fun r2 =>
    (bif (decide (r2 < (0 : Int))) then
     (Option.bind (whole_Neg.f k a0) fun r3 =>
      q11 r3 a1 ((false, ([] : List Int)), ([] : List Int)))
    else
     q11 a0 a1 ((false, ([] : List Int)), ([] : List Int))))))
def pts : Nat → (ZX → ZX → RX → Option (RX × Int))
 | 0 => fun _ _ _ => none
 | k + 1 => e11 k (pts k)
def p11 (k : Nat) : ZX → ZX → RX → Option (RX × Int) := (pts k)
theorem p11_succ (k : Nat) (x0 x1 : ZX) (x2 : RX) : p11 (k + 1) x0 x1 x2 = e11 k (p11 k) x0 x1 x2 := rfl
def f (k : Nat) (a0 a1 : ZX) : Option (RX × Int) := e k (p11 k) a0 a1
end ratio_Of

namespace nat_Shift
abbrev Q0 : Type := Unit → Option (LX × Int)
abbrev Q1 : Type := LX → LX → Int → Int → Int → Option (LX × Int)
def e5 (_k : Nat) (_q5 : Q0) (_q0 _q39 : Q1) (_ : Unit) : Option (LX × Int) :=
 (some (([] : List Int), (12 : Int)))
def e0 (k : Nat) (_q5 : Q0) (_q0 q39 : Q1) (b0 b1 : LX) (b2 b3 b4 : Int) : Option (LX × Int) :=
 (bif (decide (b4 < b3)) then
  (bif (decide (0 ≤ b4) && decide (b4 < (b1.length : Int))) then
   (bif (decide (b2 < 0)) then
    none
   else
    (bif (decide (0 ≤ b4) && decide (b4 < (b0.length : Int))) then
     (bif (decide ((IntKind.i64.wrap (b4 + (1 : Int))) < (b1.length : Int))) then
      (bif (decide (0 ≤ b4) && decide (b4 < ((setN (Int.fdiv (nthD (0 : Int) b1 (Int.toNat b4)) (2 ^ min (Int.toNat b2) 32)) b0 (Int.toNat b4)).length : Int))) then
       (bif (decide (0 ≤ (IntKind.i64.wrap (b4 + (1 : Int)))) && decide ((IntKind.i64.wrap (b4 + (1 : Int))) < (b1.length : Int))) then
        (bif (decide ((IntKind.i64.wrap ((32 : Int) - b2)) < 0)) then
         none
        else
         (bif (decide (0 ≤ b4) && decide (b4 < ((setN (Int.fdiv (nthD (0 : Int) b1 (Int.toNat b4)) (2 ^ min (Int.toNat b2) 32)) b0 (Int.toNat b4)).length : Int))) then
          q39 (setN (bitsI .or .u32 (nthD (0 : Int) (setN (Int.fdiv (nthD (0 : Int) b1 (Int.toNat b4)) (2 ^ min (Int.toNat b2) 32)) b0 (Int.toNat b4)) (Int.toNat b4)) (IntKind.u32.wrap (IntKind.u64.wrap ((IntKind.u64.wrap (nthD (0 : Int) b1 (Int.toNat (IntKind.i64.wrap (b4 + (1 : Int)))))) * 2 ^ min (Int.toNat (IntKind.i64.wrap ((32 : Int) - b2))) 64)))) (setN (Int.fdiv (nthD (0 : Int) b1 (Int.toNat b4)) (2 ^ min (Int.toNat b2) 32)) b0 (Int.toNat b4)) (Int.toNat b4)) b1 b2 b3 b4
         else
          none))
       else
        none)
      else
       none)
     else
      q39 (setN (Int.fdiv (nthD (0 : Int) b1 (Int.toNat b4)) (2 ^ min (Int.toNat b2) 32)) b0 (Int.toNat b4)) b1 b2 b3 b4)
    else
     none))
  else
   none)
 else
  (Option.bind (nat_own.f k b0) fun r4 =>
   (some (r4, (0 : Int)))))
def e39 (_k : Nat) (_q5 : Q0) (q0 _q39 : Q1) (b0 b1 : LX) (b2 b3 b4 : Int) : Option (LX × Int) :=
 q0 b0 b1 b2 b3 (IntKind.i64.wrap (b4 + (1 : Int)))
def e (k : Nat) (q5 : Q0) (q0 _q39 : Q1) (a0 : LX) (a1 : Int) : Option (LX × Int) :=
 (bif (decide (a1 < (-1048576 : Int))) then
  q5 ()
 else
  (bif (decide (a1 > (1048576 : Int))) then
   q5 ()
  else
   (Option.bind (nat_trim.f k a0) fun r1 =>
    (bif (decide (a1 ≥ (0 : Int))) then
     (bif (decide (0 ≤ (IntKind.i64.wrap ((IntKind.i64.wrap ((IntKind.i64.wrap (Int.tdiv a1 (32 : Int))) + (r1.length : Int))) + (1 : Int)))) && decide ((IntKind.i64.wrap ((IntKind.i64.wrap ((IntKind.i64.wrap (Int.tdiv a1 (32 : Int))) + (r1.length : Int))) + (1 : Int))) * 4 ≤ 281474976710656) && decide ((IntKind.i64.wrap ((IntKind.i64.wrap ((IntKind.i64.wrap (Int.tdiv a1 (32 : Int))) + (r1.length : Int))) + (1 : Int))) ≤ 9223372036854775807)) then
      (bif (decide (0 ≤ (IntKind.i64.wrap (Int.tdiv a1 (32 : Int)))) && decide ((IntKind.i64.wrap (Int.tdiv a1 (32 : Int))) ≤ ((List.replicate (Int.toNat (IntKind.i64.wrap ((IntKind.i64.wrap ((IntKind.i64.wrap (Int.tdiv a1 (32 : Int))) + (r1.length : Int))) + (1 : Int)))) (0 : Int)).length : Int)) && decide (((List.replicate (Int.toNat (IntKind.i64.wrap ((IntKind.i64.wrap ((IntKind.i64.wrap (Int.tdiv a1 (32 : Int))) + (r1.length : Int))) + (1 : Int)))) (0 : Int)).length : Int) ≤ ((List.replicate (Int.toNat (IntKind.i64.wrap ((IntKind.i64.wrap ((IntKind.i64.wrap (Int.tdiv a1 (32 : Int))) + (r1.length : Int))) + (1 : Int)))) (0 : Int)).length : Int))) then
       (bif (decide ((IntKind.i64.wrap (Int.tdiv a1 (32 : Int))) < ((List.replicate (Int.toNat (IntKind.i64.wrap ((IntKind.i64.wrap ((IntKind.i64.wrap (Int.tdiv a1 (32 : Int))) + (r1.length : Int))) + (1 : Int)))) (0 : Int)).length : Int))) then
        (Option.bind (nat_moved.f k r1 (Int.tmod a1 (32 : Int))) fun r2 =>
         (Option.bind (nat_own.f k ((List.replicate (Int.toNat (IntKind.i64.wrap ((IntKind.i64.wrap ((IntKind.i64.wrap (Int.tdiv a1 (32 : Int))) + (r1.length : Int))) + (1 : Int)))) (0 : Int)).take (Int.toNat (IntKind.i64.wrap (Int.tdiv a1 (32 : Int)))) ++ (r2.take (Int.toNat (((List.replicate (Int.toNat (IntKind.i64.wrap ((IntKind.i64.wrap ((IntKind.i64.wrap (Int.tdiv a1 (32 : Int))) + (r1.length : Int))) + (1 : Int)))) (0 : Int)).length : Int) - (IntKind.i64.wrap (Int.tdiv a1 (32 : Int))))) ++ (List.replicate (Int.toNat (IntKind.i64.wrap ((IntKind.i64.wrap ((IntKind.i64.wrap (Int.tdiv a1 (32 : Int))) + (r1.length : Int))) + (1 : Int)))) (0 : Int)).drop ((Int.toNat (IntKind.i64.wrap (Int.tdiv a1 (32 : Int)))) + min r2.length (Int.toNat (((List.replicate (Int.toNat (IntKind.i64.wrap ((IntKind.i64.wrap ((IntKind.i64.wrap (Int.tdiv a1 (32 : Int))) + (r1.length : Int))) + (1 : Int)))) (0 : Int)).length : Int) - (IntKind.i64.wrap (Int.tdiv a1 (32 : Int))))))))) fun r3 =>
          (some (r3, (0 : Int)))))
       else
        none)
      else
       none)
     else
      none)
    else
     (bif (decide ((IntKind.i64.wrap (Int.tdiv (IntKind.i64.wrap (0 - a1)) (32 : Int))) ≥ (r1.length : Int))) then
      (some (([] : List Int), (0 : Int)))
     else
      (bif (decide (0 ≤ (IntKind.i64.wrap (Int.tdiv (IntKind.i64.wrap (0 - a1)) (32 : Int)))) && decide ((IntKind.i64.wrap (Int.tdiv (IntKind.i64.wrap (0 - a1)) (32 : Int))) ≤ (r1.length : Int)) && decide ((r1.length : Int) ≤ (r1.length : Int))) then
       (bif (decide (0 ≤ (((r1.take (Int.toNat (r1.length : Int))).drop (Int.toNat (IntKind.i64.wrap (Int.tdiv (IntKind.i64.wrap (0 - a1)) (32 : Int))))).length : Int)) && decide ((((r1.take (Int.toNat (r1.length : Int))).drop (Int.toNat (IntKind.i64.wrap (Int.tdiv (IntKind.i64.wrap (0 - a1)) (32 : Int))))).length : Int) * 4 ≤ 281474976710656) && decide ((((r1.take (Int.toNat (r1.length : Int))).drop (Int.toNat (IntKind.i64.wrap (Int.tdiv (IntKind.i64.wrap (0 - a1)) (32 : Int))))).length : Int) ≤ 9223372036854775807)) then
        q0 (List.replicate (Int.toNat (((r1.take (Int.toNat (r1.length : Int))).drop (Int.toNat (IntKind.i64.wrap (Int.tdiv (IntKind.i64.wrap (0 - a1)) (32 : Int))))).length : Int)) (0 : Int)) ((r1.take (Int.toNat (r1.length : Int))).drop (Int.toNat (IntKind.i64.wrap (Int.tdiv (IntKind.i64.wrap (0 - a1)) (32 : Int))))) (Int.tmod (IntKind.i64.wrap (0 - a1)) (32 : Int)) (((r1.take (Int.toNat (r1.length : Int))).drop (Int.toNat (IntKind.i64.wrap (Int.tdiv (IntKind.i64.wrap (0 - a1)) (32 : Int))))).length : Int) (0 : Int)
       else
        none)
      else
       none))))))
def pts : Nat → (Q0) × (Q1) × (Q1)
 | 0 => (fun _ => none, fun _ _ _ _ _ => none, fun _ _ _ _ _ => none)
 | k + 1 => (e5 k (pts k).1 (pts k).2.1 (pts k).2.2, e0 k (pts k).1 (pts k).2.1 (pts k).2.2, e39 k (pts k).1 (pts k).2.1 (pts k).2.2)
def p5 (k : Nat) : Q0 := (pts k).1
def p0 (k : Nat) : Q1 := (pts k).2.1
def p39 (k : Nat) : Q1 := (pts k).2.2
def f (k : Nat) (a0 : LX) (a1 : Int) : Option (LX × Int) := e k (p5 k) (p0 k) (p39 k) a0 a1
end nat_Shift

namespace nat_Bits
def e (k : Nat) (a0 : LX) : Option Int :=
 (Option.bind (nat_trim.f k a0) fun r1 =>
  (bif (decide ((r1.length : Int) = (0 : Int))) then
   (some (0 : Int))
  else
   (bif (decide (0 ≤ (IntKind.i64.wrap ((r1.length : Int) - (1 : Int)))) && decide ((IntKind.i64.wrap ((r1.length : Int) - (1 : Int))) < (r1.length : Int))) then
    (Option.bind (bits_Len32.f k (nthD (0 : Int) r1 (Int.toNat (IntKind.i64.wrap ((r1.length : Int) - (1 : Int)))))) fun r2 =>
     (some (IntKind.i64.wrap ((IntKind.i64.wrap ((32 : Int) * (IntKind.i64.wrap ((r1.length : Int) - (1 : Int))))) + r2))))
   else
    none)))
def f (k : Nat) (a0 : LX) : Option Int := e k a0
end nat_Bits

namespace ratio_Norm
def e (k : Nat) (a0 : RX) : Option RX :=
 (Option.bind (nat_Bits.f k a0.2) fun r1 =>
  (bif (decide (r1 = (0 : Int))) then
   (some ((false, ([] : List Int)), [(1 : Int)]))
  else
   (Option.bind (ratio_made.f k a0.1 a0.2) fun r2 =>
    (some r2))))
def f (k : Nat) (a0 : RX) : Option RX := e k a0
end ratio_Norm

namespace ratio_Inv
def e (k : Nat) (a0 : RX) : Option (RX × Int) :=
 (Option.bind (ratio_Norm.f k a0) fun r1 =>
  (Option.bind (ratio_Of.f k (false, r1.2) r1.1) fun r2 =>
   (some (r2.1, r2.2))))
def f (k : Nat) (a0 : RX) : Option (RX × Int) := e k a0
end ratio_Inv

namespace approx_two
def e11 (_k : Nat) (_q11 : RX → RX → Option RX) (_b0 b1 : RX) : Option RX :=
 (some b1)
def e (k : Nat) (q11 : RX → RX → Option RX) (a0 : Int) : Option RX :=
 (Option.bind (nat_Of.f k (1 : Int)) fun r1 =>
  (Option.bind (nat_Shift.f k r1 (bif decide ((IntKind.i64.wrap (0 - a0)) > a0) then (IntKind.i64.wrap (0 - a0)) else a0)) fun r2 =>
   (Option.bind (whole_Of.f k (1 : Int)) fun r3 =>
    (Option.bind (ratio_Of.f k (false, r2.1) r3) fun r4 =>
     (bif (decide (a0 < (0 : Int))) then
      (Option.bind (ratio_Inv.f k r4.1) fun r5 =>
       q11 ((false, ([] : List Int)), ([] : List Int)) r5.1)
     else
      q11 ((false, ([] : List Int)), ([] : List Int)) r4.1)))))
def pts : Nat → (RX → RX → Option RX)
 | 0 => fun _ _ => none
 | k + 1 => e11 k (pts k)
def p11 (k : Nat) : RX → RX → Option RX := (pts k)
theorem p11_succ (k : Nat) (x0 x1 : RX) : p11 (k + 1) x0 x1 = e11 k (p11 k) x0 x1 := rfl
def f (k : Nat) (a0 : Int) : Option RX := e k (p11 k) a0
end approx_two

namespace nat_Mul
abbrev Q0 : Type := LX → LX → LX → Int → Int → Option LX
abbrev Q1 : Type := LX → LX → LX → Int → Int → Int → Int → Int → Int → Option LX
def e0 (k : Nat) (_q0 : Q0) (q4 : Q1) (b0 b1 b2 : LX) (b3 b4 : Int) : Option LX :=
 (bif (decide (b4 < b3)) then
  q4 b0 b1 b2 b4 (0 : Int) b3 b4 (b2.length : Int) (0 : Int)
 else
  (Option.bind (nat_own.f k b0) fun r3 =>
   (some r3)))
def e4 (_k : Nat) (q0 : Q0) (q4 : Q1) (b0 b1 b2 : LX) (b3 b4 b5 b6 b7 b8 : Int) : Option LX :=
 (bif (decide (b8 < b7)) then
  (bif (decide (0 ≤ b3) && decide (b3 < (b1.length : Int))) then
   (bif (decide (0 ≤ b8) && decide (b8 < (b2.length : Int))) then
    (bif (decide (0 ≤ (IntKind.i64.wrap (b3 + b8))) && decide ((IntKind.i64.wrap (b3 + b8)) < (b0.length : Int))) then
     (bif (decide (0 ≤ (IntKind.i64.wrap (b3 + b8))) && decide ((IntKind.i64.wrap (b3 + b8)) < (b0.length : Int))) then
      q4 (setN (IntKind.u32.wrap (IntKind.u64.wrap ((IntKind.u64.wrap ((IntKind.u64.wrap ((IntKind.u64.wrap (nthD (0 : Int) b1 (Int.toNat b3))) * (IntKind.u64.wrap (nthD (0 : Int) b2 (Int.toNat b8))))) + (IntKind.u64.wrap (nthD (0 : Int) b0 (Int.toNat (IntKind.i64.wrap (b3 + b8))))))) + b4))) b0 (Int.toNat (IntKind.i64.wrap (b3 + b8)))) b1 b2 b3 (Int.fdiv (IntKind.u64.wrap ((IntKind.u64.wrap ((IntKind.u64.wrap ((IntKind.u64.wrap (nthD (0 : Int) b1 (Int.toNat b3))) * (IntKind.u64.wrap (nthD (0 : Int) b2 (Int.toNat b8))))) + (IntKind.u64.wrap (nthD (0 : Int) b0 (Int.toNat (IntKind.i64.wrap (b3 + b8))))))) + b4)) (2 ^ 32)) b5 b6 b7 (IntKind.i64.wrap (b8 + (1 : Int)))
     else
      none)
    else
     none)
   else
    none)
  else
   none)
 else
  (bif (decide (0 ≤ (IntKind.i64.wrap (b3 + (b2.length : Int)))) && decide ((IntKind.i64.wrap (b3 + (b2.length : Int))) < (b0.length : Int))) then
   q0 (setN (IntKind.u32.wrap b4) b0 (Int.toNat (IntKind.i64.wrap (b3 + (b2.length : Int))))) b1 b2 b5 (IntKind.i64.wrap (b6 + (1 : Int)))
  else
   none))
def e (k : Nat) (q0 : Q0) (_q4 : Q1) (a0 a1 : LX) : Option LX :=
 (Option.bind (nat_trim.f k a0) fun r1 =>
  (Option.bind (nat_trim.f k a1) fun r2 =>
   (bif (decide (0 ≤ (IntKind.i64.wrap ((r1.length : Int) + (r2.length : Int)))) && decide ((IntKind.i64.wrap ((r1.length : Int) + (r2.length : Int))) * 4 ≤ 281474976710656) && decide ((IntKind.i64.wrap ((r1.length : Int) + (r2.length : Int))) ≤ 9223372036854775807)) then
    q0 (List.replicate (Int.toNat (IntKind.i64.wrap ((r1.length : Int) + (r2.length : Int)))) (0 : Int)) r1 r2 (r1.length : Int) (0 : Int)
   else
    none)))
def pts : Nat → (Q0) × (Q1)
 | 0 => (fun _ _ _ _ _ => none, fun _ _ _ _ _ _ _ _ _ => none)
 | k + 1 => (e0 k (pts k).1 (pts k).2, e4 k (pts k).1 (pts k).2)
def p0 (k : Nat) : Q0 := (pts k).1
def p4 (k : Nat) : Q1 := (pts k).2
theorem p0_succ (k : Nat) (x0 x1 x2 : LX) (x3 x4 : Int) : p0 (k + 1) x0 x1 x2 x3 x4 = e0 k (p0 k) (p4 k) x0 x1 x2 x3 x4 := rfl
theorem p4_succ (k : Nat) (x0 x1 x2 : LX) (x3 x4 x5 x6 x7 x8 : Int) : p4 (k + 1) x0 x1 x2 x3 x4 x5 x6 x7 x8 = e4 k (p0 k) (p4 k) x0 x1 x2 x3 x4 x5 x6 x7 x8 := rfl
def f (k : Nat) (a0 a1 : LX) : Option LX := e k (p0 k) (p4 k) a0 a1
end nat_Mul

namespace whole_Mul
def e (k : Nat) (a0 a1 : ZX) : Option ZX :=
 (Option.bind (nat_Mul.f k a0.2 a1.2) fun r1 =>
  (Option.bind (whole_Sign.f k a0) fun r2 =>
   (Option.bind (whole_Sign.f k a1) fun r3 =>
    (Option.bind (whole_signed.f k r1 [r2, r3]) fun r4 =>
     (some r4)))))
def f (k : Nat) (a0 a1 : ZX) : Option ZX := e k a0 a1
end whole_Mul

namespace ratio_Mul
def e (k : Nat) (a0 a1 : RX) : Option RX :=
 (Option.bind (ratio_Norm.f k a0) fun r1 =>
  (Option.bind (ratio_Norm.f k a1) fun r2 =>
   (Option.bind (whole_Mul.f k r1.1 r2.1) fun r3 =>
    (Option.bind (nat_Mul.f k r1.2 r2.2) fun r4 =>
     (Option.bind (ratio_made.f k r3 r4) fun r5 =>
      (some r5))))))
def f (k : Nat) (a0 a1 : RX) : Option RX := e k a0 a1
end ratio_Mul

namespace approx_Exact
def e21 (k : Nat) (_q21 : RX → Nat → Int → Int → Option (RX × Int)) (_b0 : RX) (b1 : Nat) (b2 b3 : Int) : Option (RX × Int) :=
 (Option.bind (nat_Of.f k b2) fun r4 =>
  (Option.bind (whole_Of.f k (1 : Int)) fun r5 =>
   (Option.bind (ratio_Of.f k ((fLt b1 (0 : Nat)), r4) r5) fun r6 =>
    (Option.bind (approx_two.f k (IntKind.i64.wrap (b3 + (-1074 : Int)))) fun r7 =>
     (Option.bind (ratio_Mul.f k r6.1 r7) fun r8 =>
      (some (r8, (0 : Int))))))))
def e (k : Nat) (q21 : RX → Nat → Int → Int → Option (RX × Int)) (a0 : Nat) : Option (RX × Int) :=
 (Option.bind (math_IsNaN.f k a0) fun r1 =>
  (bif r1 then
   (some (((false, ([] : List Int)), ([] : List Int)), (40 : Int)))
  else
   (Option.bind (math_IsInf.f k a0 (0 : Int)) fun r2 =>
    (bif r2 then
     (some (((false, ([] : List Int)), ([] : List Int)), (41 : Int)))
    else
     (Option.bind (math_Float64bits.f k a0) fun r3 =>
      (bif (decide ((IntKind.i64.wrap (Int.fdiv (bitsI .andNot .u64 r3 (9223372036854775808 : Int)) (2 ^ 52))) > (0 : Int))) then
       q21 ((false, ([] : List Int)), ([] : List Int)) a0 (bitsI .or .u64 (bitsI .and .u64 (bitsI .andNot .u64 r3 (9223372036854775808 : Int)) (4503599627370495 : Int)) (4503599627370496 : Int)) (IntKind.i64.wrap ((IntKind.i64.wrap (Int.fdiv (bitsI .andNot .u64 r3 (9223372036854775808 : Int)) (2 ^ 52))) - (1 : Int)))
      else
       q21 ((false, ([] : List Int)), ([] : List Int)) a0 (bitsI .and .u64 (bitsI .andNot .u64 r3 (9223372036854775808 : Int)) (4503599627370495 : Int)) (IntKind.i64.wrap (Int.fdiv (bitsI .andNot .u64 r3 (9223372036854775808 : Int)) (2 ^ 52)))))))))
def pts : Nat → (RX → Nat → Int → Int → Option (RX × Int))
 | 0 => fun _ _ _ _ => none
 | k + 1 => e21 k (pts k)
def p21 (k : Nat) : RX → Nat → Int → Int → Option (RX × Int) := (pts k)
theorem p21_succ (k : Nat) (x0 : RX) (x1 : Nat) (x2 x3 : Int) : p21 (k + 1) x0 x1 x2 x3 = e21 k (p21 k) x0 x1 x2 x3 := rfl
def f (k a0 : Nat) : Option (RX × Int) := e k (p21 k) a0
end approx_Exact

namespace math_Signbit
def e (k a0 : Nat) : Option Bool :=
 (Option.bind (math_Float64bits.f k a0) fun r1 =>
  (some (decide ((IntKind.i64.wrap r1) < (0 : Int)))))
def f (k a0 : Nat) : Option Bool := e k a0
end math_Signbit

namespace nat_Pow
abbrev Q0 : Type := Unit → Option (LX × Int)
abbrev Q1 : Type := Int → LX → LX → Option (LX × Int)
def e5 (_k : Nat) (_q5 : Q0) (_q0 _q19 _q13 : Q1) (_ : Unit) : Option (LX × Int) :=
 (some (([] : List Int), (13 : Int)))
def e0 (k : Nat) (_q5 : Q0) (_q0 q19 _q13 : Q1) (b0 : Int) (b1 b2 : LX) : Option (LX × Int) :=
 (bif (decide (b0 > (0 : Int))) then
  (bif (decide ((Int.tmod b0 (2 : Int)) = (1 : Int))) then
   (Option.bind (nat_Mul.f k b1 b2) fun r2 =>
    q19 b0 r2 b2)
  else
   q19 b0 b1 b2)
 else
  (some (b1, (0 : Int))))
def e19 (k : Nat) (_q5 : Q0) (_q0 _q19 q13 : Q1) (b0 : Int) (b1 b2 : LX) : Option (LX × Int) :=
 (bif (decide (b0 > (1 : Int))) then
  (Option.bind (nat_Mul.f k b2 b2) fun r3 =>
   q13 b0 b1 r3)
 else
  q13 b0 b1 b2)
def e13 (_k : Nat) (_q5 : Q0) (q0 _q19 _q13 : Q1) (b0 : Int) (b1 b2 : LX) : Option (LX × Int) :=
 q0 (IntKind.i64.wrap (Int.tdiv b0 (2 : Int))) b1 b2
def e (k : Nat) (q5 : Q0) (q0 _q19 _q13 : Q1) (a0 : LX) (a1 : Int) : Option (LX × Int) :=
 (bif (decide (a1 < (0 : Int))) then
  q5 ()
 else
  (bif (decide (a1 > (4096 : Int))) then
   q5 ()
  else
   (Option.bind (nat_own.f k a0) fun r1 =>
    q0 a1 [(1 : Int)] r1)))
def pts : Nat → (Q0) × (Q1) × (Q1) × (Q1)
 | 0 => (fun _ => none, fun _ _ _ => none, fun _ _ _ => none, fun _ _ _ => none)
 | k + 1 => (e5 k (pts k).1 (pts k).2.1 (pts k).2.2.1 (pts k).2.2.2, e0 k (pts k).1 (pts k).2.1 (pts k).2.2.1 (pts k).2.2.2, e19 k (pts k).1 (pts k).2.1 (pts k).2.2.1 (pts k).2.2.2, e13 k (pts k).1 (pts k).2.1 (pts k).2.2.1 (pts k).2.2.2)
def p5 (k : Nat) : Q0 := (pts k).1
def p0 (k : Nat) : Q1 := (pts k).2.1
def p19 (k : Nat) : Q1 := (pts k).2.2.1
def p13 (k : Nat) : Q1 := (pts k).2.2.2
theorem p0_succ (k : Nat) (x0 : Int) (x1 x2 : LX) : p0 (k + 1) x0 x1 x2 = e0 k (p5 k) (p0 k) (p19 k) (p13 k) x0 x1 x2 := rfl
theorem p19_succ (k : Nat) (x0 : Int) (x1 x2 : LX) : p19 (k + 1) x0 x1 x2 = e19 k (p5 k) (p0 k) (p19 k) (p13 k) x0 x1 x2 := rfl
theorem p13_succ (k : Nat) (x0 : Int) (x1 x2 : LX) : p13 (k + 1) x0 x1 x2 = e13 k (p5 k) (p0 k) (p19 k) (p13 k) x0 x1 x2 := rfl
def f (k : Nat) (a0 : LX) (a1 : Int) : Option (LX × Int) := e k (p5 k) (p0 k) (p19 k) (p13 k) a0 a1
end nat_Pow

namespace approx_ten
abbrev Q0 : Type := RX → Int → LX → Int → Option RX
abbrev Q1 : Type := RX → RX → Option RX
def e0 (k : Nat) (q0 : Q0) (q21 : Q1) (b0 : RX) (b1 : Int) (b2 : LX) (b3 : Int) : Option RX :=
 (bif (decide (b3 > (0 : Int))) then
  (Option.bind (nat_Of.f k (10 : Int)) fun r2 =>
   (Option.bind (nat_Pow.f k r2 (bif decide ((4096 : Int) < b3) then (4096 : Int) else b3)) fun r3 =>
    (Option.bind (nat_Mul.f k b2 r3.1) fun r4 =>
     q0 b0 b1 r4 (IntKind.i64.wrap (b3 - (4096 : Int))))))
 else
  (Option.bind (whole_Of.f k (1 : Int)) fun r5 =>
   (Option.bind (ratio_Of.f k (false, b2) r5) fun r6 =>
    (bif (decide (b1 < (0 : Int))) then
     (Option.bind (ratio_Inv.f k r6.1) fun r7 =>
      q21 b0 r7.1)
    else
     q21 b0 r6.1))))
def e21 (_k : Nat) (_q0 : Q0) (_q21 : Q1) (_b0 b1 : RX) : Option RX :=
 (some b1)
def e (k : Nat) (q0 : Q0) (_q21 : Q1) (a0 : Int) : Option RX :=
 (Option.bind (nat_Of.f k (1 : Int)) fun r1 =>
  q0 ((false, ([] : List Int)), ([] : List Int)) a0 r1 (bif decide ((IntKind.i64.wrap (0 - a0)) > a0) then (IntKind.i64.wrap (0 - a0)) else a0))
def pts : Nat → (Q0) × (Q1)
 | 0 => (fun _ _ _ _ => none, fun _ _ => none)
 | k + 1 => (e0 k (pts k).1 (pts k).2, e21 k (pts k).1 (pts k).2)
def p0 (k : Nat) : Q0 := (pts k).1
def p21 (k : Nat) : Q1 := (pts k).2
theorem p0_succ (k : Nat) (x0 : RX) (x1 : Int) (x2 : LX) (x3 : Int) : p0 (k + 1) x0 x1 x2 x3 = e0 k (p0 k) (p21 k) x0 x1 x2 x3 := rfl
theorem p21_succ (k : Nat) (x0 x1 : RX) : p21 (k + 1) x0 x1 = e21 k (p0 k) (p21 k) x0 x1 := rfl
def f (k : Nat) (a0 : Int) : Option RX := e k (p0 k) (p21 k) a0
end approx_ten

namespace nat_Add
abbrev Q0 : Type := LX → LX → Option LX
abbrev Q1 : Type := LX → LX → LX → Int → Int → Int → Option LX
abbrev Q2 : Type := LX → LX → LX → Int → Int → Int → Int → Int → Option LX
def e7 (_k : Nat) (_q7 : Q0) (q0 : Q1) (_q23 : Q2) (b0 b1 : LX) : Option LX :=
 (bif (decide (0 ≤ (IntKind.i64.wrap ((b0.length : Int) + (1 : Int)))) && decide ((IntKind.i64.wrap ((b0.length : Int) + (1 : Int))) * 4 ≤ 281474976710656) && decide ((IntKind.i64.wrap ((b0.length : Int) + (1 : Int))) ≤ 9223372036854775807)) then
  q0 (List.replicate (Int.toNat (IntKind.i64.wrap ((b0.length : Int) + (1 : Int)))) (0 : Int)) b0 b1 (0 : Int) (b0.length : Int) (0 : Int)
 else
  none)
def e0 (k : Nat) (_q7 : Q0) (_q0 : Q1) (q23 : Q2) (b0 b1 b2 : LX) (b3 b4 b5 : Int) : Option LX :=
 (bif (decide (b5 < b4)) then
  (bif (decide (b5 < (b2.length : Int))) then
   (bif (decide (0 ≤ b5) && decide (b5 < (b2.length : Int))) then
    q23 b0 b1 b2 b3 b5 (nthD (0 : Int) b2 (Int.toNat b5)) b4 b5
   else
    none)
  else
   q23 b0 b1 b2 b3 b5 (0 : Int) b4 b5)
 else
  (bif (decide (0 ≤ (b1.length : Int)) && decide ((b1.length : Int) < (b0.length : Int))) then
   (Option.bind (nat_own.f k (setN b3 b0 (Int.toNat (b1.length : Int)))) fun r1 =>
    (some r1))
  else
   none))
def e23 (k : Nat) (_q7 : Q0) (q0 : Q1) (_q23 : Q2) (b0 b1 b2 : LX) (b3 b4 b5 b6 b7 : Int) : Option LX :=
 (bif (decide (0 ≤ b4) && decide (b4 < (b1.length : Int))) then
  (Option.bind (bits_Add32.f k (nthD (0 : Int) b1 (Int.toNat b4)) b5 b3) fun r2 =>
   (bif (decide (0 ≤ b4) && decide (b4 < (b0.length : Int))) then
    q0 (setN r2.1 b0 (Int.toNat b4)) b1 b2 r2.2 b6 (IntKind.i64.wrap (b7 + (1 : Int)))
   else
    none))
 else
  none)
def e (_k : Nat) (q7 : Q0) (_q0 : Q1) (_q23 : Q2) (a0 a1 : LX) : Option LX :=
 (bif (decide ((a0.length : Int) < (a1.length : Int))) then
  q7 a1 a0
 else
  q7 a0 a1)
def pts : Nat → (Q0) × (Q1) × (Q2)
 | 0 => (fun _ _ => none, fun _ _ _ _ _ _ => none, fun _ _ _ _ _ _ _ _ => none)
 | k + 1 => (e7 k (pts k).1 (pts k).2.1 (pts k).2.2, e0 k (pts k).1 (pts k).2.1 (pts k).2.2, e23 k (pts k).1 (pts k).2.1 (pts k).2.2)
def p7 (k : Nat) : Q0 := (pts k).1
def p0 (k : Nat) : Q1 := (pts k).2.1
def p23 (k : Nat) : Q2 := (pts k).2.2
theorem p7_succ (k : Nat) (x0 x1 : LX) : p7 (k + 1) x0 x1 = e7 k (p7 k) (p0 k) (p23 k) x0 x1 := rfl
theorem p0_succ (k : Nat) (x0 x1 x2 : LX) (x3 x4 x5 : Int) : p0 (k + 1) x0 x1 x2 x3 x4 x5 = e0 k (p7 k) (p0 k) (p23 k) x0 x1 x2 x3 x4 x5 := rfl
theorem p23_succ (k : Nat) (x0 x1 x2 : LX) (x3 x4 x5 x6 x7 : Int) : p23 (k + 1) x0 x1 x2 x3 x4 x5 x6 x7 = e23 k (p7 k) (p0 k) (p23 k) x0 x1 x2 x3 x4 x5 x6 x7 := rfl
def f (k : Nat) (a0 a1 : LX) : Option LX := e k (p7 k) (p0 k) (p23 k) a0 a1
end nat_Add

namespace nat_Sub
abbrev Q0 : Type := LX → LX → LX → Int → Int → Int → Option (LX × Int)
abbrev Q1 : Type := LX → LX → LX → Int → Int → Int → Int → Int → Option (LX × Int)
def e0 (k : Nat) (_q0 : Q0) (q25 : Q1) (b0 b1 b2 : LX) (b3 b4 b5 : Int) : Option (LX × Int) :=
 (bif (decide (b5 < b4)) then
  (bif (decide (b5 < (b2.length : Int))) then
   (bif (decide (0 ≤ b5) && decide (b5 < (b2.length : Int))) then
    q25 b0 b1 b2 b3 b5 (nthD (0 : Int) b2 (Int.toNat b5)) b4 b5
   else
    none)
  else
   q25 b0 b1 b2 b3 b5 (0 : Int) b4 b5)
 else
  (Option.bind (nat_own.f k b0) fun r3 =>
   (some (r3, (0 : Int)))))
def e25 (k : Nat) (q0 : Q0) (_q25 : Q1) (b0 b1 b2 : LX) (b3 b4 b5 b6 b7 : Int) : Option (LX × Int) :=
 (bif (decide (0 ≤ b4) && decide (b4 < (b1.length : Int))) then
  (Option.bind (bits_Sub32.f k (nthD (0 : Int) b1 (Int.toNat b4)) b5 b3) fun r4 =>
   (bif (decide (0 ≤ b4) && decide (b4 < (b0.length : Int))) then
    q0 (setN r4.1 b0 (Int.toNat b4)) b1 b2 r4.2 b6 (IntKind.i64.wrap (b7 + (1 : Int)))
   else
    none))
 else
  none)
def e (k : Nat) (q0 : Q0) (_q25 : Q1) (a0 a1 : LX) : Option (LX × Int) :=
 (Option.bind (nat_Cmp.f k a0 a1) fun r1 =>
  (bif (decide (r1 < (0 : Int))) then
   (some (([] : List Int), (10 : Int)))
  else
   (Option.bind (nat_trim.f k a1) fun r2 =>
    (bif (decide (0 ≤ (a0.length : Int)) && decide ((a0.length : Int) * 4 ≤ 281474976710656) && decide ((a0.length : Int) ≤ 9223372036854775807)) then
     q0 (List.replicate (Int.toNat (a0.length : Int)) (0 : Int)) a0 r2 (0 : Int) (a0.length : Int) (0 : Int)
    else
     none))))
def pts : Nat → (Q0) × (Q1)
 | 0 => (fun _ _ _ _ _ _ => none, fun _ _ _ _ _ _ _ _ => none)
 | k + 1 => (e0 k (pts k).1 (pts k).2, e25 k (pts k).1 (pts k).2)
def p0 (k : Nat) : Q0 := (pts k).1
def p25 (k : Nat) : Q1 := (pts k).2
theorem p0_succ (k : Nat) (x0 x1 x2 : LX) (x3 x4 x5 : Int) : p0 (k + 1) x0 x1 x2 x3 x4 x5 = e0 k (p0 k) (p25 k) x0 x1 x2 x3 x4 x5 := rfl
theorem p25_succ (k : Nat) (x0 x1 x2 : LX) (x3 x4 x5 x6 x7 : Int) : p25 (k + 1) x0 x1 x2 x3 x4 x5 x6 x7 = e25 k (p0 k) (p25 k) x0 x1 x2 x3 x4 x5 x6 x7 := rfl
def f (k : Nat) (a0 a1 : LX) : Option (LX × Int) := e k (p0 k) (p25 k) a0 a1
end nat_Sub

namespace whole_Add
def e (k : Nat) (a0 a1 : ZX) : Option ZX :=
 (Option.bind (whole_Sign.f k a0) fun r1 =>
  (Option.bind (whole_Sign.f k a1) fun r2 =>
   (bif (decide ((IntKind.i64.wrap (r1 * r2)) ≥ (0 : Int))) then
    (Option.bind (nat_Add.f k a0.2 a1.2) fun r3 =>
     (Option.bind (whole_signed.f k r3 [(bitsI .or .i64 (bitsI .or .i64 r1 r2) (1 : Int))]) fun r4 =>
      (some r4)))
   else
    (Option.bind (nat_Cmp.f k a0.2 a1.2) fun r5 =>
     (bif (decide (r5 ≥ (0 : Int))) then
      (Option.bind (nat_Sub.f k a0.2 a1.2) fun r6 =>
       (Option.bind (whole_signed.f k r6.1 [r1]) fun r7 =>
        (some r7)))
     else
      (Option.bind (nat_Sub.f k a1.2 a0.2) fun r8 =>
       (Option.bind (whole_signed.f k r8.1 [r2]) fun r9 =>
        (some r9))))))))
def f (k : Nat) (a0 a1 : ZX) : Option ZX := e k a0 a1
end whole_Add

namespace whole_Sub
def e (k : Nat) (a0 a1 : ZX) : Option ZX :=
 (Option.bind (whole_Neg.f k a1) fun r1 =>
  (Option.bind (whole_Add.f k a0 r1) fun r2 =>
   (some r2)))
def f (k : Nat) (a0 a1 : ZX) : Option ZX := e k a0 a1
end whole_Sub

namespace whole_Cmp
def e (k : Nat) (a0 a1 : ZX) : Option Int :=
 (Option.bind (whole_Sub.f k a0 a1) fun r1 =>
  (Option.bind (whole_Sign.f k r1) fun r2 =>
   (some r2)))
def f (k : Nat) (a0 a1 : ZX) : Option Int := e k a0 a1
end whole_Cmp

namespace ratio_Cmp
def e (k : Nat) (a0 a1 : RX) : Option Int :=
 (Option.bind (ratio_Norm.f k a0) fun r1 =>
  (Option.bind (ratio_Norm.f k a1) fun r2 =>
   (Option.bind (whole_Mul.f k r1.1 (false, r2.2)) fun r3 =>
    (Option.bind (whole_Mul.f k r2.1 (false, r1.2)) fun r4 =>
     (Option.bind (whole_Cmp.f k r3 r4) fun r5 =>
      (some r5))))))
def f (k : Nat) (a0 a1 : RX) : Option Int := e k a0 a1
end ratio_Cmp

namespace approx_power
def e0 (k : Nat) (q0 : RX → Int → Option Int) (b0 : RX) (b1 : Int) : Option Int :=
 (Option.bind (approx_ten.f k (IntKind.i64.wrap (b1 + (1 : Int)))) fun r1 =>
  (Option.bind (ratio_Cmp.f k r1 b0) fun r2 =>
   (bif (decide (r2 ≤ (0 : Int))) then
    q0 b0 (IntKind.i64.wrap (b1 + (1 : Int)))
   else
    (some b1))))
def e (_k : Nat) (q0 : RX → Int → Option Int) (a0 : RX) : Option Int :=
 q0 a0 (-324 : Int)
def pts : Nat → (RX → Int → Option Int)
 | 0 => fun _ _ => none
 | k + 1 => e0 k (pts k)
def p0 (k : Nat) : RX → Int → Option Int := (pts k)
theorem p0_succ (k : Nat) (x0 : RX) (x1 : Int) : p0 (k + 1) x0 x1 = e0 k (p0 k) x0 x1 := rfl
def f (k : Nat) (a0 : RX) : Option Int := e k (p0 k) a0
end approx_power

namespace ratio_Div
def e (k : Nat) (a0 a1 : RX) : Option (RX × Int) :=
 (Option.bind (ratio_Inv.f k a1) fun r1 =>
  (bif (!decide (r1.2 = (0 : Int))) then
   (some (((false, ([] : List Int)), ([] : List Int)), r1.2))
  else
   (Option.bind (ratio_Mul.f k a0 r1.1) fun r2 =>
    (some (r2, (0 : Int))))))
def f (k : Nat) (a0 a1 : RX) : Option (RX × Int) := e k a0 a1
end ratio_Div

namespace whole_Quo
def e (k : Nat) (a0 a1 : ZX) : Option (ZX × ZX × Int) :=
 (Option.bind (nat_Div.f k a0.2 a1.2) fun r1 =>
  (bif (!decide (r1.2.2 = (0 : Int))) then
   (some ((false, ([] : List Int)), (false, ([] : List Int)), r1.2.2))
  else
   (Option.bind (whole_Sign.f k a0) fun r2 =>
    (Option.bind (whole_Sign.f k a1) fun r3 =>
     (Option.bind (whole_signed.f k r1.1 [r2, r3]) fun r4 =>
      (Option.bind (whole_Sign.f k a0) fun r5 =>
       (Option.bind (whole_signed.f k r1.2.1 [r5]) fun r6 =>
        (some (r4, r6, (0 : Int))))))))))
def f (k : Nat) (a0 a1 : ZX) : Option (ZX × ZX × Int) := e k a0 a1
end whole_Quo

namespace whole_moved
def e (k : Nat) (a0 a1 a2 : ZX) (a3 : Bool) : Option (ZX × ZX × Int) :=
 (bif (!a3) then
  (some (a0, a1, (0 : Int)))
 else
  (Option.bind (whole_Sign.f k a1) fun r1 =>
   (Option.bind (whole_Sign.f k a2) fun r2 =>
    (bif (decide (r1 = r2)) then
     (Option.bind (whole_Of.f k (1 : Int)) fun r3 =>
      (Option.bind (whole_Add.f k a0 r3) fun r4 =>
       (Option.bind (whole_Sub.f k a1 a2) fun r5 =>
        (some (r4, r5, (0 : Int))))))
    else
     (Option.bind (whole_Of.f k (1 : Int)) fun r6 =>
      (Option.bind (whole_Sub.f k a0 r6) fun r7 =>
       (Option.bind (whole_Add.f k a1 a2) fun r8 =>
        (some (r7, r8, (0 : Int))))))))))
def f (k : Nat) (a0 a1 a2 : ZX) (a3 : Bool) : Option (ZX × ZX × Int) := e k a0 a1 a2 a3
end whole_moved

namespace whole_Floor
def e (k : Nat) (a0 a1 : ZX) : Option (ZX × ZX × Int) :=
 (Option.bind (whole_Quo.f k a0 a1) fun r1 =>
  (bif (!decide (r1.2.2 = (0 : Int))) then
   (some (r1.1, r1.2.1, r1.2.2))
  else
   (Option.bind (whole_Sign.f k r1.2.1) fun r2 =>
    (Option.bind (whole_Sign.f k a1) fun r3 =>
     (Option.bind (whole_moved.f k r1.1 r1.2.1 a1 (decide ((IntKind.i64.wrap (r2 * r3)) < (0 : Int)))) fun r4 =>
      (some (r4.1, r4.2.1, r4.2.2)))))))
def f (k : Nat) (a0 a1 : ZX) : Option (ZX × ZX × Int) := e k a0 a1
end whole_Floor

namespace ratio_Floor
def e (k : Nat) (a0 : RX) : Option ZX :=
 (Option.bind (ratio_Norm.f k a0) fun r1 =>
  (Option.bind (whole_Floor.f k r1.1 (false, r1.2)) fun r2 =>
   (some r2.1)))
def f (k : Nat) (a0 : RX) : Option ZX := e k a0
end ratio_Floor

namespace nat_Text
abbrev Q0 : Type := Unit → Option (ByteArray × Int)
abbrev Q1 : Type := LX → Int → LX → Option (ByteArray × Int)
abbrev Q2 : Type := LX → LX → Int → Int → Option (ByteArray × Int)
def e5 (_k : Nat) (_q5 : Q0) (_q0 : Q1) (_q4 : Q2) (_ : Unit) : Option (ByteArray × Int) :=
 (some ((ByteArray.mk #[]), (14 : Int)))
def e0 (k : Nat) (_q5 : Q0) (q0 : Q1) (q4 : Q2) (b0 : LX) (b1 : Int) (b2 : LX) : Option (ByteArray × Int) :=
 (bif (decide ((b2.length : Int) > (0 : Int))) then
  (Option.bind (nat_short.f k b2 (IntKind.u32.wrap b1)) fun r2 =>
   (Option.bind (nat_trim.f k r2.1) fun r3 =>
    (bif (decide (0 ≤ r2.2) && decide (r2.2 < (str_9f9f5111f7.size : Int))) then
     (bif (Nat.ble ((b0.length + [(btI str_9f9f5111f7 r2.2)].length) * 1) 140737488355328 && Nat.ble (b0.length + [(btI str_9f9f5111f7 r2.2)].length) 9223372036854775807) then
      q0 (b0 ++ [(btI str_9f9f5111f7 r2.2)]) b1 r3
     else
      none)
    else
     none)))
 else
  (bif (decide ((b0.length : Int) = (0 : Int))) then
   (some ((ByteArray.mk #[48]), (0 : Int)))
  else
   (bif (decide (0 ≤ (b0.length : Int)) && decide ((b0.length : Int) * 1 ≤ 281474976710656) && decide ((b0.length : Int) ≤ 9223372036854775807)) then
    q4 b0 (List.replicate (Int.toNat (b0.length : Int)) (0 : Int)) (b0.length : Int) (0 : Int)
   else
    none)))
def e4 (_k : Nat) (_q5 : Q0) (_q0 : Q1) (q4 : Q2) (b0 b1 : LX) (b2 b3 : Int) : Option (ByteArray × Int) :=
 (bif (decide (b3 < b2)) then
  (bif (decide (0 ≤ b3) && decide (b3 < (b0.length : Int))) then
   (bif (decide (0 ≤ (IntKind.i64.wrap ((IntKind.i64.wrap ((b0.length : Int) - (1 : Int))) - b3))) && decide ((IntKind.i64.wrap ((IntKind.i64.wrap ((b0.length : Int) - (1 : Int))) - b3)) < (b1.length : Int))) then
    q4 b0 (setN (nthD (0 : Int) b0 (Int.toNat b3)) b1 (Int.toNat (IntKind.i64.wrap ((IntKind.i64.wrap ((b0.length : Int) - (1 : Int))) - b3)))) b2 (IntKind.i64.wrap (b3 + (1 : Int)))
   else
    none)
  else
   none)
 else
  (some ((ofB b1), (0 : Int))))
def e (k : Nat) (q5 : Q0) (q0 : Q1) (_q4 : Q2) (a0 : LX) (a1 : Int) : Option (ByteArray × Int) :=
 (bif (decide (a1 < (2 : Int))) then
  q5 ()
 else
  (bif (decide (a1 > (16 : Int))) then
   q5 ()
  else
   (Option.bind (nat_own.f k a0) fun r1 =>
    q0 ([] : List Int) a1 r1)))
def pts : Nat → (Q0) × (Q1) × (Q2)
 | 0 => (fun _ => none, fun _ _ _ => none, fun _ _ _ _ => none)
 | k + 1 => (e5 k (pts k).1 (pts k).2.1 (pts k).2.2, e0 k (pts k).1 (pts k).2.1 (pts k).2.2, e4 k (pts k).1 (pts k).2.1 (pts k).2.2)
def p5 (k : Nat) : Q0 := (pts k).1
def p0 (k : Nat) : Q1 := (pts k).2.1
def p4 (k : Nat) : Q2 := (pts k).2.2
theorem p0_succ (k : Nat) (x0 : LX) (x1 : Int) (x2 : LX) : p0 (k + 1) x0 x1 x2 = e0 k (p5 k) (p0 k) (p4 k) x0 x1 x2 := rfl
theorem p4_succ (k : Nat) (x0 x1 : LX) (x2 x3 : Int) : p4 (k + 1) x0 x1 x2 x3 = e4 k (p5 k) (p0 k) (p4 k) x0 x1 x2 x3 := rfl
def f (k : Nat) (a0 : LX) (a1 : Int) : Option (ByteArray × Int) := e k (p5 k) (p0 k) (p4 k) a0 a1
end nat_Text

namespace whole_Text
def e (k : Nat) (a0 : ZX) : Option ByteArray :=
 (Option.bind (nat_Text.f k a0.2 (10 : Int)) fun r1 =>
  (Option.bind (whole_Sign.f k a0) fun r2 =>
   (bif (decide (r2 < (0 : Int))) then
    (bif (decide ((((ByteArray.mk #[45]).size + r1.1.size : Nat) : Int) > IntKind.i64.max)) then
     none
    else
     (some ((ByteArray.mk #[45]) ++ r1.1)))
   else
    (some r1.1))))
def f (k : Nat) (a0 : ZX) : Option ByteArray := e k a0
end whole_Text

namespace strings_trimRightByte
abbrev Q0 : Type := ByteArray → Int → Option ByteArray
abbrev Q1 : Type := ByteArray → Option ByteArray
def e0 (_k : Nat) (q0 : Q0) (q7 : Q1) (b0 : ByteArray) (b1 : Int) : Option ByteArray :=
 (bif (decide ((b0.size : Int) > (0 : Int))) then
  (bif (decide (0 ≤ (IntKind.i64.wrap ((b0.size : Int) - (1 : Int)))) && decide ((IntKind.i64.wrap ((b0.size : Int) - (1 : Int))) < (b0.size : Int))) then
   (bif (decide ((btI b0 (IntKind.i64.wrap ((b0.size : Int) - (1 : Int)))) = b1)) then
    (bif (decide (0 ≤ (0 : Int)) && decide ((0 : Int) ≤ (IntKind.i64.wrap ((b0.size : Int) - (1 : Int)))) && decide ((IntKind.i64.wrap ((b0.size : Int) - (1 : Int))) ≤ (b0.size : Int))) then
     q0 (b0.extract (Int.toNat (0 : Int)) (Int.toNat (IntKind.i64.wrap ((b0.size : Int) - (1 : Int))))) b1
    else
     none)
   else
    q7 b0)
  else
   none)
 else
  q7 b0)
def e7 (_k : Nat) (_q0 : Q0) (_q7 : Q1) (b0 : ByteArray) : Option ByteArray :=
 (some b0)
def e (_k : Nat) (q0 : Q0) (_q7 : Q1) (a0 : ByteArray) (a1 : Int) : Option ByteArray :=
 q0 a0 a1
def pts : Nat → (Q0) × (Q1)
 | 0 => (fun _ _ => none, fun _ => none)
 | k + 1 => (e0 k (pts k).1 (pts k).2, e7 k (pts k).1 (pts k).2)
def p0 (k : Nat) : Q0 := (pts k).1
def p7 (k : Nat) : Q1 := (pts k).2
theorem p0_succ (k : Nat) (x0 : ByteArray) (x1 : Int) : p0 (k + 1) x0 x1 = e0 k (p0 k) (p7 k) x0 x1 := rfl
theorem p7_succ (k : Nat) (x0 : ByteArray) : p7 (k + 1) x0 = e7 k (p0 k) (p7 k) x0 := rfl
def f (k : Nat) (a0 : ByteArray) (a1 : Int) : Option ByteArray := e k (p0 k) (p7 k) a0 a1
end strings_trimRightByte

namespace utf8_RuneStart
def e (_k : Nat) (a0 : Int) : Option Bool :=
 (some (!decide ((bitsI .and .u8 a0 (192 : Int)) = (128 : Int))))
def f (k : Nat) (a0 : Int) : Option Bool := e k a0
end utf8_RuneStart

namespace utf8_decodeRuneInStringSlow
def e (_k : Nat) (a0 : ByteArray) : Option (Int × Int) :=
 (bif (decide ((a0.size : Int) < (1 : Int))) then
  (some ((65533 : Int), (0 : Int)))
 else
  (bif (decide ((0 : Int) < (a0.size : Int))) then
   none
  else
   none))
def f (k : Nat) (a0 : ByteArray) : Option (Int × Int) := e k a0
end utf8_decodeRuneInStringSlow

namespace utf8_DecodeRuneInString
def e7 (k : Nat) (_q7 : ByteArray → Option (Int × Int)) (b0 : ByteArray) : Option (Int × Int) :=
 (Option.bind (utf8_decodeRuneInStringSlow.f k b0) fun r1 =>
  (some (r1.1, r1.2)))
def e (_k : Nat) (q7 : ByteArray → Option (Int × Int)) (a0 : ByteArray) : Option (Int × Int) :=
 (bif (!(a0.toList == (ByteArray.mk #[]).toList)) then
  (bif (decide ((0 : Int) < (a0.size : Int))) then
   (bif (decide ((btI a0 (0 : Int)) < (128 : Int))) then
    (bif (decide ((0 : Int) < (a0.size : Int))) then
     (some ((IntKind.i32.wrap (btI a0 (0 : Int))), (1 : Int)))
    else
     none)
   else
    q7 a0)
  else
   none)
 else
  q7 a0)
def pts : Nat → (ByteArray → Option (Int × Int))
 | 0 => fun _ => none
 | k + 1 => e7 k (pts k)
def p7 (k : Nat) : ByteArray → Option (Int × Int) := (pts k)
def f (k : Nat) (a0 : ByteArray) : Option (Int × Int) := e k (p7 k) a0
end utf8_DecodeRuneInString

namespace utf8_DecodeLastRuneInString
abbrev Q0 : Type := ByteArray → Int → Int → Int → Option (Int × Int)
abbrev Q1 : Type := ByteArray → Int → Int → Option (Int × Int)
def e0 (k : Nat) (q0 : Q0) (q27 _q31 : Q1) (b0 : ByteArray) (b1 b2 b3 : Int) : Option (Int × Int) :=
 (bif (decide (b2 ≥ b3)) then
  (bif (decide (0 ≤ b2) && decide (b2 < (b0.size : Int))) then
   (Option.bind (utf8_RuneStart.f k (btI b0 b2)) fun r1 =>
    (bif r1 then
     q27 b0 b1 b2
    else
     q0 b0 b1 (IntKind.i64.wrap (b2 - (1 : Int))) b3))
  else
   none)
 else
  q27 b0 b1 b2)
def e27 (_k : Nat) (_q0 : Q0) (_q27 q31 : Q1) (b0 : ByteArray) (b1 b2 : Int) : Option (Int × Int) :=
 (bif (decide (b2 < (0 : Int))) then
  q31 b0 b1 (0 : Int)
 else
  q31 b0 b1 b2)
def e31 (k : Nat) (_q0 : Q0) (_q27 _q31 : Q1) (b0 : ByteArray) (b1 b2 : Int) : Option (Int × Int) :=
 (bif (decide (0 ≤ b2) && decide (b2 ≤ b1) && decide (b1 ≤ (b0.size : Int))) then
  (Option.bind (utf8_DecodeRuneInString.f k (b0.extract (Int.toNat b2) (Int.toNat b1))) fun r2 =>
   (bif (!decide ((IntKind.i64.wrap (b2 + r2.2)) = b1)) then
    (some ((65533 : Int), (1 : Int)))
   else
    (some (r2.1, r2.2))))
 else
  none)
def e (_k : Nat) (q0 : Q0) (_q27 _q31 : Q1) (a0 : ByteArray) : Option (Int × Int) :=
 (bif (decide ((a0.size : Int) = (0 : Int))) then
  (some ((65533 : Int), (0 : Int)))
 else
  (bif (decide (0 ≤ (IntKind.i64.wrap ((a0.size : Int) - (1 : Int)))) && decide ((IntKind.i64.wrap ((a0.size : Int) - (1 : Int))) < (a0.size : Int))) then
   (bif (decide ((IntKind.i32.wrap (btI a0 (IntKind.i64.wrap ((a0.size : Int) - (1 : Int))))) < (128 : Int))) then
    (some ((IntKind.i32.wrap (btI a0 (IntKind.i64.wrap ((a0.size : Int) - (1 : Int))))), (1 : Int)))
   else
    q0 a0 (a0.size : Int) (IntKind.i64.wrap ((IntKind.i64.wrap ((a0.size : Int) - (1 : Int))) - (1 : Int))) (bif decide ((0 : Int) > (IntKind.i64.wrap ((a0.size : Int) - (4 : Int)))) then (0 : Int) else (IntKind.i64.wrap ((a0.size : Int) - (4 : Int)))))
  else
   none))
def pts : Nat → (Q0) × (Q1) × (Q1)
 | 0 => (fun _ _ _ _ => none, fun _ _ _ => none, fun _ _ _ => none)
 | k + 1 => (e0 k (pts k).1 (pts k).2.1 (pts k).2.2, e27 k (pts k).1 (pts k).2.1 (pts k).2.2, e31 k (pts k).1 (pts k).2.1 (pts k).2.2)
def p0 (k : Nat) : Q0 := (pts k).1
def p27 (k : Nat) : Q1 := (pts k).2.1
def p31 (k : Nat) : Q1 := (pts k).2.2
def f (k : Nat) (a0 : ByteArray) : Option (Int × Int) := e k (p0 k) (p27 k) (p31 k) a0
end utf8_DecodeLastRuneInString

namespace bytealg_IndexByteString
def f (_k : Nat) (a0 : ByteArray) (a1 : Int) : Option Int := some (Go.Lib.indexByte a0.data.toList a1.toNat.toUInt8)
end bytealg_IndexByteString

namespace stringslite_IndexByte
def e (k : Nat) (a0 : ByteArray) (a1 : Int) : Option Int :=
 (Option.bind (bytealg_IndexByteString.f k a0 a1) fun r1 =>
  (some r1))
def f (k : Nat) (a0 : ByteArray) (a1 : Int) : Option Int := e k a0 a1
end stringslite_IndexByte

namespace strings_IndexByte
def e (k : Nat) (a0 : ByteArray) (a1 : Int) : Option Int :=
 (Option.bind (stringslite_IndexByte.f k a0 a1) fun r1 =>
  (some r1))
def f (k : Nat) (a0 : ByteArray) (a1 : Int) : Option Int := e k a0 a1
end strings_IndexByte

namespace utf8_ValidRune
abbrev Q0 : Type := Int → Option Bool
abbrev Q1 : Type := Unit → Option Bool
def e7 (_k : Nat) (_q7 : Q0) (q11 : Q1) (b0 : Int) : Option Bool :=
 (bif (decide ((57343 : Int) < b0)) then
  (bif (decide (b0 ≤ (1114111 : Int))) then
   (some true)
  else
   q11 ())
 else
  q11 ())
def e11 (_k : Nat) (_q7 : Q0) (_q11 : Q1) (_ : Unit) : Option Bool :=
 (some false)
def e (_k : Nat) (q7 : Q0) (_q11 : Q1) (a0 : Int) : Option Bool :=
 (bif (decide ((0 : Int) ≤ a0)) then
  (bif (decide (a0 < (55296 : Int))) then
   (some true)
  else
   q7 a0)
 else
  q7 a0)
def pts : Nat → (Q0) × (Q1)
 | 0 => (fun _ => none, fun _ => none)
 | k + 1 => (e7 k (pts k).1 (pts k).2, e11 k (pts k).1 (pts k).2)
def p7 (k : Nat) : Q0 := (pts k).1
def p11 (k : Nat) : Q1 := (pts k).2
def f (k : Nat) (a0 : Int) : Option Bool := e k (p7 k) (p11 k) a0
end utf8_ValidRune

namespace bytealg_Cutover
def e (_k : Nat) (a0 : Int) : Option Int :=
 (some (IntKind.i64.wrap (Int.tdiv (IntKind.i64.wrap (a0 + (16 : Int))) (8 : Int))))
def f (k : Nat) (a0 : Int) : Option Int := e k a0
end bytealg_Cutover

namespace strings_IndexRune
abbrev Q0 : Type := ByteArray → Int → Option Int
abbrev Q1 : Type := ByteArray → ByteArray → Int → Int → Option Int
abbrev Q2 : Type := ByteArray → ByteArray → Int → Int → Int → Option Int
def e73 (k : Nat) (_q73 : Q0) (q2 _q23 : Q1) (_q6 : Q2) (b0 : ByteArray) (b1 : Int) : Option Int :=
 (bif (decide (b1 = (65533 : Int))) then
  none
 else
  (Option.bind (utf8_ValidRune.f k b1) fun r2 =>
   (bif (!r2) then
    (some (-1 : Int))
   else
    q2 b0 (Utf8.encode b1) (IntKind.i64.wrap (((Utf8.encode b1).size : Int) - (1 : Int))) (IntKind.i64.wrap (((Utf8.encode b1).size : Int) - (1 : Int))))))
def e2 (k : Nat) (_q73 : Q0) (_q2 q23 : Q1) (_q6 : Q2) (b0 b1 : ByteArray) (b2 b3 : Int) : Option Int :=
 (bif (decide (b3 < (b0.size : Int))) then
  (bif (decide (0 ≤ b3) && decide (b3 < (b0.size : Int))) then
   (bif (decide (0 ≤ b2) && decide (b2 < (b1.size : Int))) then
    (bif (!decide ((btI b0 b3) = (btI b1 b2))) then
     (bif (decide (0 ≤ (IntKind.i64.wrap (b3 + (1 : Int)))) && decide ((IntKind.i64.wrap (b3 + (1 : Int))) ≤ (b0.size : Int)) && decide ((b0.size : Int) ≤ (b0.size : Int))) then
      (bif (decide (0 ≤ b2) && decide (b2 < (b1.size : Int))) then
       (Option.bind (strings_IndexByte.f k (b0.extract (Int.toNat (IntKind.i64.wrap (b3 + (1 : Int)))) (Int.toNat (b0.size : Int))) (btI b1 b2)) fun r3 =>
        (bif (decide (r3 < (0 : Int))) then
         (some (-1 : Int))
        else
         q23 b0 b1 b2 (IntKind.i64.wrap (b3 + (IntKind.i64.wrap (r3 + (1 : Int)))))))
      else
       none)
     else
      none)
    else
     q23 b0 b1 b2 b3)
   else
    none)
  else
   none)
 else
  (some (-1 : Int)))
def e23 (_k : Nat) (_q73 : Q0) (_q2 _q23 : Q1) (q6 : Q2) (b0 b1 : ByteArray) (b2 b3 : Int) : Option Int :=
 q6 b0 b1 b2 b3 (1 : Int)
def e6 (_k : Nat) (_q73 : Q0) (_q2 _q23 : Q1) (q6 : Q2) (b0 b1 : ByteArray) (b2 b3 b4 : Int) : Option Int :=
 (bif (decide (b4 < (b1.size : Int))) then
  (bif (decide (0 ≤ (IntKind.i64.wrap (b3 - b4))) && decide ((IntKind.i64.wrap (b3 - b4)) < (b0.size : Int))) then
   (bif (decide (0 ≤ (IntKind.i64.wrap (b2 - b4))) && decide ((IntKind.i64.wrap (b2 - b4)) < (b1.size : Int))) then
    (bif (!decide ((btI b0 (IntKind.i64.wrap (b3 - b4))) = (btI b1 (IntKind.i64.wrap (b2 - b4))))) then
     none
    else
     q6 b0 b1 b2 b3 (IntKind.i64.wrap (b4 + (1 : Int))))
   else
    none)
  else
   none)
 else
  (some (IntKind.i64.wrap (b3 - b2))))
def e (k : Nat) (q73 : Q0) (_q2 _q23 : Q1) (_q6 : Q2) (a0 : ByteArray) (a1 : Int) : Option Int :=
 (bif (decide ((0 : Int) ≤ a1)) then
  (bif (decide (a1 < (128 : Int))) then
   (Option.bind (strings_IndexByte.f k a0 (IntKind.u8.wrap a1)) fun r1 =>
    (some r1))
  else
   q73 a0 a1)
 else
  q73 a0 a1)
def pts : Nat → (Q0) × (Q1) × (Q1) × (Q2)
 | 0 => (fun _ _ => none, fun _ _ _ _ => none, fun _ _ _ _ => none, fun _ _ _ _ _ => none)
 | k + 1 => (e73 k (pts k).1 (pts k).2.1 (pts k).2.2.1 (pts k).2.2.2, e2 k (pts k).1 (pts k).2.1 (pts k).2.2.1 (pts k).2.2.2, e23 k (pts k).1 (pts k).2.1 (pts k).2.2.1 (pts k).2.2.2, e6 k (pts k).1 (pts k).2.1 (pts k).2.2.1 (pts k).2.2.2)
def p73 (k : Nat) : Q0 := (pts k).1
def p2 (k : Nat) : Q1 := (pts k).2.1
def p23 (k : Nat) : Q1 := (pts k).2.2.1
def p6 (k : Nat) : Q2 := (pts k).2.2.2
def f (k : Nat) (a0 : ByteArray) (a1 : Int) : Option Int := e k (p73 k) (p2 k) (p23 k) (p6 k) a0 a1
end strings_IndexRune

namespace strings_ContainsRune
def e (k : Nat) (a0 : ByteArray) (a1 : Int) : Option Bool :=
 (Option.bind (strings_IndexRune.f k a0 a1) fun r1 =>
  (some (decide (r1 ≥ (0 : Int)))))
def f (k : Nat) (a0 : ByteArray) (a1 : Int) : Option Bool := e k a0 a1
end strings_ContainsRune

namespace strings_trimRightUnicode
abbrev Q0 : Type := ByteArray → ByteArray → Option ByteArray
abbrev Q1 : Type := ByteArray → ByteArray → Int → Int → Option ByteArray
def e0 (k : Nat) (_q0 : Q0) (q11 : Q1) (b0 b1 : ByteArray) : Option ByteArray :=
 (bif (decide ((b0.size : Int) > (0 : Int))) then
  (bif (decide (0 ≤ (IntKind.i64.wrap ((b0.size : Int) - (1 : Int)))) && decide ((IntKind.i64.wrap ((b0.size : Int) - (1 : Int))) < (b0.size : Int))) then
   (bif (decide ((IntKind.i32.wrap (btI b0 (IntKind.i64.wrap ((b0.size : Int) - (1 : Int))))) ≥ (128 : Int))) then
    (Option.bind (utf8_DecodeLastRuneInString.f k b0) fun r1 =>
     q11 b0 b1 r1.1 r1.2)
   else
    q11 b0 b1 (IntKind.i32.wrap (btI b0 (IntKind.i64.wrap ((b0.size : Int) - (1 : Int))))) (1 : Int))
  else
   none)
 else
  (some b0))
def e11 (k : Nat) (q0 : Q0) (_q11 : Q1) (b0 b1 : ByteArray) (b2 b3 : Int) : Option ByteArray :=
 (Option.bind (strings_ContainsRune.f k b1 b2) fun r2 =>
  (bif (!r2) then
   (some b0)
  else
   (bif (decide (0 ≤ (0 : Int)) && decide ((0 : Int) ≤ (IntKind.i64.wrap ((b0.size : Int) - b3))) && decide ((IntKind.i64.wrap ((b0.size : Int) - b3)) ≤ (b0.size : Int))) then
    q0 (b0.extract (Int.toNat (0 : Int)) (Int.toNat (IntKind.i64.wrap ((b0.size : Int) - b3)))) b1
   else
    none)))
def e (_k : Nat) (q0 : Q0) (_q11 : Q1) (a0 a1 : ByteArray) : Option ByteArray :=
 q0 a0 a1
def pts : Nat → (Q0) × (Q1)
 | 0 => (fun _ _ => none, fun _ _ _ _ => none)
 | k + 1 => (e0 k (pts k).1 (pts k).2, e11 k (pts k).1 (pts k).2)
def p0 (k : Nat) : Q0 := (pts k).1
def p11 (k : Nat) : Q1 := (pts k).2
def f (k : Nat) (a0 a1 : ByteArray) : Option ByteArray := e k (p0 k) (p11 k) a0 a1
end strings_trimRightUnicode

namespace strings_TrimRight
abbrev Q0 : Type := ByteArray → Option ByteArray
abbrev Q1 : Type := ByteArray → ByteArray → Option ByteArray
def e5 (_k : Nat) (_q5 : Q0) (_q11 : Q1) (b0 : ByteArray) : Option ByteArray :=
 (some b0)
def e11 (_k : Nat) (_q5 : Q0) (_q11 : Q1) (_b0 _b1 : ByteArray) : Option ByteArray :=
 none
def e (k : Nat) (q5 : Q0) (q11 : Q1) (a0 a1 : ByteArray) : Option ByteArray :=
 (bif (a0.toList == (ByteArray.mk #[]).toList) then
  q5 a0
 else
  (bif (a1.toList == (ByteArray.mk #[]).toList) then
   q5 a0
  else
   (bif (decide ((a1.size : Int) = (1 : Int))) then
    (bif (decide ((0 : Int) < (a1.size : Int))) then
     (bif (decide ((btI a1 (0 : Int)) < (128 : Int))) then
      (bif (decide ((0 : Int) < (a1.size : Int))) then
       (Option.bind (strings_trimRightByte.f k a0 (btI a1 (0 : Int))) fun r1 =>
        (some r1))
      else
       none)
     else
      q11 a0 a1)
    else
     none)
   else
    q11 a0 a1)))
def pts : Nat → (Q0) × (Q1)
 | 0 => (fun _ => none, fun _ _ => none)
 | k + 1 => (e5 k (pts k).1 (pts k).2, e11 k (pts k).1 (pts k).2)
def p5 (k : Nat) : Q0 := (pts k).1
def p11 (k : Nat) : Q1 := (pts k).2
theorem p5_succ (k : Nat) (x0 : ByteArray) : p5 (k + 1) x0 = e5 k (p5 k) (p11 k) x0 := rfl
def f (k : Nat) (a0 a1 : ByteArray) : Option ByteArray := e k (p5 k) (p11 k) a0 a1
end strings_TrimRight

namespace intconv_small
def e (_k : Nat) (a0 : Int) : Option ByteArray :=
 (bif (decide (a0 < (10 : Int))) then
  (bif (decide (0 ≤ a0) && decide (a0 ≤ (IntKind.i64.wrap (a0 + (1 : Int)))) && decide ((IntKind.i64.wrap (a0 + (1 : Int))) ≤ (str_74e7e5bb9d.size : Int))) then
   (some (str_74e7e5bb9d.extract (Int.toNat a0) (Int.toNat (IntKind.i64.wrap (a0 + (1 : Int))))))
  else
   none)
 else
  (bif (decide (0 ≤ (IntKind.i64.wrap (a0 * (2 : Int)))) && decide ((IntKind.i64.wrap (a0 * (2 : Int))) ≤ (IntKind.i64.wrap ((IntKind.i64.wrap (a0 * (2 : Int))) + (2 : Int)))) && decide ((IntKind.i64.wrap ((IntKind.i64.wrap (a0 * (2 : Int))) + (2 : Int))) ≤ (str_bedfbc17df.size : Int))) then
   (some (str_bedfbc17df.extract (Int.toNat (IntKind.i64.wrap (a0 * (2 : Int)))) (Int.toNat (IntKind.i64.wrap ((IntKind.i64.wrap (a0 * (2 : Int))) + (2 : Int))))))
  else
   none))
def f (k : Nat) (a0 : Int) : Option ByteArray := e k a0
end intconv_small

namespace bits_Len64
abbrev Q0 : Type := Int → Int → Option Int
def e9 (_k : Nat) (_q9 q15 _q21 : Q0) (b0 b1 : Int) : Option Int :=
 (bif (decide (b0 ≥ (65536 : Int))) then
  q15 (Int.fdiv b0 (2 ^ 16)) (IntKind.i64.wrap (b1 + (16 : Int)))
 else
  q15 b0 b1)
def e15 (_k : Nat) (_q9 _q15 q21 : Q0) (b0 b1 : Int) : Option Int :=
 (bif (decide (b0 ≥ (256 : Int))) then
  q21 (Int.fdiv b0 (2 ^ 8)) (IntKind.i64.wrap (b1 + (8 : Int)))
 else
  q21 b0 b1)
def e21 (_k : Nat) (_q9 _q15 _q21 : Q0) (b0 b1 : Int) : Option Int :=
 (bif (decide (0 ≤ (IntKind.u8.wrap b0)) && decide ((IntKind.u8.wrap b0) < (str_14a5d850c2.size : Int))) then
  (some (IntKind.i64.wrap (b1 + (IntKind.i64.wrap (btI str_14a5d850c2 (IntKind.u8.wrap b0))))))
 else
  none)
def e (_k : Nat) (q9 _q15 _q21 : Q0) (a0 : Int) : Option Int :=
 (bif (decide (a0 ≥ (4294967296 : Int))) then
  q9 (Int.fdiv a0 (2 ^ 32)) (32 : Int)
 else
  q9 a0 (0 : Int))
def pts : Nat → (Q0) × (Q0) × (Q0)
 | 0 => (fun _ _ => none, fun _ _ => none, fun _ _ => none)
 | k + 1 => (e9 k (pts k).1 (pts k).2.1 (pts k).2.2, e15 k (pts k).1 (pts k).2.1 (pts k).2.2, e21 k (pts k).1 (pts k).2.1 (pts k).2.2)
def p9 (k : Nat) : Q0 := (pts k).1
def p15 (k : Nat) : Q0 := (pts k).2.1
def p21 (k : Nat) : Q0 := (pts k).2.2
def f (k : Nat) (a0 : Int) : Option Int := e k (p9 k) (p15 k) (p21 k) a0
end bits_Len64

namespace intconv_log10Pow2
def e (_k : Nat) (a0 : Int) : Option Int :=
 (some (Int.fdiv (IntKind.i64.wrap (a0 * (78913 : Int))) (2 ^ 18)))
def f (k : Nat) (a0 : Int) : Option Int := e k a0
end intconv_log10Pow2

namespace intconv_bool2_int_
def e (_k : Nat) (a0 : Bool) : Option Int :=
 (bif a0 then
  (some (1 : Int))
 else
  (some (0 : Int)))
def f (k : Nat) (a0 : Bool) : Option Int := e k a0
end intconv_bool2_int_

namespace intconv_isPowerOfTwo
def e (_k : Nat) (a0 : Int) : Option Bool :=
 (some (decide ((bitsI .and .i64 a0 (IntKind.i64.wrap (a0 - (1 : Int)))) = (0 : Int))))
def f (k : Nat) (a0 : Int) : Option Bool := e k a0
end intconv_isPowerOfTwo

namespace bits_TrailingZeros32
def e (_k : Nat) (a0 : Int) : Option Int :=
 (bif (decide (a0 = (0 : Int))) then
  (some (32 : Int))
 else
  none)
def f (k : Nat) (a0 : Int) : Option Int := e k a0
end bits_TrailingZeros32

namespace bits_TrailingZeros64
def e (_k : Nat) (a0 : Int) : Option Int :=
 (bif (decide (a0 = (0 : Int))) then
  (some (64 : Int))
 else
  none)
def f (k : Nat) (a0 : Int) : Option Int := e k a0
end bits_TrailingZeros64

namespace bits_TrailingZeros
def e (k : Nat) (a0 : Int) : Option Int :=
 (Option.bind (bits_TrailingZeros64.f k a0) fun r1 =>
  (some r1))
def f (k : Nat) (a0 : Int) : Option Int := e k a0
end bits_TrailingZeros

namespace intconv_FormatInt
def e9 (_k : Nat) (_q9 : Int → Option ByteArray) (_b0 : Int) : Option ByteArray :=
 none
def e (k : Nat) (q9 : Int → Option ByteArray) (a0 a1 : Int) : Option ByteArray :=
 (bif (decide (a1 = (10 : Int))) then
  (bif (decide ((0 : Int) ≤ a0)) then
   (bif (decide (a0 < (100 : Int))) then
    (Option.bind (intconv_small.f k a0) fun r1 =>
     (some r1))
   else
    q9 a0)
  else
   q9 a0)
 else
  none)
def pts : Nat → (Int → Option ByteArray)
 | 0 => fun _ => none
 | k + 1 => e9 k (pts k)
def p9 (k : Nat) : Int → Option ByteArray := (pts k)
def f (k : Nat) (a0 a1 : Int) : Option ByteArray := e k (p9 k) a0 a1
end intconv_FormatInt

namespace intconv_Itoa
def e (k : Nat) (a0 : Int) : Option ByteArray :=
 (Option.bind (intconv_FormatInt.f k a0 (10 : Int)) fun r1 =>
  (some r1))
def f (k : Nat) (a0 : Int) : Option ByteArray := e k a0
end intconv_Itoa

namespace strconv_Itoa
def f (_k : Nat) (a0 : Int) : Option ByteArray := bif decide (-9223372036854775808 ≤ a0) && decide (a0 ≤ 9223372036854775807) then some ⟨(Go.Lib.itoa a0).toArray⟩ else none
end strconv_Itoa

namespace approx_text
def e9 (k : Nat) (_q9 : ByteArray → Int → Option ByteArray) (b0 : ByteArray) (b1 : Int) : Option ByteArray :=
 (bif (decide (((b0.size + (ByteArray.mk #[101]).size : Nat) : Int) > IntKind.i64.max)) then
  none
 else
  (Option.bind (strconv_Itoa.f k b1) fun r2 =>
   (bif (decide ((((b0 ++ (ByteArray.mk #[101])).size + r2.size : Nat) : Int) > IntKind.i64.max)) then
    none
   else
    (some ((b0 ++ (ByteArray.mk #[101])) ++ r2)))))
def e (k : Nat) (q9 : ByteArray → Int → Option ByteArray) (a0 : ByteArray) (a1 : Int) : Option ByteArray :=
 (Option.bind (strings_TrimRight.f k a0 (ByteArray.mk #[48])) fun r1 =>
  (bif (decide ((r1.size : Int) > (1 : Int))) then
   (bif (decide (0 ≤ (0 : Int)) && decide ((0 : Int) ≤ (1 : Int)) && decide ((1 : Int) ≤ (r1.size : Int))) then
    (bif (decide ((((r1.extract (Int.toNat (0 : Int)) (Int.toNat (1 : Int))).size + (ByteArray.mk #[46]).size : Nat) : Int) > IntKind.i64.max)) then
     none
    else
     (bif (decide (0 ≤ (1 : Int)) && decide ((1 : Int) ≤ (r1.size : Int)) && decide ((r1.size : Int) ≤ (r1.size : Int))) then
      (bif (decide (((((r1.extract (Int.toNat (0 : Int)) (Int.toNat (1 : Int))) ++ (ByteArray.mk #[46])).size + (r1.extract (Int.toNat (1 : Int)) (Int.toNat (r1.size : Int))).size : Nat) : Int) > IntKind.i64.max)) then
       none
      else
       q9 (((r1.extract (Int.toNat (0 : Int)) (Int.toNat (1 : Int))) ++ (ByteArray.mk #[46])) ++ (r1.extract (Int.toNat (1 : Int)) (Int.toNat (r1.size : Int)))) a1)
     else
      none))
   else
    none)
  else
   q9 r1 a1))
def pts : Nat → (ByteArray → Int → Option ByteArray)
 | 0 => fun _ _ => none
 | k + 1 => e9 k (pts k)
def p9 (k : Nat) : ByteArray → Int → Option ByteArray := (pts k)
theorem p9_succ (k : Nat) (x0 : ByteArray) (x1 : Int) : p9 (k + 1) x0 x1 = e9 k (p9 k) x0 x1 := rfl
def f (k : Nat) (a0 : ByteArray) (a1 : Int) : Option ByteArray := e k (p9 k) a0 a1
end approx_text

namespace stringslite_HasPrefix
def e (_k : Nat) (a0 a1 : ByteArray) : Option Bool :=
 (bif (decide ((a0.size : Int) ≥ (a1.size : Int))) then
  (bif (decide (0 ≤ (0 : Int)) && decide ((0 : Int) ≤ (a1.size : Int)) && decide ((a1.size : Int) ≤ (a0.size : Int))) then
   (some ((a0.extract (Int.toNat (0 : Int)) (Int.toNat (a1.size : Int))).toList == a1.toList))
  else
   none)
 else
  (some false))
def f (k : Nat) (a0 a1 : ByteArray) : Option Bool := e k a0 a1
end stringslite_HasPrefix

namespace stringslite_CutPrefix
def e (k : Nat) (a0 a1 : ByteArray) : Option (ByteArray × Bool) :=
 (Option.bind (stringslite_HasPrefix.f k a0 a1) fun r1 =>
  (bif (!r1) then
   (some (a0, false))
  else
   (bif (decide (0 ≤ (a1.size : Int)) && decide ((a1.size : Int) ≤ (a0.size : Int)) && decide ((a0.size : Int) ≤ (a0.size : Int))) then
    (some ((a0.extract (Int.toNat (a1.size : Int)) (Int.toNat (a0.size : Int))), true))
   else
    none)))
def f (k : Nat) (a0 a1 : ByteArray) : Option (ByteArray × Bool) := e k a0 a1
end stringslite_CutPrefix

namespace strings_CutPrefix
def e (k : Nat) (a0 a1 : ByteArray) : Option (ByteArray × Bool) :=
 (Option.bind (stringslite_CutPrefix.f k a0 a1) fun r1 =>
  (some (r1.1, r1.2)))
def f (k : Nat) (a0 a1 : ByteArray) : Option (ByteArray × Bool) := e k a0 a1
end strings_CutPrefix

namespace approx_digits
abbrev Q0 : Type := ByteArray → Int → Option (ByteArray × ByteArray)
def e0 (_k : Nat) (q0 q9 : Q0) (b0 : ByteArray) (b1 : Int) : Option (ByteArray × ByteArray) :=
 (bif (decide (b1 < (b0.size : Int))) then
  (bif (decide (0 ≤ b1) && decide (b1 < (b0.size : Int))) then
   (bif (decide ((btI b0 b1) ≥ (48 : Int))) then
    (bif (decide (0 ≤ b1) && decide (b1 < (b0.size : Int))) then
     (bif (decide ((btI b0 b1) ≤ (57 : Int))) then
      q0 b0 (IntKind.i64.wrap (b1 + (1 : Int)))
     else
      q9 b0 b1)
    else
     none)
   else
    q9 b0 b1)
  else
   none)
 else
  q9 b0 b1)
def e9 (_k : Nat) (_q0 _q9 : Q0) (b0 : ByteArray) (b1 : Int) : Option (ByteArray × ByteArray) :=
 (bif (decide (0 ≤ (0 : Int)) && decide ((0 : Int) ≤ b1) && decide (b1 ≤ (b0.size : Int))) then
  (bif (decide (0 ≤ b1) && decide (b1 ≤ (b0.size : Int)) && decide ((b0.size : Int) ≤ (b0.size : Int))) then
   (some ((b0.extract (Int.toNat (0 : Int)) (Int.toNat b1)), (b0.extract (Int.toNat b1) (Int.toNat (b0.size : Int)))))
  else
   none)
 else
  none)
def e (_k : Nat) (q0 _q9 : Q0) (a0 : ByteArray) : Option (ByteArray × ByteArray) :=
 q0 a0 (0 : Int)
def pts : Nat → (Q0) × (Q0)
 | 0 => (fun _ _ => none, fun _ _ => none)
 | k + 1 => (e0 k (pts k).1 (pts k).2, e9 k (pts k).1 (pts k).2)
def p0 (k : Nat) : Q0 := (pts k).1
def p9 (k : Nat) : Q0 := (pts k).2
theorem p0_succ (k : Nat) (x0 : ByteArray) (x1 : Int) : p0 (k + 1) x0 x1 = e0 k (p0 k) (p9 k) x0 x1 := rfl
theorem p9_succ (k : Nat) (x0 : ByteArray) (x1 : Int) : p9 (k + 1) x0 x1 = e9 k (p0 k) (p9 k) x0 x1 := rfl
def f (k : Nat) (a0 : ByteArray) : Option (ByteArray × ByteArray) := e k (p0 k) (p9 k) a0
end approx_digits

namespace strings_HasPrefix
def e (k : Nat) (a0 a1 : ByteArray) : Option Bool :=
 (Option.bind (stringslite_HasPrefix.f k a0 a1) fun r1 =>
  (some r1))
def f (k : Nat) (a0 a1 : ByteArray) : Option Bool := e k a0 a1
end strings_HasPrefix

namespace strings_trimLeftByte
abbrev Q0 : Type := ByteArray → Int → Option ByteArray
abbrev Q1 : Type := ByteArray → Option ByteArray
def e0 (_k : Nat) (q0 : Q0) (q7 : Q1) (b0 : ByteArray) (b1 : Int) : Option ByteArray :=
 (bif (decide ((b0.size : Int) > (0 : Int))) then
  (bif (decide ((0 : Int) < (b0.size : Int))) then
   (bif (decide ((btI b0 (0 : Int)) = b1)) then
    (bif (decide (0 ≤ (1 : Int)) && decide ((1 : Int) ≤ (b0.size : Int)) && decide ((b0.size : Int) ≤ (b0.size : Int))) then
     q0 (b0.extract (Int.toNat (1 : Int)) (Int.toNat (b0.size : Int))) b1
    else
     none)
   else
    q7 b0)
  else
   none)
 else
  q7 b0)
def e7 (_k : Nat) (_q0 : Q0) (_q7 : Q1) (b0 : ByteArray) : Option ByteArray :=
 (some b0)
def e (_k : Nat) (q0 : Q0) (_q7 : Q1) (a0 : ByteArray) (a1 : Int) : Option ByteArray :=
 q0 a0 a1
def pts : Nat → (Q0) × (Q1)
 | 0 => (fun _ _ => none, fun _ => none)
 | k + 1 => (e0 k (pts k).1 (pts k).2, e7 k (pts k).1 (pts k).2)
def p0 (k : Nat) : Q0 := (pts k).1
def p7 (k : Nat) : Q1 := (pts k).2
theorem p0_succ (k : Nat) (x0 : ByteArray) (x1 : Int) : p0 (k + 1) x0 x1 = e0 k (p0 k) (p7 k) x0 x1 := rfl
theorem p7_succ (k : Nat) (x0 : ByteArray) : p7 (k + 1) x0 = e7 k (p0 k) (p7 k) x0 := rfl
def f (k : Nat) (a0 : ByteArray) (a1 : Int) : Option ByteArray := e k (p0 k) (p7 k) a0 a1
end strings_trimLeftByte

namespace strings_trimLeftUnicode
abbrev Q0 : Type := ByteArray → ByteArray → Option ByteArray
abbrev Q1 : Type := ByteArray → Option ByteArray
def e0 (k : Nat) (q0 : Q0) (q11 : Q1) (b0 b1 : ByteArray) : Option ByteArray :=
 (bif (decide ((b0.size : Int) > (0 : Int))) then
  (Option.bind (utf8_DecodeRuneInString.f k b0) fun r1 =>
   (Option.bind (strings_ContainsRune.f k b1 r1.1) fun r2 =>
    (bif (!r2) then
     q11 b0
    else
     (bif (decide (0 ≤ r1.2) && decide (r1.2 ≤ (b0.size : Int)) && decide ((b0.size : Int) ≤ (b0.size : Int))) then
      q0 (b0.extract (Int.toNat r1.2) (Int.toNat (b0.size : Int))) b1
     else
      none))))
 else
  q11 b0)
def e11 (_k : Nat) (_q0 : Q0) (_q11 : Q1) (b0 : ByteArray) : Option ByteArray :=
 (some b0)
def e (_k : Nat) (q0 : Q0) (_q11 : Q1) (a0 a1 : ByteArray) : Option ByteArray :=
 q0 a0 a1
def pts : Nat → (Q0) × (Q1)
 | 0 => (fun _ _ => none, fun _ => none)
 | k + 1 => (e0 k (pts k).1 (pts k).2, e11 k (pts k).1 (pts k).2)
def p0 (k : Nat) : Q0 := (pts k).1
def p11 (k : Nat) : Q1 := (pts k).2
def f (k : Nat) (a0 a1 : ByteArray) : Option ByteArray := e k (p0 k) (p11 k) a0 a1
end strings_trimLeftUnicode

namespace strings_TrimLeft
abbrev Q0 : Type := ByteArray → Option ByteArray
abbrev Q1 : Type := ByteArray → ByteArray → Option ByteArray
def e5 (_k : Nat) (_q5 : Q0) (_q11 : Q1) (b0 : ByteArray) : Option ByteArray :=
 (some b0)
def e11 (_k : Nat) (_q5 : Q0) (_q11 : Q1) (_b0 _b1 : ByteArray) : Option ByteArray :=
 none
def e (k : Nat) (q5 : Q0) (q11 : Q1) (a0 a1 : ByteArray) : Option ByteArray :=
 (bif (a0.toList == (ByteArray.mk #[]).toList) then
  q5 a0
 else
  (bif (a1.toList == (ByteArray.mk #[]).toList) then
   q5 a0
  else
   (bif (decide ((a1.size : Int) = (1 : Int))) then
    (bif (decide ((0 : Int) < (a1.size : Int))) then
     (bif (decide ((btI a1 (0 : Int)) < (128 : Int))) then
      (bif (decide ((0 : Int) < (a1.size : Int))) then
       (Option.bind (strings_trimLeftByte.f k a0 (btI a1 (0 : Int))) fun r1 =>
        (some r1))
      else
       none)
     else
      q11 a0 a1)
    else
     none)
   else
    q11 a0 a1)))
def pts : Nat → (Q0) × (Q1)
 | 0 => (fun _ => none, fun _ _ => none)
 | k + 1 => (e5 k (pts k).1 (pts k).2, e11 k (pts k).1 (pts k).2)
def p5 (k : Nat) : Q0 := (pts k).1
def p11 (k : Nat) : Q1 := (pts k).2
theorem p5_succ (k : Nat) (x0 : ByteArray) : p5 (k + 1) x0 = e5 k (p5 k) (p11 k) x0 := rfl
def f (k : Nat) (a0 a1 : ByteArray) : Option ByteArray := e k (p5 k) (p11 k) a0 a1
end strings_TrimLeft

namespace intconv_lower
def e (_k : Nat) (a0 : Int) : Option Int :=
 (some (bitsI .or .u8 a0 (32 : Int)))
def f (k : Nat) (a0 : Int) : Option Int := e k a0
end intconv_lower

namespace intconv_underscoreOK
abbrev Q0 : Type := ByteArray → Int → Int → Option Bool
abbrev Q1 : Type := ByteArray → Option Bool
abbrev Q2 : Type := ByteArray → Int → Int → Bool → Option Bool
abbrev Q3 : Type := ByteArray → Int → Bool → Option Bool
def e9 (_k : Nat) (_q9 q11 : Q0) (_q15 : Q1) (_q0 : Q2) (_q27 : Q3) (_q29 _q23 : Q2) (b0 : ByteArray) (b1 b2 : Int) : Option Bool :=
 (bif (decide (0 ≤ (1 : Int)) && decide ((1 : Int) ≤ (b0.size : Int)) && decide ((b0.size : Int) ≤ (b0.size : Int))) then
  q11 (b0.extract (Int.toNat (1 : Int)) (Int.toNat (b0.size : Int))) b1 b2
 else
  none)
def e11 (k : Nat) (_q9 _q11 : Q0) (q15 : Q1) (q0 : Q2) (_q27 : Q3) (_q29 _q23 : Q2) (b0 : ByteArray) (b1 b2 : Int) : Option Bool :=
 (bif (decide ((b0.size : Int) ≥ (2 : Int))) then
  (bif (decide ((0 : Int) < (b0.size : Int))) then
   (bif (decide ((btI b0 (0 : Int)) = (48 : Int))) then
    (bif (decide ((1 : Int) < (b0.size : Int))) then
     (Option.bind (intconv_lower.f k (btI b0 (1 : Int))) fun r1 =>
      (bif (decide (r1 = (98 : Int))) then
       q15 b0
      else
       (bif (decide ((1 : Int) < (b0.size : Int))) then
        (Option.bind (intconv_lower.f k (btI b0 (1 : Int))) fun r2 =>
         (bif (decide (r2 = (111 : Int))) then
          q15 b0
         else
          (bif (decide ((1 : Int) < (b0.size : Int))) then
           (Option.bind (intconv_lower.f k (btI b0 (1 : Int))) fun r3 =>
            (bif (decide (r3 = (120 : Int))) then
             q15 b0
            else
             q0 b0 b1 b2 false))
          else
           none)))
       else
        none)))
    else
     none)
   else
    q0 b0 b1 b2 false)
  else
   none)
 else
  q0 b0 b1 b2 false)
def e15 (k : Nat) (_q9 _q11 : Q0) (_q15 : Q1) (q0 : Q2) (_q27 : Q3) (_q29 _q23 : Q2) (b0 : ByteArray) : Option Bool :=
 (bif (decide ((1 : Int) < (b0.size : Int))) then
  (Option.bind (intconv_lower.f k (btI b0 (1 : Int))) fun r4 =>
   q0 b0 (48 : Int) (2 : Int) (decide (r4 = (120 : Int))))
 else
  none)
def e0 (k : Nat) (_q9 _q11 : Q0) (_q15 : Q1) (_q0 : Q2) (q27 : Q3) (q29 _q23 : Q2) (b0 : ByteArray) (b1 b2 : Int) (b3 : Bool) : Option Bool :=
 (bif (decide (b2 < (b0.size : Int))) then
  (bif (decide (0 ≤ b2) && decide (b2 < (b0.size : Int))) then
   (bif (decide ((48 : Int) ≤ (btI b0 b2))) then
    (bif (decide (0 ≤ b2) && decide (b2 < (b0.size : Int))) then
     (bif (decide ((btI b0 b2) ≤ (57 : Int))) then
      q27 b0 b2 b3
     else
      (bif b3 then
       (bif (decide (0 ≤ b2) && decide (b2 < (b0.size : Int))) then
        (Option.bind (intconv_lower.f k (btI b0 b2)) fun r5 =>
         (bif (decide ((97 : Int) ≤ r5)) then
          (bif (decide (0 ≤ b2) && decide (b2 < (b0.size : Int))) then
           (Option.bind (intconv_lower.f k (btI b0 b2)) fun r6 =>
            (bif (decide (r6 ≤ (102 : Int))) then
             q27 b0 b2 b3
            else
             q29 b0 b1 b2 b3))
          else
           none)
         else
          q29 b0 b1 b2 b3))
       else
        none)
      else
       q29 b0 b1 b2 b3))
    else
     none)
   else
    (bif b3 then
     (bif (decide (0 ≤ b2) && decide (b2 < (b0.size : Int))) then
      (Option.bind (intconv_lower.f k (btI b0 b2)) fun r7 =>
       (bif (decide ((97 : Int) ≤ r7)) then
        (bif (decide (0 ≤ b2) && decide (b2 < (b0.size : Int))) then
         (Option.bind (intconv_lower.f k (btI b0 b2)) fun r8 =>
          (bif (decide (r8 ≤ (102 : Int))) then
           q27 b0 b2 b3
          else
           q29 b0 b1 b2 b3))
        else
         none)
       else
        q29 b0 b1 b2 b3))
     else
      none)
    else
     q29 b0 b1 b2 b3))
  else
   none)
 else
  (some (!decide (b1 = (95 : Int)))))
def e27 (_k : Nat) (_q9 _q11 : Q0) (_q15 : Q1) (_q0 : Q2) (_q27 : Q3) (_q29 q23 : Q2) (b0 : ByteArray) (b1 : Int) (b2 : Bool) : Option Bool :=
 q23 b0 (48 : Int) b1 b2
def e29 (_k : Nat) (_q9 _q11 : Q0) (_q15 : Q1) (_q0 : Q2) (_q27 : Q3) (_q29 q23 : Q2) (b0 : ByteArray) (b1 b2 : Int) (b3 : Bool) : Option Bool :=
 (bif (decide (0 ≤ b2) && decide (b2 < (b0.size : Int))) then
  (bif (decide ((btI b0 b2) = (95 : Int))) then
   (bif (!decide (b1 = (48 : Int))) then
    (some false)
   else
    q23 b0 (95 : Int) b2 b3)
  else
   (bif (decide (b1 = (95 : Int))) then
    (some false)
   else
    q23 b0 (33 : Int) b2 b3))
 else
  none)
def e23 (_k : Nat) (_q9 _q11 : Q0) (_q15 : Q1) (q0 : Q2) (_q27 : Q3) (_q29 _q23 : Q2) (b0 : ByteArray) (b1 b2 : Int) (b3 : Bool) : Option Bool :=
 q0 b0 b1 (IntKind.i64.wrap (b2 + (1 : Int))) b3
def e (_k : Nat) (q9 q11 : Q0) (_q15 : Q1) (_q0 : Q2) (_q27 : Q3) (_q29 _q23 : Q2) (a0 : ByteArray) : Option Bool :=
 (bif (decide ((a0.size : Int) ≥ (1 : Int))) then
  (bif (decide ((0 : Int) < (a0.size : Int))) then
   (bif (decide ((btI a0 (0 : Int)) = (45 : Int))) then
    q9 a0 (94 : Int) (0 : Int)
   else
    (bif (decide ((0 : Int) < (a0.size : Int))) then
     (bif (decide ((btI a0 (0 : Int)) = (43 : Int))) then
      q9 a0 (94 : Int) (0 : Int)
     else
      q11 a0 (94 : Int) (0 : Int))
    else
     none))
  else
   none)
 else
  q11 a0 (94 : Int) (0 : Int))
def pts : Nat → (Q0) × (Q0) × (Q1) × (Q2) × (Q3) × (Q2) × (Q2)
 | 0 => (fun _ _ _ => none, fun _ _ _ => none, fun _ => none, fun _ _ _ _ => none, fun _ _ _ => none, fun _ _ _ _ => none, fun _ _ _ _ => none)
 | k + 1 => (e9 k (pts k).1 (pts k).2.1 (pts k).2.2.1 (pts k).2.2.2.1 (pts k).2.2.2.2.1 (pts k).2.2.2.2.2.1 (pts k).2.2.2.2.2.2, e11 k (pts k).1 (pts k).2.1 (pts k).2.2.1 (pts k).2.2.2.1 (pts k).2.2.2.2.1 (pts k).2.2.2.2.2.1 (pts k).2.2.2.2.2.2, e15 k (pts k).1 (pts k).2.1 (pts k).2.2.1 (pts k).2.2.2.1 (pts k).2.2.2.2.1 (pts k).2.2.2.2.2.1 (pts k).2.2.2.2.2.2, e0 k (pts k).1 (pts k).2.1 (pts k).2.2.1 (pts k).2.2.2.1 (pts k).2.2.2.2.1 (pts k).2.2.2.2.2.1 (pts k).2.2.2.2.2.2, e27 k (pts k).1 (pts k).2.1 (pts k).2.2.1 (pts k).2.2.2.1 (pts k).2.2.2.2.1 (pts k).2.2.2.2.2.1 (pts k).2.2.2.2.2.2, e29 k (pts k).1 (pts k).2.1 (pts k).2.2.1 (pts k).2.2.2.1 (pts k).2.2.2.2.1 (pts k).2.2.2.2.2.1 (pts k).2.2.2.2.2.2, e23 k (pts k).1 (pts k).2.1 (pts k).2.2.1 (pts k).2.2.2.1 (pts k).2.2.2.2.1 (pts k).2.2.2.2.2.1 (pts k).2.2.2.2.2.2)
def p9 (k : Nat) : Q0 := (pts k).1
def p11 (k : Nat) : Q0 := (pts k).2.1
def p15 (k : Nat) : Q1 := (pts k).2.2.1
def p0 (k : Nat) : Q2 := (pts k).2.2.2.1
def p27 (k : Nat) : Q3 := (pts k).2.2.2.2.1
def p29 (k : Nat) : Q2 := (pts k).2.2.2.2.2.1
def p23 (k : Nat) : Q2 := (pts k).2.2.2.2.2.2
def f (k : Nat) (a0 : ByteArray) : Option Bool := e k (p9 k) (p11 k) (p15 k) (p0 k) (p27 k) (p29 k) (p23 k) a0
end intconv_underscoreOK

namespace intconv_ParseUint
abbrev Q0 : Type := ByteArray → Int → Int → Bool → ByteArray → Option (Int × Unit)
abbrev Q1 : Type := Unit → Option (Int × Unit)
abbrev Q2 : Type := ByteArray → Int → Bool → ByteArray → Option (Int × Unit)
abbrev Q3 : Type := ByteArray → Int → Int → Bool → ByteArray → Int → Option (Int × Unit)
abbrev Q4 : Type := Int → Bool → ByteArray → Int → Int → Bool → Int → LX → Int → Int → Option (Int × Unit)
abbrev Q5 : Type := Int → Bool → ByteArray → Int → Int → Bool → Int → Int → LX → Int → Int → Option (Int × Unit)
abbrev Q6 : Type := Int → Option (Int × Unit)
def e43 (_k : Nat) (_q43 _q15 q51 : Q0) (q49 : Q1) (_q31 : Q2) (_q65 : Q3) (_q37 : Q2) (_q6 : Q4) (_q21 : Q2) (_q85 : Q5) (_q117 _q107 : Q6) (_q89 : Q5) (_q79 : Q1) (b0 : ByteArray) (b1 b2 : Int) (b3 : Bool) (b4 : ByteArray) : Option (Int × Unit) :=
 (bif (decide (b2 = (0 : Int))) then
  q51 b0 b1 (64 : Int) b3 b4
 else
  (bif (decide (b2 < (0 : Int))) then
   q49 ()
  else
   (bif (decide (b2 > (64 : Int))) then
    q49 ()
   else
    q51 b0 b1 b2 b3 b4)))
def e15 (k : Nat) (q43 _q15 _q51 : Q0) (_q49 : Q1) (q31 : Q2) (_q65 : Q3) (_q37 : Q2) (_q6 : Q4) (_q21 : Q2) (_q85 : Q5) (_q117 _q107 : Q6) (_q89 : Q5) (_q79 : Q1) (b0 : ByteArray) (b1 b2 : Int) (b3 : Bool) (b4 : ByteArray) : Option (Int × Unit) :=
 (bif (decide (b1 = (0 : Int))) then
  (bif (decide ((0 : Int) < (b0.size : Int))) then
   (bif (decide ((btI b0 (0 : Int)) = (48 : Int))) then
    (bif (decide ((b0.size : Int) ≥ (3 : Int))) then
     (bif (decide ((1 : Int) < (b0.size : Int))) then
      (Option.bind (intconv_lower.f k (btI b0 (1 : Int))) fun r1 =>
       (bif (decide (r1 = (98 : Int))) then
        (bif (decide (0 ≤ (2 : Int)) && decide ((2 : Int) ≤ (b0.size : Int)) && decide ((b0.size : Int) ≤ (b0.size : Int))) then
         q43 (b0.extract (Int.toNat (2 : Int)) (Int.toNat (b0.size : Int))) (2 : Int) b2 b3 b4
        else
         none)
       else
        q31 b0 b2 b3 b4))
     else
      none)
    else
     q31 b0 b2 b3 b4)
   else
    q43 b0 (10 : Int) b2 b3 b4)
  else
   none)
 else
  none)
def e51 (_k : Nat) (_q43 _q15 _q51 : Q0) (_q49 : Q1) (_q31 : Q2) (q65 : Q3) (_q37 : Q2) (_q6 : Q4) (_q21 : Q2) (_q85 : Q5) (_q117 _q107 : Q6) (_q89 : Q5) (_q79 : Q1) (b0 : ByteArray) (b1 b2 : Int) (b3 : Bool) (b4 : ByteArray) : Option (Int × Unit) :=
 (bif (decide (b1 = (10 : Int))) then
  q65 b0 b1 b2 b3 b4 (1844674407370955162 : Int)
 else
  (bif (decide (b1 = (16 : Int))) then
   q65 b0 b1 b2 b3 b4 (1152921504606846976 : Int)
  else
   (bif (decide ((IntKind.u64.wrap b1) = 0)) then
    none
   else
    q65 b0 b1 b2 b3 b4 (IntKind.u64.wrap ((IntKind.u64.wrap (Int.tdiv (18446744073709551615 : Int) (IntKind.u64.wrap b1))) + (1 : Int))))))
def e49 (_k : Nat) (_q43 _q15 _q51 : Q0) (_q49 : Q1) (_q31 : Q2) (_q65 : Q3) (_q37 : Q2) (_q6 : Q4) (_q21 : Q2) (_q85 : Q5) (_q117 _q107 : Q6) (_q89 : Q5) (_q79 : Q1) (_ : Unit) : Option (Int × Unit) :=
 none
def e31 (k : Nat) (q43 _q15 _q51 : Q0) (_q49 : Q1) (_q31 : Q2) (_q65 : Q3) (q37 : Q2) (_q6 : Q4) (_q21 : Q2) (_q85 : Q5) (_q117 _q107 : Q6) (_q89 : Q5) (_q79 : Q1) (b0 : ByteArray) (b1 : Int) (b2 : Bool) (b3 : ByteArray) : Option (Int × Unit) :=
 (bif (decide ((b0.size : Int) ≥ (3 : Int))) then
  (bif (decide ((1 : Int) < (b0.size : Int))) then
   (Option.bind (intconv_lower.f k (btI b0 (1 : Int))) fun r2 =>
    (bif (decide (r2 = (111 : Int))) then
     (bif (decide (0 ≤ (2 : Int)) && decide ((2 : Int) ≤ (b0.size : Int)) && decide ((b0.size : Int) ≤ (b0.size : Int))) then
      q43 (b0.extract (Int.toNat (2 : Int)) (Int.toNat (b0.size : Int))) (8 : Int) b1 b2 b3
     else
      none)
    else
     q37 b0 b1 b2 b3))
  else
   none)
 else
  q37 b0 b1 b2 b3)
def e65 (_k : Nat) (_q43 _q15 _q51 : Q0) (_q49 : Q1) (_q31 : Q2) (_q65 : Q3) (_q37 : Q2) (q6 : Q4) (_q21 : Q2) (_q85 : Q5) (_q117 _q107 : Q6) (_q89 : Q5) (_q79 : Q1) (b0 : ByteArray) (b1 b2 : Int) (b3 : Bool) (b4 : ByteArray) (b5 : Int) : Option (Int × Unit) :=
 (bif (decide ((IntKind.u64.wrap b2) < 0)) then
  none
 else
  (bif (decide ((b0.size : Int) ≤ 9223372036854775807)) then
   q6 b1 b3 b4 b5 (IntKind.u64.wrap ((IntKind.u64.wrap ((1 : Int) * 2 ^ min (Int.toNat (IntKind.u64.wrap b2)) 64)) - (1 : Int))) false (0 : Int) (toB b0) ((toB b0).length : Int) (0 : Int)
  else
   none))
def e37 (k : Nat) (q43 _q15 _q51 : Q0) (_q49 : Q1) (_q31 : Q2) (_q65 : Q3) (_q37 : Q2) (_q6 : Q4) (q21 : Q2) (_q85 : Q5) (_q117 _q107 : Q6) (_q89 : Q5) (_q79 : Q1) (b0 : ByteArray) (b1 : Int) (b2 : Bool) (b3 : ByteArray) : Option (Int × Unit) :=
 (bif (decide ((b0.size : Int) ≥ (3 : Int))) then
  (bif (decide ((1 : Int) < (b0.size : Int))) then
   (Option.bind (intconv_lower.f k (btI b0 (1 : Int))) fun r3 =>
    (bif (decide (r3 = (120 : Int))) then
     (bif (decide (0 ≤ (2 : Int)) && decide ((2 : Int) ≤ (b0.size : Int)) && decide ((b0.size : Int) ≤ (b0.size : Int))) then
      q43 (b0.extract (Int.toNat (2 : Int)) (Int.toNat (b0.size : Int))) (16 : Int) b1 b2 b3
     else
      none)
    else
     q21 b0 b1 b2 b3))
  else
   none)
 else
  q21 b0 b1 b2 b3)
def e6 (k : Nat) (_q43 _q15 _q51 : Q0) (_q49 : Q1) (_q31 : Q2) (_q65 : Q3) (_q37 : Q2) (q6 : Q4) (_q21 : Q2) (q85 : Q5) (q117 _q107 : Q6) (_q89 : Q5) (_q79 : Q1) (b0 : Int) (b1 : Bool) (b2 : ByteArray) (b3 b4 : Int) (b5 : Bool) (b6 : Int) (b7 : LX) (b8 b9 : Int) : Option (Int × Unit) :=
 (bif (decide (b9 < b8)) then
  (bif (decide (0 ≤ b9) && decide (b9 < (b7.length : Int))) then
   (bif (decide ((nthD (0 : Int) b7 (Int.toNat b9)) = (95 : Int))) then
    (bif b1 then
     q6 b0 b1 b2 b3 b4 true b6 b7 b8 (IntKind.i64.wrap (b9 + (1 : Int)))
    else
     q85 b0 b1 b2 b3 b4 b5 b6 (nthD (0 : Int) b7 (Int.toNat b9)) b7 b8 b9)
   else
    q85 b0 b1 b2 b3 b4 b5 b6 (nthD (0 : Int) b7 (Int.toNat b9)) b7 b8 b9)
  else
   none)
 else
  (bif b5 then
   (Option.bind (intconv_underscoreOK.f k b2) fun r4 =>
    (bif (!r4) then
     none
    else
     q117 b6))
  else
   q117 b6))
def e21 (_k : Nat) (q43 _q15 _q51 : Q0) (_q49 : Q1) (_q31 : Q2) (_q65 : Q3) (_q37 : Q2) (_q6 : Q4) (_q21 : Q2) (_q85 : Q5) (_q117 _q107 : Q6) (_q89 : Q5) (_q79 : Q1) (b0 : ByteArray) (b1 : Int) (b2 : Bool) (b3 : ByteArray) : Option (Int × Unit) :=
 (bif (decide (0 ≤ (1 : Int)) && decide ((1 : Int) ≤ (b0.size : Int)) && decide ((b0.size : Int) ≤ (b0.size : Int))) then
  q43 (b0.extract (Int.toNat (1 : Int)) (Int.toNat (b0.size : Int))) (8 : Int) b1 b2 b3
 else
  none)
def e85 (_k : Nat) (_q43 _q15 _q51 : Q0) (_q49 : Q1) (_q31 : Q2) (_q65 : Q3) (_q37 : Q2) (q6 : Q4) (_q21 : Q2) (_q85 : Q5) (_q117 q107 : Q6) (q89 : Q5) (_q79 : Q1) (b0 : Int) (b1 : Bool) (b2 : ByteArray) (b3 b4 : Int) (b5 : Bool) (b6 b7 : Int) (b8 : LX) (b9 b10 : Int) : Option (Int × Unit) :=
 (bif (decide ((48 : Int) ≤ b7)) then
  (bif (decide (b7 ≤ (57 : Int))) then
   (bif (decide ((IntKind.u8.wrap (b7 - (48 : Int))) ≥ (IntKind.u8.wrap b0))) then
    none
   else
    (bif (decide (b6 ≥ b3)) then
     none
    else
     (bif (decide ((IntKind.u64.wrap ((IntKind.u64.wrap (b6 * (IntKind.u64.wrap b0))) + (IntKind.u64.wrap (IntKind.u8.wrap (b7 - (48 : Int)))))) < (IntKind.u64.wrap (b6 * (IntKind.u64.wrap b0))))) then
      q107 b4
     else
      (bif (decide ((IntKind.u64.wrap ((IntKind.u64.wrap (b6 * (IntKind.u64.wrap b0))) + (IntKind.u64.wrap (IntKind.u8.wrap (b7 - (48 : Int)))))) > b4)) then
       q107 b4
      else
       q6 b0 b1 b2 b3 b4 b5 (IntKind.u64.wrap ((IntKind.u64.wrap (b6 * (IntKind.u64.wrap b0))) + (IntKind.u64.wrap (IntKind.u8.wrap (b7 - (48 : Int)))))) b8 b9 (IntKind.i64.wrap (b10 + (1 : Int)))))))
  else
   q89 b0 b1 b2 b3 b4 b5 b6 b7 b8 b9 b10)
 else
  q89 b0 b1 b2 b3 b4 b5 b6 b7 b8 b9 b10)
def e117 (_k : Nat) (_q43 _q15 _q51 : Q0) (_q49 : Q1) (_q31 : Q2) (_q65 : Q3) (_q37 : Q2) (_q6 : Q4) (_q21 : Q2) (_q85 : Q5) (_q117 _q107 : Q6) (_q89 : Q5) (_q79 : Q1) (b0 : Int) : Option (Int × Unit) :=
 (some (b0, ()))
def e107 (_k : Nat) (_q43 _q15 _q51 : Q0) (_q49 : Q1) (_q31 : Q2) (_q65 : Q3) (_q37 : Q2) (_q6 : Q4) (_q21 : Q2) (_q85 : Q5) (_q117 _q107 : Q6) (_q89 : Q5) (_q79 : Q1) (_b0 : Int) : Option (Int × Unit) :=
 none
def e89 (k : Nat) (_q43 _q15 _q51 : Q0) (_q49 : Q1) (_q31 : Q2) (_q65 : Q3) (_q37 : Q2) (q6 : Q4) (_q21 : Q2) (_q85 : Q5) (_q117 q107 : Q6) (_q89 : Q5) (q79 : Q1) (b0 : Int) (b1 : Bool) (b2 : ByteArray) (b3 b4 : Int) (b5 : Bool) (b6 b7 : Int) (b8 : LX) (b9 b10 : Int) : Option (Int × Unit) :=
 (Option.bind (intconv_lower.f k b7) fun r5 =>
  (bif (decide ((97 : Int) ≤ r5)) then
   (Option.bind (intconv_lower.f k b7) fun r6 =>
    (bif (decide (r6 ≤ (122 : Int))) then
     (Option.bind (intconv_lower.f k b7) fun r7 =>
      (bif (decide ((IntKind.u8.wrap ((IntKind.u8.wrap (r7 - (97 : Int))) + (10 : Int))) ≥ (IntKind.u8.wrap b0))) then
       none
      else
       (bif (decide (b6 ≥ b3)) then
        none
       else
        (bif (decide ((IntKind.u64.wrap ((IntKind.u64.wrap (b6 * (IntKind.u64.wrap b0))) + (IntKind.u64.wrap (IntKind.u8.wrap ((IntKind.u8.wrap (r7 - (97 : Int))) + (10 : Int)))))) < (IntKind.u64.wrap (b6 * (IntKind.u64.wrap b0))))) then
         q107 b4
        else
         (bif (decide ((IntKind.u64.wrap ((IntKind.u64.wrap (b6 * (IntKind.u64.wrap b0))) + (IntKind.u64.wrap (IntKind.u8.wrap ((IntKind.u8.wrap (r7 - (97 : Int))) + (10 : Int)))))) > b4)) then
          q107 b4
         else
          q6 b0 b1 b2 b3 b4 b5 (IntKind.u64.wrap ((IntKind.u64.wrap (b6 * (IntKind.u64.wrap b0))) + (IntKind.u64.wrap (IntKind.u8.wrap ((IntKind.u8.wrap (r7 - (97 : Int))) + (10 : Int)))))) b8 b9 (IntKind.i64.wrap (b10 + (1 : Int))))))))
    else
     q79 ()))
  else
   q79 ()))
def e79 (_k : Nat) (_q43 _q15 _q51 : Q0) (_q49 : Q1) (_q31 : Q2) (_q65 : Q3) (_q37 : Q2) (_q6 : Q4) (_q21 : Q2) (_q85 : Q5) (_q117 _q107 : Q6) (_q89 : Q5) (_q79 : Q1) (_ : Unit) : Option (Int × Unit) :=
 none
def e (_k : Nat) (q43 q15 _q51 : Q0) (_q49 : Q1) (_q31 : Q2) (_q65 : Q3) (_q37 : Q2) (_q6 : Q4) (_q21 : Q2) (_q85 : Q5) (_q117 _q107 : Q6) (_q89 : Q5) (_q79 : Q1) (a0 : ByteArray) (a1 a2 : Int) : Option (Int × Unit) :=
 (bif (a0.toList == (ByteArray.mk #[]).toList) then
  none
 else
  (bif (decide ((2 : Int) ≤ a1)) then
   (bif (decide (a1 ≤ (36 : Int))) then
    q43 a0 a1 a2 (decide (a1 = (0 : Int))) a0
   else
    q15 a0 a1 a2 (decide (a1 = (0 : Int))) a0)
  else
   q15 a0 a1 a2 (decide (a1 = (0 : Int))) a0))
def pts : Nat → (Q0) × (Q0) × (Q0) × (Q1) × (Q2) × (Q3) × (Q2) × (Q4) × (Q2) × (Q5) × (Q6) × (Q6) × (Q5) × (Q1)
 | 0 => (fun _ _ _ _ _ => none, fun _ _ _ _ _ => none, fun _ _ _ _ _ => none, fun _ => none, fun _ _ _ _ => none, fun _ _ _ _ _ _ => none, fun _ _ _ _ => none, fun _ _ _ _ _ _ _ _ _ _ => none, fun _ _ _ _ => none, fun _ _ _ _ _ _ _ _ _ _ _ => none, fun _ => none, fun _ => none, fun _ _ _ _ _ _ _ _ _ _ _ => none, fun _ => none)
 | k + 1 => (e43 k (pts k).1 (pts k).2.1 (pts k).2.2.1 (pts k).2.2.2.1 (pts k).2.2.2.2.1 (pts k).2.2.2.2.2.1 (pts k).2.2.2.2.2.2.1 (pts k).2.2.2.2.2.2.2.1 (pts k).2.2.2.2.2.2.2.2.1 (pts k).2.2.2.2.2.2.2.2.2.1 (pts k).2.2.2.2.2.2.2.2.2.2.1 (pts k).2.2.2.2.2.2.2.2.2.2.2.1 (pts k).2.2.2.2.2.2.2.2.2.2.2.2.1 (pts k).2.2.2.2.2.2.2.2.2.2.2.2.2, e15 k (pts k).1 (pts k).2.1 (pts k).2.2.1 (pts k).2.2.2.1 (pts k).2.2.2.2.1 (pts k).2.2.2.2.2.1 (pts k).2.2.2.2.2.2.1 (pts k).2.2.2.2.2.2.2.1 (pts k).2.2.2.2.2.2.2.2.1 (pts k).2.2.2.2.2.2.2.2.2.1 (pts k).2.2.2.2.2.2.2.2.2.2.1 (pts k).2.2.2.2.2.2.2.2.2.2.2.1 (pts k).2.2.2.2.2.2.2.2.2.2.2.2.1 (pts k).2.2.2.2.2.2.2.2.2.2.2.2.2, e51 k (pts k).1 (pts k).2.1 (pts k).2.2.1 (pts k).2.2.2.1 (pts k).2.2.2.2.1 (pts k).2.2.2.2.2.1 (pts k).2.2.2.2.2.2.1 (pts k).2.2.2.2.2.2.2.1 (pts k).2.2.2.2.2.2.2.2.1 (pts k).2.2.2.2.2.2.2.2.2.1 (pts k).2.2.2.2.2.2.2.2.2.2.1 (pts k).2.2.2.2.2.2.2.2.2.2.2.1 (pts k).2.2.2.2.2.2.2.2.2.2.2.2.1 (pts k).2.2.2.2.2.2.2.2.2.2.2.2.2, e49 k (pts k).1 (pts k).2.1 (pts k).2.2.1 (pts k).2.2.2.1 (pts k).2.2.2.2.1 (pts k).2.2.2.2.2.1 (pts k).2.2.2.2.2.2.1 (pts k).2.2.2.2.2.2.2.1 (pts k).2.2.2.2.2.2.2.2.1 (pts k).2.2.2.2.2.2.2.2.2.1 (pts k).2.2.2.2.2.2.2.2.2.2.1 (pts k).2.2.2.2.2.2.2.2.2.2.2.1 (pts k).2.2.2.2.2.2.2.2.2.2.2.2.1 (pts k).2.2.2.2.2.2.2.2.2.2.2.2.2, e31 k (pts k).1 (pts k).2.1 (pts k).2.2.1 (pts k).2.2.2.1 (pts k).2.2.2.2.1 (pts k).2.2.2.2.2.1 (pts k).2.2.2.2.2.2.1 (pts k).2.2.2.2.2.2.2.1 (pts k).2.2.2.2.2.2.2.2.1 (pts k).2.2.2.2.2.2.2.2.2.1 (pts k).2.2.2.2.2.2.2.2.2.2.1 (pts k).2.2.2.2.2.2.2.2.2.2.2.1 (pts k).2.2.2.2.2.2.2.2.2.2.2.2.1 (pts k).2.2.2.2.2.2.2.2.2.2.2.2.2, e65 k (pts k).1 (pts k).2.1 (pts k).2.2.1 (pts k).2.2.2.1 (pts k).2.2.2.2.1 (pts k).2.2.2.2.2.1 (pts k).2.2.2.2.2.2.1 (pts k).2.2.2.2.2.2.2.1 (pts k).2.2.2.2.2.2.2.2.1 (pts k).2.2.2.2.2.2.2.2.2.1 (pts k).2.2.2.2.2.2.2.2.2.2.1 (pts k).2.2.2.2.2.2.2.2.2.2.2.1 (pts k).2.2.2.2.2.2.2.2.2.2.2.2.1 (pts k).2.2.2.2.2.2.2.2.2.2.2.2.2, e37 k (pts k).1 (pts k).2.1 (pts k).2.2.1 (pts k).2.2.2.1 (pts k).2.2.2.2.1 (pts k).2.2.2.2.2.1 (pts k).2.2.2.2.2.2.1 (pts k).2.2.2.2.2.2.2.1 (pts k).2.2.2.2.2.2.2.2.1 (pts k).2.2.2.2.2.2.2.2.2.1 (pts k).2.2.2.2.2.2.2.2.2.2.1 (pts k).2.2.2.2.2.2.2.2.2.2.2.1 (pts k).2.2.2.2.2.2.2.2.2.2.2.2.1 (pts k).2.2.2.2.2.2.2.2.2.2.2.2.2, e6 k (pts k).1 (pts k).2.1 (pts k).2.2.1 (pts k).2.2.2.1 (pts k).2.2.2.2.1 (pts k).2.2.2.2.2.1 (pts k).2.2.2.2.2.2.1 (pts k).2.2.2.2.2.2.2.1 (pts k).2.2.2.2.2.2.2.2.1 (pts k).2.2.2.2.2.2.2.2.2.1 (pts k).2.2.2.2.2.2.2.2.2.2.1 (pts k).2.2.2.2.2.2.2.2.2.2.2.1 (pts k).2.2.2.2.2.2.2.2.2.2.2.2.1 (pts k).2.2.2.2.2.2.2.2.2.2.2.2.2, e21 k (pts k).1 (pts k).2.1 (pts k).2.2.1 (pts k).2.2.2.1 (pts k).2.2.2.2.1 (pts k).2.2.2.2.2.1 (pts k).2.2.2.2.2.2.1 (pts k).2.2.2.2.2.2.2.1 (pts k).2.2.2.2.2.2.2.2.1 (pts k).2.2.2.2.2.2.2.2.2.1 (pts k).2.2.2.2.2.2.2.2.2.2.1 (pts k).2.2.2.2.2.2.2.2.2.2.2.1 (pts k).2.2.2.2.2.2.2.2.2.2.2.2.1 (pts k).2.2.2.2.2.2.2.2.2.2.2.2.2, e85 k (pts k).1 (pts k).2.1 (pts k).2.2.1 (pts k).2.2.2.1 (pts k).2.2.2.2.1 (pts k).2.2.2.2.2.1 (pts k).2.2.2.2.2.2.1 (pts k).2.2.2.2.2.2.2.1 (pts k).2.2.2.2.2.2.2.2.1 (pts k).2.2.2.2.2.2.2.2.2.1 (pts k).2.2.2.2.2.2.2.2.2.2.1 (pts k).2.2.2.2.2.2.2.2.2.2.2.1 (pts k).2.2.2.2.2.2.2.2.2.2.2.2.1 (pts k).2.2.2.2.2.2.2.2.2.2.2.2.2, e117 k (pts k).1 (pts k).2.1 (pts k).2.2.1 (pts k).2.2.2.1 (pts k).2.2.2.2.1 (pts k).2.2.2.2.2.1 (pts k).2.2.2.2.2.2.1 (pts k).2.2.2.2.2.2.2.1 (pts k).2.2.2.2.2.2.2.2.1 (pts k).2.2.2.2.2.2.2.2.2.1 (pts k).2.2.2.2.2.2.2.2.2.2.1 (pts k).2.2.2.2.2.2.2.2.2.2.2.1 (pts k).2.2.2.2.2.2.2.2.2.2.2.2.1 (pts k).2.2.2.2.2.2.2.2.2.2.2.2.2, e107 k (pts k).1 (pts k).2.1 (pts k).2.2.1 (pts k).2.2.2.1 (pts k).2.2.2.2.1 (pts k).2.2.2.2.2.1 (pts k).2.2.2.2.2.2.1 (pts k).2.2.2.2.2.2.2.1 (pts k).2.2.2.2.2.2.2.2.1 (pts k).2.2.2.2.2.2.2.2.2.1 (pts k).2.2.2.2.2.2.2.2.2.2.1 (pts k).2.2.2.2.2.2.2.2.2.2.2.1 (pts k).2.2.2.2.2.2.2.2.2.2.2.2.1 (pts k).2.2.2.2.2.2.2.2.2.2.2.2.2, e89 k (pts k).1 (pts k).2.1 (pts k).2.2.1 (pts k).2.2.2.1 (pts k).2.2.2.2.1 (pts k).2.2.2.2.2.1 (pts k).2.2.2.2.2.2.1 (pts k).2.2.2.2.2.2.2.1 (pts k).2.2.2.2.2.2.2.2.1 (pts k).2.2.2.2.2.2.2.2.2.1 (pts k).2.2.2.2.2.2.2.2.2.2.1 (pts k).2.2.2.2.2.2.2.2.2.2.2.1 (pts k).2.2.2.2.2.2.2.2.2.2.2.2.1 (pts k).2.2.2.2.2.2.2.2.2.2.2.2.2, e79 k (pts k).1 (pts k).2.1 (pts k).2.2.1 (pts k).2.2.2.1 (pts k).2.2.2.2.1 (pts k).2.2.2.2.2.1 (pts k).2.2.2.2.2.2.1 (pts k).2.2.2.2.2.2.2.1 (pts k).2.2.2.2.2.2.2.2.1 (pts k).2.2.2.2.2.2.2.2.2.1 (pts k).2.2.2.2.2.2.2.2.2.2.1 (pts k).2.2.2.2.2.2.2.2.2.2.2.1 (pts k).2.2.2.2.2.2.2.2.2.2.2.2.1 (pts k).2.2.2.2.2.2.2.2.2.2.2.2.2)
def p43 (k : Nat) : Q0 := (pts k).1
def p15 (k : Nat) : Q0 := (pts k).2.1
def p51 (k : Nat) : Q0 := (pts k).2.2.1
def p49 (k : Nat) : Q1 := (pts k).2.2.2.1
def p31 (k : Nat) : Q2 := (pts k).2.2.2.2.1
def p65 (k : Nat) : Q3 := (pts k).2.2.2.2.2.1
def p37 (k : Nat) : Q2 := (pts k).2.2.2.2.2.2.1
def p6 (k : Nat) : Q4 := (pts k).2.2.2.2.2.2.2.1
def p21 (k : Nat) : Q2 := (pts k).2.2.2.2.2.2.2.2.1
def p85 (k : Nat) : Q5 := (pts k).2.2.2.2.2.2.2.2.2.1
def p117 (k : Nat) : Q6 := (pts k).2.2.2.2.2.2.2.2.2.2.1
def p107 (k : Nat) : Q6 := (pts k).2.2.2.2.2.2.2.2.2.2.2.1
def p89 (k : Nat) : Q5 := (pts k).2.2.2.2.2.2.2.2.2.2.2.2.1
def p79 (k : Nat) : Q1 := (pts k).2.2.2.2.2.2.2.2.2.2.2.2.2
def f (k : Nat) (a0 : ByteArray) (a1 a2 : Int) : Option (Int × Unit) := e k (p43 k) (p15 k) (p51 k) (p49 k) (p31 k) (p65 k) (p37 k) (p6 k) (p21 k) (p85 k) (p117 k) (p107 k) (p89 k) (p79 k) a0 a1 a2
end intconv_ParseUint

namespace intconv_ParseInt
abbrev Q0 : Type := ByteArray → Int → Int → Bool → Option (Int × Unit)
abbrev Q1 : Type := Int → Bool → Int → Option (Int × Unit)
abbrev Q2 : Type := Bool → Int → Int → Option (Int × Unit)
abbrev Q3 : Type := Bool → Int → Option (Int × Unit)
abbrev Q4 : Type := Int → Option (Int × Unit)
def e21 (k : Nat) (_q21 : Q0) (q33 : Q1) (_q39 : Q2) (_q43 : Q3) (_q49 : Q4) (b0 : ByteArray) (b1 b2 : Int) (b3 : Bool) : Option (Int × Unit) :=
 (Option.bind (intconv_ParseUint.f k b0 b1 b2) fun r1 =>
  (bif (decide (b2 = (0 : Int))) then
   q33 (64 : Int) b3 r1.1
  else
   q33 b2 b3 r1.1))
def e33 (_k : Nat) (_q21 : Q0) (_q33 : Q1) (q39 : Q2) (_q43 : Q3) (_q49 : Q4) (b0 : Int) (b1 : Bool) (b2 : Int) : Option (Int × Unit) :=
 (bif (decide ((IntKind.u64.wrap (IntKind.i64.wrap (b0 - (1 : Int)))) < 0)) then
  none
 else
  (bif (!b1) then
   (bif (decide (b2 ≥ (IntKind.u64.wrap ((1 : Int) * 2 ^ min (Int.toNat (IntKind.u64.wrap (IntKind.i64.wrap (b0 - (1 : Int))))) 64)))) then
    none
   else
    q39 b1 b2 (IntKind.u64.wrap ((1 : Int) * 2 ^ min (Int.toNat (IntKind.u64.wrap (IntKind.i64.wrap (b0 - (1 : Int))))) 64)))
  else
   q39 b1 b2 (IntKind.u64.wrap ((1 : Int) * 2 ^ min (Int.toNat (IntKind.u64.wrap (IntKind.i64.wrap (b0 - (1 : Int))))) 64))))
def e39 (_k : Nat) (_q21 : Q0) (_q33 : Q1) (_q39 : Q2) (q43 : Q3) (_q49 : Q4) (b0 : Bool) (b1 b2 : Int) : Option (Int × Unit) :=
 (bif b0 then
  (bif (decide (b1 > b2)) then
   none
  else
   q43 b0 b1)
 else
  q43 b0 b1)
def e43 (_k : Nat) (_q21 : Q0) (_q33 : Q1) (_q39 : Q2) (_q43 : Q3) (q49 : Q4) (b0 : Bool) (b1 : Int) : Option (Int × Unit) :=
 (bif b0 then
  q49 (IntKind.i64.wrap (0 - (IntKind.i64.wrap b1)))
 else
  q49 (IntKind.i64.wrap b1))
def e49 (_k : Nat) (_q21 : Q0) (_q33 : Q1) (_q39 : Q2) (_q43 : Q3) (_q49 : Q4) (b0 : Int) : Option (Int × Unit) :=
 (some (b0, ()))
def e (_k : Nat) (q21 : Q0) (_q33 : Q1) (_q39 : Q2) (_q43 : Q3) (_q49 : Q4) (a0 : ByteArray) (a1 a2 : Int) : Option (Int × Unit) :=
 (bif (a0.toList == (ByteArray.mk #[]).toList) then
  none
 else
  (bif (decide ((0 : Int) < (a0.size : Int))) then
   (bif (decide ((btI a0 (0 : Int)) = (43 : Int))) then
    (bif (decide (0 ≤ (1 : Int)) && decide ((1 : Int) ≤ (a0.size : Int)) && decide ((a0.size : Int) ≤ (a0.size : Int))) then
     q21 (a0.extract (Int.toNat (1 : Int)) (Int.toNat (a0.size : Int))) a1 a2 false
    else
     none)
   else
    (bif (decide ((btI a0 (0 : Int)) = (45 : Int))) then
     (bif (decide (0 ≤ (1 : Int)) && decide ((1 : Int) ≤ (a0.size : Int)) && decide ((a0.size : Int) ≤ (a0.size : Int))) then
      q21 (a0.extract (Int.toNat (1 : Int)) (Int.toNat (a0.size : Int))) a1 a2 true
     else
      none)
    else
     q21 a0 a1 a2 false))
  else
   none))
def pts : Nat → (Q0) × (Q1) × (Q2) × (Q3) × (Q4)
 | 0 => (fun _ _ _ _ => none, fun _ _ _ => none, fun _ _ _ => none, fun _ _ => none, fun _ => none)
 | k + 1 => (e21 k (pts k).1 (pts k).2.1 (pts k).2.2.1 (pts k).2.2.2.1 (pts k).2.2.2.2, e33 k (pts k).1 (pts k).2.1 (pts k).2.2.1 (pts k).2.2.2.1 (pts k).2.2.2.2, e39 k (pts k).1 (pts k).2.1 (pts k).2.2.1 (pts k).2.2.2.1 (pts k).2.2.2.2, e43 k (pts k).1 (pts k).2.1 (pts k).2.2.1 (pts k).2.2.2.1 (pts k).2.2.2.2, e49 k (pts k).1 (pts k).2.1 (pts k).2.2.1 (pts k).2.2.2.1 (pts k).2.2.2.2)
def p21 (k : Nat) : Q0 := (pts k).1
def p33 (k : Nat) : Q1 := (pts k).2.1
def p39 (k : Nat) : Q2 := (pts k).2.2.1
def p43 (k : Nat) : Q3 := (pts k).2.2.2.1
def p49 (k : Nat) : Q4 := (pts k).2.2.2.2
def f (k : Nat) (a0 : ByteArray) (a1 a2 : Int) : Option (Int × Unit) := e k (p21 k) (p33 k) (p39 k) (p43 k) (p49 k) a0 a1 a2
end intconv_ParseInt

namespace intconv_Atoi
abbrev Q0 : Type := ByteArray → ByteArray → Option (Int × Unit)
abbrev Q1 : Type := ByteArray → Int → LX → Int → Int → Option (Int × Unit)
abbrev Q2 : Type := ByteArray → Option (Int × Unit)
abbrev Q3 : Type := Int → Option (Int × Unit)
def e11 (_k : Nat) (_q11 : Q0) (q0 : Q1) (_q41 : Q2) (_q39 : Q3) (b0 b1 : ByteArray) : Option (Int × Unit) :=
 (bif (decide (0 ≤ (1 : Int)) && decide ((1 : Int) ≤ (b0.size : Int)) && decide ((b0.size : Int) ≤ (b0.size : Int))) then
  (bif (decide (((b0.extract (Int.toNat (1 : Int)) (Int.toNat (b0.size : Int))).size : Int) < (1 : Int))) then
   none
  else
   (bif (decide (((b0.extract (Int.toNat (1 : Int)) (Int.toNat (b0.size : Int))).size : Int) ≤ 9223372036854775807)) then
    q0 b1 (0 : Int) (toB (b0.extract (Int.toNat (1 : Int)) (Int.toNat (b0.size : Int)))) ((toB (b0.extract (Int.toNat (1 : Int)) (Int.toNat (b0.size : Int)))).length : Int) (0 : Int)
   else
    none))
 else
  none)
def e0 (_k : Nat) (_q11 : Q0) (q0 : Q1) (_q41 : Q2) (q39 : Q3) (b0 : ByteArray) (b1 : Int) (b2 : LX) (b3 b4 : Int) : Option (Int × Unit) :=
 (bif (decide (b4 < b3)) then
  (bif (decide (0 ≤ b4) && decide (b4 < (b2.length : Int))) then
   (bif (decide ((IntKind.u8.wrap ((nthD (0 : Int) b2 (Int.toNat b4)) - (48 : Int))) > (9 : Int))) then
    none
   else
    q0 b0 (IntKind.i64.wrap ((IntKind.i64.wrap (b1 * (10 : Int))) + (IntKind.i64.wrap (IntKind.u8.wrap ((nthD (0 : Int) b2 (Int.toNat b4)) - (48 : Int)))))) b2 b3 (IntKind.i64.wrap (b4 + (1 : Int))))
  else
   none)
 else
  (bif (decide ((0 : Int) < (b0.size : Int))) then
   (bif (decide ((btI b0 (0 : Int)) = (45 : Int))) then
    q39 (IntKind.i64.wrap (0 - b1))
   else
    q39 b1)
  else
   none))
def e41 (k : Nat) (_q11 : Q0) (_q0 : Q1) (_q41 : Q2) (_q39 : Q3) (b0 : ByteArray) : Option (Int × Unit) :=
 (Option.bind (intconv_ParseInt.f k b0 (10 : Int) (0 : Int)) fun r1 =>
  (some (r1.1, r1.2)))
def e39 (_k : Nat) (_q11 : Q0) (_q0 : Q1) (_q41 : Q2) (_q39 : Q3) (b0 : Int) : Option (Int × Unit) :=
 (some (b0, ()))
def e (_k : Nat) (q11 : Q0) (q0 : Q1) (q41 : Q2) (_q39 : Q3) (a0 : ByteArray) : Option (Int × Unit) :=
 (bif (decide ((0 : Int) < (a0.size : Int))) then
  (bif (decide ((a0.size : Int) < (19 : Int))) then
   (bif (decide ((0 : Int) < (a0.size : Int))) then
    (bif (decide ((btI a0 (0 : Int)) = (45 : Int))) then
     q11 a0 a0
    else
     (bif (decide ((0 : Int) < (a0.size : Int))) then
      (bif (decide ((btI a0 (0 : Int)) = (43 : Int))) then
       q11 a0 a0
      else
       (bif (decide ((a0.size : Int) ≤ 9223372036854775807)) then
        q0 a0 (0 : Int) (toB a0) ((toB a0).length : Int) (0 : Int)
       else
        none))
     else
      none))
   else
    none)
  else
   q41 a0)
 else
  q41 a0)
def pts : Nat → (Q0) × (Q1) × (Q2) × (Q3)
 | 0 => (fun _ _ => none, fun _ _ _ _ _ => none, fun _ => none, fun _ => none)
 | k + 1 => (e11 k (pts k).1 (pts k).2.1 (pts k).2.2.1 (pts k).2.2.2, e0 k (pts k).1 (pts k).2.1 (pts k).2.2.1 (pts k).2.2.2, e41 k (pts k).1 (pts k).2.1 (pts k).2.2.1 (pts k).2.2.2, e39 k (pts k).1 (pts k).2.1 (pts k).2.2.1 (pts k).2.2.2)
def p11 (k : Nat) : Q0 := (pts k).1
def p0 (k : Nat) : Q1 := (pts k).2.1
def p41 (k : Nat) : Q2 := (pts k).2.2.1
def p39 (k : Nat) : Q3 := (pts k).2.2.2
theorem p0_succ (k : Nat) (x0 : ByteArray) (x1 : Int) (x2 : LX) (x3 x4 : Int) : p0 (k + 1) x0 x1 x2 x3 x4 = e0 k (p11 k) (p0 k) (p41 k) (p39 k) x0 x1 x2 x3 x4 := rfl
theorem p39_succ (k : Nat) (x0 : Int) : p39 (k + 1) x0 = e39 k (p11 k) (p0 k) (p41 k) (p39 k) x0 := rfl
def f (k : Nat) (a0 : ByteArray) : Option (Int × Unit) := e k (p11 k) (p0 k) (p41 k) (p39 k) a0
end intconv_Atoi

namespace stringslite_Clone
def e (_k : Nat) (a0 : ByteArray) : Option ByteArray :=
 (bif (decide ((a0.size : Int) = (0 : Int))) then
  (some (ByteArray.mk #[]))
 else
  (bif (decide (0 ≤ (a0.size : Int)) && decide ((a0.size : Int) * 1 ≤ 281474976710656) && decide ((a0.size : Int) ≤ 9223372036854775807)) then
   none
  else
   none))
def f (k : Nat) (a0 : ByteArray) : Option ByteArray := e k a0
end stringslite_Clone

namespace strconv_Atoi
def e (k : Nat) (a0 : ByteArray) : Option (Int × Unit) :=
 (Option.bind (intconv_Atoi.f k a0) fun r1 =>
  (some (r1.1, ())))
def f (k : Nat) (a0 : ByteArray) : Option (Int × Unit) := e k a0
end strconv_Atoi

namespace approx_exponent
abbrev Q0 : Type := ByteArray → Int → Option (Int × Bool)
abbrev Q1 : Type := Unit → Option (Int × Bool)
def e9 (k : Nat) (_q9 q11 : Q0) (q17 : Q1) (b0 : ByteArray) (b1 : Int) : Option (Int × Bool) :=
 (bif (decide (b1 < (0 : Int))) then
  q11 b0 b1
 else
  (Option.bind (strings_HasPrefix.f k b0 (ByteArray.mk #[43])) fun r2 =>
   (bif r2 then
    q11 b0 b1
   else
    (Option.bind (approx_digits.f k b0) fun r3 =>
     (bif (r3.1.toList == (ByteArray.mk #[]).toList) then
      q17 ()
     else
      (bif (!(r3.2.toList == (ByteArray.mk #[]).toList)) then
       q17 ()
      else
       (Option.bind (strings_TrimLeft.f k r3.1 (ByteArray.mk #[48])) fun r4 =>
        (bif (decide ((r4.size : Int) > (4 : Int))) then
         (some ((0 : Int), false))
        else
         (bif (decide ((((ByteArray.mk #[48]).size + r4.size : Nat) : Int) > IntKind.i64.max)) then
          none
         else
          (Option.bind (strconv_Atoi.f k ((ByteArray.mk #[48]) ++ r4)) fun r5 =>
           (some ((IntKind.i64.wrap (b1 * r5.1)), (decide (r5.1 ≤ (5000 : Int)))))))))))))))
def e11 (k : Nat) (_q9 _q11 : Q0) (q17 : Q1) (b0 : ByteArray) (b1 : Int) : Option (Int × Bool) :=
 (bif (decide (0 ≤ (1 : Int)) && decide ((1 : Int) ≤ (b0.size : Int)) && decide ((b0.size : Int) ≤ (b0.size : Int))) then
  (Option.bind (approx_digits.f k (b0.extract (Int.toNat (1 : Int)) (Int.toNat (b0.size : Int)))) fun r6 =>
   (bif (r6.1.toList == (ByteArray.mk #[]).toList) then
    q17 ()
   else
    (bif (!(r6.2.toList == (ByteArray.mk #[]).toList)) then
     q17 ()
    else
     (Option.bind (strings_TrimLeft.f k r6.1 (ByteArray.mk #[48])) fun r7 =>
      (bif (decide ((r7.size : Int) > (4 : Int))) then
       (some ((0 : Int), false))
      else
       (bif (decide ((((ByteArray.mk #[48]).size + r7.size : Nat) : Int) > IntKind.i64.max)) then
        none
       else
        (Option.bind (strconv_Atoi.f k ((ByteArray.mk #[48]) ++ r7)) fun r8 =>
         (some ((IntKind.i64.wrap (b1 * r8.1)), (decide (r8.1 ≤ (5000 : Int))))))))))))
 else
  none)
def e17 (_k : Nat) (_q9 _q11 : Q0) (_q17 : Q1) (_ : Unit) : Option (Int × Bool) :=
 (some ((0 : Int), false))
def e (k : Nat) (q9 _q11 : Q0) (_q17 : Q1) (a0 : ByteArray) : Option (Int × Bool) :=
 (Option.bind (strings_HasPrefix.f k a0 (ByteArray.mk #[45])) fun r1 =>
  (bif r1 then
   q9 a0 (-1 : Int)
  else
   q9 a0 (1 : Int)))
def pts : Nat → (Q0) × (Q0) × (Q1)
 | 0 => (fun _ _ => none, fun _ _ => none, fun _ => none)
 | k + 1 => (e9 k (pts k).1 (pts k).2.1 (pts k).2.2, e11 k (pts k).1 (pts k).2.1 (pts k).2.2, e17 k (pts k).1 (pts k).2.1 (pts k).2.2)
def p9 (k : Nat) : Q0 := (pts k).1
def p11 (k : Nat) : Q0 := (pts k).2.1
def p17 (k : Nat) : Q1 := (pts k).2.2
theorem p9_succ (k : Nat) (x0 : ByteArray) (x1 : Int) : p9 (k + 1) x0 x1 = e9 k (p9 k) (p11 k) (p17 k) x0 x1 := rfl
theorem p11_succ (k : Nat) (x0 : ByteArray) (x1 : Int) : p11 (k + 1) x0 x1 = e11 k (p9 k) (p11 k) (p17 k) x0 x1 := rfl
theorem p17_succ (k : Nat) (x0 : Unit) : p17 (k + 1) x0 = e17 k (p9 k) (p11 k) (p17 k) x0 := rfl
def f (k : Nat) (a0 : ByteArray) : Option (Int × Bool) := e k (p9 k) (p11 k) (p17 k) a0
end approx_exponent

namespace nat_Parse
abbrev Q0 : Type := Unit → Option (LX × Int)
abbrev Q1 : Type := ByteArray → Int → Option (LX × Int)
abbrev Q2 : Type := LX → ByteArray → Int → Int → Int → Option (LX × Int)
abbrev Q3 : Type := LX → ByteArray → Int → Int → Int → Int → Int → Int → Option (LX × Int)
def e5 (_k : Nat) (_q5 _q9 : Q0) (_q11 : Q1) (_q0 : Q2) (_q23 : Q0) (_q4 : Q3) (_q45 : Q2) (_ : Unit) : Option (LX × Int) :=
 (some (([] : List Int), (14 : Int)))
def e9 (_k : Nat) (_q5 _q9 : Q0) (_q11 : Q1) (_q0 : Q2) (_q23 : Q0) (_q4 : Q3) (_q45 : Q2) (_ : Unit) : Option (LX × Int) :=
 (some (([] : List Int), (15 : Int)))
def e11 (_k : Nat) (_q5 _q9 : Q0) (_q11 : Q1) (q0 : Q2) (_q23 : Q0) (_q4 : Q3) (_q45 : Q2) (b0 : ByteArray) (b1 : Int) : Option (LX × Int) :=
 q0 ([] : List Int) b0 b1 (b0.size : Int) (0 : Int)
def e0 (k : Nat) (_q5 _q9 : Q0) (_q11 : Q1) (_q0 : Q2) (q23 : Q0) (q4 : Q3) (_q45 : Q2) (b0 : LX) (b1 : ByteArray) (b2 b3 b4 : Int) : Option (LX × Int) :=
 (bif (decide (b4 < b3)) then
  (bif (decide (0 ≤ b4) && decide (b4 < (b1.size : Int))) then
   (bif (decide ((IntKind.i64.wrap ((IntKind.i64.wrap (btI b1 b4)) - (48 : Int))) < (0 : Int))) then
    q23 ()
   else
    (bif (decide ((IntKind.i64.wrap ((IntKind.i64.wrap (btI b1 b4)) - (48 : Int))) ≥ (55 : Int))) then
     q23 ()
    else
     (bif (decide (0 ≤ (IntKind.i64.wrap ((IntKind.i64.wrap (btI b1 b4)) - (48 : Int)))) && decide ((IntKind.i64.wrap ((IntKind.i64.wrap (btI b1 b4)) - (48 : Int))) < (tab_1.length : Int))) then
      (bif (decide ((nthD (0 : Int) tab_1 (Int.toNat (IntKind.i64.wrap ((IntKind.i64.wrap (btI b1 b4)) - (48 : Int))))) ≥ (IntKind.u32.wrap b2))) then
       q23 ()
      else
       (bif (decide (0 ≤ (IntKind.i64.wrap ((IntKind.i64.wrap (btI b1 b4)) - (48 : Int)))) && decide ((IntKind.i64.wrap ((IntKind.i64.wrap (btI b1 b4)) - (48 : Int))) < (tab_1.length : Int))) then
        q4 b0 b1 b2 (IntKind.u64.wrap (nthD (0 : Int) tab_1 (Int.toNat (IntKind.i64.wrap ((IntKind.i64.wrap (btI b1 b4)) - (48 : Int)))))) b3 b4 (b0.length : Int) (0 : Int)
       else
        none))
     else
      none)))
  else
   none)
 else
  (Option.bind (nat_own.f k b0) fun r1 =>
   (some (r1, (0 : Int)))))
def e23 (_k : Nat) (_q5 _q9 : Q0) (_q11 : Q1) (_q0 : Q2) (_q23 : Q0) (_q4 : Q3) (_q45 : Q2) (_ : Unit) : Option (LX × Int) :=
 (some (([] : List Int), (15 : Int)))
def e4 (_k : Nat) (_q5 _q9 : Q0) (_q11 : Q1) (_q0 : Q2) (_q23 : Q0) (q4 : Q3) (q45 : Q2) (b0 : LX) (b1 : ByteArray) (b2 b3 b4 b5 b6 b7 : Int) : Option (LX × Int) :=
 (bif (decide (b7 < b6)) then
  (bif (decide (0 ≤ b7) && decide (b7 < (b0.length : Int))) then
   (bif (decide (0 ≤ b7) && decide (b7 < (b0.length : Int))) then
    q4 (setN (IntKind.u32.wrap (IntKind.u64.wrap ((IntKind.u64.wrap ((IntKind.u64.wrap (nthD (0 : Int) b0 (Int.toNat b7))) * (IntKind.u64.wrap b2))) + b3))) b0 (Int.toNat b7)) b1 b2 (Int.fdiv (IntKind.u64.wrap ((IntKind.u64.wrap ((IntKind.u64.wrap (nthD (0 : Int) b0 (Int.toNat b7))) * (IntKind.u64.wrap b2))) + b3)) (2 ^ 32)) b4 b5 b6 (IntKind.i64.wrap (b7 + (1 : Int)))
   else
    none)
  else
   none)
 else
  (bif (decide (b3 > (0 : Int))) then
   (bif (Nat.ble ((b0.length + [(IntKind.u32.wrap b3)].length) * 4) 140737488355328 && Nat.ble (b0.length + [(IntKind.u32.wrap b3)].length) 9223372036854775807) then
    q45 (b0 ++ [(IntKind.u32.wrap b3)]) b1 b2 b4 b5
   else
    none)
  else
   q45 b0 b1 b2 b4 b5))
def e45 (_k : Nat) (_q5 _q9 : Q0) (_q11 : Q1) (q0 : Q2) (_q23 : Q0) (_q4 : Q3) (_q45 : Q2) (b0 : LX) (b1 : ByteArray) (b2 b3 b4 : Int) : Option (LX × Int) :=
 q0 b0 b1 b2 b3 (IntKind.i64.wrap (b4 + (1 : Int)))
def e (_k : Nat) (q5 q9 : Q0) (q11 : Q1) (_q0 : Q2) (_q23 : Q0) (_q4 : Q3) (_q45 : Q2) (a0 : ByteArray) (a1 : Int) : Option (LX × Int) :=
 (bif (decide (a1 < (2 : Int))) then
  q5 ()
 else
  (bif (decide (a1 > (16 : Int))) then
   q5 ()
  else
   (bif (a0.toList == (ByteArray.mk #[]).toList) then
    q9 ()
   else
    (bif (decide ((a0.size : Int) > (1 : Int))) then
     (bif (decide ((0 : Int) < (a0.size : Int))) then
      (bif (decide ((btI a0 (0 : Int)) = (48 : Int))) then
       q9 ()
      else
       q11 a0 a1)
     else
      none)
    else
     q11 a0 a1))))
def pts : Nat → (Q0) × (Q0) × (Q1) × (Q2) × (Q0) × (Q3) × (Q2)
 | 0 => (fun _ => none, fun _ => none, fun _ _ => none, fun _ _ _ _ _ => none, fun _ => none, fun _ _ _ _ _ _ _ _ => none, fun _ _ _ _ _ => none)
 | k + 1 => (e5 k (pts k).1 (pts k).2.1 (pts k).2.2.1 (pts k).2.2.2.1 (pts k).2.2.2.2.1 (pts k).2.2.2.2.2.1 (pts k).2.2.2.2.2.2, e9 k (pts k).1 (pts k).2.1 (pts k).2.2.1 (pts k).2.2.2.1 (pts k).2.2.2.2.1 (pts k).2.2.2.2.2.1 (pts k).2.2.2.2.2.2, e11 k (pts k).1 (pts k).2.1 (pts k).2.2.1 (pts k).2.2.2.1 (pts k).2.2.2.2.1 (pts k).2.2.2.2.2.1 (pts k).2.2.2.2.2.2, e0 k (pts k).1 (pts k).2.1 (pts k).2.2.1 (pts k).2.2.2.1 (pts k).2.2.2.2.1 (pts k).2.2.2.2.2.1 (pts k).2.2.2.2.2.2, e23 k (pts k).1 (pts k).2.1 (pts k).2.2.1 (pts k).2.2.2.1 (pts k).2.2.2.2.1 (pts k).2.2.2.2.2.1 (pts k).2.2.2.2.2.2, e4 k (pts k).1 (pts k).2.1 (pts k).2.2.1 (pts k).2.2.2.1 (pts k).2.2.2.2.1 (pts k).2.2.2.2.2.1 (pts k).2.2.2.2.2.2, e45 k (pts k).1 (pts k).2.1 (pts k).2.2.1 (pts k).2.2.2.1 (pts k).2.2.2.2.1 (pts k).2.2.2.2.2.1 (pts k).2.2.2.2.2.2)
def p5 (k : Nat) : Q0 := (pts k).1
def p9 (k : Nat) : Q0 := (pts k).2.1
def p11 (k : Nat) : Q1 := (pts k).2.2.1
def p0 (k : Nat) : Q2 := (pts k).2.2.2.1
def p23 (k : Nat) : Q0 := (pts k).2.2.2.2.1
def p4 (k : Nat) : Q3 := (pts k).2.2.2.2.2.1
def p45 (k : Nat) : Q2 := (pts k).2.2.2.2.2.2
theorem p9_succ (k : Nat) (x0 : Unit) : p9 (k + 1) x0 = e9 k (p5 k) (p9 k) (p11 k) (p0 k) (p23 k) (p4 k) (p45 k) x0 := rfl
theorem p11_succ (k : Nat) (x0 : ByteArray) (x1 : Int) : p11 (k + 1) x0 x1 = e11 k (p5 k) (p9 k) (p11 k) (p0 k) (p23 k) (p4 k) (p45 k) x0 x1 := rfl
theorem p0_succ (k : Nat) (x0 : LX) (x1 : ByteArray) (x2 x3 x4 : Int) : p0 (k + 1) x0 x1 x2 x3 x4 = e0 k (p5 k) (p9 k) (p11 k) (p0 k) (p23 k) (p4 k) (p45 k) x0 x1 x2 x3 x4 := rfl
theorem p23_succ (k : Nat) (x0 : Unit) : p23 (k + 1) x0 = e23 k (p5 k) (p9 k) (p11 k) (p0 k) (p23 k) (p4 k) (p45 k) x0 := rfl
theorem p4_succ (k : Nat) (x0 : LX) (x1 : ByteArray) (x2 x3 x4 x5 x6 x7 : Int) : p4 (k + 1) x0 x1 x2 x3 x4 x5 x6 x7 = e4 k (p5 k) (p9 k) (p11 k) (p0 k) (p23 k) (p4 k) (p45 k) x0 x1 x2 x3 x4 x5 x6 x7 := rfl
theorem p45_succ (k : Nat) (x0 : LX) (x1 : ByteArray) (x2 x3 x4 : Int) : p45 (k + 1) x0 x1 x2 x3 x4 = e45 k (p5 k) (p9 k) (p11 k) (p0 k) (p23 k) (p4 k) (p45 k) x0 x1 x2 x3 x4 := rfl
def f (k : Nat) (a0 : ByteArray) (a1 : Int) : Option (LX × Int) := e k (p5 k) (p9 k) (p11 k) (p0 k) (p23 k) (p4 k) (p45 k) a0 a1
end nat_Parse

namespace approx_number
def e (k : Nat) (a0 : ByteArray) : Option RX :=
 (Option.bind (strings_TrimLeft.f k a0 (ByteArray.mk #[48])) fun r1 =>
  (bif (r1.toList == (ByteArray.mk #[]).toList) then
   (some ((false, ([] : List Int)), ([] : List Int)))
  else
   (Option.bind (nat_Parse.f k r1 (10 : Int)) fun r2 =>
    (Option.bind (whole_Of.f k (1 : Int)) fun r3 =>
     (Option.bind (ratio_Of.f k (false, r2.1) r3) fun r4 =>
      (some r4.1))))))
def f (k : Nat) (a0 : ByteArray) : Option RX := e k a0
end approx_number

namespace approx_decimal
abbrev Q0 : Type := RX → ByteArray → ByteArray → ByteArray → Option (RX × Bool)
def e21 (k : Nat) (_q21 q29 : Q0) (b0 : RX) (b1 b2 b3 : ByteArray) : Option (RX × Bool) :=
 (bif (!(b2.toList == (ByteArray.mk #[]).toList)) then
  (bif (decide ((0 : Int) < (b2.size : Int))) then
   (bif (!decide ((btI b2 (0 : Int)) = (101 : Int))) then
    (bif (decide ((0 : Int) < (b2.size : Int))) then
     (bif (!decide ((btI b2 (0 : Int)) = (69 : Int))) then
      (some (((false, ([] : List Int)), ([] : List Int)), false))
     else
      q29 b0 b1 b2 b3)
    else
     none)
   else
    q29 b0 b1 b2 b3)
  else
   none)
 else
  (bif (decide (((b1.size + b3.size : Nat) : Int) > IntKind.i64.max)) then
   none
  else
   (Option.bind (approx_number.f k (b1 ++ b3)) fun r4 =>
    (Option.bind (approx_ten.f k (IntKind.i64.wrap ((0 : Int) - (b3.size : Int)))) fun r5 =>
     (Option.bind (ratio_Mul.f k r4 r5) fun r6 =>
      (some (r6, true)))))))
def e29 (k : Nat) (_q21 _q29 : Q0) (_b0 : RX) (b1 b2 b3 : ByteArray) : Option (RX × Bool) :=
 (bif (decide (0 ≤ (1 : Int)) && decide ((1 : Int) ≤ (b2.size : Int)) && decide ((b2.size : Int) ≤ (b2.size : Int))) then
  (Option.bind (approx_exponent.f k (b2.extract (Int.toNat (1 : Int)) (Int.toNat (b2.size : Int)))) fun r7 =>
   (bif (!r7.2) then
    (some (((false, ([] : List Int)), ([] : List Int)), false))
   else
    (bif (decide (((b1.size + b3.size : Nat) : Int) > IntKind.i64.max)) then
     none
    else
     (Option.bind (approx_number.f k (b1 ++ b3)) fun r8 =>
      (Option.bind (approx_ten.f k (IntKind.i64.wrap (r7.1 - (b3.size : Int)))) fun r9 =>
       (Option.bind (ratio_Mul.f k r8 r9) fun r10 =>
        (some (r10, true))))))))
 else
  none)
def e (k : Nat) (q21 _q29 : Q0) (a0 : ByteArray) : Option (RX × Bool) :=
 (Option.bind (approx_digits.f k a0) fun r1 =>
  (bif (r1.1.toList == (ByteArray.mk #[]).toList) then
   (some (((false, ([] : List Int)), ([] : List Int)), false))
  else
   (Option.bind (strings_CutPrefix.f k r1.2 (ByteArray.mk #[46])) fun r2 =>
    (bif r2.2 then
     (Option.bind (approx_digits.f k r2.1) fun r3 =>
      (bif (r3.1.toList == (ByteArray.mk #[]).toList) then
       (some (((false, ([] : List Int)), ([] : List Int)), false))
      else
       q21 ((false, ([] : List Int)), ([] : List Int)) r1.1 r3.2 r3.1))
    else
     q21 ((false, ([] : List Int)), ([] : List Int)) r1.1 r1.2 (ByteArray.mk #[])))))
def pts : Nat → (Q0) × (Q0)
 | 0 => (fun _ _ _ _ => none, fun _ _ _ _ => none)
 | k + 1 => (e21 k (pts k).1 (pts k).2, e29 k (pts k).1 (pts k).2)
def p21 (k : Nat) : Q0 := (pts k).1
def p29 (k : Nat) : Q0 := (pts k).2
theorem p21_succ (k : Nat) (x0 : RX) (x1 x2 x3 : ByteArray) : p21 (k + 1) x0 x1 x2 x3 = e21 k (p21 k) (p29 k) x0 x1 x2 x3 := rfl
theorem p29_succ (k : Nat) (x0 : RX) (x1 x2 x3 : ByteArray) : p29 (k + 1) x0 x1 x2 x3 = e29 k (p21 k) (p29 k) x0 x1 x2 x3 := rfl
def f (k : Nat) (a0 : ByteArray) : Option (RX × Bool) := e k (p21 k) (p29 k) a0
end approx_decimal

namespace ratio_Sign
def e (k : Nat) (a0 : RX) : Option Int :=
 (Option.bind (ratio_Norm.f k a0) fun r1 =>
  (Option.bind (whole_Sign.f k r1.1) fun r2 =>
   (some r2)))
def f (k : Nat) (a0 : RX) : Option Int := e k a0
end ratio_Sign

namespace ratio_Neg
def e (k : Nat) (a0 : RX) : Option RX :=
 (Option.bind (ratio_Norm.f k a0) fun r1 =>
  (Option.bind (whole_Neg.f k r1.1) fun r2 =>
   (some (r2, r1.2))))
def f (k : Nat) (a0 : RX) : Option RX := e k a0
end ratio_Neg

namespace ratio_Abs
def e (k : Nat) (a0 : RX) : Option RX :=
 (Option.bind (ratio_Sign.f k a0) fun r1 =>
  (bif (decide (r1 < (0 : Int))) then
   (Option.bind (ratio_Neg.f k a0) fun r2 =>
    (some r2))
  else
   (Option.bind (ratio_Norm.f k a0) fun r3 =>
    (some r3))))
def f (k : Nat) (a0 : RX) : Option RX := e k a0
end ratio_Abs

namespace approx_cut
def e9 (k : Nat) (_q9 : LX → LX → Option (LX × LX × LX)) (b0 b1 : LX) : Option (LX × LX × LX) :=
 (Option.bind (nat_Div.f k b0 b1) fun r3 =>
  (some (r3.1, r3.2.1, b1)))
def e (k : Nat) (q9 : LX → LX → Option (LX × LX × LX)) (a0 a1 : LX) (a2 : Int) : Option (LX × LX × LX) :=
 (bif (decide (a2 < (0 : Int))) then
  (Option.bind (nat_Shift.f k a0 (IntKind.i64.wrap (0 - a2))) fun r1 =>
   q9 r1.1 a1)
 else
  (Option.bind (nat_Shift.f k a1 a2) fun r2 =>
   q9 a0 r2.1))
def pts : Nat → (LX → LX → Option (LX × LX × LX))
 | 0 => fun _ _ => none
 | k + 1 => e9 k (pts k)
def p9 (k : Nat) : LX → LX → Option (LX × LX × LX) := (pts k)
theorem p9_succ (k : Nat) (x0 x1 : LX) : p9 (k + 1) x0 x1 = e9 k (p9 k) x0 x1 := rfl
def f (k : Nat) (a0 a1 : LX) (a2 : Int) : Option (LX × LX × LX) := e k (p9 k) a0 a1 a2
end approx_cut

namespace nat_Small
def e0 (_k : Nat) (q0 : LX → Int → Int → Int → Option (Int × Bool)) (b0 : LX) (b1 b2 b3 : Int) : Option (Int × Bool) :=
 (bif (decide (b3 < b2)) then
  (bif (decide (0 ≤ b3) && decide (b3 < (b0.length : Int))) then
   (bif (decide ((IntKind.i64.wrap ((32 : Int) * b3)) < 0)) then
    none
   else
    q0 b0 (bitsI .or .u64 b1 (IntKind.u64.wrap ((IntKind.u64.wrap (nthD (0 : Int) b0 (Int.toNat b3))) * 2 ^ min (Int.toNat (IntKind.i64.wrap ((32 : Int) * b3))) 64))) b2 (IntKind.i64.wrap (b3 + (1 : Int))))
  else
   none)
 else
  (some (b1, true)))
def e (k : Nat) (q0 : LX → Int → Int → Int → Option (Int × Bool)) (a0 : LX) : Option (Int × Bool) :=
 (Option.bind (nat_trim.f k a0) fun r1 =>
  (bif (decide ((r1.length : Int) > (2 : Int))) then
   (some ((0 : Int), false))
  else
   q0 r1 (0 : Int) (r1.length : Int) (0 : Int)))
def pts : Nat → (LX → Int → Int → Int → Option (Int × Bool))
 | 0 => fun _ _ _ _ => none
 | k + 1 => e0 k (pts k)
def p0 (k : Nat) : LX → Int → Int → Int → Option (Int × Bool) := (pts k)
theorem p0_succ (k : Nat) (x0 : LX) (x1 x2 x3 : Int) : p0 (k + 1) x0 x1 x2 x3 = e0 k (p0 k) x0 x1 x2 x3 := rfl
def f (k : Nat) (a0 : LX) : Option (Int × Bool) := e k (p0 k) a0
end nat_Small

namespace approx_rounded
abbrev Q0 : Type := Int → LX → LX → LX → Option (Int × Int)
abbrev Q1 : Type := LX → LX → Int → Option (Int × Int)
def e29 (k : Nat) (_q29 : Q0) (q41 : Q1) (b0 : Int) (b1 b2 b3 : LX) : Option (Int × Int) :=
 (bif (decide (b0 > (971 : Int))) then
  (Option.bind (math_Float64bits.f k (9218868437227405311 : Nat)) fun r8 =>
   (some (r8, (2 : Int))))
 else
  (Option.bind (nat_Small.f k b1) fun r9 =>
   (bif (decide (r9.1 ≥ (4503599627370496 : Int))) then
    q41 b2 b3 (IntKind.u64.wrap ((IntKind.u64.wrap (r9.1 - (4503599627370496 : Int))) + (IntKind.u64.wrap ((IntKind.u64.wrap (IntKind.i64.wrap ((IntKind.i64.wrap (b0 - (-1074 : Int))) + (1 : Int)))) * 2 ^ 52))))
   else
    q41 b2 b3 r9.1)))
def e41 (k : Nat) (_q29 : Q0) (_q41 : Q1) (b0 b1 : LX) (b2 : Int) : Option (Int × Int) :=
 (bif (decide ((b0.length : Int) = (0 : Int))) then
  (some (b2, (-1 : Int)))
 else
  (Option.bind (nat_Add.f k b0 b0) fun r10 =>
   (Option.bind (nat_Cmp.f k r10 b1) fun r11 =>
    (some (b2, (IntKind.i64.wrap ((1 : Int) + r11)))))))
def e (k : Nat) (q29 : Q0) (_q41 : Q1) (a0 : RX) : Option (Int × Int) :=
 (Option.bind (ratio_Sign.f k a0) fun r1 =>
  (bif (decide (r1 = (0 : Int))) then
   (some ((0 : Int), (-1 : Int)))
  else
   (Option.bind (nat_Bits.f k a0.1.2) fun r2 =>
    (Option.bind (nat_Bits.f k a0.2) fun r3 =>
     (bif (decide ((IntKind.i64.wrap (r2 - r3)) > (1075 : Int))) then
      (Option.bind (math_Float64bits.f k (9218868437227405311 : Nat)) fun r4 =>
       (some (r4, (2 : Int))))
     else
      (bif (decide ((IntKind.i64.wrap (r2 - r3)) < (-1126 : Int))) then
       (some ((0 : Int), (0 : Int)))
      else
       (Option.bind (approx_cut.f k a0.1.2 a0.2 (bif decide ((-1074 : Int) > (IntKind.i64.wrap ((IntKind.i64.wrap ((IntKind.i64.wrap (r2 - r3)) - (52 : Int))) - (1 : Int)))) then (-1074 : Int) else (IntKind.i64.wrap ((IntKind.i64.wrap ((IntKind.i64.wrap (r2 - r3)) - (52 : Int))) - (1 : Int))))) fun r5 =>
        (Option.bind (nat_Bits.f k r5.1) fun r6 =>
         (bif (decide (r6 > (53 : Int))) then
          (Option.bind (approx_cut.f k a0.1.2 a0.2 (IntKind.i64.wrap ((bif decide ((-1074 : Int) > (IntKind.i64.wrap ((IntKind.i64.wrap ((IntKind.i64.wrap (r2 - r3)) - (52 : Int))) - (1 : Int)))) then (-1074 : Int) else (IntKind.i64.wrap ((IntKind.i64.wrap ((IntKind.i64.wrap (r2 - r3)) - (52 : Int))) - (1 : Int)))) + (1 : Int)))) fun r7 =>
           q29 (IntKind.i64.wrap ((bif decide ((-1074 : Int) > (IntKind.i64.wrap ((IntKind.i64.wrap ((IntKind.i64.wrap (r2 - r3)) - (52 : Int))) - (1 : Int)))) then (-1074 : Int) else (IntKind.i64.wrap ((IntKind.i64.wrap ((IntKind.i64.wrap (r2 - r3)) - (52 : Int))) - (1 : Int)))) + (1 : Int))) r7.1 r7.2.1 r7.2.2)
         else
          q29 (bif decide ((-1074 : Int) > (IntKind.i64.wrap ((IntKind.i64.wrap ((IntKind.i64.wrap (r2 - r3)) - (52 : Int))) - (1 : Int)))) then (-1074 : Int) else (IntKind.i64.wrap ((IntKind.i64.wrap ((IntKind.i64.wrap (r2 - r3)) - (52 : Int))) - (1 : Int)))) r5.1 r5.2.1 r5.2.2)))))))))
def pts : Nat → (Q0) × (Q1)
 | 0 => (fun _ _ _ _ => none, fun _ _ _ => none)
 | k + 1 => (e29 k (pts k).1 (pts k).2, e41 k (pts k).1 (pts k).2)
def p29 (k : Nat) : Q0 := (pts k).1
def p41 (k : Nat) : Q1 := (pts k).2
theorem p29_succ (k : Nat) (x0 : Int) (x1 x2 x3 : LX) : p29 (k + 1) x0 x1 x2 x3 = e29 k (p29 k) (p41 k) x0 x1 x2 x3 := rfl
theorem p41_succ (k : Nat) (x0 x1 : LX) (x2 : Int) : p41 (k + 1) x0 x1 x2 = e41 k (p29 k) (p41 k) x0 x1 x2 := rfl
def f (k : Nat) (a0 : RX) : Option (Int × Int) := e k (p29 k) (p41 k) a0
end approx_rounded

namespace approx_float
def e7 (k : Nat) (_q7 : Int → Option Nat) (b0 : Int) : Option Nat :=
 (Option.bind (math_Float64frombits.f k b0) fun r1 =>
  (some r1))
def e (_k : Nat) (q7 : Int → Option Nat) (a0 a1 : Int) : Option Nat :=
 (bif (decide (a1 < (0 : Int))) then
  q7 (bitsI .or .u64 a0 (9223372036854775808 : Int))
 else
  q7 a0)
def pts : Nat → (Int → Option Nat)
 | 0 => fun _ => none
 | k + 1 => e7 k (pts k)
def p7 (k : Nat) : Int → Option Nat := (pts k)
theorem p7_succ (k : Nat) (x0 : Int) : p7 (k + 1) x0 = e7 k (p7 k) x0 := rfl
def f (k : Nat) (a0 a1 : Int) : Option Nat := e k (p7 k) a0 a1
end approx_float

namespace approx_Nearest
abbrev Q0 : Type := RX → Int → Option Nat
def e7 (_k : Nat) (_q7 q9 : Q0) (b0 : RX) (b1 : Int) : Option Nat :=
 q9 b0 (IntKind.u64.wrap (b1 + (1 : Int)))
def e9 (k : Nat) (_q7 _q9 : Q0) (b0 : RX) (b1 : Int) : Option Nat :=
 (Option.bind (ratio_Sign.f k b0) fun r3 =>
  (Option.bind (approx_float.f k b1 r3) fun r4 =>
   (some r4)))
def e (k : Nat) (q7 q9 : Q0) (a0 : RX) : Option Nat :=
 (Option.bind (ratio_Abs.f k a0) fun r1 =>
  (Option.bind (approx_rounded.f k r1) fun r2 =>
   (bif (decide (r2.2 = (2 : Int))) then
    q7 a0 r2.1
   else
    (bif (decide (r2.2 = (1 : Int))) then
     (bif (decide ((bitsI .and .u64 r2.1 (1 : Int)) = (1 : Int))) then
      q7 a0 r2.1
     else
      q9 a0 r2.1)
    else
     q9 a0 r2.1))))
def pts : Nat → (Q0) × (Q0)
 | 0 => (fun _ _ => none, fun _ _ => none)
 | k + 1 => (e7 k (pts k).1 (pts k).2, e9 k (pts k).1 (pts k).2)
def p7 (k : Nat) : Q0 := (pts k).1
def p9 (k : Nat) : Q0 := (pts k).2
theorem p7_succ (k : Nat) (x0 : RX) (x1 : Int) : p7 (k + 1) x0 x1 = e7 k (p7 k) (p9 k) x0 x1 := rfl
theorem p9_succ (k : Nat) (x0 : RX) (x1 : Int) : p9 (k + 1) x0 x1 = e9 k (p7 k) (p9 k) x0 x1 := rfl
def f (k : Nat) (a0 : RX) : Option Nat := e k (p7 k) (p9 k) a0
end approx_Nearest

namespace approx_Read
def e (k : Nat) (a0 : ByteArray) : Option (Nat × Int) :=
 (bif (decide ((a0.size : Int) > (1000 : Int))) then
  (some ((0 : Nat), (3 : Int)))
 else
  (Option.bind (strings_CutPrefix.f k a0 (ByteArray.mk #[45])) fun r1 =>
   (Option.bind (approx_decimal.f k r1.1) fun r2 =>
    (bif (!r2.2) then
     (some ((0 : Nat), (42 : Int)))
    else
     (bif r1.2 then
      (Option.bind (approx_Nearest.f k r2.1) fun r3 =>
       (some ((fNeg r3), (0 : Int))))
     else
      (Option.bind (approx_Nearest.f k r2.1) fun r4 =>
       (some (r4, (0 : Int)))))))))
def f (k : Nat) (a0 : ByteArray) : Option (Nat × Int) := e k a0
end approx_Read

namespace ratio_Add
def e (k : Nat) (a0 a1 : RX) : Option RX :=
 (Option.bind (ratio_Norm.f k a0) fun r1 =>
  (Option.bind (ratio_Norm.f k a1) fun r2 =>
   (Option.bind (whole_Mul.f k r1.1 (false, r2.2)) fun r3 =>
    (Option.bind (whole_Mul.f k r2.1 (false, r1.2)) fun r4 =>
     (Option.bind (whole_Add.f k r3 r4) fun r5 =>
      (Option.bind (nat_Mul.f k r1.2 r2.2) fun r6 =>
       (Option.bind (ratio_made.f k r5 r6) fun r7 =>
        (some r7))))))))
def f (k : Nat) (a0 a1 : RX) : Option RX := e k a0 a1
end ratio_Add

namespace ratio_Sub
def e (k : Nat) (a0 a1 : RX) : Option RX :=
 (Option.bind (ratio_Neg.f k a1) fun r1 =>
  (Option.bind (ratio_Add.f k a0 r1) fun r2 =>
   (some r2)))
def f (k : Nat) (a0 a1 : RX) : Option RX := e k a0 a1
end ratio_Sub

namespace nat_Bit
def e5 (_k : Nat) (_q5 : Unit → Option Bool) (_ : Unit) : Option Bool :=
 (some false)
def e (_k : Nat) (q5 : Unit → Option Bool) (a0 : LX) (a1 : Int) : Option Bool :=
 (bif (decide (a1 < (0 : Int))) then
  q5 ()
 else
  (bif (decide ((IntKind.i64.wrap (Int.tdiv a1 (32 : Int))) ≥ (a0.length : Int))) then
   q5 ()
  else
   (bif (decide (0 ≤ (IntKind.i64.wrap (Int.tdiv a1 (32 : Int)))) && decide ((IntKind.i64.wrap (Int.tdiv a1 (32 : Int))) < (a0.length : Int))) then
    (bif (decide ((Int.tmod a1 (32 : Int)) < 0)) then
     none
    else
     (some (decide ((bitsI .and .u32 (Int.fdiv (nthD (0 : Int) a0 (Int.toNat (IntKind.i64.wrap (Int.tdiv a1 (32 : Int))))) (2 ^ min (Int.toNat (Int.tmod a1 (32 : Int))) 32)) (1 : Int)) = (1 : Int)))))
   else
    none)))
def pts : Nat → (Unit → Option Bool)
 | 0 => fun _ => none
 | k + 1 => e5 k (pts k)
def p5 (k : Nat) : Unit → Option Bool := (pts k)
theorem p5_succ (k : Nat) (x0 : Unit) : p5 (k + 1) x0 = e5 k (p5 k) x0 := rfl
def f (k : Nat) (a0 : LX) (a1 : Int) : Option Bool := e k (p5 k) a0 a1
end nat_Bit

namespace approx_shortest
abbrev Q0 : Type := RX → RX → Nat → Int → Int → ByteArray → Bool → (ZX × ZX) → Int → Option (ByteArray × Bool)
abbrev Q1 : Type := RX → RX → ZX → Nat → Int → Int → ByteArray → Bool → (ZX × ZX) → Int → Option (ByteArray × Bool)
abbrev Q2 : Type := RX → RX → RX → Nat → Int → Int → ByteArray → (ZX × ZX) → Int → Option (ByteArray × Bool)
def e0 (_k : Nat) (_q0 : Q0) (q17 : Q1) (_q35 : Q0) (_q33 : Q2) (b0 b1 : RX) (b2 : Nat) (b3 b4 : Int) (b5 : ByteArray) (b6 : Bool) (b7 : (ZX × ZX)) (b8 : Int) : Option (ByteArray × Bool) :=
 (bif (decide (b8 < (2 : Int))) then
  (bif (decide (b8 = (0 : Int))) then
   q17 b0 b1 b7.1 b2 b3 b4 b5 b6 b7 b8
  else
   (bif (decide (b8 = (1 : Int))) then
    q17 b0 b1 b7.2 b2 b3 b4 b5 b6 b7 b8
   else
    none))
 else
  (some (b5, b6)))
def e17 (k : Nat) (_q0 : Q0) (_q17 : Q1) (q35 : Q0) (q33 : Q2) (b0 b1 : RX) (b2 : ZX) (b3 : Nat) (b4 b5 : Int) (b6 : ByteArray) (b7 : Bool) (b8 : (ZX × ZX)) (b9 : Int) : Option (ByteArray × Bool) :=
 (Option.bind (whole_Text.f k b2) fun r6 =>
  (Option.bind (approx_text.f k r6 (IntKind.i64.wrap ((IntKind.i64.wrap (b4 + (r6.size : Int))) - b5))) fun r7 =>
   (Option.bind (approx_Read.f k r7) fun r8 =>
    (bif (!(fEq r8.1 b3)) then
     q35 b0 b1 b3 b4 b5 b6 b7 b8 b9
    else
     (Option.bind (whole_Of.f k (1 : Int)) fun r9 =>
      (Option.bind (ratio_Of.f k b2 r9) fun r10 =>
       (Option.bind (ratio_Sub.f k r10.1 b0) fun r11 =>
        (Option.bind (ratio_Abs.f k r11) fun r12 =>
         (Option.bind (ratio_Cmp.f k r12 b1) fun r13 =>
          (bif (!b7) then
           q33 b0 b1 r12 b3 b4 b5 r7 b8 b9
          else
           (bif (decide (r13 < (0 : Int))) then
            q33 b0 b1 r12 b3 b4 b5 r7 b8 b9
           else
            (bif (decide (r13 = (0 : Int))) then
             (Option.bind (nat_Bit.f k b2.2 (0 : Int)) fun r14 =>
              (bif (!r14) then
               q33 b0 b1 r12 b3 b4 b5 r7 b8 b9
              else
               q35 b0 b1 b3 b4 b5 b6 b7 b8 b9))
            else
             q35 b0 b1 b3 b4 b5 b6 b7 b8 b9))))))))))))
def e35 (_k : Nat) (q0 : Q0) (_q17 : Q1) (_q35 : Q0) (_q33 : Q2) (b0 b1 : RX) (b2 : Nat) (b3 b4 : Int) (b5 : ByteArray) (b6 : Bool) (b7 : (ZX × ZX)) (b8 : Int) : Option (ByteArray × Bool) :=
 q0 b0 b1 b2 b3 b4 b5 b6 b7 (IntKind.i64.wrap (b8 + (1 : Int)))
def e33 (_k : Nat) (_q0 : Q0) (_q17 : Q1) (q35 : Q0) (_q33 : Q2) (b0 _b1 b2 : RX) (b3 : Nat) (b4 b5 : Int) (b6 : ByteArray) (b7 : (ZX × ZX)) (b8 : Int) : Option (ByteArray × Bool) :=
 q35 b0 b2 b3 b4 b5 b6 true b7 b8
def e (k : Nat) (q0 : Q0) (_q17 : Q1) (_q35 : Q0) (_q33 : Q2) (a0 : Nat) (a1 : RX) (a2 a3 : Int) : Option (ByteArray × Bool) :=
 (Option.bind (approx_ten.f k (IntKind.i64.wrap ((IntKind.i64.wrap (a2 - a3)) + (1 : Int)))) fun r1 =>
  (Option.bind (ratio_Div.f k a1 r1) fun r2 =>
   (Option.bind (ratio_Floor.f k r2.1) fun r3 =>
    (Option.bind (whole_Of.f k (1 : Int)) fun r4 =>
     (Option.bind (whole_Add.f k r3 r4) fun r5 =>
      q0 r2.1 ((false, ([] : List Int)), ([] : List Int)) a0 a2 a3 (ByteArray.mk #[]) false (r3, r5) (0 : Int))))))
def pts : Nat → (Q0) × (Q1) × (Q0) × (Q2)
 | 0 => (fun _ _ _ _ _ _ _ _ _ => none, fun _ _ _ _ _ _ _ _ _ _ => none, fun _ _ _ _ _ _ _ _ _ => none, fun _ _ _ _ _ _ _ _ _ => none)
 | k + 1 => (e0 k (pts k).1 (pts k).2.1 (pts k).2.2.1 (pts k).2.2.2, e17 k (pts k).1 (pts k).2.1 (pts k).2.2.1 (pts k).2.2.2, e35 k (pts k).1 (pts k).2.1 (pts k).2.2.1 (pts k).2.2.2, e33 k (pts k).1 (pts k).2.1 (pts k).2.2.1 (pts k).2.2.2)
def p0 (k : Nat) : Q0 := (pts k).1
def p17 (k : Nat) : Q1 := (pts k).2.1
def p35 (k : Nat) : Q0 := (pts k).2.2.1
def p33 (k : Nat) : Q2 := (pts k).2.2.2
theorem p0_succ (k : Nat) (x0 x1 : RX) (x2 : Nat) (x3 x4 : Int) (x5 : ByteArray) (x6 : Bool) (x7 : (ZX × ZX)) (x8 : Int) : p0 (k + 1) x0 x1 x2 x3 x4 x5 x6 x7 x8 = e0 k (p0 k) (p17 k) (p35 k) (p33 k) x0 x1 x2 x3 x4 x5 x6 x7 x8 := rfl
theorem p17_succ (k : Nat) (x0 x1 : RX) (x2 : ZX) (x3 : Nat) (x4 x5 : Int) (x6 : ByteArray) (x7 : Bool) (x8 : (ZX × ZX)) (x9 : Int) : p17 (k + 1) x0 x1 x2 x3 x4 x5 x6 x7 x8 x9 = e17 k (p0 k) (p17 k) (p35 k) (p33 k) x0 x1 x2 x3 x4 x5 x6 x7 x8 x9 := rfl
theorem p35_succ (k : Nat) (x0 x1 : RX) (x2 : Nat) (x3 x4 : Int) (x5 : ByteArray) (x6 : Bool) (x7 : (ZX × ZX)) (x8 : Int) : p35 (k + 1) x0 x1 x2 x3 x4 x5 x6 x7 x8 = e35 k (p0 k) (p17 k) (p35 k) (p33 k) x0 x1 x2 x3 x4 x5 x6 x7 x8 := rfl
theorem p33_succ (k : Nat) (x0 x1 x2 : RX) (x3 : Nat) (x4 x5 : Int) (x6 : ByteArray) (x7 : (ZX × ZX)) (x8 : Int) : p33 (k + 1) x0 x1 x2 x3 x4 x5 x6 x7 x8 = e33 k (p0 k) (p17 k) (p35 k) (p33 k) x0 x1 x2 x3 x4 x5 x6 x7 x8 := rfl
def f (k a0 : Nat) (a1 : RX) (a2 a3 : Int) : Option (ByteArray × Bool) := e k (p0 k) (p17 k) (p35 k) (p33 k) a0 a1 a2 a3
end approx_shortest

namespace approx_Short
abbrev Q0 : Type := RX → Nat → Option (ByteArray × Int)
abbrev Q1 : Type := RX → Nat → Int → Int → Option (ByteArray × Int)
abbrev Q2 : Type := Nat → Option (ByteArray × Int)
def e13 (k : Nat) (_q13 : Q0) (q2 : Q1) (self : Q2) (b0 : RX) (b1 : Nat) : Option (ByteArray × Int) :=
 (bif (fEq b1 (0 : Nat)) then
  (some ((ByteArray.mk #[48]), (0 : Int)))
 else
  (bif (fLt b1 (0 : Nat)) then
   (Option.bind (self (fNeg b1)) fun r3 =>
    (bif (decide ((((ByteArray.mk #[45]).size + r3.1.size : Nat) : Int) > IntKind.i64.max)) then
     none
    else
     (some (((ByteArray.mk #[45]) ++ r3.1), (0 : Int)))))
  else
   (Option.bind (approx_power.f k b0) fun r4 =>
    q2 b0 b1 r4 (1 : Int))))
def e2 (k : Nat) (_q13 : Q0) (q2 : Q1) (_self : Q2) (b0 : RX) (b1 : Nat) (b2 b3 : Int) : Option (ByteArray × Int) :=
 (Option.bind (approx_shortest.f k b1 b0 b2 b3) fun r5 =>
  (bif r5.2 then
   (some (r5.1, (0 : Int)))
  else
   q2 b0 b1 b2 (IntKind.i64.wrap (b3 + (1 : Int)))))
def e (k : Nat) (q13 : Q0) (_q2 : Q1) (_self : Q2) (a0 : Nat) : Option (ByteArray × Int) :=
 (Option.bind (approx_Exact.f k a0) fun r1 =>
  (bif (!decide (r1.2 = (0 : Int))) then
   (some ((ByteArray.mk #[]), r1.2))
  else
   (bif (fEq a0 (0 : Nat)) then
    (Option.bind (math_Signbit.f k a0) fun r2 =>
     (bif r2 then
      (some ((ByteArray.mk #[45, 48]), (0 : Int)))
     else
      q13 r1.1 a0))
   else
    q13 r1.1 a0)))
def pts : Nat → (Q0) × (Q1) × (Q2)
 | 0 => (fun _ _ => none, fun _ _ _ _ => none, fun _ => none)
 | k + 1 => (e13 k (pts k).1 (pts k).2.1 (pts k).2.2, e2 k (pts k).1 (pts k).2.1 (pts k).2.2, e k (pts k).1 (pts k).2.1 (pts k).2.2)
def p13 (k : Nat) : Q0 := (pts k).1
def p2 (k : Nat) : Q1 := (pts k).2.1
def f (k : Nat) : Q2 := (pts k).2.2
theorem p13_succ (k : Nat) (x0 : RX) (x1 : Nat) : p13 (k + 1) x0 x1 = e13 k (p13 k) (p2 k) (f k) x0 x1 := rfl
theorem p2_succ (k : Nat) (x0 : RX) (x1 : Nat) (x2 x3 : Int) : p2 (k + 1) x0 x1 x2 x3 = e2 k (p13 k) (p2 k) (f k) x0 x1 x2 x3 := rfl
theorem f_succ (k a0 : Nat) : f (k + 1) a0 = e k (p13 k) (p2 k) (f k) a0 := rfl
end approx_Short

namespace ref04_IsNaN
def e (_k : Nat) (a0 : Int) : Option Bool :=
 (some (decide ((bitsI .andNot .u64 a0 (9223372036854775808 : Int)) > (9218868437227405312 : Int))))
def f (k : Nat) (a0 : Int) : Option Bool := e k a0
end ref04_IsNaN

namespace ref04_IsInf
def e (_k : Nat) (a0 : Int) : Option Bool :=
 (some (decide ((bitsI .andNot .u64 a0 (9223372036854775808 : Int)) = (9218868437227405312 : Int))))
def f (k : Nat) (a0 : Int) : Option Bool := e k a0
end ref04_IsInf

namespace ref04_parts
def e (_k : Nat) (a0 : Int) : Option (Int × Int) :=
 (bif (decide ((IntKind.i64.wrap (Int.fdiv a0 (2 ^ 52))) = (0 : Int))) then
  (some ((bitsI .and .u64 a0 (4503599627370495 : Int)), (-1074 : Int)))
 else
  (some ((IntKind.u64.wrap ((bitsI .and .u64 a0 (4503599627370495 : Int)) + (4503599627370496 : Int))), (IntKind.i64.wrap ((IntKind.i64.wrap (Int.fdiv a0 (2 ^ 52))) - (1075 : Int))))))
def f (k : Nat) (a0 : Int) : Option (Int × Int) := e k a0
end ref04_parts

namespace ref01_Norm
abbrev Q0 : Type := LX → Int → Option LX
abbrev Q1 : Type := LX → LX → Int → Int → Option LX
def e0 (_k : Nat) (q0 q9 : Q0) (_q4 : Q1) (b0 : LX) (b1 : Int) : Option LX :=
 (bif (decide (b1 > (0 : Int))) then
  (bif (decide (0 ≤ (IntKind.i64.wrap (b1 - (1 : Int)))) && decide ((IntKind.i64.wrap (b1 - (1 : Int))) < (b0.length : Int))) then
   (bif (decide ((nthD (0 : Int) b0 (Int.toNat (IntKind.i64.wrap (b1 - (1 : Int))))) = (0 : Int))) then
    q0 b0 (IntKind.i64.wrap (b1 - (1 : Int)))
   else
    q9 b0 b1)
  else
   none)
 else
  q9 b0 b1)
def e9 (_k : Nat) (_q0 _q9 : Q0) (q4 : Q1) (b0 : LX) (b1 : Int) : Option LX :=
 (bif (decide (0 ≤ b1) && decide (b1 * 4 ≤ 281474976710656) && decide (b1 ≤ 9223372036854775807)) then
  q4 (List.replicate (Int.toNat b1) (0 : Int)) b0 b1 (0 : Int)
 else
  none)
def e4 (_k : Nat) (_q0 _q9 : Q0) (q4 : Q1) (b0 b1 : LX) (b2 b3 : Int) : Option LX :=
 (bif (decide (b3 < b2)) then
  (bif (decide (0 ≤ b3) && decide (b3 < (b1.length : Int))) then
   (bif (decide (0 ≤ b3) && decide (b3 < (b0.length : Int))) then
    q4 (setN (nthD (0 : Int) b1 (Int.toNat b3)) b0 (Int.toNat b3)) b1 b2 (IntKind.i64.wrap (b3 + (1 : Int)))
   else
    none)
  else
   none)
 else
  (some b0))
def e (_k : Nat) (q0 _q9 : Q0) (_q4 : Q1) (a0 : LX) : Option LX :=
 q0 a0 (a0.length : Int)
def pts : Nat → (Q0) × (Q0) × (Q1)
 | 0 => (fun _ _ => none, fun _ _ => none, fun _ _ _ _ => none)
 | k + 1 => (e0 k (pts k).1 (pts k).2.1 (pts k).2.2, e9 k (pts k).1 (pts k).2.1 (pts k).2.2, e4 k (pts k).1 (pts k).2.1 (pts k).2.2)
def p0 (k : Nat) : Q0 := (pts k).1
def p9 (k : Nat) : Q0 := (pts k).2.1
def p4 (k : Nat) : Q1 := (pts k).2.2
theorem p0_succ (k : Nat) (x0 : LX) (x1 : Int) : p0 (k + 1) x0 x1 = e0 k (p0 k) (p9 k) (p4 k) x0 x1 := rfl
theorem p9_succ (k : Nat) (x0 : LX) (x1 : Int) : p9 (k + 1) x0 x1 = e9 k (p0 k) (p9 k) (p4 k) x0 x1 := rfl
theorem p4_succ (k : Nat) (x0 x1 : LX) (x2 x3 : Int) : p4 (k + 1) x0 x1 x2 x3 = e4 k (p0 k) (p9 k) (p4 k) x0 x1 x2 x3 := rfl
def f (k : Nat) (a0 : LX) : Option LX := e k (p0 k) (p9 k) (p4 k) a0
end ref01_Norm

namespace ref01_Shift
abbrev Q0 : Type := Unit → Option (LX × Int)
abbrev Q1 : Type := LX → Int → Int → Option (LX × Int)
abbrev Q2 : Type := LX → LX → Int → Int → Int → Option (LX × Int)
abbrev Q3 : Type := LX → LX → Int → Int → Int → Int → Option (LX × Int)
abbrev Q4 : Type := LX → LX → Int → Int → Int → Int → Int → Option (LX × Int)
def e5 (_k : Nat) (_q5 : Q0) (_q17 : Q1) (_q29 : Q2) (_q0 : Q3) (_q41 : Q4) (_q33 : Q3) (_ : Unit) : Option (LX × Int) :=
 (some (([] : List Int), (12 : Int)))
def e17 (_k : Nat) (_q5 : Q0) (_q17 : Q1) (q29 : Q2) (_q0 : Q3) (_q41 : Q4) (_q33 : Q3) (b0 : LX) (b1 b2 : Int) : Option (LX × Int) :=
 (bif (decide (0 ≤ b2) && decide (b2 * 4 ≤ 281474976710656) && decide (b2 ≤ 9223372036854775807)) then
  (bif (decide ((Int.tmod b1 (32 : Int)) < (0 : Int))) then
   q29 (List.replicate (Int.toNat b2) (0 : Int)) b0 b2 (IntKind.i64.wrap ((IntKind.i64.wrap (Int.tdiv b1 (32 : Int))) - (1 : Int))) (IntKind.i64.wrap ((Int.tmod b1 (32 : Int)) + (32 : Int)))
  else
   q29 (List.replicate (Int.toNat b2) (0 : Int)) b0 b2 (IntKind.i64.wrap (Int.tdiv b1 (32 : Int))) (Int.tmod b1 (32 : Int)))
 else
  none)
def e29 (_k : Nat) (_q5 : Q0) (_q17 : Q1) (_q29 : Q2) (q0 : Q3) (_q41 : Q4) (_q33 : Q3) (b0 b1 : LX) (b2 b3 b4 : Int) : Option (LX × Int) :=
 q0 b0 b1 b2 b3 b4 (0 : Int)
def e0 (k : Nat) (_q5 : Q0) (_q17 : Q1) (_q29 : Q2) (_q0 : Q3) (q41 : Q4) (_q33 : Q3) (b0 b1 : LX) (b2 b3 b4 b5 : Int) : Option (LX × Int) :=
 (bif (decide (b5 < (b1.length : Int))) then
  (bif (decide (0 ≤ b5) && decide (b5 < (b1.length : Int))) then
   (bif (decide ((IntKind.u64.wrap b4) < 0)) then
    none
   else
    (bif (decide ((IntKind.i64.wrap (b5 + b3)) ≥ (0 : Int))) then
     (bif (decide ((IntKind.i64.wrap (b5 + b3)) < b2)) then
      (bif (decide (0 ≤ (IntKind.i64.wrap (b5 + b3))) && decide ((IntKind.i64.wrap (b5 + b3)) < (b0.length : Int))) then
       (bif (decide (0 ≤ (IntKind.i64.wrap (b5 + b3))) && decide ((IntKind.i64.wrap (b5 + b3)) < (b0.length : Int))) then
        q41 (setN (bitsI .or .u32 (nthD (0 : Int) b0 (Int.toNat (IntKind.i64.wrap (b5 + b3)))) (IntKind.u32.wrap (IntKind.u64.wrap ((IntKind.u64.wrap (nthD (0 : Int) b1 (Int.toNat b5))) * 2 ^ min (Int.toNat (IntKind.u64.wrap b4)) 64)))) b0 (Int.toNat (IntKind.i64.wrap (b5 + b3)))) b1 b2 b3 b4 b5 (IntKind.u64.wrap ((IntKind.u64.wrap (nthD (0 : Int) b1 (Int.toNat b5))) * 2 ^ min (Int.toNat (IntKind.u64.wrap b4)) 64))
       else
        none)
      else
       none)
     else
      q41 b0 b1 b2 b3 b4 b5 (IntKind.u64.wrap ((IntKind.u64.wrap (nthD (0 : Int) b1 (Int.toNat b5))) * 2 ^ min (Int.toNat (IntKind.u64.wrap b4)) 64)))
    else
     q41 b0 b1 b2 b3 b4 b5 (IntKind.u64.wrap ((IntKind.u64.wrap (nthD (0 : Int) b1 (Int.toNat b5))) * 2 ^ min (Int.toNat (IntKind.u64.wrap b4)) 64))))
  else
   none)
 else
  (Option.bind (ref01_Norm.f k b0) fun r2 =>
   (some (r2, (0 : Int)))))
def e41 (_k : Nat) (_q5 : Q0) (_q17 : Q1) (_q29 : Q2) (_q0 : Q3) (_q41 : Q4) (q33 : Q3) (b0 b1 : LX) (b2 b3 b4 b5 b6 : Int) : Option (LX × Int) :=
 (bif (decide ((IntKind.i64.wrap ((IntKind.i64.wrap (b5 + b3)) + (1 : Int))) ≥ (0 : Int))) then
  (bif (decide ((IntKind.i64.wrap ((IntKind.i64.wrap (b5 + b3)) + (1 : Int))) < b2)) then
   (bif (decide (0 ≤ (IntKind.i64.wrap ((IntKind.i64.wrap (b5 + b3)) + (1 : Int)))) && decide ((IntKind.i64.wrap ((IntKind.i64.wrap (b5 + b3)) + (1 : Int))) < (b0.length : Int))) then
    (bif (decide (0 ≤ (IntKind.i64.wrap ((IntKind.i64.wrap (b5 + b3)) + (1 : Int)))) && decide ((IntKind.i64.wrap ((IntKind.i64.wrap (b5 + b3)) + (1 : Int))) < (b0.length : Int))) then
     q33 (setN (bitsI .or .u32 (nthD (0 : Int) b0 (Int.toNat (IntKind.i64.wrap ((IntKind.i64.wrap (b5 + b3)) + (1 : Int))))) (IntKind.u32.wrap (Int.fdiv b6 (2 ^ 32)))) b0 (Int.toNat (IntKind.i64.wrap ((IntKind.i64.wrap (b5 + b3)) + (1 : Int))))) b1 b2 b3 b4 b5
    else
     none)
   else
    none)
  else
   q33 b0 b1 b2 b3 b4 b5)
 else
  q33 b0 b1 b2 b3 b4 b5)
def e33 (_k : Nat) (_q5 : Q0) (_q17 : Q1) (_q29 : Q2) (q0 : Q3) (_q41 : Q4) (_q33 : Q3) (b0 b1 : LX) (b2 b3 b4 b5 : Int) : Option (LX × Int) :=
 q0 b0 b1 b2 b3 b4 (IntKind.i64.wrap (b5 + (1 : Int)))
def e (k : Nat) (q5 : Q0) (q17 : Q1) (_q29 : Q2) (_q0 : Q3) (_q41 : Q4) (_q33 : Q3) (a0 : LX) (a1 : Int) : Option (LX × Int) :=
 (bif (decide (a1 < (-1048576 : Int))) then
  q5 ()
 else
  (bif (decide (a1 > (1048576 : Int))) then
   q5 ()
  else
   (Option.bind (ref01_Norm.f k a0) fun r1 =>
    (bif (decide ((r1.length : Int) = (0 : Int))) then
     (some (([] : List Int), (0 : Int)))
    else
     (bif (decide (a1 > (0 : Int))) then
      q17 a0 a1 (IntKind.i64.wrap ((a0.length : Int) + (IntKind.i64.wrap ((IntKind.i64.wrap (Int.tdiv a1 (32 : Int))) + (1 : Int)))))
     else
      q17 a0 a1 (a0.length : Int))))))
def pts : Nat → (Q0) × (Q1) × (Q2) × (Q3) × (Q4) × (Q3)
 | 0 => (fun _ => none, fun _ _ _ => none, fun _ _ _ _ _ => none, fun _ _ _ _ _ _ => none, fun _ _ _ _ _ _ _ => none, fun _ _ _ _ _ _ => none)
 | k + 1 => (e5 k (pts k).1 (pts k).2.1 (pts k).2.2.1 (pts k).2.2.2.1 (pts k).2.2.2.2.1 (pts k).2.2.2.2.2, e17 k (pts k).1 (pts k).2.1 (pts k).2.2.1 (pts k).2.2.2.1 (pts k).2.2.2.2.1 (pts k).2.2.2.2.2, e29 k (pts k).1 (pts k).2.1 (pts k).2.2.1 (pts k).2.2.2.1 (pts k).2.2.2.2.1 (pts k).2.2.2.2.2, e0 k (pts k).1 (pts k).2.1 (pts k).2.2.1 (pts k).2.2.2.1 (pts k).2.2.2.2.1 (pts k).2.2.2.2.2, e41 k (pts k).1 (pts k).2.1 (pts k).2.2.1 (pts k).2.2.2.1 (pts k).2.2.2.2.1 (pts k).2.2.2.2.2, e33 k (pts k).1 (pts k).2.1 (pts k).2.2.1 (pts k).2.2.2.1 (pts k).2.2.2.2.1 (pts k).2.2.2.2.2)
def p5 (k : Nat) : Q0 := (pts k).1
def p17 (k : Nat) : Q1 := (pts k).2.1
def p29 (k : Nat) : Q2 := (pts k).2.2.1
def p0 (k : Nat) : Q3 := (pts k).2.2.2.1
def p41 (k : Nat) : Q4 := (pts k).2.2.2.2.1
def p33 (k : Nat) : Q3 := (pts k).2.2.2.2.2
theorem p17_succ (k : Nat) (x0 : LX) (x1 x2 : Int) : p17 (k + 1) x0 x1 x2 = e17 k (p5 k) (p17 k) (p29 k) (p0 k) (p41 k) (p33 k) x0 x1 x2 := rfl
theorem p29_succ (k : Nat) (x0 x1 : LX) (x2 x3 x4 : Int) : p29 (k + 1) x0 x1 x2 x3 x4 = e29 k (p5 k) (p17 k) (p29 k) (p0 k) (p41 k) (p33 k) x0 x1 x2 x3 x4 := rfl
theorem p0_succ (k : Nat) (x0 x1 : LX) (x2 x3 x4 x5 : Int) : p0 (k + 1) x0 x1 x2 x3 x4 x5 = e0 k (p5 k) (p17 k) (p29 k) (p0 k) (p41 k) (p33 k) x0 x1 x2 x3 x4 x5 := rfl
theorem p41_succ (k : Nat) (x0 x1 : LX) (x2 x3 x4 x5 x6 : Int) : p41 (k + 1) x0 x1 x2 x3 x4 x5 x6 = e41 k (p5 k) (p17 k) (p29 k) (p0 k) (p41 k) (p33 k) x0 x1 x2 x3 x4 x5 x6 := rfl
theorem p33_succ (k : Nat) (x0 x1 : LX) (x2 x3 x4 x5 : Int) : p33 (k + 1) x0 x1 x2 x3 x4 x5 = e33 k (p5 k) (p17 k) (p29 k) (p0 k) (p41 k) (p33 k) x0 x1 x2 x3 x4 x5 := rfl
def f (k : Nat) (a0 : LX) (a1 : Int) : Option (LX × Int) := e k (p5 k) (p17 k) (p29 k) (p0 k) (p41 k) (p33 k) a0 a1
end ref01_Shift

namespace ref04_power
def e (k : Nat) (a0 : Int) : Option RX :=
 (bif (decide (a0 < (0 : Int))) then
  (Option.bind (ref01_Shift.f k [(1 : Int)] (IntKind.i64.wrap ((0 : Int) - a0))) fun r1 =>
   (some ((false, [(1 : Int)]), r1.1)))
 else
  (Option.bind (ref01_Shift.f k [(1 : Int)] a0) fun r2 =>
   (some ((false, r2.1), [(1 : Int)]))))
def f (k : Nat) (a0 : Int) : Option RX := e k a0
end ref04_power

namespace ref01_Of
def e (k : Nat) (a0 : Int) : Option LX :=
 (Option.bind (ref01_Norm.f k [(IntKind.u32.wrap a0), (IntKind.u32.wrap (Int.fdiv a0 (2 ^ 32)))]) fun r1 =>
  (some r1))
def f (k : Nat) (a0 : Int) : Option LX := e k a0
end ref01_Of

namespace ref01_Mul
abbrev Q0 : Type := LX → LX → LX → Int → Option LX
abbrev Q1 : Type := LX → LX → LX → Int → Int → Int → Option LX
def e0 (k : Nat) (_q0 : Q0) (q4 : Q1) (b0 b1 b2 : LX) (b3 : Int) : Option LX :=
 (bif (decide (b3 < (b1.length : Int))) then
  q4 b0 b1 b2 b3 (0 : Int) (0 : Int)
 else
  (Option.bind (ref01_Norm.f k b0) fun r1 =>
   (some r1)))
def e4 (_k : Nat) (q0 : Q0) (q4 : Q1) (b0 b1 b2 : LX) (b3 b4 b5 : Int) : Option LX :=
 (bif (decide (b5 < (b2.length : Int))) then
  (bif (decide (0 ≤ b3) && decide (b3 < (b1.length : Int))) then
   (bif (decide (0 ≤ b5) && decide (b5 < (b2.length : Int))) then
    (bif (decide (0 ≤ (IntKind.i64.wrap (b3 + b5))) && decide ((IntKind.i64.wrap (b3 + b5)) < (b0.length : Int))) then
     (bif (decide (0 ≤ (IntKind.i64.wrap (b3 + b5))) && decide ((IntKind.i64.wrap (b3 + b5)) < (b0.length : Int))) then
      q4 (setN (IntKind.u32.wrap (IntKind.u64.wrap ((IntKind.u64.wrap ((IntKind.u64.wrap ((IntKind.u64.wrap (nthD (0 : Int) b1 (Int.toNat b3))) * (IntKind.u64.wrap (nthD (0 : Int) b2 (Int.toNat b5))))) + (IntKind.u64.wrap (nthD (0 : Int) b0 (Int.toNat (IntKind.i64.wrap (b3 + b5))))))) + b4))) b0 (Int.toNat (IntKind.i64.wrap (b3 + b5)))) b1 b2 b3 (Int.fdiv (IntKind.u64.wrap ((IntKind.u64.wrap ((IntKind.u64.wrap ((IntKind.u64.wrap (nthD (0 : Int) b1 (Int.toNat b3))) * (IntKind.u64.wrap (nthD (0 : Int) b2 (Int.toNat b5))))) + (IntKind.u64.wrap (nthD (0 : Int) b0 (Int.toNat (IntKind.i64.wrap (b3 + b5))))))) + b4)) (2 ^ 32)) (IntKind.i64.wrap (b5 + (1 : Int)))
     else
      none)
    else
     none)
   else
    none)
  else
   none)
 else
  (bif (decide (0 ≤ (IntKind.i64.wrap (b3 + (b2.length : Int)))) && decide ((IntKind.i64.wrap (b3 + (b2.length : Int))) < (b0.length : Int))) then
   q0 (setN (IntKind.u32.wrap b4) b0 (Int.toNat (IntKind.i64.wrap (b3 + (b2.length : Int))))) b1 b2 (IntKind.i64.wrap (b3 + (1 : Int)))
  else
   none))
def e (_k : Nat) (q0 : Q0) (_q4 : Q1) (a0 a1 : LX) : Option LX :=
 (bif (decide (0 ≤ (IntKind.i64.wrap ((a0.length : Int) + (a1.length : Int)))) && decide ((IntKind.i64.wrap ((a0.length : Int) + (a1.length : Int))) * 4 ≤ 281474976710656) && decide ((IntKind.i64.wrap ((a0.length : Int) + (a1.length : Int))) ≤ 9223372036854775807)) then
  q0 (List.replicate (Int.toNat (IntKind.i64.wrap ((a0.length : Int) + (a1.length : Int)))) (0 : Int)) a0 a1 (0 : Int)
 else
  none)
def pts : Nat → (Q0) × (Q1)
 | 0 => (fun _ _ _ _ => none, fun _ _ _ _ _ _ => none)
 | k + 1 => (e0 k (pts k).1 (pts k).2, e4 k (pts k).1 (pts k).2)
def p0 (k : Nat) : Q0 := (pts k).1
def p4 (k : Nat) : Q1 := (pts k).2
theorem p0_succ (k : Nat) (x0 x1 x2 : LX) (x3 : Int) : p0 (k + 1) x0 x1 x2 x3 = e0 k (p0 k) (p4 k) x0 x1 x2 x3 := rfl
theorem p4_succ (k : Nat) (x0 x1 x2 : LX) (x3 x4 x5 : Int) : p4 (k + 1) x0 x1 x2 x3 x4 x5 = e4 k (p0 k) (p4 k) x0 x1 x2 x3 x4 x5 := rfl
def f (k : Nat) (a0 a1 : LX) : Option LX := e k (p0 k) (p4 k) a0 a1
end ref01_Mul

namespace ref04_scaled
def e (k : Nat) (a0 a1 : Int) : Option RX :=
 (Option.bind (ref04_power.f k a1) fun r1 =>
  (Option.bind (ref01_Of.f k a0) fun r2 =>
   (Option.bind (ref01_Mul.f k r2 r1.1.2) fun r3 =>
    (some ((false, r3), r1.2)))))
def f (k : Nat) (a0 a1 : Int) : Option RX := e k a0 a1
end ref04_scaled

namespace ref01_Bit
def e (_k : Nat) (a0 : LX) (a1 : Int) : Option Bool :=
 (bif (decide (a1 ≥ (0 : Int))) then
  (bif (decide ((IntKind.i64.wrap (Int.tdiv a1 (32 : Int))) < (a0.length : Int))) then
   (bif (decide (0 ≤ (IntKind.i64.wrap (Int.tdiv a1 (32 : Int)))) && decide ((IntKind.i64.wrap (Int.tdiv a1 (32 : Int))) < (a0.length : Int))) then
    (bif (decide ((IntKind.u64.wrap (Int.tmod a1 (32 : Int))) < 0)) then
     none
    else
     (some (decide ((bitsI .and .u32 (Int.fdiv (nthD (0 : Int) a0 (Int.toNat (IntKind.i64.wrap (Int.tdiv a1 (32 : Int))))) (2 ^ min (Int.toNat (IntKind.u64.wrap (Int.tmod a1 (32 : Int)))) 32)) (1 : Int)) = (1 : Int)))))
   else
    none)
  else
   (some false))
 else
  (some false))
def f (k : Nat) (a0 : LX) (a1 : Int) : Option Bool := e k a0 a1
end ref01_Bit

namespace ref01_Bits
def e0 (k : Nat) (q0 : LX → Int → Option Int) (b0 : LX) (b1 : Int) : Option Int :=
 (bif (decide (b1 ≥ (0 : Int))) then
  (Option.bind (ref01_Bit.f k b0 b1) fun r1 =>
   (bif r1 then
    (some (IntKind.i64.wrap (b1 + (1 : Int))))
   else
    q0 b0 (IntKind.i64.wrap (b1 - (1 : Int)))))
 else
  (some (0 : Int)))
def e (_k : Nat) (q0 : LX → Int → Option Int) (a0 : LX) : Option Int :=
 q0 a0 (IntKind.i64.wrap ((IntKind.i64.wrap ((32 : Int) * (a0.length : Int))) - (1 : Int)))
def pts : Nat → (LX → Int → Option Int)
 | 0 => fun _ _ => none
 | k + 1 => e0 k (pts k)
def p0 (k : Nat) : LX → Int → Option Int := (pts k)
theorem p0_succ (k : Nat) (x0 : LX) (x1 : Int) : p0 (k + 1) x0 x1 = e0 k (p0 k) x0 x1 := rfl
def f (k : Nat) (a0 : LX) : Option Int := e k (p0 k) a0
end ref01_Bits

namespace ref01_Pow
abbrev Q0 : Type := Unit → Option (LX × Int)
abbrev Q1 : Type := LX → Int → LX → Int → Option (LX × Int)
def e5 (_k : Nat) (_q5 : Q0) (_q0 _q13 : Q1) (_ : Unit) : Option (LX × Int) :=
 (some (([] : List Int), (13 : Int)))
def e0 (k : Nat) (_q5 : Q0) (_q0 q13 : Q1) (b0 : LX) (b1 : Int) (b2 : LX) (b3 : Int) : Option (LX × Int) :=
 (bif (decide (b3 ≥ (0 : Int))) then
  (Option.bind (ref01_Mul.f k b2 b2) fun r1 =>
   (bif (decide ((IntKind.u64.wrap b3) < 0)) then
    none
   else
    (bif (decide ((bitsI .and .i64 (Int.fdiv b1 (2 ^ min (Int.toNat (IntKind.u64.wrap b3)) 64)) (1 : Int)) = (1 : Int))) then
     (Option.bind (ref01_Mul.f k r1 b0) fun r2 =>
      q13 b0 b1 r2 b3)
    else
     q13 b0 b1 r1 b3)))
 else
  (Option.bind (ref01_Norm.f k b2) fun r3 =>
   (some (r3, (0 : Int)))))
def e13 (_k : Nat) (_q5 : Q0) (q0 _q13 : Q1) (b0 : LX) (b1 : Int) (b2 : LX) (b3 : Int) : Option (LX × Int) :=
 q0 b0 b1 b2 (IntKind.i64.wrap (b3 - (1 : Int)))
def e (_k : Nat) (q5 : Q0) (q0 _q13 : Q1) (a0 : LX) (a1 : Int) : Option (LX × Int) :=
 (bif (decide (a1 < (0 : Int))) then
  q5 ()
 else
  (bif (decide (a1 > (4096 : Int))) then
   q5 ()
  else
   q0 a0 a1 [(1 : Int)] (12 : Int)))
def pts : Nat → (Q0) × (Q1) × (Q1)
 | 0 => (fun _ => none, fun _ _ _ _ => none, fun _ _ _ _ => none)
 | k + 1 => (e5 k (pts k).1 (pts k).2.1 (pts k).2.2, e0 k (pts k).1 (pts k).2.1 (pts k).2.2, e13 k (pts k).1 (pts k).2.1 (pts k).2.2)
def p5 (k : Nat) : Q0 := (pts k).1
def p0 (k : Nat) : Q1 := (pts k).2.1
def p13 (k : Nat) : Q1 := (pts k).2.2
theorem p0_succ (k : Nat) (x0 : LX) (x1 : Int) (x2 : LX) (x3 : Int) : p0 (k + 1) x0 x1 x2 x3 = e0 k (p5 k) (p0 k) (p13 k) x0 x1 x2 x3 := rfl
theorem p13_succ (k : Nat) (x0 : LX) (x1 : Int) (x2 : LX) (x3 : Int) : p13 (k + 1) x0 x1 x2 x3 = e13 k (p5 k) (p0 k) (p13 k) x0 x1 x2 x3 := rfl
def f (k : Nat) (a0 : LX) (a1 : Int) : Option (LX × Int) := e k (p5 k) (p0 k) (p13 k) a0 a1
end ref01_Pow

namespace ref04_ten
abbrev Q0 : Type := Int → LX → Option LX
abbrev Q1 : Type := Int → LX → Int → Option LX
def e0 (_k : Nat) (_q0 : Q0) (q13 : Q1) (b0 : Int) (b1 : LX) : Option LX :=
 (bif (decide (b0 > (0 : Int))) then
  (bif (decide (b0 > (1000 : Int))) then
   q13 b0 b1 (1000 : Int)
  else
   q13 b0 b1 b0)
 else
  (some b1))
def e13 (k : Nat) (q0 : Q0) (_q13 : Q1) (b0 : Int) (b1 : LX) (b2 : Int) : Option LX :=
 (Option.bind (ref01_Pow.f k [(10 : Int)] b2) fun r1 =>
  (Option.bind (ref01_Mul.f k b1 r1.1) fun r2 =>
   q0 (IntKind.i64.wrap (b0 - b2)) r2))
def e (_k : Nat) (q0 : Q0) (_q13 : Q1) (a0 : Int) : Option LX :=
 q0 a0 [(1 : Int)]
def pts : Nat → (Q0) × (Q1)
 | 0 => (fun _ _ => none, fun _ _ _ => none)
 | k + 1 => (e0 k (pts k).1 (pts k).2, e13 k (pts k).1 (pts k).2)
def p0 (k : Nat) : Q0 := (pts k).1
def p13 (k : Nat) : Q1 := (pts k).2
theorem p0_succ (k : Nat) (x0 : Int) (x1 : LX) : p0 (k + 1) x0 x1 = e0 k (p0 k) (p13 k) x0 x1 := rfl
theorem p13_succ (k : Nat) (x0 : Int) (x1 : LX) (x2 : Int) : p13 (k + 1) x0 x1 x2 = e13 k (p0 k) (p13 k) x0 x1 x2 := rfl
def f (k : Nat) (a0 : Int) : Option LX := e k (p0 k) (p13 k) a0
end ref04_ten

namespace ref04_tens
def e (k : Nat) (a0 : Int) : Option RX :=
 (bif (decide (a0 < (0 : Int))) then
  (Option.bind (ref04_ten.f k (IntKind.i64.wrap ((0 : Int) - a0))) fun r1 =>
   (some ((false, [(1 : Int)]), r1)))
 else
  (Option.bind (ref04_ten.f k a0) fun r2 =>
   (some ((false, r2), [(1 : Int)]))))
def f (k : Nat) (a0 : Int) : Option RX := e k a0
end ref04_tens

namespace ref01_at
def e (_k : Nat) (a0 : LX) (a1 : Int) : Option Int :=
 (bif (decide (a1 ≥ (a0.length : Int))) then
  (some (0 : Int))
 else
  (bif (decide (0 ≤ a1) && decide (a1 < (a0.length : Int))) then
   (some (IntKind.u64.wrap (nthD (0 : Int) a0 (Int.toNat a1))))
  else
   none))
def f (k : Nat) (a0 : LX) (a1 : Int) : Option Int := e k a0 a1
end ref01_at

namespace ref01_Cmp
abbrev Q0 : Type := LX → LX → Int → Option Int
def e9 (_k : Nat) (_q9 q0 : Q0) (b0 b1 : LX) (b2 : Int) : Option Int :=
 q0 b0 b1 (IntKind.i64.wrap (b2 - (1 : Int)))
def e0 (k : Nat) (_q9 q0 : Q0) (b0 b1 : LX) (b2 : Int) : Option Int :=
 (bif (decide (b2 ≥ (0 : Int))) then
  (Option.bind (ref01_at.f k b0 b2) fun r1 =>
   (Option.bind (ref01_at.f k b1 b2) fun r2 =>
    (bif (decide (r1 < r2)) then
     (some (-1 : Int))
    else
     (Option.bind (ref01_at.f k b0 b2) fun r3 =>
      (Option.bind (ref01_at.f k b1 b2) fun r4 =>
       (bif (decide (r3 > r4)) then
        (some (1 : Int))
       else
        q0 b0 b1 (IntKind.i64.wrap (b2 - (1 : Int)))))))))
 else
  (some (0 : Int)))
def e (_k : Nat) (q9 _q0 : Q0) (a0 a1 : LX) : Option Int :=
 (bif (decide ((a1.length : Int) > (a0.length : Int))) then
  q9 a0 a1 (a1.length : Int)
 else
  q9 a0 a1 (a0.length : Int))
def pts : Nat → (Q0) × (Q0)
 | 0 => (fun _ _ _ => none, fun _ _ _ => none)
 | k + 1 => (e9 k (pts k).1 (pts k).2, e0 k (pts k).1 (pts k).2)
def p9 (k : Nat) : Q0 := (pts k).1
def p0 (k : Nat) : Q0 := (pts k).2
theorem p9_succ (k : Nat) (x0 x1 : LX) (x2 : Int) : p9 (k + 1) x0 x1 x2 = e9 k (p9 k) (p0 k) x0 x1 x2 := rfl
theorem p0_succ (k : Nat) (x0 x1 : LX) (x2 : Int) : p0 (k + 1) x0 x1 x2 = e0 k (p9 k) (p0 k) x0 x1 x2 := rfl
def f (k : Nat) (a0 a1 : LX) : Option Int := e k (p9 k) (p0 k) a0 a1
end ref01_Cmp

namespace ref04_lessTens
def e (k : Nat) (a0 : Int) (a1 : RX) : Option Bool :=
 (Option.bind (ref04_tens.f k a0) fun r1 =>
  (Option.bind (ref01_Mul.f k r1.1.2 a1.2) fun r2 =>
   (Option.bind (ref01_Mul.f k a1.1.2 r1.2) fun r3 =>
    (Option.bind (ref01_Cmp.f k r2 r3) fun r4 =>
     (some (decide (r4 ≤ (0 : Int))))))))
def f (k : Nat) (a0 : Int) (a1 : RX) : Option Bool := e k a0 a1
end ref04_lessTens

namespace ref01_twice
abbrev Q0 : Type := LX → LX → Int → Option LX
abbrev Q1 : Type := LX → LX → Int → Int → Option LX
def e11 (_k : Nat) (_q11 : Q0) (q0 : Q1) (b0 b1 : LX) (b2 : Int) : Option LX :=
 q0 b0 b1 b2 (0 : Int)
def e0 (k : Nat) (_q11 : Q0) (q0 : Q1) (b0 b1 : LX) (b2 b3 : Int) : Option LX :=
 (bif (decide (b3 < (b1.length : Int))) then
  (bif (decide (0 ≤ b3) && decide (b3 < (b1.length : Int))) then
   (bif (decide (0 ≤ b3) && decide (b3 < (b0.length : Int))) then
    (bif (decide (0 ≤ b3) && decide (b3 < (b1.length : Int))) then
     q0 (setN (bitsI .or .u32 (IntKind.u32.wrap ((nthD (0 : Int) b1 (Int.toNat b3)) * 2 ^ 1)) b2) b0 (Int.toNat b3)) b1 (Int.fdiv (nthD (0 : Int) b1 (Int.toNat b3)) (2 ^ 31)) (IntKind.i64.wrap (b3 + (1 : Int)))
    else
     none)
   else
    none)
  else
   none)
 else
  (bif (decide (0 ≤ (b1.length : Int)) && decide ((b1.length : Int) < (b0.length : Int))) then
   (Option.bind (ref01_Norm.f k (setN b2 b0 (Int.toNat (b1.length : Int)))) fun r1 =>
    (some r1))
  else
   none))
def e (_k : Nat) (q11 : Q0) (_q0 : Q1) (a0 : LX) (a1 : Bool) : Option LX :=
 (bif (decide (0 ≤ (IntKind.i64.wrap ((a0.length : Int) + (1 : Int)))) && decide ((IntKind.i64.wrap ((a0.length : Int) + (1 : Int))) * 4 ≤ 281474976710656) && decide ((IntKind.i64.wrap ((a0.length : Int) + (1 : Int))) ≤ 9223372036854775807)) then
  (bif a1 then
   q11 (List.replicate (Int.toNat (IntKind.i64.wrap ((a0.length : Int) + (1 : Int)))) (0 : Int)) a0 (1 : Int)
  else
   q11 (List.replicate (Int.toNat (IntKind.i64.wrap ((a0.length : Int) + (1 : Int)))) (0 : Int)) a0 (0 : Int))
 else
  none)
def pts : Nat → (Q0) × (Q1)
 | 0 => (fun _ _ _ => none, fun _ _ _ _ => none)
 | k + 1 => (e11 k (pts k).1 (pts k).2, e0 k (pts k).1 (pts k).2)
def p11 (k : Nat) : Q0 := (pts k).1
def p0 (k : Nat) : Q1 := (pts k).2
theorem p11_succ (k : Nat) (x0 x1 : LX) (x2 : Int) : p11 (k + 1) x0 x1 x2 = e11 k (p11 k) (p0 k) x0 x1 x2 := rfl
theorem p0_succ (k : Nat) (x0 x1 : LX) (x2 x3 : Int) : p0 (k + 1) x0 x1 x2 x3 = e0 k (p11 k) (p0 k) x0 x1 x2 x3 := rfl
def f (k : Nat) (a0 : LX) (a1 : Bool) : Option LX := e k (p11 k) (p0 k) a0 a1
end ref01_twice

namespace ref01_Sub
def e0 (k : Nat) (q0 : LX → LX → LX → Int → Int → Option (LX × Int)) (b0 b1 b2 : LX) (b3 b4 : Int) : Option (LX × Int) :=
 (bif (decide (b4 < (b1.length : Int))) then
  (Option.bind (ref01_at.f k b1 b4) fun r2 =>
   (Option.bind (ref01_at.f k b2 b4) fun r3 =>
    (bif (decide (0 ≤ b4) && decide (b4 < (b0.length : Int))) then
     q0 (setN (IntKind.u32.wrap (IntKind.u64.wrap ((IntKind.u64.wrap (r2 - r3)) - b3))) b0 (Int.toNat b4)) b1 b2 (Int.fdiv (IntKind.u64.wrap ((IntKind.u64.wrap (r2 - r3)) - b3)) (2 ^ 63)) (IntKind.i64.wrap (b4 + (1 : Int)))
    else
     none)))
 else
  (Option.bind (ref01_Norm.f k b0) fun r4 =>
   (some (r4, (0 : Int)))))
def e (k : Nat) (q0 : LX → LX → LX → Int → Int → Option (LX × Int)) (a0 a1 : LX) : Option (LX × Int) :=
 (Option.bind (ref01_Cmp.f k a0 a1) fun r1 =>
  (bif (decide (r1 < (0 : Int))) then
   (some (([] : List Int), (10 : Int)))
  else
   (bif (decide (0 ≤ (a0.length : Int)) && decide ((a0.length : Int) * 4 ≤ 281474976710656) && decide ((a0.length : Int) ≤ 9223372036854775807)) then
    q0 (List.replicate (Int.toNat (a0.length : Int)) (0 : Int)) a0 a1 (0 : Int) (0 : Int)
   else
    none)))
def pts : Nat → (LX → LX → LX → Int → Int → Option (LX × Int))
 | 0 => fun _ _ _ _ _ => none
 | k + 1 => e0 k (pts k)
def p0 (k : Nat) : LX → LX → LX → Int → Int → Option (LX × Int) := (pts k)
theorem p0_succ (k : Nat) (x0 x1 x2 : LX) (x3 x4 : Int) : p0 (k + 1) x0 x1 x2 x3 x4 = e0 k (p0 k) x0 x1 x2 x3 x4 := rfl
def f (k : Nat) (a0 a1 : LX) : Option (LX × Int) := e k (p0 k) a0 a1
end ref01_Sub

namespace ref01_Div
abbrev Q0 : Type := LX → LX → LX → Int → Option (LX × LX × Int)
abbrev Q1 : Type := LX → LX → LX → LX → Int → Option (LX × LX × Int)
def e19 (k : Nat) (_q19 : Q0) (q0 _q25 : Q1) (b0 b1 b2 : LX) (b3 : Int) : Option (LX × LX × Int) :=
 (bif (decide (0 ≤ (IntKind.i64.wrap ((b1.length : Int) - b3))) && decide ((IntKind.i64.wrap ((b1.length : Int) - b3)) ≤ (b1.length : Int)) && decide ((b1.length : Int) ≤ (b1.length : Int))) then
  (Option.bind (ref01_Norm.f k ((b1.take (Int.toNat (b1.length : Int))).drop (Int.toNat (IntKind.i64.wrap ((b1.length : Int) - b3))))) fun r3 =>
   q0 b0 b1 b2 r3 (IntKind.i64.wrap ((IntKind.i64.wrap ((32 : Int) * (IntKind.i64.wrap ((b1.length : Int) - b3)))) - (1 : Int))))
 else
  none)
def e0 (k : Nat) (_q19 : Q0) (_q0 q25 : Q1) (b0 b1 b2 b3 : LX) (b4 : Int) : Option (LX × LX × Int) :=
 (bif (decide (b4 ≥ (0 : Int))) then
  (Option.bind (ref01_Bit.f k b1 b4) fun r4 =>
   (Option.bind (ref01_twice.f k b3 r4) fun r5 =>
    (Option.bind (ref01_Cmp.f k r5 b2) fun r6 =>
     (bif (decide (r6 ≥ (0 : Int))) then
      (Option.bind (ref01_Sub.f k r5 b2) fun r7 =>
       (bif (decide (0 ≤ (IntKind.i64.wrap (Int.tdiv b4 (32 : Int)))) && decide ((IntKind.i64.wrap (Int.tdiv b4 (32 : Int))) < (b0.length : Int))) then
        (bif (decide ((IntKind.u64.wrap (Int.tmod b4 (32 : Int))) < 0)) then
         none
        else
         (bif (decide (0 ≤ (IntKind.i64.wrap (Int.tdiv b4 (32 : Int)))) && decide ((IntKind.i64.wrap (Int.tdiv b4 (32 : Int))) < (b0.length : Int))) then
          q25 (setN (bitsI .or .u32 (nthD (0 : Int) b0 (Int.toNat (IntKind.i64.wrap (Int.tdiv b4 (32 : Int))))) (IntKind.u32.wrap ((1 : Int) * 2 ^ min (Int.toNat (IntKind.u64.wrap (Int.tmod b4 (32 : Int)))) 32))) b0 (Int.toNat (IntKind.i64.wrap (Int.tdiv b4 (32 : Int))))) b1 b2 r7.1 b4
         else
          none))
       else
        none))
     else
      q25 b0 b1 b2 r5 b4))))
 else
  (Option.bind (ref01_Norm.f k b0) fun r8 =>
   (some (r8, b3, (0 : Int)))))
def e25 (_k : Nat) (_q19 : Q0) (q0 _q25 : Q1) (b0 b1 b2 b3 : LX) (b4 : Int) : Option (LX × LX × Int) :=
 q0 b0 b1 b2 b3 (IntKind.i64.wrap (b4 - (1 : Int)))
def e (k : Nat) (q19 : Q0) (_q0 _q25 : Q1) (a0 a1 : LX) : Option (LX × LX × Int) :=
 (Option.bind (ref01_Norm.f k a1) fun r1 =>
  (bif (decide ((r1.length : Int) = (0 : Int))) then
   (some (([] : List Int), ([] : List Int), (11 : Int)))
  else
   (Option.bind (ref01_Norm.f k a0) fun r2 =>
    (bif (decide (0 ≤ (r2.length : Int)) && decide ((r2.length : Int) * 4 ≤ 281474976710656) && decide ((r2.length : Int) ≤ 9223372036854775807)) then
     (bif (decide ((IntKind.i64.wrap ((r1.length : Int) - (1 : Int))) > (r2.length : Int))) then
      q19 (List.replicate (Int.toNat (r2.length : Int)) (0 : Int)) r2 r1 (r2.length : Int)
     else
      q19 (List.replicate (Int.toNat (r2.length : Int)) (0 : Int)) r2 r1 (IntKind.i64.wrap ((r1.length : Int) - (1 : Int))))
    else
     none))))
def pts : Nat → (Q0) × (Q1) × (Q1)
 | 0 => (fun _ _ _ _ => none, fun _ _ _ _ _ => none, fun _ _ _ _ _ => none)
 | k + 1 => (e19 k (pts k).1 (pts k).2.1 (pts k).2.2, e0 k (pts k).1 (pts k).2.1 (pts k).2.2, e25 k (pts k).1 (pts k).2.1 (pts k).2.2)
def p19 (k : Nat) : Q0 := (pts k).1
def p0 (k : Nat) : Q1 := (pts k).2.1
def p25 (k : Nat) : Q1 := (pts k).2.2
theorem p19_succ (k : Nat) (x0 x1 x2 : LX) (x3 : Int) : p19 (k + 1) x0 x1 x2 x3 = e19 k (p19 k) (p0 k) (p25 k) x0 x1 x2 x3 := rfl
theorem p0_succ (k : Nat) (x0 x1 x2 x3 : LX) (x4 : Int) : p0 (k + 1) x0 x1 x2 x3 x4 = e0 k (p19 k) (p0 k) (p25 k) x0 x1 x2 x3 x4 := rfl
theorem p25_succ (k : Nat) (x0 x1 x2 x3 : LX) (x4 : Int) : p25 (k + 1) x0 x1 x2 x3 x4 = e25 k (p19 k) (p0 k) (p25 k) x0 x1 x2 x3 x4 := rfl
def f (k : Nat) (a0 a1 : LX) : Option (LX × LX × Int) := e k (p19 k) (p0 k) (p25 k) a0 a1
end ref01_Div

namespace ref01_Add
abbrev Q0 : Type := LX → LX → Int → Option LX
abbrev Q1 : Type := LX → LX → LX → Int → Int → Int → Option LX
def e9 (_k : Nat) (_q9 : Q0) (q0 : Q1) (b0 b1 : LX) (b2 : Int) : Option LX :=
 (bif (decide (0 ≤ (IntKind.i64.wrap (b2 + (1 : Int)))) && decide ((IntKind.i64.wrap (b2 + (1 : Int))) * 4 ≤ 281474976710656) && decide ((IntKind.i64.wrap (b2 + (1 : Int))) ≤ 9223372036854775807)) then
  q0 (List.replicate (Int.toNat (IntKind.i64.wrap (b2 + (1 : Int)))) (0 : Int)) b0 b1 b2 (0 : Int) (0 : Int)
 else
  none)
def e0 (k : Nat) (_q9 : Q0) (q0 : Q1) (b0 b1 b2 : LX) (b3 b4 b5 : Int) : Option LX :=
 (bif (decide (b5 ≤ b3)) then
  (Option.bind (ref01_at.f k b1 b5) fun r1 =>
   (Option.bind (ref01_at.f k b2 b5) fun r2 =>
    (bif (decide (0 ≤ b5) && decide (b5 < (b0.length : Int))) then
     q0 (setN (IntKind.u32.wrap (IntKind.u64.wrap ((IntKind.u64.wrap (r1 + r2)) + b4))) b0 (Int.toNat b5)) b1 b2 b3 (Int.fdiv (IntKind.u64.wrap ((IntKind.u64.wrap (r1 + r2)) + b4)) (2 ^ 32)) (IntKind.i64.wrap (b5 + (1 : Int)))
    else
     none)))
 else
  (Option.bind (ref01_Norm.f k b0) fun r3 =>
   (some r3)))
def e (_k : Nat) (q9 : Q0) (_q0 : Q1) (a0 a1 : LX) : Option LX :=
 (bif (decide ((a1.length : Int) > (a0.length : Int))) then
  q9 a0 a1 (a1.length : Int)
 else
  q9 a0 a1 (a0.length : Int))
def pts : Nat → (Q0) × (Q1)
 | 0 => (fun _ _ _ => none, fun _ _ _ _ _ _ => none)
 | k + 1 => (e9 k (pts k).1 (pts k).2, e0 k (pts k).1 (pts k).2)
def p9 (k : Nat) : Q0 := (pts k).1
def p0 (k : Nat) : Q1 := (pts k).2
theorem p9_succ (k : Nat) (x0 x1 : LX) (x2 : Int) : p9 (k + 1) x0 x1 x2 = e9 k (p9 k) (p0 k) x0 x1 x2 := rfl
theorem p0_succ (k : Nat) (x0 x1 x2 : LX) (x3 x4 x5 : Int) : p0 (k + 1) x0 x1 x2 x3 x4 x5 = e0 k (p9 k) (p0 k) x0 x1 x2 x3 x4 x5 := rfl
def f (k : Nat) (a0 a1 : LX) : Option LX := e k (p9 k) (p0 k) a0 a1
end ref01_Add

namespace ref04_timesTen
def e (k : Nat) (a0 : LX) (a1 : Int) : Option RX :=
 (Option.bind (ref04_tens.f k a1) fun r1 =>
  (Option.bind (ref01_Mul.f k a0 r1.1.2) fun r2 =>
   (some ((false, r2), r1.2))))
def f (k : Nat) (a0 : LX) (a1 : Int) : Option RX := e k a0 a1
end ref04_timesTen

namespace ref04_amount
def e9 (_k : Nat) (_q9 : RX → RX → Option (RX × Int)) (_b0 b1 : RX) : Option (RX × Int) :=
 (some (b1, (0 : Int)))
def e (k : Nat) (q9 : RX → RX → Option (RX × Int)) (a0 : RX) : Option (RX × Int) :=
 (bif a0.1.1 then
  (Option.bind (ref01_Bits.f k a0.1.2) fun r1 =>
   (bif (decide (r1 > (0 : Int))) then
    (Option.bind (ref01_Bits.f k a0.2) fun r2 =>
     (bif (decide (r2 > (0 : Int))) then
      (some (((false, a0.1.2), a0.2), (9223372036854775808 : Int)))
     else
      q9 ((false, ([] : List Int)), ([] : List Int)) ((false, a0.1.2), a0.2)))
   else
    q9 ((false, ([] : List Int)), ([] : List Int)) ((false, a0.1.2), a0.2)))
 else
  q9 ((false, ([] : List Int)), ([] : List Int)) ((false, a0.1.2), a0.2))
def pts : Nat → (RX → RX → Option (RX × Int))
 | 0 => fun _ _ => none
 | k + 1 => e9 k (pts k)
def p9 (k : Nat) : RX → RX → Option (RX × Int) := (pts k)
theorem p9_succ (k : Nat) (x0 x1 : RX) : p9 (k + 1) x0 x1 = e9 k (p9 k) x0 x1 := rfl
def f (k : Nat) (a0 : RX) : Option (RX × Int) := e k (p9 k) a0
end ref04_amount

namespace ref04_against
def e13 (k : Nat) (_q13 : LX → LX → Option Int) (b0 b1 : LX) : Option Int :=
 (Option.bind (ref01_Cmp.f k b0 b1) fun r4 =>
  (some r4))
def e (k : Nat) (q13 : LX → LX → Option Int) (a0 : RX) (a1 : LX) (a2 : Int) : Option Int :=
 (Option.bind (ref01_Mul.f k a1 a0.2) fun r1 =>
  (bif (decide (a2 < (0 : Int))) then
   (Option.bind (ref01_Shift.f k a0.1.2 (IntKind.i64.wrap ((0 : Int) - a2))) fun r2 =>
    q13 r2.1 r1)
  else
   (Option.bind (ref01_Shift.f k r1 a2) fun r3 =>
    q13 a0.1.2 r3.1)))
def pts : Nat → (LX → LX → Option Int)
 | 0 => fun _ _ => none
 | k + 1 => e13 k (pts k)
def p13 (k : Nat) : LX → LX → Option Int := (pts k)
theorem p13_succ (k : Nat) (x0 x1 : LX) : p13 (k + 1) x0 x1 = e13 k (p13 k) x0 x1 := rfl
def f (k : Nat) (a0 : RX) (a1 : LX) (a2 : Int) : Option Int := e k (p13 k) a0 a1 a2
end ref04_against

namespace ref04_quotient
def e13 (k : Nat) (_q13 : LX → LX → Option (LX × Bool)) (b0 b1 : LX) : Option (LX × Bool) :=
 (Option.bind (ref01_Div.f k b0 b1) fun r3 =>
  (Option.bind (ref01_Bits.f k r3.2.1) fun r4 =>
   (some (r3.1, (decide (r4 = (0 : Int)))))))
def e (k : Nat) (q13 : LX → LX → Option (LX × Bool)) (a0 : RX) (a1 : Int) : Option (LX × Bool) :=
 (bif (decide (a1 < (0 : Int))) then
  (Option.bind (ref01_Shift.f k a0.1.2 (IntKind.i64.wrap ((0 : Int) - a1))) fun r1 =>
   q13 r1.1 a0.2)
 else
  (Option.bind (ref01_Shift.f k a0.2 a1) fun r2 =>
   q13 a0.1.2 r2.1))
def pts : Nat → (LX → LX → Option (LX × Bool))
 | 0 => fun _ _ => none
 | k + 1 => e13 k (pts k)
def p13 (k : Nat) : LX → LX → Option (LX × Bool) := (pts k)
theorem p13_succ (k : Nat) (x0 x1 : LX) : p13 (k + 1) x0 x1 = e13 k (p13 k) x0 x1 := rfl
def f (k : Nat) (a0 : RX) (a1 : Int) : Option (LX × Bool) := e k (p13 k) a0 a1
end ref04_quotient

namespace ref01_Small
def e0 (_k : Nat) (q0 : LX → Int → Int → Option (Int × Bool)) (b0 : LX) (b1 b2 : Int) : Option (Int × Bool) :=
 (bif (decide (b2 ≥ (0 : Int))) then
  (bif (decide (0 ≤ b2) && decide (b2 < (b0.length : Int))) then
   q0 b0 (bitsI .or .u64 (IntKind.u64.wrap (b1 * 2 ^ 32)) (IntKind.u64.wrap (nthD (0 : Int) b0 (Int.toNat b2)))) (IntKind.i64.wrap (b2 - (1 : Int)))
  else
   none)
 else
  (some (b1, true)))
def e (k : Nat) (q0 : LX → Int → Int → Option (Int × Bool)) (a0 : LX) : Option (Int × Bool) :=
 (Option.bind (ref01_Norm.f k a0) fun r1 =>
  (bif (decide ((r1.length : Int) > (2 : Int))) then
   (some ((0 : Int), false))
  else
   q0 r1 (0 : Int) (IntKind.i64.wrap ((r1.length : Int) - (1 : Int)))))
def pts : Nat → (LX → Int → Int → Option (Int × Bool))
 | 0 => fun _ _ _ => none
 | k + 1 => e0 k (pts k)
def p0 (k : Nat) : LX → Int → Int → Option (Int × Bool) := (pts k)
theorem p0_succ (k : Nat) (x0 : LX) (x1 x2 : Int) : p0 (k + 1) x0 x1 x2 = e0 k (p0 k) x0 x1 x2 := rfl
def f (k : Nat) (a0 : LX) : Option (Int × Bool) := e k (p0 k) a0
end ref01_Small

namespace ref04_below
abbrev Q0 : Type := Unit → Option (Int × Bool)
abbrev Q1 : Type := RX → Int → Option (Int × Bool)
abbrev Q2 : Type := RX → Int → LX → Bool → Option (Int × Bool)
def e5 (_k : Nat) (_q5 : Q0) (_q23 : Q1) (_q0 : Q2) (_ : Unit) : Option (Int × Bool) :=
 (some ((0 : Int), true))
def e23 (k : Nat) (_q5 : Q0) (_q23 : Q1) (q0 : Q2) (b0 : RX) (b1 : Int) : Option (Int × Bool) :=
 (Option.bind (ref04_quotient.f k b0 b1) fun r5 =>
  q0 b0 b1 r5.1 r5.2)
def e0 (k : Nat) (_q5 : Q0) (_q23 : Q1) (q0 : Q2) (b0 : RX) (b1 : Int) (b2 : LX) (b3 : Bool) : Option (Int × Bool) :=
 (Option.bind (ref01_Bits.f k b2) fun r6 =>
  (bif (decide (r6 > (53 : Int))) then
   (Option.bind (ref04_quotient.f k b0 (IntKind.i64.wrap (b1 + (1 : Int)))) fun r7 =>
    q0 b0 (IntKind.i64.wrap (b1 + (1 : Int))) r7.1 r7.2)
  else
   (bif (decide (b1 > (971 : Int))) then
    (some ((9218868437227405311 : Int), false))
   else
    (Option.bind (ref01_Small.f k b2) fun r8 =>
     (bif (decide (r8.1 < (4503599627370496 : Int))) then
      (some (r8.1, b3))
     else
      (some ((IntKind.u64.wrap ((IntKind.u64.wrap ((IntKind.u64.wrap ((IntKind.u64.wrap (IntKind.i64.wrap (b1 + (1075 : Int)))) * 2 ^ 52)) + r8.1)) - (4503599627370496 : Int))), b3)))))))
def e (k : Nat) (q5 : Q0) (q23 : Q1) (_q0 : Q2) (a0 : RX) : Option (Int × Bool) :=
 (Option.bind (ref01_Bits.f k a0.1.2) fun r1 =>
  (bif (decide (r1 = (0 : Int))) then
   q5 ()
  else
   (Option.bind (ref01_Bits.f k a0.2) fun r2 =>
    (bif (decide (r2 = (0 : Int))) then
     q5 ()
    else
     (Option.bind (ref01_Bits.f k a0.1.2) fun r3 =>
      (Option.bind (ref01_Bits.f k a0.2) fun r4 =>
       (bif (decide ((IntKind.i64.wrap (r3 - r4)) > (1030 : Int))) then
        (some ((9218868437227405311 : Int), false))
       else
        (bif (decide ((IntKind.i64.wrap (r3 - r4)) < (-1100 : Int))) then
         (some ((0 : Int), false))
        else
         (bif (decide ((IntKind.i64.wrap ((IntKind.i64.wrap (r3 - r4)) - (54 : Int))) < (-1074 : Int))) then
          q23 a0 (-1074 : Int)
         else
          q23 a0 (IntKind.i64.wrap ((IntKind.i64.wrap (r3 - r4)) - (54 : Int))))))))))))
def pts : Nat → (Q0) × (Q1) × (Q2)
 | 0 => (fun _ => none, fun _ _ => none, fun _ _ _ _ => none)
 | k + 1 => (e5 k (pts k).1 (pts k).2.1 (pts k).2.2, e23 k (pts k).1 (pts k).2.1 (pts k).2.2, e0 k (pts k).1 (pts k).2.1 (pts k).2.2)
def p5 (k : Nat) : Q0 := (pts k).1
def p23 (k : Nat) : Q1 := (pts k).2.1
def p0 (k : Nat) : Q2 := (pts k).2.2
theorem p5_succ (k : Nat) (x0 : Unit) : p5 (k + 1) x0 = e5 k (p5 k) (p23 k) (p0 k) x0 := rfl
theorem p23_succ (k : Nat) (x0 : RX) (x1 : Int) : p23 (k + 1) x0 x1 = e23 k (p5 k) (p23 k) (p0 k) x0 x1 := rfl
theorem p0_succ (k : Nat) (x0 : RX) (x1 : Int) (x2 : LX) (x3 : Bool) : p0 (k + 1) x0 x1 x2 x3 = e0 k (p5 k) (p23 k) (p0 k) x0 x1 x2 x3 := rfl
def f (k : Nat) (a0 : RX) : Option (Int × Bool) := e k (p5 k) (p23 k) (p0 k) a0
end ref04_below

namespace ref04_NearestBits
abbrev Q0 : Type := Int → Int → Option Int
def e17 (_k : Nat) (_q17 _q27 _q29 : Q0) (b0 b1 : Int) : Option Int :=
 (some (bitsI .or .u64 b0 b1))
def e27 (_k : Nat) (_q17 _q27 q29 : Q0) (b0 b1 : Int) : Option Int :=
 q29 b0 (IntKind.u64.wrap (b1 + (1 : Int)))
def e29 (_k : Nat) (_q17 _q27 _q29 : Q0) (b0 b1 : Int) : Option Int :=
 (some (bitsI .or .u64 b0 b1))
def e (k : Nat) (q17 q27 q29 : Q0) (a0 : RX) : Option Int :=
 (Option.bind (ref04_amount.f k a0) fun r1 =>
  (Option.bind (ref01_Bits.f k r1.1.2) fun r2 =>
   (bif (decide (r2 = (0 : Int))) then
    (some (0 : Int))
   else
    (Option.bind (ref01_Of.f k (18014398509481983 : Int)) fun r3 =>
     (Option.bind (ref04_against.f k r1.1 r3 (970 : Int)) fun r4 =>
      (bif (decide (r4 ≥ (0 : Int))) then
       (some (bitsI .or .u64 r1.2 (9218868437227405312 : Int)))
      else
       (Option.bind (ref04_below.f k r1.1) fun r5 =>
        (bif r5.2 then
         q17 r1.2 r5.1
        else
         (bif (decide (r5.1 = (9218868437227405311 : Int))) then
          q17 r1.2 r5.1
         else
          (Option.bind (ref04_parts.f k r5.1) fun r6 =>
           (Option.bind (ref04_parts.f k (IntKind.u64.wrap (r5.1 + (1 : Int)))) fun r7 =>
            (bif (decide ((IntKind.u64.wrap (IntKind.i64.wrap (r7.2 - r6.2))) < 0)) then
             none
            else
             (Option.bind (ref01_Of.f k (IntKind.u64.wrap (r6.1 + (IntKind.u64.wrap (r7.1 * 2 ^ min (Int.toNat (IntKind.u64.wrap (IntKind.i64.wrap (r7.2 - r6.2)))) 64))))) fun r8 =>
              (Option.bind (ref04_against.f k r1.1 r8 (IntKind.i64.wrap (r6.2 - (1 : Int)))) fun r9 =>
               (bif (decide (r9 > (0 : Int))) then
                q27 r1.2 r5.1
               else
                (bif (decide (r9 = (0 : Int))) then
                 (bif (decide ((Int.tmod r5.1 (2 : Int)) = (1 : Int))) then
                  q27 r1.2 r5.1
                 else
                  q29 r1.2 r5.1)
                else
                 q29 r1.2 r5.1))))))))))))))))
def pts : Nat → (Q0) × (Q0) × (Q0)
 | 0 => (fun _ _ => none, fun _ _ => none, fun _ _ => none)
 | k + 1 => (e17 k (pts k).1 (pts k).2.1 (pts k).2.2, e27 k (pts k).1 (pts k).2.1 (pts k).2.2, e29 k (pts k).1 (pts k).2.1 (pts k).2.2)
def p17 (k : Nat) : Q0 := (pts k).1
def p27 (k : Nat) : Q0 := (pts k).2.1
def p29 (k : Nat) : Q0 := (pts k).2.2
theorem p17_succ (k : Nat) (x0 x1 : Int) : p17 (k + 1) x0 x1 = e17 k (p17 k) (p27 k) (p29 k) x0 x1 := rfl
theorem p27_succ (k : Nat) (x0 x1 : Int) : p27 (k + 1) x0 x1 = e27 k (p17 k) (p27 k) (p29 k) x0 x1 := rfl
theorem p29_succ (k : Nat) (x0 x1 : Int) : p29 (k + 1) x0 x1 = e29 k (p17 k) (p27 k) (p29 k) x0 x1 := rfl
def f (k : Nat) (a0 : RX) : Option Int := e k (p17 k) (p27 k) (p29 k) a0
end ref04_NearestBits

namespace ref04_shortest
abbrev Q0 : Type := LX → LX → Bool → Bool → Option (LX × Bool)
abbrev Q1 : Type := LX → Option (LX × Bool)
def e15 (_k : Nat) (_q15 : Q0) (_q29 _q31 : Q1) (b0 b1 : LX) (b2 b3 : Bool) : Option (LX × Bool) :=
 (bif b2 then
  (some (b0, true))
 else
  (some (b1, b3)))
def e29 (_k : Nat) (_q15 : Q0) (_q29 _q31 : Q1) (b0 : LX) : Option (LX × Bool) :=
 (some (b0, true))
def e31 (_k : Nat) (_q15 : Q0) (_q29 _q31 : Q1) (b0 : LX) : Option (LX × Bool) :=
 (some (b0, true))
def e (k : Nat) (q15 : Q0) (q29 q31 : Q1) (a0 : RX) (a1 a2 : Int) : Option (LX × Bool) :=
 (Option.bind (ref04_tens.f k a2) fun r1 =>
  (Option.bind (ref01_Mul.f k a0.1.2 r1.2) fun r2 =>
   (Option.bind (ref01_Mul.f k a0.2 r1.1.2) fun r3 =>
    (Option.bind (ref01_Div.f k r2 r3) fun r4 =>
     (Option.bind (ref01_Add.f k r4.1 [(1 : Int)]) fun r5 =>
      (Option.bind (ref04_timesTen.f k r4.1 a2) fun r6 =>
       (Option.bind (ref04_NearestBits.f k r6) fun r7 =>
        (Option.bind (ref04_timesTen.f k r5 a2) fun r8 =>
         (Option.bind (ref04_NearestBits.f k r8) fun r9 =>
          (bif (!(decide (r7 = a1))) then
           q15 r4.1 r5 (decide (r7 = a1)) (decide (r9 = a1))
          else
           (bif (!(decide (r9 = a1))) then
            q15 r4.1 r5 (decide (r7 = a1)) (decide (r9 = a1))
           else
            (Option.bind (ref01_Add.f k r4.1 r5) fun r10 =>
             (Option.bind (ref04_timesTen.f k r10 a2) fun r11 =>
              (Option.bind (ref01_Add.f k a0.1.2 a0.1.2) fun r12 =>
               (Option.bind (ref01_Mul.f k r12 r11.2) fun r13 =>
                (Option.bind (ref01_Mul.f k r11.1.2 a0.2) fun r14 =>
                 (Option.bind (ref01_Cmp.f k r13 r14) fun r15 =>
                  (bif (decide (r15 < (0 : Int))) then
                   q29 r4.1
                  else
                   (bif (decide (r15 = (0 : Int))) then
                    (Option.bind (ref01_Bit.f k r4.1 (0 : Int)) fun r16 =>
                     (bif (!r16) then
                      q29 r4.1
                     else
                      q31 r5))
                   else
                    q31 r5)))))))))))))))))))
def pts : Nat → (Q0) × (Q1) × (Q1)
 | 0 => (fun _ _ _ _ => none, fun _ => none, fun _ => none)
 | k + 1 => (e15 k (pts k).1 (pts k).2.1 (pts k).2.2, e29 k (pts k).1 (pts k).2.1 (pts k).2.2, e31 k (pts k).1 (pts k).2.1 (pts k).2.2)
def p15 (k : Nat) : Q0 := (pts k).1
def p29 (k : Nat) : Q1 := (pts k).2.1
def p31 (k : Nat) : Q1 := (pts k).2.2
theorem p15_succ (k : Nat) (x0 x1 : LX) (x2 x3 : Bool) : p15 (k + 1) x0 x1 x2 x3 = e15 k (p15 k) (p29 k) (p31 k) x0 x1 x2 x3 := rfl
theorem p29_succ (k : Nat) (x0 : LX) : p29 (k + 1) x0 = e29 k (p15 k) (p29 k) (p31 k) x0 := rfl
theorem p31_succ (k : Nat) (x0 : LX) : p31 (k + 1) x0 = e31 k (p15 k) (p29 k) (p31 k) x0 := rfl
def f (k : Nat) (a0 : RX) (a1 a2 : Int) : Option (LX × Bool) := e k (p15 k) (p29 k) (p31 k) a0 a1 a2
end ref04_shortest

namespace ref01_tenth
def e0 (k : Nat) (q0 : LX → LX → Int → Int → Int → Option (LX × Int)) (b0 b1 : LX) (b2 b3 b4 : Int) : Option (LX × Int) :=
 (bif (decide (b4 ≥ (0 : Int))) then
  (bif (decide (0 ≤ b4) && decide (b4 < (b1.length : Int))) then
   (bif (decide ((IntKind.u64.wrap b2) = 0)) then
    none
   else
    (bif (decide (0 ≤ b4) && decide (b4 < (b0.length : Int))) then
     (bif (decide ((IntKind.u64.wrap b2) = 0)) then
      none
     else
      q0 (setN (IntKind.u32.wrap (IntKind.u64.wrap (Int.tdiv (bitsI .or .u64 (IntKind.u64.wrap (b3 * 2 ^ 32)) (IntKind.u64.wrap (nthD (0 : Int) b1 (Int.toNat b4)))) (IntKind.u64.wrap b2)))) b0 (Int.toNat b4)) b1 b2 (Int.tmod (bitsI .or .u64 (IntKind.u64.wrap (b3 * 2 ^ 32)) (IntKind.u64.wrap (nthD (0 : Int) b1 (Int.toNat b4)))) (IntKind.u64.wrap b2)) (IntKind.i64.wrap (b4 - (1 : Int))))
    else
     none))
  else
   none)
 else
  (Option.bind (ref01_Norm.f k b0) fun r1 =>
   (some (r1, (IntKind.i64.wrap b3)))))
def e (_k : Nat) (q0 : LX → LX → Int → Int → Int → Option (LX × Int)) (a0 : LX) (a1 : Int) : Option (LX × Int) :=
 (bif (decide (0 ≤ (a0.length : Int)) && decide ((a0.length : Int) * 4 ≤ 281474976710656) && decide ((a0.length : Int) ≤ 9223372036854775807)) then
  q0 (List.replicate (Int.toNat (a0.length : Int)) (0 : Int)) a0 a1 (0 : Int) (IntKind.i64.wrap ((a0.length : Int) - (1 : Int)))
 else
  none)
def pts : Nat → (LX → LX → Int → Int → Int → Option (LX × Int))
 | 0 => fun _ _ _ _ _ => none
 | k + 1 => e0 k (pts k)
def p0 (k : Nat) : LX → LX → Int → Int → Int → Option (LX × Int) := (pts k)
theorem p0_succ (k : Nat) (x0 x1 : LX) (x2 x3 x4 : Int) : p0 (k + 1) x0 x1 x2 x3 x4 = e0 k (p0 k) x0 x1 x2 x3 x4 := rfl
def f (k : Nat) (a0 : LX) (a1 : Int) : Option (LX × Int) := e k (p0 k) a0 a1
end ref01_tenth

namespace ref01_Text
abbrev Q0 : Type := Unit → Option (ByteArray × Int)
abbrev Q1 : Type := LX → LX → Int → Option (ByteArray × Int)
def e5 (_k : Nat) (_q5 : Q0) (_q0 _q4 : Q1) (_ : Unit) : Option (ByteArray × Int) :=
 (some ((ByteArray.mk #[]), (14 : Int)))
def e0 (k : Nat) (_q5 : Q0) (q0 q4 : Q1) (b0 b1 : LX) (b2 : Int) : Option (ByteArray × Int) :=
 (bif (decide ((b1.length : Int) > (0 : Int))) then
  (Option.bind (ref01_tenth.f k b1 b2) fun r2 =>
   (bif (decide (0 ≤ r2.2) && decide (r2.2 < (str_9f9f5111f7.size : Int))) then
    (bif (Nat.ble ((b0.length + [(btI str_9f9f5111f7 r2.2)].length) * 1) 140737488355328 && Nat.ble (b0.length + [(btI str_9f9f5111f7 r2.2)].length) 9223372036854775807) then
     q0 (b0 ++ [(btI str_9f9f5111f7 r2.2)]) r2.1 b2
    else
     none)
   else
    none))
 else
  (bif (decide ((b0.length : Int) = (0 : Int))) then
   (some ((ByteArray.mk #[48]), (0 : Int)))
  else
   (bif (decide (0 ≤ (b0.length : Int)) && decide ((b0.length : Int) * 1 ≤ 281474976710656) && decide ((b0.length : Int) ≤ 9223372036854775807)) then
    q4 b0 (List.replicate (Int.toNat (b0.length : Int)) (0 : Int)) (0 : Int)
   else
    none)))
def e4 (_k : Nat) (_q5 : Q0) (_q0 q4 : Q1) (b0 b1 : LX) (b2 : Int) : Option (ByteArray × Int) :=
 (bif (decide (b2 < (b0.length : Int))) then
  (bif (decide (0 ≤ b2) && decide (b2 < (b0.length : Int))) then
   (bif (decide (0 ≤ (IntKind.i64.wrap ((IntKind.i64.wrap ((b0.length : Int) - (1 : Int))) - b2))) && decide ((IntKind.i64.wrap ((IntKind.i64.wrap ((b0.length : Int) - (1 : Int))) - b2)) < (b1.length : Int))) then
    q4 b0 (setN (nthD (0 : Int) b0 (Int.toNat b2)) b1 (Int.toNat (IntKind.i64.wrap ((IntKind.i64.wrap ((b0.length : Int) - (1 : Int))) - b2)))) (IntKind.i64.wrap (b2 + (1 : Int)))
   else
    none)
  else
   none)
 else
  (some ((ofB b1), (0 : Int))))
def e (k : Nat) (q5 : Q0) (q0 _q4 : Q1) (a0 : LX) (a1 : Int) : Option (ByteArray × Int) :=
 (bif (decide (a1 < (2 : Int))) then
  q5 ()
 else
  (bif (decide (a1 > (16 : Int))) then
   q5 ()
  else
   (Option.bind (ref01_Norm.f k a0) fun r1 =>
    q0 ([] : List Int) r1 a1)))
def pts : Nat → (Q0) × (Q1) × (Q1)
 | 0 => (fun _ => none, fun _ _ _ => none, fun _ _ _ => none)
 | k + 1 => (e5 k (pts k).1 (pts k).2.1 (pts k).2.2, e0 k (pts k).1 (pts k).2.1 (pts k).2.2, e4 k (pts k).1 (pts k).2.1 (pts k).2.2)
def p5 (k : Nat) : Q0 := (pts k).1
def p0 (k : Nat) : Q1 := (pts k).2.1
def p4 (k : Nat) : Q1 := (pts k).2.2
theorem p0_succ (k : Nat) (x0 x1 : LX) (x2 : Int) : p0 (k + 1) x0 x1 x2 = e0 k (p5 k) (p0 k) (p4 k) x0 x1 x2 := rfl
theorem p4_succ (k : Nat) (x0 x1 : LX) (x2 : Int) : p4 (k + 1) x0 x1 x2 = e4 k (p5 k) (p0 k) (p4 k) x0 x1 x2 := rfl
def f (k : Nat) (a0 : LX) (a1 : Int) : Option (ByteArray × Int) := e k (p5 k) (p0 k) (p4 k) a0 a1
end ref01_Text

namespace ref04_written
abbrev Q0 : Type := ByteArray → Int → Int → Option ByteArray
abbrev Q1 : Type := Int → ByteArray → Option ByteArray
def e0 (_k : Nat) (q0 q13 : Q0) (_q19 : Q1) (b0 : ByteArray) (b1 b2 : Int) : Option ByteArray :=
 (bif (decide (b2 > (1 : Int))) then
  (bif (decide (0 ≤ (IntKind.i64.wrap (b2 - (1 : Int)))) && decide ((IntKind.i64.wrap (b2 - (1 : Int))) < (b0.size : Int))) then
   (bif (decide ((btI b0 (IntKind.i64.wrap (b2 - (1 : Int)))) = (48 : Int))) then
    q0 b0 b1 (IntKind.i64.wrap (b2 - (1 : Int)))
   else
    q13 b0 b1 b2)
  else
   none)
 else
  q13 b0 b1 b2)
def e13 (_k : Nat) (_q0 _q13 : Q0) (q19 : Q1) (b0 : ByteArray) (b1 b2 : Int) : Option ByteArray :=
 (bif (decide (0 ≤ (0 : Int)) && decide ((0 : Int) ≤ (1 : Int)) && decide ((1 : Int) ≤ (b0.size : Int))) then
  (bif (decide (b2 > (1 : Int))) then
   (bif (decide ((((b0.extract (Int.toNat (0 : Int)) (Int.toNat (1 : Int))).size + (ByteArray.mk #[46]).size : Nat) : Int) > IntKind.i64.max)) then
    none
   else
    (bif (decide (0 ≤ (1 : Int)) && decide ((1 : Int) ≤ b2) && decide (b2 ≤ (b0.size : Int))) then
     (bif (decide (((((b0.extract (Int.toNat (0 : Int)) (Int.toNat (1 : Int))) ++ (ByteArray.mk #[46])).size + (b0.extract (Int.toNat (1 : Int)) (Int.toNat b2)).size : Nat) : Int) > IntKind.i64.max)) then
      none
     else
      q19 b1 (((b0.extract (Int.toNat (0 : Int)) (Int.toNat (1 : Int))) ++ (ByteArray.mk #[46])) ++ (b0.extract (Int.toNat (1 : Int)) (Int.toNat b2))))
    else
     none))
  else
   q19 b1 (b0.extract (Int.toNat (0 : Int)) (Int.toNat (1 : Int))))
 else
  none)
def e19 (k : Nat) (_q0 _q13 : Q0) (_q19 : Q1) (b0 : Int) (b1 : ByteArray) : Option ByteArray :=
 (bif (decide (b0 < (0 : Int))) then
  (Option.bind (ref01_Of.f k (IntKind.u64.wrap (IntKind.i64.wrap ((0 : Int) - b0)))) fun r2 =>
   (Option.bind (ref01_Text.f k r2 (10 : Int)) fun r3 =>
    (bif (decide (((b1.size + (ByteArray.mk #[101, 45]).size : Nat) : Int) > IntKind.i64.max)) then
     none
    else
     (bif (decide ((((b1 ++ (ByteArray.mk #[101, 45])).size + r3.1.size : Nat) : Int) > IntKind.i64.max)) then
      none
     else
      (some ((b1 ++ (ByteArray.mk #[101, 45])) ++ r3.1))))))
 else
  (Option.bind (ref01_Of.f k (IntKind.u64.wrap b0)) fun r4 =>
   (Option.bind (ref01_Text.f k r4 (10 : Int)) fun r5 =>
    (bif (decide (((b1.size + (ByteArray.mk #[101]).size : Nat) : Int) > IntKind.i64.max)) then
     none
    else
     (bif (decide ((((b1 ++ (ByteArray.mk #[101])).size + r5.1.size : Nat) : Int) > IntKind.i64.max)) then
      none
     else
      (some ((b1 ++ (ByteArray.mk #[101])) ++ r5.1)))))))
def e (k : Nat) (q0 _q13 : Q0) (_q19 : Q1) (a0 : LX) (a1 : Int) : Option ByteArray :=
 (Option.bind (ref01_Text.f k a0 (10 : Int)) fun r1 =>
  q0 r1.1 (IntKind.i64.wrap ((IntKind.i64.wrap (a1 + (r1.1.size : Int))) - (1 : Int))) (r1.1.size : Int))
def pts : Nat → (Q0) × (Q0) × (Q1)
 | 0 => (fun _ _ _ => none, fun _ _ _ => none, fun _ _ => none)
 | k + 1 => (e0 k (pts k).1 (pts k).2.1 (pts k).2.2, e13 k (pts k).1 (pts k).2.1 (pts k).2.2, e19 k (pts k).1 (pts k).2.1 (pts k).2.2)
def p0 (k : Nat) : Q0 := (pts k).1
def p13 (k : Nat) : Q0 := (pts k).2.1
def p19 (k : Nat) : Q1 := (pts k).2.2
theorem p0_succ (k : Nat) (x0 : ByteArray) (x1 x2 : Int) : p0 (k + 1) x0 x1 x2 = e0 k (p0 k) (p13 k) (p19 k) x0 x1 x2 := rfl
theorem p13_succ (k : Nat) (x0 : ByteArray) (x1 x2 : Int) : p13 (k + 1) x0 x1 x2 = e13 k (p0 k) (p13 k) (p19 k) x0 x1 x2 := rfl
theorem p19_succ (k : Nat) (x0 : Int) (x1 : ByteArray) : p19 (k + 1) x0 x1 = e19 k (p0 k) (p13 k) (p19 k) x0 x1 := rfl
def f (k : Nat) (a0 : LX) (a1 : Int) : Option ByteArray := e k (p0 k) (p13 k) (p19 k) a0 a1
end ref04_written

namespace ref04_Short
abbrev Q0 : Type := Int → ByteArray → Option (ByteArray × Int)
abbrev Q1 : Type := RX → Int → ByteArray → Int → Option (ByteArray × Int)
abbrev Q2 : Type := RX → Int → ByteArray → Int → Int → Option (ByteArray × Int)
def e19 (k : Nat) (_q19 : Q0) (q0 : Q1) (_q4 : Q2) (b0 : Int) (b1 : ByteArray) : Option (ByteArray × Int) :=
 (bif (decide ((bitsI .andNot .u64 b0 (9223372036854775808 : Int)) = (0 : Int))) then
  (bif (decide (((b1.size + (ByteArray.mk #[48]).size : Nat) : Int) > IntKind.i64.max)) then
   none
  else
   (some ((b1 ++ (ByteArray.mk #[48])), (0 : Int))))
 else
  (Option.bind (ref04_parts.f k (bitsI .andNot .u64 b0 (9223372036854775808 : Int))) fun r4 =>
   (Option.bind (ref04_scaled.f k r4.1 r4.2) fun r5 =>
    (Option.bind (ref01_Bits.f k r5.1.2) fun r6 =>
     (Option.bind (ref01_Bits.f k r5.2) fun r7 =>
      q0 r5 (bitsI .andNot .u64 b0 (9223372036854775808 : Int)) b1 (IntKind.i64.wrap ((IntKind.i64.wrap (Int.tdiv (IntKind.i64.wrap ((IntKind.i64.wrap ((IntKind.i64.wrap (r6 - r7)) + (1100 : Int))) * (30103 : Int))) (100000 : Int))) - (334 : Int))))))))
def e0 (k : Nat) (_q19 : Q0) (q0 : Q1) (q4 : Q2) (b0 : RX) (b1 : Int) (b2 : ByteArray) (b3 : Int) : Option (ByteArray × Int) :=
 (Option.bind (ref04_lessTens.f k (IntKind.i64.wrap (b3 + (1 : Int))) b0) fun r8 =>
  (bif r8 then
   q0 b0 b1 b2 (IntKind.i64.wrap (b3 + (1 : Int)))
  else
   q4 b0 b1 b2 b3 (1 : Int)))
def e4 (k : Nat) (_q19 : Q0) (_q0 : Q1) (q4 : Q2) (b0 : RX) (b1 : Int) (b2 : ByteArray) (b3 b4 : Int) : Option (ByteArray × Int) :=
 (bif (decide (b4 < (18 : Int))) then
  (Option.bind (ref04_shortest.f k b0 b1 (IntKind.i64.wrap ((IntKind.i64.wrap (b3 - b4)) + (1 : Int)))) fun r9 =>
   (bif r9.2 then
    (Option.bind (ref04_written.f k r9.1 (IntKind.i64.wrap ((IntKind.i64.wrap (b3 - b4)) + (1 : Int)))) fun r10 =>
     (bif (decide (((b2.size + r10.size : Nat) : Int) > IntKind.i64.max)) then
      none
     else
      (some ((b2 ++ r10), (0 : Int)))))
   else
    q4 b0 b1 b2 b3 (IntKind.i64.wrap (b4 + (1 : Int)))))
 else
  (some ((ByteArray.mk #[]), (1 : Int))))
def e (k : Nat) (q19 : Q0) (_q0 : Q1) (_q4 : Q2) (a0 : Nat) : Option (ByteArray × Int) :=
 (Option.bind (math_Float64bits.f k a0) fun r1 =>
  (Option.bind (ref04_IsNaN.f k r1) fun r2 =>
   (bif r2 then
    (some ((ByteArray.mk #[]), (40 : Int)))
   else
    (Option.bind (ref04_IsInf.f k r1) fun r3 =>
     (bif r3 then
      (some ((ByteArray.mk #[]), (41 : Int)))
     else
      (bif (!decide ((bitsI .and .u64 r1 (9223372036854775808 : Int)) = (0 : Int))) then
       q19 r1 (ByteArray.mk #[45])
      else
       q19 r1 (ByteArray.mk #[])))))))
def pts : Nat → (Q0) × (Q1) × (Q2)
 | 0 => (fun _ _ => none, fun _ _ _ _ => none, fun _ _ _ _ _ => none)
 | k + 1 => (e19 k (pts k).1 (pts k).2.1 (pts k).2.2, e0 k (pts k).1 (pts k).2.1 (pts k).2.2, e4 k (pts k).1 (pts k).2.1 (pts k).2.2)
def p19 (k : Nat) : Q0 := (pts k).1
def p0 (k : Nat) : Q1 := (pts k).2.1
def p4 (k : Nat) : Q2 := (pts k).2.2
theorem p19_succ (k : Nat) (x0 : Int) (x1 : ByteArray) : p19 (k + 1) x0 x1 = e19 k (p19 k) (p0 k) (p4 k) x0 x1 := rfl
theorem p0_succ (k : Nat) (x0 : RX) (x1 : Int) (x2 : ByteArray) (x3 : Int) : p0 (k + 1) x0 x1 x2 x3 = e0 k (p19 k) (p0 k) (p4 k) x0 x1 x2 x3 := rfl
theorem p4_succ (k : Nat) (x0 : RX) (x1 : Int) (x2 : ByteArray) (x3 x4 : Int) : p4 (k + 1) x0 x1 x2 x3 x4 = e4 k (p19 k) (p0 k) (p4 k) x0 x1 x2 x3 x4 := rfl
def f (k a0 : Nat) : Option (ByteArray × Int) := e k (p19 k) (p0 k) (p4 k) a0
end ref04_Short

namespace law04_ApproxShorts
def e (k a0 : Nat) : Option Bool :=
 (Option.bind (approx_Short.f k a0) fun r1 =>
  (Option.bind (ref04_Short.f k a0) fun r2 =>
   (bif (decide (r1.2 = r2.2)) then
    (some (r1.1.toList == r2.1.toList))
   else
    (some false))))
def f (k a0 : Nat) : Option Bool := e k a0
end law04_ApproxShorts
end Go.FK
