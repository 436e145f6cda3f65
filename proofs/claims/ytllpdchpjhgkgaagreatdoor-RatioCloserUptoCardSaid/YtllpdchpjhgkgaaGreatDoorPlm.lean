/- Plain functions, printed by fgen.py: what the loaded functions come to. -/
import Derived.Test.YtllpdchpjhgkgaaGreatDoorF4
import Derived.Test.YtllpdchpjhgkgaaGreatDoorF5
namespace Go.FK
def tab_0 : List Int := [0, 1, 2, 3, 4, 5, 6, 7, 8, 9, 99, 99, 99, 99, 99, 99, 99, 99, 99, 99, 99, 99, 99, 99, 99, 99, 99, 99, 99, 99, 99, 99, 99, 99, 99, 99, 99, 99, 99, 99, 99, 99, 99, 99, 99, 99, 99, 99, 99, 10, 11, 12, 13, 14, 15]
/-- ???????????????????????????????????????????????????????????? -/
def str_14a5d850c2 : ByteArray := (ByteArray.mk #[0, 1, 2, 2, 3, 3, 3, 3, 4, 4, 4, 4, 4, 4, 4, 4, 5, 5, 5, 5, 5, 5, 5, 5, 5, 5, 5, 5, 5, 5, 5, 5, 6, 6, 6, 6, 6, 6, 6, 6, 6, 6, 6, 6, 6, 6, 6, 6, 6, 6, 6, 6, 6, 6, 6, 6, 6, 6, 6, 6, 6, 6, 6, 6, 7, 7, 7, 7, 7, 7, 7, 7, 7, 7, 7, 7, 7, 7, 7, 7, 7, 7, 7, 7, 7, 7, 7, 7, 7, 7, 7, 7, 7, 7, 7, 7, 7, 7, 7, 7, 7, 7, 7, 7, 7, 7, 7, 7, 7, 7, 7, 7, 7, 7, 7, 7, 7, 7, 7, 7, 7, 7, 7, 7, 7, 7, 7, 7, 8, 8, 8, 8, 8, 8, 8, 8, 8, 8, 8, 8, 8, 8, 8, 8, 8, 8, 8, 8, 8, 8, 8, 8, 8, 8, 8, 8, 8, 8, 8, 8, 8, 8, 8, 8, 8, 8, 8, 8, 8, 8, 8, 8, 8, 8, 8, 8, 8, 8, 8, 8, 8, 8, 8, 8, 8, 8, 8, 8, 8, 8, 8, 8, 8, 8, 8, 8, 8, 8, 8, 8, 8, 8, 8, 8, 8, 8, 8, 8, 8, 8, 8, 8, 8, 8, 8, 8, 8, 8, 8, 8, 8, 8, 8, 8, 8, 8, 8, 8, 8, 8, 8, 8, 8, 8, 8, 8, 8, 8, 8, 8, 8, 8, 8, 8, 8, 8, 8, 8, 8, 8, 8, 8, 8, 8, 8, 8])
abbrev LX : Type := List Int
abbrev ZX : Type := Bool × List Int
abbrev RX : Type := (Bool × List Int) × List Int

namespace law03_nat
def e0 (_k : Nat) (q0 : LX → LX → Int → Option LX) (b0 b1 : LX) (b2 : Int) : Option LX :=
 (bif (decide (b2 < (b1.length : Int))) then
  (bif (decide (0 ≤ b2) && decide (b2 < (b1.length : Int))) then
   (bif (decide (0 ≤ b2) && decide (b2 < (b0.length : Int))) then
    q0 (setN (nthD (0 : Int) b1 (Int.toNat b2)) b0 (Int.toNat b2)) b1 (IntKind.i64.wrap (b2 + (1 : Int)))
   else
    none)
  else
   none)
 else
  (some b0))
def e (_k : Nat) (q0 : LX → LX → Int → Option LX) (a0 : LX) : Option LX :=
 (bif (decide (0 ≤ (a0.length : Int)) && decide ((a0.length : Int) * 4 ≤ 281474976710656) && decide ((a0.length : Int) ≤ 9223372036854775807)) then
  q0 (List.replicate (Int.toNat (a0.length : Int)) (0 : Int)) a0 (0 : Int)
 else
  none)
def pts : Nat → (LX → LX → Int → Option LX)
 | 0 => fun _ _ _ => none
 | k + 1 => e0 k (pts k)
def p0 (k : Nat) : LX → LX → Int → Option LX := (pts k)
theorem p0_succ (k : Nat) (x0 x1 : LX) (x2 : Int) : p0 (k + 1) x0 x1 x2 = e0 k (p0 k) x0 x1 x2 := rfl
def f (k : Nat) (a0 : LX) : Option LX := e k (p0 k) a0
end law03_nat

namespace law03_whole
def e (k : Nat) (a0 : ZX) : Option ZX :=
 (Option.bind (law03_nat.f k a0.2) fun r1 =>
  (some (a0.1, r1)))
def f (k : Nat) (a0 : ZX) : Option ZX := e k a0
end law03_whole

namespace law03_twin
def e (k : Nat) (a0 : RX) : Option RX :=
 (Option.bind (law03_whole.f k a0.1) fun r1 =>
  (Option.bind (law03_nat.f k a0.2) fun r2 =>
   (some (r1, r2))))
def f (k : Nat) (a0 : RX) : Option RX := e k a0
end law03_twin

namespace nat_trim
abbrev Q0 : Type := LX → Int → Option LX
def e0 (_k : Nat) (q0 q9 : Q0) (b0 : LX) (b1 : Int) : Option LX :=
 (bif (decide (b1 > (0 : Int))) then
  (bif (decide (0 ≤ (IntKind.i64.wrap (b1 - (1 : Int)))) && decide ((IntKind.i64.wrap (b1 - (1 : Int))) < (b0.length : Int))) then
   (bif (decide ((nthD (0 : Int) b0 (Int.toNat (IntKind.i64.wrap (b1 - (1 : Int))))) = (0 : Int))) then
    q0 b0 (IntKind.i64.wrap (b1 - (1 : Int)))
   else
    q9 b0 b1)
  else
   none)
 else
  q9 b0 b1)
def e9 (_k : Nat) (_q0 _q9 : Q0) (b0 : LX) (b1 : Int) : Option LX :=
 (bif (decide (0 ≤ (0 : Int)) && decide ((0 : Int) ≤ b1) && decide (b1 ≤ (b0.length : Int))) then
  (some ((b0.take (Int.toNat b1)).drop (Int.toNat (0 : Int))))
 else
  none)
def e (_k : Nat) (q0 _q9 : Q0) (a0 : LX) : Option LX :=
 q0 a0 (a0.length : Int)
def pts : Nat → (Q0) × (Q0)
 | 0 => (fun _ _ => none, fun _ _ => none)
 | k + 1 => (e0 k (pts k).1 (pts k).2, e9 k (pts k).1 (pts k).2)
def p0 (k : Nat) : Q0 := (pts k).1
def p9 (k : Nat) : Q0 := (pts k).2
theorem p0_succ (k : Nat) (x0 : LX) (x1 : Int) : p0 (k + 1) x0 x1 = e0 k (p0 k) (p9 k) x0 x1 := rfl
theorem p9_succ (k : Nat) (x0 : LX) (x1 : Int) : p9 (k + 1) x0 x1 = e9 k (p0 k) (p9 k) x0 x1 := rfl
def f (k : Nat) (a0 : LX) : Option LX := e k (p0 k) (p9 k) a0
end nat_trim

namespace bits_Len32
abbrev Q0 : Type := Int → Int → Option Int
def e9 (_k : Nat) (_q9 q15 : Q0) (b0 b1 : Int) : Option Int :=
 (bif (decide (b0 ≥ (256 : Int))) then
  q15 (Int.fdiv b0 (2 ^ 8)) (IntKind.i64.wrap (b1 + (8 : Int)))
 else
  q15 b0 b1)
def e15 (_k : Nat) (_q9 _q15 : Q0) (b0 b1 : Int) : Option Int :=
 (bif (decide (0 ≤ (IntKind.u8.wrap b0)) && decide ((IntKind.u8.wrap b0) < (str_14a5d850c2.size : Int))) then
  (some (IntKind.i64.wrap (b1 + (IntKind.i64.wrap (btI str_14a5d850c2 (IntKind.u8.wrap b0))))))
 else
  none)
def e (_k : Nat) (q9 _q15 : Q0) (a0 : Int) : Option Int :=
 (bif (decide (a0 ≥ (65536 : Int))) then
  q9 (Int.fdiv a0 (2 ^ 16)) (16 : Int)
 else
  q9 a0 (0 : Int))
def pts : Nat → (Q0) × (Q0)
 | 0 => (fun _ _ => none, fun _ _ => none)
 | k + 1 => (e9 k (pts k).1 (pts k).2, e15 k (pts k).1 (pts k).2)
def p9 (k : Nat) : Q0 := (pts k).1
def p15 (k : Nat) : Q0 := (pts k).2
theorem p9_succ (k : Nat) (x0 x1 : Int) : p9 (k + 1) x0 x1 = e9 k (p9 k) (p15 k) x0 x1 := rfl
theorem p15_succ (k : Nat) (x0 x1 : Int) : p15 (k + 1) x0 x1 = e15 k (p9 k) (p15 k) x0 x1 := rfl
def f (k : Nat) (a0 : Int) : Option Int := e k (p9 k) (p15 k) a0
end bits_Len32

namespace nat_Bits
def e (k : Nat) (a0 : LX) : Option Int :=
 (Option.bind (nat_trim.f k a0) fun r1 =>
  (bif (decide ((r1.length : Int) = (0 : Int))) then
   (some (0 : Int))
  else
   (bif (decide (0 ≤ (IntKind.i64.wrap ((r1.length : Int) - (1 : Int)))) && decide ((IntKind.i64.wrap ((r1.length : Int) - (1 : Int))) < (r1.length : Int))) then
    (Option.bind (bits_Len32.f k (nthD (0 : Int) r1 (Int.toNat (IntKind.i64.wrap ((r1.length : Int) - (1 : Int)))))) fun r2 =>
     (some (IntKind.i64.wrap ((IntKind.i64.wrap ((32 : Int) * (IntKind.i64.wrap ((r1.length : Int) - (1 : Int))))) + r2))))
   else
    none)))
def f (k : Nat) (a0 : LX) : Option Int := e k a0
end nat_Bits

namespace nat_own
def e (k : Nat) (a0 : LX) : Option LX :=
 (Option.bind (nat_trim.f k a0) fun r1 =>
  (bif (decide ((r1.length : Int) = (0 : Int))) then
   (some ([] : List Int))
  else
   (bif (decide (0 ≤ (r1.length : Int)) && decide ((r1.length : Int) * 4 ≤ 281474976710656) && decide ((r1.length : Int) ≤ 9223372036854775807)) then
    (some (r1.take (List.replicate (Int.toNat (r1.length : Int)) (0 : Int)).length ++ (List.replicate (Int.toNat (r1.length : Int)) (0 : Int)).drop r1.length))
   else
    none)))
def f (k : Nat) (a0 : LX) : Option LX := e k a0
end nat_own

namespace nat_Cmp
def e0 (_k : Nat) (q0 : LX → LX → Int → Option Int) (b0 b1 : LX) (b2 : Int) : Option Int :=
 (bif (decide (b2 ≥ (0 : Int))) then
  (bif (decide (0 ≤ b2) && decide (b2 < (b0.length : Int))) then
   (bif (decide (0 ≤ b2) && decide (b2 < (b1.length : Int))) then
    (bif (!decide ((nthD (0 : Int) b0 (Int.toNat b2)) = (nthD (0 : Int) b1 (Int.toNat b2)))) then
     (bif (decide (0 ≤ b2) && decide (b2 < (b0.length : Int))) then
      (bif (decide (0 ≤ b2) && decide (b2 < (b1.length : Int))) then
       (bif (decide ((nthD (0 : Int) b0 (Int.toNat b2)) < (nthD (0 : Int) b1 (Int.toNat b2)))) then
        (some (-1 : Int))
       else
        (some (1 : Int)))
      else
       none)
     else
      none)
    else
     q0 b0 b1 (IntKind.i64.wrap (b2 - (1 : Int))))
   else
    none)
  else
   none)
 else
  (some (0 : Int)))
def e (k : Nat) (q0 : LX → LX → Int → Option Int) (a0 a1 : LX) : Option Int :=
 (Option.bind (nat_trim.f k a0) fun r1 =>
  (Option.bind (nat_trim.f k a1) fun r2 =>
   (bif (!decide ((r1.length : Int) = (r2.length : Int))) then
    (bif (decide ((r1.length : Int) < (r2.length : Int))) then
     (some (-1 : Int))
    else
     (some (1 : Int)))
   else
    q0 r1 r2 (IntKind.i64.wrap ((r1.length : Int) - (1 : Int))))))
def pts : Nat → (LX → LX → Int → Option Int)
 | 0 => fun _ _ _ => none
 | k + 1 => e0 k (pts k)
def p0 (k : Nat) : LX → LX → Int → Option Int := (pts k)
theorem p0_succ (k : Nat) (x0 x1 : LX) (x2 : Int) : p0 (k + 1) x0 x1 x2 = e0 k (p0 k) x0 x1 x2 := rfl
def f (k : Nat) (a0 a1 : LX) : Option Int := e k (p0 k) a0 a1
end nat_Cmp

namespace bits_Div32
def e7 (_k : Nat) (_q7 : Int → Int → Int → Option (Int × Int)) (b0 b1 b2 : Int) : Option (Int × Int) :=
 (bif (decide ((IntKind.u64.wrap b2) = 0)) then
  none
 else
  (bif (decide ((IntKind.u64.wrap b2) = 0)) then
   none
  else
   (some ((IntKind.u32.wrap (IntKind.u64.wrap (Int.tdiv (bitsI .or .u64 (IntKind.u64.wrap ((IntKind.u64.wrap b0) * 2 ^ 32)) (IntKind.u64.wrap b1)) (IntKind.u64.wrap b2)))), (IntKind.u32.wrap (Int.tmod (bitsI .or .u64 (IntKind.u64.wrap ((IntKind.u64.wrap b0) * 2 ^ 32)) (IntKind.u64.wrap b1)) (IntKind.u64.wrap b2)))))))
def e (_k : Nat) (q7 : Int → Int → Int → Option (Int × Int)) (a0 a1 a2 : Int) : Option (Int × Int) :=
 (bif (!decide (a2 = (0 : Int))) then
  (bif (decide (a2 ≤ a0)) then
   none
  else
   q7 a0 a1 a2)
 else
  q7 a0 a1 a2)
def pts : Nat → (Int → Int → Int → Option (Int × Int))
 | 0 => fun _ _ _ => none
 | k + 1 => e7 k (pts k)
def p7 (k : Nat) : Int → Int → Int → Option (Int × Int) := (pts k)
theorem p7_succ (k : Nat) (x0 x1 x2 : Int) : p7 (k + 1) x0 x1 x2 = e7 k (p7 k) x0 x1 x2 := rfl
def f (k : Nat) (a0 a1 a2 : Int) : Option (Int × Int) := e k (p7 k) a0 a1 a2
end bits_Div32

namespace nat_short
def e0 (k : Nat) (q0 : LX → LX → Int → Int → Int → Option (LX × Int)) (b0 b1 : LX) (b2 b3 b4 : Int) : Option (LX × Int) :=
 (bif (decide (b4 ≥ (0 : Int))) then
  (bif (decide (0 ≤ b4) && decide (b4 < (b1.length : Int))) then
   (Option.bind (bits_Div32.f k b3 (nthD (0 : Int) b1 (Int.toNat b4)) b2) fun r1 =>
    (bif (decide (0 ≤ b4) && decide (b4 < (b0.length : Int))) then
     q0 (setN r1.1 b0 (Int.toNat b4)) b1 b2 r1.2 (IntKind.i64.wrap (b4 - (1 : Int)))
    else
     none))
  else
   none)
 else
  (some (b0, b3)))
def e (_k : Nat) (q0 : LX → LX → Int → Int → Int → Option (LX × Int)) (a0 : LX) (a1 : Int) : Option (LX × Int) :=
 (bif (decide (0 ≤ (a0.length : Int)) && decide ((a0.length : Int) * 4 ≤ 281474976710656) && decide ((a0.length : Int) ≤ 9223372036854775807)) then
  q0 (List.replicate (Int.toNat (a0.length : Int)) (0 : Int)) a0 a1 (0 : Int) (IntKind.i64.wrap ((a0.length : Int) - (1 : Int)))
 else
  none)
def pts : Nat → (LX → LX → Int → Int → Int → Option (LX × Int))
 | 0 => fun _ _ _ _ _ => none
 | k + 1 => e0 k (pts k)
def p0 (k : Nat) : LX → LX → Int → Int → Int → Option (LX × Int) := (pts k)
theorem p0_succ (k : Nat) (x0 x1 : LX) (x2 x3 x4 : Int) : p0 (k + 1) x0 x1 x2 x3 x4 = e0 k (p0 k) x0 x1 x2 x3 x4 := rfl
def f (k : Nat) (a0 : LX) (a1 : Int) : Option (LX × Int) := e k (p0 k) a0 a1
end nat_short

namespace bits_LeadingZeros32
def e (k : Nat) (a0 : Int) : Option Int :=
 (Option.bind (bits_Len32.f k a0) fun r1 =>
  (some (IntKind.i64.wrap ((32 : Int) - r1))))
def f (k : Nat) (a0 : Int) : Option Int := e k a0
end bits_LeadingZeros32

namespace nat_moved
def e0 (_k : Nat) (q0 : LX → LX → Int → Int → Int → Option LX) (b0 b1 : LX) (b2 b3 b4 : Int) : Option LX :=
 (bif (decide (b4 < b3)) then
  (bif (decide (0 ≤ b4) && decide (b4 < (b0.length : Int))) then
   (bif (decide (0 ≤ b4) && decide (b4 < (b1.length : Int))) then
    (bif (decide (b2 < 0)) then
     none
    else
     (bif (decide (0 ≤ b4) && decide (b4 < (b0.length : Int))) then
      (bif (decide (0 ≤ b4) && decide (b4 < (b1.length : Int))) then
       (bif (decide ((IntKind.i64.wrap ((32 : Int) - b2)) < 0)) then
        none
       else
        (bif (decide (0 ≤ (IntKind.i64.wrap (b4 + (1 : Int)))) && decide ((IntKind.i64.wrap (b4 + (1 : Int))) < ((setN (bitsI .or .u32 (nthD (0 : Int) b0 (Int.toNat b4)) (IntKind.u32.wrap ((nthD (0 : Int) b1 (Int.toNat b4)) * 2 ^ min (Int.toNat b2) 32))) b0 (Int.toNat b4)).length : Int))) then
         q0 (setN (IntKind.u32.wrap (Int.fdiv (IntKind.u64.wrap (nthD (0 : Int) b1 (Int.toNat b4))) (2 ^ min (Int.toNat (IntKind.i64.wrap ((32 : Int) - b2))) 64))) (setN (bitsI .or .u32 (nthD (0 : Int) b0 (Int.toNat b4)) (IntKind.u32.wrap ((nthD (0 : Int) b1 (Int.toNat b4)) * 2 ^ min (Int.toNat b2) 32))) b0 (Int.toNat b4)) (Int.toNat (IntKind.i64.wrap (b4 + (1 : Int))))) b1 b2 b3 (IntKind.i64.wrap (b4 + (1 : Int)))
        else
         none))
      else
       none)
     else
      none))
   else
    none)
  else
   none)
 else
  (some b0))
def e (_k : Nat) (q0 : LX → LX → Int → Int → Int → Option LX) (a0 : LX) (a1 : Int) : Option LX :=
 (bif (decide (0 ≤ (IntKind.i64.wrap ((a0.length : Int) + (1 : Int)))) && decide ((IntKind.i64.wrap ((a0.length : Int) + (1 : Int))) * 4 ≤ 281474976710656) && decide ((IntKind.i64.wrap ((a0.length : Int) + (1 : Int))) ≤ 9223372036854775807)) then
  q0 (List.replicate (Int.toNat (IntKind.i64.wrap ((a0.length : Int) + (1 : Int)))) (0 : Int)) a0 a1 (a0.length : Int) (0 : Int)
 else
  none)
def pts : Nat → (LX → LX → Int → Int → Int → Option LX)
 | 0 => fun _ _ _ _ _ => none
 | k + 1 => e0 k (pts k)
def p0 (k : Nat) : LX → LX → Int → Int → Int → Option LX := (pts k)
theorem p0_succ (k : Nat) (x0 x1 : LX) (x2 x3 x4 : Int) : p0 (k + 1) x0 x1 x2 x3 x4 = e0 k (p0 k) x0 x1 x2 x3 x4 := rfl
def f (k : Nat) (a0 : LX) (a1 : Int) : Option LX := e k (p0 k) a0 a1
end nat_moved

namespace bits_Sub32
def e (_k : Nat) (a0 a1 a2 : Int) : Option (Int × Int) :=
 (some ((IntKind.u32.wrap ((IntKind.u32.wrap (a0 - a1)) - a2)), (Int.fdiv (bitsI .or .u32 (bitsI .and .u32 (bitsI .xor .u32 IntKind.u32.max a0) a1) (bitsI .and .u32 (bitsI .xor .u32 IntKind.u32.max (bitsI .xor .u32 a0 a1)) (IntKind.u32.wrap ((IntKind.u32.wrap (a0 - a1)) - a2)))) (2 ^ 31))))
def f (k : Nat) (a0 a1 a2 : Int) : Option (Int × Int) := e k a0 a1 a2
end bits_Sub32

namespace bits_Add32
def e (_k : Nat) (a0 a1 a2 : Int) : Option (Int × Int) :=
 (some ((IntKind.u32.wrap (IntKind.u64.wrap ((IntKind.u64.wrap ((IntKind.u64.wrap a0) + (IntKind.u64.wrap a1))) + (IntKind.u64.wrap a2)))), (IntKind.u32.wrap (Int.fdiv (IntKind.u64.wrap ((IntKind.u64.wrap ((IntKind.u64.wrap a0) + (IntKind.u64.wrap a1))) + (IntKind.u64.wrap a2))) (2 ^ 32)))))
def f (k : Nat) (a0 a1 a2 : Int) : Option (Int × Int) := e k a0 a1 a2
end bits_Add32

namespace nat_digit
abbrev Q0 : Type := LX → Nat → Nat → LX → Int → Int → Int → Option (LX × Int)
abbrev Q1 : Type := LX → Nat → Nat → LX → Int → Int → Int → Int → Int → Int → Option (LX × Int)
abbrev Q2 : Type := LX → Nat → Nat → LX → Int → Int → Int → Int → Int → Option (LX × Int)
def e0 (_k : Nat) (_q0 q11 : Q0) (q4 : Q1) (_q8 : Q2) (b0 : LX) (b1 b2 : Nat) (b3 : LX) (b4 b5 b6 : Int) : Option (LX × Int) :=
 (bif (!decide ((Int.fdiv b5 (2 ^ 32)) = (0 : Int))) then
  q11 b0 b1 b2 b3 b4 b5 b6
 else
  (bif (decide (0 ≤ (IntKind.i64.wrap (b4 - (2 : Int)))) && decide ((IntKind.i64.wrap (b4 - (2 : Int))) < (b3.length : Int))) then
   (bif (decide (0 ≤ (IntKind.i64.wrap (b4 - (2 : Int)))) && decide ((IntKind.i64.wrap (b4 - (2 : Int))) < (b2 : Int))) then
    (bif (decide ((IntKind.u64.wrap (b5 * (IntKind.u64.wrap (nthD (0 : Int) b3 (Int.toNat (IntKind.i64.wrap (b4 - (2 : Int)))))))) > (bitsI .or .u64 (IntKind.u64.wrap (b6 * 2 ^ 32)) (IntKind.u64.wrap (nthD (0 : Int) b0 (b1 + Int.toNat (IntKind.i64.wrap (b4 - (2 : Int))))))))) then
     q11 b0 b1 b2 b3 b4 b5 b6
    else
     q4 b0 b1 b2 b3 b4 b5 (0 : Int) (0 : Int) b4 (0 : Int))
   else
    none)
  else
   none))
def e11 (_k : Nat) (q0 _q11 : Q0) (q4 : Q1) (_q8 : Q2) (b0 : LX) (b1 b2 : Nat) (b3 : LX) (b4 b5 b6 : Int) : Option (LX × Int) :=
 (bif (decide (0 ≤ (IntKind.i64.wrap (b4 - (1 : Int)))) && decide ((IntKind.i64.wrap (b4 - (1 : Int))) < (b3.length : Int))) then
  (bif (!decide ((Int.fdiv (IntKind.u64.wrap (b6 + (IntKind.u64.wrap (nthD (0 : Int) b3 (Int.toNat (IntKind.i64.wrap (b4 - (1 : Int)))))))) (2 ^ 32)) = (0 : Int))) then
   q4 b0 b1 b2 b3 b4 (IntKind.u64.wrap (b5 - (1 : Int))) (0 : Int) (0 : Int) b4 (0 : Int)
  else
   q0 b0 b1 b2 b3 b4 (IntKind.u64.wrap (b5 - (1 : Int))) (IntKind.u64.wrap (b6 + (IntKind.u64.wrap (nthD (0 : Int) b3 (Int.toNat (IntKind.i64.wrap (b4 - (1 : Int)))))))))
 else
  none)
def e4 (k : Nat) (_q0 _q11 : Q0) (q4 : Q1) (q8 : Q2) (b0 : LX) (b1 b2 : Nat) (b3 : LX) (b4 b5 b6 b7 b8 b9 : Int) : Option (LX × Int) :=
 (bif (decide (b9 < b8)) then
  (bif (decide (0 ≤ b9) && decide (b9 < (b3.length : Int))) then
   (bif (decide (0 ≤ b9) && decide (b9 < (b2 : Int))) then
    (Option.bind (bits_Sub32.f k (nthD (0 : Int) b0 (b1 + Int.toNat b9)) (IntKind.u32.wrap (IntKind.u64.wrap ((IntKind.u64.wrap (b5 * (IntKind.u64.wrap (nthD (0 : Int) b3 (Int.toNat b9))))) + b7))) b6) fun r1 =>
     (bif (decide (0 ≤ b9) && decide (b9 < (b2 : Int))) then
      q4 (setN r1.1 b0 (b1 + Int.toNat b9)) b1 b2 b3 b4 b5 r1.2 (Int.fdiv (IntKind.u64.wrap ((IntKind.u64.wrap (b5 * (IntKind.u64.wrap (nthD (0 : Int) b3 (Int.toNat b9))))) + b7)) (2 ^ 32)) b8 (IntKind.i64.wrap (b9 + (1 : Int)))
     else
      none))
   else
    none)
  else
   none)
 else
  (bif (decide (0 ≤ b4) && decide (b4 < (b2 : Int))) then
   (Option.bind (bits_Sub32.f k (nthD (0 : Int) b0 (b1 + Int.toNat b4)) (IntKind.u32.wrap b7) b6) fun r2 =>
    (bif (decide (0 ≤ b4) && decide (b4 < (b2 : Int))) then
     (bif (decide (r2.2 = (1 : Int))) then
      q8 (setN r2.1 b0 (b1 + Int.toNat b4)) b1 b2 b3 b4 (IntKind.u64.wrap (b5 - (1 : Int))) (0 : Int) b4 (0 : Int)
     else
      (some ((setN r2.1 b0 (b1 + Int.toNat b4)), (IntKind.u32.wrap b5))))
    else
     none))
  else
   none))
def e8 (k : Nat) (_q0 _q11 : Q0) (_q4 : Q1) (q8 : Q2) (b0 : LX) (b1 b2 : Nat) (b3 : LX) (b4 b5 b6 b7 b8 : Int) : Option (LX × Int) :=
 (bif (decide (b8 < b7)) then
  (bif (decide (0 ≤ b8) && decide (b8 < (b2 : Int))) then
   (bif (decide (0 ≤ b8) && decide (b8 < (b3.length : Int))) then
    (Option.bind (bits_Add32.f k (nthD (0 : Int) b0 (b1 + Int.toNat b8)) (nthD (0 : Int) b3 (Int.toNat b8)) b6) fun r3 =>
     (bif (decide (0 ≤ b8) && decide (b8 < (b2 : Int))) then
      q8 (setN r3.1 b0 (b1 + Int.toNat b8)) b1 b2 b3 b4 b5 r3.2 b7 (IntKind.i64.wrap (b8 + (1 : Int)))
     else
      none))
   else
    none)
  else
   none)
 else
  (bif (decide (0 ≤ b4) && decide (b4 < (b2 : Int))) then
   (bif (decide (0 ≤ b4) && decide (b4 < (b2 : Int))) then
    (some ((setN (IntKind.u32.wrap ((nthD (0 : Int) b0 (b1 + Int.toNat b4)) + b6)) b0 (b1 + Int.toNat b4)), (IntKind.u32.wrap b5)))
   else
    none)
  else
   none))
def e (_k : Nat) (q0 _q11 : Q0) (_q4 : Q1) (_q8 : Q2) (a0 : LX) (a1 a2 : Nat) (a3 : LX) : Option (LX × Int) :=
 (bif (decide (0 ≤ (a3.length : Int)) && decide ((a3.length : Int) < (a2 : Int))) then
  (bif (decide (0 ≤ (IntKind.i64.wrap ((a3.length : Int) - (1 : Int)))) && decide ((IntKind.i64.wrap ((a3.length : Int) - (1 : Int))) < (a2 : Int))) then
   (bif (decide (0 ≤ (IntKind.i64.wrap ((a3.length : Int) - (1 : Int)))) && decide ((IntKind.i64.wrap ((a3.length : Int) - (1 : Int))) < (a3.length : Int))) then
    (bif (decide ((IntKind.u64.wrap (nthD (0 : Int) a3 (Int.toNat (IntKind.i64.wrap ((a3.length : Int) - (1 : Int)))))) = 0)) then
     none
    else
     (bif (decide (0 ≤ (IntKind.i64.wrap ((a3.length : Int) - (1 : Int)))) && decide ((IntKind.i64.wrap ((a3.length : Int) - (1 : Int))) < (a3.length : Int))) then
      (bif (decide ((IntKind.u64.wrap (nthD (0 : Int) a3 (Int.toNat (IntKind.i64.wrap ((a3.length : Int) - (1 : Int)))))) = 0)) then
       none
      else
       q0 a0 a1 a2 a3 (a3.length : Int) (IntKind.u64.wrap (Int.tdiv (bitsI .or .u64 (IntKind.u64.wrap ((IntKind.u64.wrap (nthD (0 : Int) a0 (a1 + Int.toNat (a3.length : Int)))) * 2 ^ 32)) (IntKind.u64.wrap (nthD (0 : Int) a0 (a1 + Int.toNat (IntKind.i64.wrap ((a3.length : Int) - (1 : Int))))))) (IntKind.u64.wrap (nthD (0 : Int) a3 (Int.toNat (IntKind.i64.wrap ((a3.length : Int) - (1 : Int)))))))) (Int.tmod (bitsI .or .u64 (IntKind.u64.wrap ((IntKind.u64.wrap (nthD (0 : Int) a0 (a1 + Int.toNat (a3.length : Int)))) * 2 ^ 32)) (IntKind.u64.wrap (nthD (0 : Int) a0 (a1 + Int.toNat (IntKind.i64.wrap ((a3.length : Int) - (1 : Int))))))) (IntKind.u64.wrap (nthD (0 : Int) a3 (Int.toNat (IntKind.i64.wrap ((a3.length : Int) - (1 : Int))))))))
     else
      none))
   else
    none)
  else
   none)
 else
  none)
def pts : Nat → (Q0) × (Q0) × (Q1) × (Q2)
 | 0 => (fun _ _ _ _ _ _ _ => none, fun _ _ _ _ _ _ _ => none, fun _ _ _ _ _ _ _ _ _ _ => none, fun _ _ _ _ _ _ _ _ _ => none)
 | k + 1 => (e0 k (pts k).1 (pts k).2.1 (pts k).2.2.1 (pts k).2.2.2, e11 k (pts k).1 (pts k).2.1 (pts k).2.2.1 (pts k).2.2.2, e4 k (pts k).1 (pts k).2.1 (pts k).2.2.1 (pts k).2.2.2, e8 k (pts k).1 (pts k).2.1 (pts k).2.2.1 (pts k).2.2.2)
def p0 (k : Nat) : Q0 := (pts k).1
def p11 (k : Nat) : Q0 := (pts k).2.1
def p4 (k : Nat) : Q1 := (pts k).2.2.1
def p8 (k : Nat) : Q2 := (pts k).2.2.2
theorem p0_succ (k : Nat) (x0 : LX) (x1 x2 : Nat) (x3 : LX) (x4 x5 x6 : Int) : p0 (k + 1) x0 x1 x2 x3 x4 x5 x6 = e0 k (p0 k) (p11 k) (p4 k) (p8 k) x0 x1 x2 x3 x4 x5 x6 := rfl
theorem p11_succ (k : Nat) (x0 : LX) (x1 x2 : Nat) (x3 : LX) (x4 x5 x6 : Int) : p11 (k + 1) x0 x1 x2 x3 x4 x5 x6 = e11 k (p0 k) (p11 k) (p4 k) (p8 k) x0 x1 x2 x3 x4 x5 x6 := rfl
theorem p4_succ (k : Nat) (x0 : LX) (x1 x2 : Nat) (x3 : LX) (x4 x5 x6 x7 x8 x9 : Int) : p4 (k + 1) x0 x1 x2 x3 x4 x5 x6 x7 x8 x9 = e4 k (p0 k) (p11 k) (p4 k) (p8 k) x0 x1 x2 x3 x4 x5 x6 x7 x8 x9 := rfl
theorem p8_succ (k : Nat) (x0 : LX) (x1 x2 : Nat) (x3 : LX) (x4 x5 x6 x7 x8 : Int) : p8 (k + 1) x0 x1 x2 x3 x4 x5 x6 x7 x8 = e8 k (p0 k) (p11 k) (p4 k) (p8 k) x0 x1 x2 x3 x4 x5 x6 x7 x8 := rfl
def f (k : Nat) (a0 : LX) (a1 a2 : Nat) (a3 : LX) : Option (LX × Int) := e k (p0 k) (p11 k) (p4 k) (p8 k) a0 a1 a2 a3
end nat_digit

namespace nat_long
abbrev Q0 : Type := LX → LX → Int → LX → Int → Int → Option (LX × LX)
abbrev Q1 : Type := LX → LX → LX → Int → Int → Int → Option (LX × LX)
def e0 (k : Nat) (q0 : Q0) (q4 : Q1) (b0 b1 : LX) (b2 : Int) (b3 : LX) (b4 b5 : Int) : Option (LX × LX) :=
 (bif (decide (b5 ≥ (0 : Int))) then
  (bif (decide (0 ≤ b5) && decide (b5 ≤ (IntKind.i64.wrap ((IntKind.i64.wrap (b5 + b4)) + (1 : Int)))) && decide ((IntKind.i64.wrap ((IntKind.i64.wrap (b5 + b4)) + (1 : Int))) ≤ (b0.length : Int))) then
   (bif (decide (b5 < (IntKind.i64.wrap ((IntKind.i64.wrap (b5 + b4)) + (1 : Int))))) then
    (Option.bind (nat_digit.f k b0 (Int.toNat b5) (Int.toNat ((IntKind.i64.wrap ((IntKind.i64.wrap (b5 + b4)) + (1 : Int))) - b5)) b3) fun r4 =>
     (bif (decide (0 ≤ b5) && decide (b5 < (b1.length : Int))) then
      q0 r4.1 (setN r4.2 b1 (Int.toNat b5)) b2 b3 b4 (IntKind.i64.wrap (b5 - (1 : Int)))
     else
      none))
   else
    none)
  else
   none)
 else
  (bif (decide (0 ≤ b4) && decide (b4 * 4 ≤ 281474976710656) && decide (b4 ≤ 9223372036854775807)) then
   q4 b0 b1 (List.replicate (Int.toNat b4) (0 : Int)) b2 b4 (0 : Int)
  else
   none))
def e4 (k : Nat) (_q0 : Q0) (q4 : Q1) (b0 b1 b2 : LX) (b3 b4 b5 : Int) : Option (LX × LX) :=
 (bif (decide (b5 < b4)) then
  (bif (decide (0 ≤ b5) && decide (b5 < (b0.length : Int))) then
   (bif (decide (b3 < 0)) then
    none
   else
    (bif (decide (0 ≤ (IntKind.i64.wrap (b5 + (1 : Int)))) && decide ((IntKind.i64.wrap (b5 + (1 : Int))) < (b0.length : Int))) then
     (bif (decide ((IntKind.i64.wrap ((32 : Int) - b3)) < 0)) then
      none
     else
      (bif (decide (0 ≤ b5) && decide (b5 < (b2.length : Int))) then
       q4 b0 b1 (setN (bitsI .or .u32 (Int.fdiv (nthD (0 : Int) b0 (Int.toNat b5)) (2 ^ min (Int.toNat b3) 32)) (IntKind.u32.wrap (IntKind.u64.wrap ((IntKind.u64.wrap (nthD (0 : Int) b0 (Int.toNat (IntKind.i64.wrap (b5 + (1 : Int)))))) * 2 ^ min (Int.toNat (IntKind.i64.wrap ((32 : Int) - b3))) 64)))) b2 (Int.toNat b5)) b3 b4 (IntKind.i64.wrap (b5 + (1 : Int)))
      else
       none))
    else
     none))
  else
   none)
 else
  (Option.bind (nat_own.f k b1) fun r5 =>
   (Option.bind (nat_own.f k b2) fun r6 =>
    (some (r5, r6)))))
def e (k : Nat) (q0 : Q0) (_q4 : Q1) (a0 a1 : LX) : Option (LX × LX) :=
 (bif (decide (0 ≤ (IntKind.i64.wrap ((a1.length : Int) - (1 : Int)))) && decide ((IntKind.i64.wrap ((a1.length : Int) - (1 : Int))) < (a1.length : Int))) then
  (Option.bind (bits_LeadingZeros32.f k (nthD (0 : Int) a1 (Int.toNat (IntKind.i64.wrap ((a1.length : Int) - (1 : Int)))))) fun r1 =>
   (Option.bind (nat_moved.f k a1 r1) fun r2 =>
    (bif (decide (0 ≤ (0 : Int)) && decide ((0 : Int) ≤ (a1.length : Int)) && decide ((a1.length : Int) ≤ (r2.length : Int))) then
     (Option.bind (nat_moved.f k a0 r1) fun r3 =>
      (bif (decide (0 ≤ (IntKind.i64.wrap ((r3.length : Int) - (((r2.take (Int.toNat (a1.length : Int))).drop (Int.toNat (0 : Int))).length : Int)))) && decide ((IntKind.i64.wrap ((r3.length : Int) - (((r2.take (Int.toNat (a1.length : Int))).drop (Int.toNat (0 : Int))).length : Int))) * 4 ≤ 281474976710656) && decide ((IntKind.i64.wrap ((r3.length : Int) - (((r2.take (Int.toNat (a1.length : Int))).drop (Int.toNat (0 : Int))).length : Int))) ≤ 9223372036854775807)) then
       q0 r3 (List.replicate (Int.toNat (IntKind.i64.wrap ((r3.length : Int) - (((r2.take (Int.toNat (a1.length : Int))).drop (Int.toNat (0 : Int))).length : Int)))) (0 : Int)) r1 ((r2.take (Int.toNat (a1.length : Int))).drop (Int.toNat (0 : Int))) (((r2.take (Int.toNat (a1.length : Int))).drop (Int.toNat (0 : Int))).length : Int) (IntKind.i64.wrap ((IntKind.i64.wrap ((r3.length : Int) - (((r2.take (Int.toNat (a1.length : Int))).drop (Int.toNat (0 : Int))).length : Int))) - (1 : Int)))
      else
       none))
    else
     none)))
 else
  none)
def pts : Nat → (Q0) × (Q1)
 | 0 => (fun _ _ _ _ _ _ => none, fun _ _ _ _ _ _ => none)
 | k + 1 => (e0 k (pts k).1 (pts k).2, e4 k (pts k).1 (pts k).2)
def p0 (k : Nat) : Q0 := (pts k).1
def p4 (k : Nat) : Q1 := (pts k).2
theorem p0_succ (k : Nat) (x0 x1 : LX) (x2 : Int) (x3 : LX) (x4 x5 : Int) : p0 (k + 1) x0 x1 x2 x3 x4 x5 = e0 k (p0 k) (p4 k) x0 x1 x2 x3 x4 x5 := rfl
theorem p4_succ (k : Nat) (x0 x1 x2 : LX) (x3 x4 x5 : Int) : p4 (k + 1) x0 x1 x2 x3 x4 x5 = e4 k (p0 k) (p4 k) x0 x1 x2 x3 x4 x5 := rfl
def f (k : Nat) (a0 a1 : LX) : Option (LX × LX) := e k (p0 k) (p4 k) a0 a1
end nat_long

namespace nat_Div
def e (k : Nat) (a0 a1 : LX) : Option (LX × LX × Int) :=
 (Option.bind (nat_trim.f k a0) fun r1 =>
  (Option.bind (nat_trim.f k a1) fun r2 =>
   (bif (decide ((r2.length : Int) = (0 : Int))) then
    (some (([] : List Int), ([] : List Int), (11 : Int)))
   else
    (Option.bind (nat_Cmp.f k r1 r2) fun r3 =>
     (bif (decide (r3 < (0 : Int))) then
      (Option.bind (nat_own.f k r1) fun r4 =>
       (some (([] : List Int), r4, (0 : Int))))
     else
      (bif (decide ((r2.length : Int) = (1 : Int))) then
       (bif (decide ((0 : Int) < (r2.length : Int))) then
        (Option.bind (nat_short.f k r1 (nthD (0 : Int) r2 0)) fun r5 =>
         (Option.bind (nat_own.f k r5.1) fun r6 =>
          (Option.bind (nat_own.f k [r5.2]) fun r7 =>
           (some (r6, r7, (0 : Int))))))
       else
        none)
      else
       (Option.bind (nat_long.f k r1 r2) fun r8 =>
        (some (r8.1, r8.2, (0 : Int))))))))))
def f (k : Nat) (a0 a1 : LX) : Option (LX × LX × Int) := e k a0 a1
end nat_Div

namespace nat_Gcd
def e0 (k : Nat) (q0 : LX → LX → Option LX) (b0 b1 : LX) : Option LX :=
 (bif (decide ((b1.length : Int) > (0 : Int))) then
  (Option.bind (nat_Div.f k b0 b1) fun r3 =>
   q0 b1 r3.2.1)
 else
  (some b0))
def e (k : Nat) (q0 : LX → LX → Option LX) (a0 a1 : LX) : Option LX :=
 (Option.bind (nat_own.f k a0) fun r1 =>
  (Option.bind (nat_own.f k a1) fun r2 =>
   q0 r1 r2))
def pts : Nat → (LX → LX → Option LX)
 | 0 => fun _ _ => none
 | k + 1 => e0 k (pts k)
def p0 (k : Nat) : LX → LX → Option LX := (pts k)
theorem p0_succ (k : Nat) (x0 x1 : LX) : p0 (k + 1) x0 x1 = e0 k (p0 k) x0 x1 := rfl
def f (k : Nat) (a0 a1 : LX) : Option LX := e k (p0 k) a0 a1
end nat_Gcd

namespace whole_core
abbrev Q0 : Type := LX → Int → Option LX
def e0 (_k : Nat) (q0 q9 : Q0) (b0 : LX) (b1 : Int) : Option LX :=
 (bif (decide (b1 > (0 : Int))) then
  (bif (decide (0 ≤ (IntKind.i64.wrap (b1 - (1 : Int)))) && decide ((IntKind.i64.wrap (b1 - (1 : Int))) < (b0.length : Int))) then
   (bif (decide ((nthD (0 : Int) b0 (Int.toNat (IntKind.i64.wrap (b1 - (1 : Int))))) = (0 : Int))) then
    q0 b0 (IntKind.i64.wrap (b1 - (1 : Int)))
   else
    q9 b0 b1)
  else
   none)
 else
  q9 b0 b1)
def e9 (_k : Nat) (_q0 _q9 : Q0) (b0 : LX) (b1 : Int) : Option LX :=
 (bif (decide (0 ≤ (0 : Int)) && decide ((0 : Int) ≤ b1) && decide (b1 ≤ b1) && decide (b1 ≤ (b0.length : Int))) then
  (some ((b0.take (Int.toNat b1)).drop (Int.toNat (0 : Int))))
 else
  none)
def e (_k : Nat) (q0 _q9 : Q0) (a0 : LX) : Option LX :=
 q0 a0 (a0.length : Int)
def pts : Nat → (Q0) × (Q0)
 | 0 => (fun _ _ => none, fun _ _ => none)
 | k + 1 => (e0 k (pts k).1 (pts k).2, e9 k (pts k).1 (pts k).2)
def p0 (k : Nat) : Q0 := (pts k).1
def p9 (k : Nat) : Q0 := (pts k).2
theorem p0_succ (k : Nat) (x0 : LX) (x1 : Int) : p0 (k + 1) x0 x1 = e0 k (p0 k) (p9 k) x0 x1 := rfl
theorem p9_succ (k : Nat) (x0 : LX) (x1 : Int) : p9 (k + 1) x0 x1 = e9 k (p0 k) (p9 k) x0 x1 := rfl
def f (k : Nat) (a0 : LX) : Option LX := e k (p0 k) (p9 k) a0
end whole_core

namespace whole_Sign
def e (k : Nat) (a0 : ZX) : Option Int :=
 (Option.bind (whole_core.f k a0.2) fun r1 =>
  (bif (decide ((r1.length : Int) = (0 : Int))) then
   (some (0 : Int))
  else
   (bif a0.1 then
    (some (-1 : Int))
   else
    (some (1 : Int)))))
def f (k : Nat) (a0 : ZX) : Option Int := e k a0
end whole_Sign

namespace nat_Norm
def e (k : Nat) (a0 : LX) : Option LX :=
 (Option.bind (nat_own.f k a0) fun r1 =>
  (some r1))
def f (k : Nat) (a0 : LX) : Option LX := e k a0
end nat_Norm

namespace whole_signed
def e0 (_k : Nat) (q0 : ZX → LX → Int → LX → Int → Int → Option ZX) (b0 : ZX) (b1 : LX) (b2 : Int) (b3 : LX) (b4 b5 : Int) : Option ZX :=
 (bif (decide (b5 < b4)) then
  (bif (decide (0 ≤ b5) && decide (b5 < (b3.length : Int))) then
   q0 b0 b1 (IntKind.i64.wrap (b2 * (nthD (0 : Int) b3 (Int.toNat b5)))) b3 b4 (IntKind.i64.wrap (b5 + (1 : Int)))
  else
   none)
 else
  (bif (decide (b2 < (0 : Int))) then
   (some ((decide ((b1.length : Int) > (0 : Int))), b1))
  else
   (some (false, b1))))
def e (k : Nat) (q0 : ZX → LX → Int → LX → Int → Int → Option ZX) (a0 a1 : LX) : Option ZX :=
 (Option.bind (nat_Norm.f k a0) fun r1 =>
  q0 (false, ([] : List Int)) r1 (1 : Int) a1 (a1.length : Int) (0 : Int))
def pts : Nat → (ZX → LX → Int → LX → Int → Int → Option ZX)
 | 0 => fun _ _ _ _ _ _ => none
 | k + 1 => e0 k (pts k)
def p0 (k : Nat) : ZX → LX → Int → LX → Int → Int → Option ZX := (pts k)
theorem p0_succ (k : Nat) (x0 : ZX) (x1 : LX) (x2 : Int) (x3 : LX) (x4 x5 : Int) : p0 (k + 1) x0 x1 x2 x3 x4 x5 = e0 k (p0 k) x0 x1 x2 x3 x4 x5 := rfl
def f (k : Nat) (a0 a1 : LX) : Option ZX := e k (p0 k) a0 a1
end whole_signed

namespace whole_Norm
def e (k : Nat) (a0 : ZX) : Option ZX :=
 (Option.bind (whole_Sign.f k a0) fun r1 =>
  (Option.bind (whole_signed.f k a0.2 [r1]) fun r2 =>
   (some r2)))
def f (k : Nat) (a0 : ZX) : Option ZX := e k a0
end whole_Norm

namespace ratio_made
def e (k : Nat) (a0 : ZX) (a1 : LX) : Option RX :=
 (Option.bind (nat_Gcd.f k a0.2 a1) fun r1 =>
  (Option.bind (nat_Div.f k a0.2 r1) fun r2 =>
   (Option.bind (nat_Div.f k a1 r1) fun r3 =>
    (Option.bind (whole_Norm.f k (a0.1, r2.1)) fun r4 =>
     (some (r4, r3.1))))))
def f (k : Nat) (a0 : ZX) (a1 : LX) : Option RX := e k a0 a1
end ratio_made

namespace ratio_Norm
def e (k : Nat) (a0 : RX) : Option RX :=
 (Option.bind (nat_Bits.f k a0.2) fun r1 =>
  (bif (decide (r1 = (0 : Int))) then
   (some ((false, ([] : List Int)), [(1 : Int)]))
  else
   (Option.bind (ratio_made.f k a0.1 a0.2) fun r2 =>
    (some r2))))
def f (k : Nat) (a0 : RX) : Option RX := e k a0
end ratio_Norm

namespace nat_Of
def e (k : Nat) (a0 : Int) : Option LX :=
 (Option.bind (nat_own.f k [(IntKind.u32.wrap a0), (IntKind.u32.wrap (Int.fdiv a0 (2 ^ 32)))]) fun r1 =>
  (some r1))
def f (k : Nat) (a0 : Int) : Option LX := e k a0
end nat_Of

namespace whole_Of
def e (k : Nat) (a0 : Int) : Option ZX :=
 (bif (decide (a0 < (0 : Int))) then
  (Option.bind (nat_Of.f k (IntKind.u64.wrap (0 - (IntKind.u64.wrap a0)))) fun r1 =>
   (Option.bind (whole_signed.f k r1 [(-1 : Int)]) fun r2 =>
    (some r2)))
 else
  (Option.bind (nat_Of.f k (IntKind.u64.wrap a0)) fun r3 =>
   (Option.bind (whole_signed.f k r3 ([] : List Int)) fun r4 =>
    (some r4))))
def f (k : Nat) (a0 : Int) : Option ZX := e k a0
end whole_Of

namespace whole_Quo
def e (k : Nat) (a0 a1 : ZX) : Option (ZX × ZX × Int) :=
 (Option.bind (nat_Div.f k a0.2 a1.2) fun r1 =>
  (bif (!decide (r1.2.2 = (0 : Int))) then
   (some ((false, ([] : List Int)), (false, ([] : List Int)), r1.2.2))
  else
   (Option.bind (whole_Sign.f k a0) fun r2 =>
    (Option.bind (whole_Sign.f k a1) fun r3 =>
     (Option.bind (whole_signed.f k r1.1 [r2, r3]) fun r4 =>
      (Option.bind (whole_Sign.f k a0) fun r5 =>
       (Option.bind (whole_signed.f k r1.2.1 [r5]) fun r6 =>
        (some (r4, r6, (0 : Int))))))))))
def f (k : Nat) (a0 a1 : ZX) : Option (ZX × ZX × Int) := e k a0 a1
end whole_Quo

namespace nat_Add
abbrev Q0 : Type := LX → LX → Option LX
abbrev Q1 : Type := LX → LX → LX → Int → Int → Int → Option LX
abbrev Q2 : Type := LX → LX → LX → Int → Int → Int → Int → Int → Option LX
def e7 (_k : Nat) (_q7 : Q0) (q0 : Q1) (_q23 : Q2) (b0 b1 : LX) : Option LX :=
 (bif (decide (0 ≤ (IntKind.i64.wrap ((b0.length : Int) + (1 : Int)))) && decide ((IntKind.i64.wrap ((b0.length : Int) + (1 : Int))) * 4 ≤ 281474976710656) && decide ((IntKind.i64.wrap ((b0.length : Int) + (1 : Int))) ≤ 9223372036854775807)) then
  q0 (List.replicate (Int.toNat (IntKind.i64.wrap ((b0.length : Int) + (1 : Int)))) (0 : Int)) b0 b1 (0 : Int) (b0.length : Int) (0 : Int)
 else
  none)
def e0 (k : Nat) (_q7 : Q0) (_q0 : Q1) (q23 : Q2) (b0 b1 b2 : LX) (b3 b4 b5 : Int) : Option LX :=
 (bif (decide (b5 < b4)) then
  (bif (decide (b5 < (b2.length : Int))) then
   (bif (decide (0 ≤ b5) && decide (b5 < (b2.length : Int))) then
    q23 b0 b1 b2 b3 b5 (nthD (0 : Int) b2 (Int.toNat b5)) b4 b5
   else
    none)
  else
   q23 b0 b1 b2 b3 b5 (0 : Int) b4 b5)
 else
  (bif (decide (0 ≤ (b1.length : Int)) && decide ((b1.length : Int) < (b0.length : Int))) then
   (Option.bind (nat_own.f k (setN b3 b0 (Int.toNat (b1.length : Int)))) fun r1 =>
    (some r1))
  else
   none))
def e23 (k : Nat) (_q7 : Q0) (q0 : Q1) (_q23 : Q2) (b0 b1 b2 : LX) (b3 b4 b5 b6 b7 : Int) : Option LX :=
 (bif (decide (0 ≤ b4) && decide (b4 < (b1.length : Int))) then
  (Option.bind (bits_Add32.f k (nthD (0 : Int) b1 (Int.toNat b4)) b5 b3) fun r2 =>
   (bif (decide (0 ≤ b4) && decide (b4 < (b0.length : Int))) then
    q0 (setN r2.1 b0 (Int.toNat b4)) b1 b2 r2.2 b6 (IntKind.i64.wrap (b7 + (1 : Int)))
   else
    none))
 else
  none)
def e (_k : Nat) (q7 : Q0) (_q0 : Q1) (_q23 : Q2) (a0 a1 : LX) : Option LX :=
 (bif (decide ((a0.length : Int) < (a1.length : Int))) then
  q7 a1 a0
 else
  q7 a0 a1)
def pts : Nat → (Q0) × (Q1) × (Q2)
 | 0 => (fun _ _ => none, fun _ _ _ _ _ _ => none, fun _ _ _ _ _ _ _ _ => none)
 | k + 1 => (e7 k (pts k).1 (pts k).2.1 (pts k).2.2, e0 k (pts k).1 (pts k).2.1 (pts k).2.2, e23 k (pts k).1 (pts k).2.1 (pts k).2.2)
def p7 (k : Nat) : Q0 := (pts k).1
def p0 (k : Nat) : Q1 := (pts k).2.1
def p23 (k : Nat) : Q2 := (pts k).2.2
theorem p7_succ (k : Nat) (x0 x1 : LX) : p7 (k + 1) x0 x1 = e7 k (p7 k) (p0 k) (p23 k) x0 x1 := rfl
theorem p0_succ (k : Nat) (x0 x1 x2 : LX) (x3 x4 x5 : Int) : p0 (k + 1) x0 x1 x2 x3 x4 x5 = e0 k (p7 k) (p0 k) (p23 k) x0 x1 x2 x3 x4 x5 := rfl
theorem p23_succ (k : Nat) (x0 x1 x2 : LX) (x3 x4 x5 x6 x7 : Int) : p23 (k + 1) x0 x1 x2 x3 x4 x5 x6 x7 = e23 k (p7 k) (p0 k) (p23 k) x0 x1 x2 x3 x4 x5 x6 x7 := rfl
def f (k : Nat) (a0 a1 : LX) : Option LX := e k (p7 k) (p0 k) (p23 k) a0 a1
end nat_Add

namespace nat_Sub
abbrev Q0 : Type := LX → LX → LX → Int → Int → Int → Option (LX × Int)
abbrev Q1 : Type := LX → LX → LX → Int → Int → Int → Int → Int → Option (LX × Int)
def e0 (k : Nat) (_q0 : Q0) (q25 : Q1) (b0 b1 b2 : LX) (b3 b4 b5 : Int) : Option (LX × Int) :=
 (bif (decide (b5 < b4)) then
  (bif (decide (b5 < (b2.length : Int))) then
   (bif (decide (0 ≤ b5) && decide (b5 < (b2.length : Int))) then
    q25 b0 b1 b2 b3 b5 (nthD (0 : Int) b2 (Int.toNat b5)) b4 b5
   else
    none)
  else
   q25 b0 b1 b2 b3 b5 (0 : Int) b4 b5)
 else
  (Option.bind (nat_own.f k b0) fun r3 =>
   (some (r3, (0 : Int)))))
def e25 (k : Nat) (q0 : Q0) (_q25 : Q1) (b0 b1 b2 : LX) (b3 b4 b5 b6 b7 : Int) : Option (LX × Int) :=
 (bif (decide (0 ≤ b4) && decide (b4 < (b1.length : Int))) then
  (Option.bind (bits_Sub32.f k (nthD (0 : Int) b1 (Int.toNat b4)) b5 b3) fun r4 =>
   (bif (decide (0 ≤ b4) && decide (b4 < (b0.length : Int))) then
    q0 (setN r4.1 b0 (Int.toNat b4)) b1 b2 r4.2 b6 (IntKind.i64.wrap (b7 + (1 : Int)))
   else
    none))
 else
  none)
def e (k : Nat) (q0 : Q0) (_q25 : Q1) (a0 a1 : LX) : Option (LX × Int) :=
 (Option.bind (nat_Cmp.f k a0 a1) fun r1 =>
  (bif (decide (r1 < (0 : Int))) then
   (some (([] : List Int), (10 : Int)))
  else
   (Option.bind (nat_trim.f k a1) fun r2 =>
    (bif (decide (0 ≤ (a0.length : Int)) && decide ((a0.length : Int) * 4 ≤ 281474976710656) && decide ((a0.length : Int) ≤ 9223372036854775807)) then
     q0 (List.replicate (Int.toNat (a0.length : Int)) (0 : Int)) a0 r2 (0 : Int) (a0.length : Int) (0 : Int)
    else
     none))))
def pts : Nat → (Q0) × (Q1)
 | 0 => (fun _ _ _ _ _ _ => none, fun _ _ _ _ _ _ _ _ => none)
 | k + 1 => (e0 k (pts k).1 (pts k).2, e25 k (pts k).1 (pts k).2)
def p0 (k : Nat) : Q0 := (pts k).1
def p25 (k : Nat) : Q1 := (pts k).2
theorem p0_succ (k : Nat) (x0 x1 x2 : LX) (x3 x4 x5 : Int) : p0 (k + 1) x0 x1 x2 x3 x4 x5 = e0 k (p0 k) (p25 k) x0 x1 x2 x3 x4 x5 := rfl
theorem p25_succ (k : Nat) (x0 x1 x2 : LX) (x3 x4 x5 x6 x7 : Int) : p25 (k + 1) x0 x1 x2 x3 x4 x5 x6 x7 = e25 k (p0 k) (p25 k) x0 x1 x2 x3 x4 x5 x6 x7 := rfl
def f (k : Nat) (a0 a1 : LX) : Option (LX × Int) := e k (p0 k) (p25 k) a0 a1
end nat_Sub

namespace whole_Add
def e (k : Nat) (a0 a1 : ZX) : Option ZX :=
 (Option.bind (whole_Sign.f k a0) fun r1 =>
  (Option.bind (whole_Sign.f k a1) fun r2 =>
   (bif (decide ((IntKind.i64.wrap (r1 * r2)) ≥ (0 : Int))) then
    (Option.bind (nat_Add.f k a0.2 a1.2) fun r3 =>
     (Option.bind (whole_signed.f k r3 [(bitsI .or .i64 (bitsI .or .i64 r1 r2) (1 : Int))]) fun r4 =>
      (some r4)))
   else
    (Option.bind (nat_Cmp.f k a0.2 a1.2) fun r5 =>
     (bif (decide (r5 ≥ (0 : Int))) then
      (Option.bind (nat_Sub.f k a0.2 a1.2) fun r6 =>
       (Option.bind (whole_signed.f k r6.1 [r1]) fun r7 =>
        (some r7)))
     else
      (Option.bind (nat_Sub.f k a1.2 a0.2) fun r8 =>
       (Option.bind (whole_signed.f k r8.1 [r2]) fun r9 =>
        (some r9))))))))
def f (k : Nat) (a0 a1 : ZX) : Option ZX := e k a0 a1
end whole_Add

namespace whole_Neg
def e (k : Nat) (a0 : ZX) : Option ZX :=
 (Option.bind (whole_Sign.f k a0) fun r1 =>
  (Option.bind (whole_signed.f k a0.2 [(-1 : Int), r1]) fun r2 =>
   (some r2)))
def f (k : Nat) (a0 : ZX) : Option ZX := e k a0
end whole_Neg

namespace whole_Sub
def e (k : Nat) (a0 a1 : ZX) : Option ZX :=
 (Option.bind (whole_Neg.f k a1) fun r1 =>
  (Option.bind (whole_Add.f k a0 r1) fun r2 =>
   (some r2)))
def f (k : Nat) (a0 a1 : ZX) : Option ZX := e k a0 a1
end whole_Sub

namespace whole_moved
def e (k : Nat) (a0 a1 a2 : ZX) (a3 : Bool) : Option (ZX × ZX × Int) :=
 (bif (!a3) then
  (some (a0, a1, (0 : Int)))
 else
  (Option.bind (whole_Sign.f k a1) fun r1 =>
   (Option.bind (whole_Sign.f k a2) fun r2 =>
    (bif (decide (r1 = r2)) then
     (Option.bind (whole_Of.f k (1 : Int)) fun r3 =>
      (Option.bind (whole_Add.f k a0 r3) fun r4 =>
       (Option.bind (whole_Sub.f k a1 a2) fun r5 =>
        (some (r4, r5, (0 : Int))))))
    else
     (Option.bind (whole_Of.f k (1 : Int)) fun r6 =>
      (Option.bind (whole_Sub.f k a0 r6) fun r7 =>
       (Option.bind (whole_Add.f k a1 a2) fun r8 =>
        (some (r7, r8, (0 : Int))))))))))
def f (k : Nat) (a0 a1 a2 : ZX) (a3 : Bool) : Option (ZX × ZX × Int) := e k a0 a1 a2 a3
end whole_moved

namespace whole_Floor
def e (k : Nat) (a0 a1 : ZX) : Option (ZX × ZX × Int) :=
 (Option.bind (whole_Quo.f k a0 a1) fun r1 =>
  (bif (!decide (r1.2.2 = (0 : Int))) then
   (some (r1.1, r1.2.1, r1.2.2))
  else
   (Option.bind (whole_Sign.f k r1.2.1) fun r2 =>
    (Option.bind (whole_Sign.f k a1) fun r3 =>
     (Option.bind (whole_moved.f k r1.1 r1.2.1 a1 (decide ((IntKind.i64.wrap (r2 * r3)) < (0 : Int)))) fun r4 =>
      (some (r4.1, r4.2.1, r4.2.2)))))))
def f (k : Nat) (a0 a1 : ZX) : Option (ZX × ZX × Int) := e k a0 a1
end whole_Floor

namespace ratio_Floor
def e (k : Nat) (a0 : RX) : Option ZX :=
 (Option.bind (ratio_Norm.f k a0) fun r1 =>
  (Option.bind (whole_Floor.f k r1.1 (false, r1.2)) fun r2 =>
   (some r2.1)))
def f (k : Nat) (a0 : RX) : Option ZX := e k a0
end ratio_Floor

namespace ratio_of
def e (k : Nat) (a0 : ZX) : Option RX :=
 (Option.bind (whole_Norm.f k a0) fun r1 =>
  (some (r1, [(1 : Int)])))
def f (k : Nat) (a0 : ZX) : Option RX := e k a0
end ratio_of

namespace ratio_Neg
def e (k : Nat) (a0 : RX) : Option RX :=
 (Option.bind (ratio_Norm.f k a0) fun r1 =>
  (Option.bind (whole_Neg.f k r1.1) fun r2 =>
   (some (r2, r1.2))))
def f (k : Nat) (a0 : RX) : Option RX := e k a0
end ratio_Neg

namespace nat_Mul
abbrev Q0 : Type := LX → LX → LX → Int → Int → Option LX
abbrev Q1 : Type := LX → LX → LX → Int → Int → Int → Int → Int → Int → Option LX
def e0 (k : Nat) (_q0 : Q0) (q4 : Q1) (b0 b1 b2 : LX) (b3 b4 : Int) : Option LX :=
 (bif (decide (b4 < b3)) then
  q4 b0 b1 b2 b4 (0 : Int) b3 b4 (b2.length : Int) (0 : Int)
 else
  (Option.bind (nat_own.f k b0) fun r3 =>
   (some r3)))
def e4 (_k : Nat) (q0 : Q0) (q4 : Q1) (b0 b1 b2 : LX) (b3 b4 b5 b6 b7 b8 : Int) : Option LX :=
 (bif (decide (b8 < b7)) then
  (bif (decide (0 ≤ b3) && decide (b3 < (b1.length : Int))) then
   (bif (decide (0 ≤ b8) && decide (b8 < (b2.length : Int))) then
    (bif (decide (0 ≤ (IntKind.i64.wrap (b3 + b8))) && decide ((IntKind.i64.wrap (b3 + b8)) < (b0.length : Int))) then
     (bif (decide (0 ≤ (IntKind.i64.wrap (b3 + b8))) && decide ((IntKind.i64.wrap (b3 + b8)) < (b0.length : Int))) then
      q4 (setN (IntKind.u32.wrap (IntKind.u64.wrap ((IntKind.u64.wrap ((IntKind.u64.wrap ((IntKind.u64.wrap (nthD (0 : Int) b1 (Int.toNat b3))) * (IntKind.u64.wrap (nthD (0 : Int) b2 (Int.toNat b8))))) + (IntKind.u64.wrap (nthD (0 : Int) b0 (Int.toNat (IntKind.i64.wrap (b3 + b8))))))) + b4))) b0 (Int.toNat (IntKind.i64.wrap (b3 + b8)))) b1 b2 b3 (Int.fdiv (IntKind.u64.wrap ((IntKind.u64.wrap ((IntKind.u64.wrap ((IntKind.u64.wrap (nthD (0 : Int) b1 (Int.toNat b3))) * (IntKind.u64.wrap (nthD (0 : Int) b2 (Int.toNat b8))))) + (IntKind.u64.wrap (nthD (0 : Int) b0 (Int.toNat (IntKind.i64.wrap (b3 + b8))))))) + b4)) (2 ^ 32)) b5 b6 b7 (IntKind.i64.wrap (b8 + (1 : Int)))
     else
      none)
    else
     none)
   else
    none)
  else
   none)
 else
  (bif (decide (0 ≤ (IntKind.i64.wrap (b3 + (b2.length : Int)))) && decide ((IntKind.i64.wrap (b3 + (b2.length : Int))) < (b0.length : Int))) then
   q0 (setN (IntKind.u32.wrap b4) b0 (Int.toNat (IntKind.i64.wrap (b3 + (b2.length : Int))))) b1 b2 b5 (IntKind.i64.wrap (b6 + (1 : Int)))
  else
   none))
def e (k : Nat) (q0 : Q0) (_q4 : Q1) (a0 a1 : LX) : Option LX :=
 (Option.bind (nat_trim.f k a0) fun r1 =>
  (Option.bind (nat_trim.f k a1) fun r2 =>
   (bif (decide (0 ≤ (IntKind.i64.wrap ((r1.length : Int) + (r2.length : Int)))) && decide ((IntKind.i64.wrap ((r1.length : Int) + (r2.length : Int))) * 4 ≤ 281474976710656) && decide ((IntKind.i64.wrap ((r1.length : Int) + (r2.length : Int))) ≤ 9223372036854775807)) then
    q0 (List.replicate (Int.toNat (IntKind.i64.wrap ((r1.length : Int) + (r2.length : Int)))) (0 : Int)) r1 r2 (r1.length : Int) (0 : Int)
   else
    none)))
def pts : Nat → (Q0) × (Q1)
 | 0 => (fun _ _ _ _ _ => none, fun _ _ _ _ _ _ _ _ _ => none)
 | k + 1 => (e0 k (pts k).1 (pts k).2, e4 k (pts k).1 (pts k).2)
def p0 (k : Nat) : Q0 := (pts k).1
def p4 (k : Nat) : Q1 := (pts k).2
theorem p0_succ (k : Nat) (x0 x1 x2 : LX) (x3 x4 : Int) : p0 (k + 1) x0 x1 x2 x3 x4 = e0 k (p0 k) (p4 k) x0 x1 x2 x3 x4 := rfl
theorem p4_succ (k : Nat) (x0 x1 x2 : LX) (x3 x4 x5 x6 x7 x8 : Int) : p4 (k + 1) x0 x1 x2 x3 x4 x5 x6 x7 x8 = e4 k (p0 k) (p4 k) x0 x1 x2 x3 x4 x5 x6 x7 x8 := rfl
def f (k : Nat) (a0 a1 : LX) : Option LX := e k (p0 k) (p4 k) a0 a1
end nat_Mul

namespace whole_Mul
def e (k : Nat) (a0 a1 : ZX) : Option ZX :=
 (Option.bind (nat_Mul.f k a0.2 a1.2) fun r1 =>
  (Option.bind (whole_Sign.f k a0) fun r2 =>
   (Option.bind (whole_Sign.f k a1) fun r3 =>
    (Option.bind (whole_signed.f k r1 [r2, r3]) fun r4 =>
     (some r4)))))
def f (k : Nat) (a0 a1 : ZX) : Option ZX := e k a0 a1
end whole_Mul

namespace ratio_Add
def e (k : Nat) (a0 a1 : RX) : Option RX :=
 (Option.bind (ratio_Norm.f k a0) fun r1 =>
  (Option.bind (ratio_Norm.f k a1) fun r2 =>
   (Option.bind (whole_Mul.f k r1.1 (false, r2.2)) fun r3 =>
    (Option.bind (whole_Mul.f k r2.1 (false, r1.2)) fun r4 =>
     (Option.bind (whole_Add.f k r3 r4) fun r5 =>
      (Option.bind (nat_Mul.f k r1.2 r2.2) fun r6 =>
       (Option.bind (ratio_made.f k r5 r6) fun r7 =>
        (some r7))))))))
def f (k : Nat) (a0 a1 : RX) : Option RX := e k a0 a1
end ratio_Add

namespace ratio_Sub
def e (k : Nat) (a0 a1 : RX) : Option RX :=
 (Option.bind (ratio_Neg.f k a1) fun r1 =>
  (Option.bind (ratio_Add.f k a0 r1) fun r2 =>
   (some r2)))
def f (k : Nat) (a0 a1 : RX) : Option RX := e k a0 a1
end ratio_Sub

namespace ratio_Of
def e11 (k : Nat) (_q11 : ZX → ZX → RX → Option (RX × Int)) (b0 b1 : ZX) (_b2 : RX) : Option (RX × Int) :=
 (Option.bind (ratio_made.f k b0 b1.2) fun r4 =>
  (some (r4, (0 : Int))))
def e (k : Nat) (q11 : ZX → ZX → RX → Option (RX × Int)) (a0 a1 : ZX) : Option (RX × Int) :=
 (Option.bind (whole_Sign.f k a1) fun r1 =>
  (bif (decide (r1 = (0 : Int))) then
   (some (((false, ([] : List Int)), ([] : List Int)), (11 : Int)))
  else
   (Option.bind (whole_Sign.f k a1) fun r2 =>
    (bif (decide (r2 < (0 : Int))) then
     (Option.bind (whole_Neg.f k a0) fun r3 =>
      q11 r3 a1 ((false, ([] : List Int)), ([] : List Int)))
    else
     q11 a0 a1 ((false, ([] : List Int)), ([] : List Int))))))
def pts : Nat → (ZX → ZX → RX → Option (RX × Int))
 | 0 => fun _ _ _ => none
 | k + 1 => e11 k (pts k)
def p11 (k : Nat) : ZX → ZX → RX → Option (RX × Int) := (pts k)
theorem p11_succ (k : Nat) (x0 x1 : ZX) (x2 : RX) : p11 (k + 1) x0 x1 x2 = e11 k (p11 k) x0 x1 x2 := rfl
def f (k : Nat) (a0 a1 : ZX) : Option (RX × Int) := e k (p11 k) a0 a1
end ratio_Of

namespace ratio_Inv
def e (k : Nat) (a0 : RX) : Option (RX × Int) :=
 (Option.bind (ratio_Norm.f k a0) fun r1 =>
  (Option.bind (ratio_Of.f k (false, r1.2) r1.1) fun r2 =>
   (some (r2.1, r2.2))))
def f (k : Nat) (a0 : RX) : Option (RX × Int) := e k a0
end ratio_Inv

namespace ratio_Sign
def e (k : Nat) (a0 : RX) : Option Int :=
 (Option.bind (ratio_Norm.f k a0) fun r1 =>
  (Option.bind (whole_Sign.f k r1.1) fun r2 =>
   (some r2)))
def f (k : Nat) (a0 : RX) : Option Int := e k a0
end ratio_Sign

namespace ratio_Abs
def e (k : Nat) (a0 : RX) : Option RX :=
 (Option.bind (ratio_Sign.f k a0) fun r1 =>
  (bif (decide (r1 < (0 : Int))) then
   (Option.bind (ratio_Neg.f k a0) fun r2 =>
    (some r2))
  else
   (Option.bind (ratio_Norm.f k a0) fun r3 =>
    (some r3))))
def f (k : Nat) (a0 : RX) : Option RX := e k a0
end ratio_Abs

namespace whole_Cmp
def e (k : Nat) (a0 a1 : ZX) : Option Int :=
 (Option.bind (whole_Sub.f k a0 a1) fun r1 =>
  (Option.bind (whole_Sign.f k r1) fun r2 =>
   (some r2)))
def f (k : Nat) (a0 a1 : ZX) : Option Int := e k a0 a1
end whole_Cmp

namespace ratio_Cmp
def e (k : Nat) (a0 a1 : RX) : Option Int :=
 (Option.bind (ratio_Norm.f k a0) fun r1 =>
  (Option.bind (ratio_Norm.f k a1) fun r2 =>
   (Option.bind (whole_Mul.f k r1.1 (false, r2.2)) fun r3 =>
    (Option.bind (whole_Mul.f k r2.1 (false, r1.2)) fun r4 =>
     (Option.bind (whole_Cmp.f k r3 r4) fun r5 =>
      (some r5))))))
def f (k : Nat) (a0 a1 : RX) : Option Int := e k a0 a1
end ratio_Cmp

namespace ratio_nearer
abbrev Q0 : Type := RX → RX → RX → Int → Option RX
def e9 (k : Nat) (_q9 q13 : Q0) (b0 b1 b2 : RX) (b3 : Int) : Option RX :=
 (bif (decide (b3 = (0 : Int))) then
  (Option.bind (ratio_Cmp.f k b0 b1) fun r7 =>
   q13 b0 b1 b2 r7)
 else
  q13 b0 b1 b2 b3)
def e13 (_k : Nat) (_q9 _q13 : Q0) (b0 b1 _b2 : RX) (b3 : Int) : Option RX :=
 (bif (decide (b3 ≤ (0 : Int))) then
  (some b0)
 else
  (some b1))
def e (k : Nat) (q9 _q13 : Q0) (a0 a1 a2 : RX) : Option RX :=
 (Option.bind (ratio_Sub.f k a1 a0) fun r1 =>
  (Option.bind (ratio_Abs.f k r1) fun r2 =>
   (Option.bind (ratio_Sub.f k a2 a0) fun r3 =>
    (Option.bind (ratio_Abs.f k r3) fun r4 =>
     (Option.bind (ratio_Cmp.f k r2 r4) fun r5 =>
      (bif (decide (r5 = (0 : Int))) then
       (Option.bind (nat_Cmp.f k a1.2 a2.2) fun r6 =>
        q9 a1 a2 ((false, ([] : List Int)), ([] : List Int)) r6)
      else
       q9 a1 a2 ((false, ([] : List Int)), ([] : List Int)) r5))))))
def pts : Nat → (Q0) × (Q0)
 | 0 => (fun _ _ _ _ => none, fun _ _ _ _ => none)
 | k + 1 => (e9 k (pts k).1 (pts k).2, e13 k (pts k).1 (pts k).2)
def p9 (k : Nat) : Q0 := (pts k).1
def p13 (k : Nat) : Q0 := (pts k).2
theorem p9_succ (k : Nat) (x0 x1 x2 : RX) (x3 : Int) : p9 (k + 1) x0 x1 x2 x3 = e9 k (p9 k) (p13 k) x0 x1 x2 x3 := rfl
theorem p13_succ (k : Nat) (x0 x1 x2 : RX) (x3 : Int) : p13 (k + 1) x0 x1 x2 x3 = e13 k (p9 k) (p13 k) x0 x1 x2 x3 := rfl
def f (k : Nat) (a0 a1 a2 : RX) : Option RX := e k (p9 k) (p13 k) a0 a1 a2
end ratio_nearer

namespace ratio_Best
def fs : BsF := ⟨nat_Bits.f, ratio_Norm.f, fun k x => nat_Cmp.f k x.1 x.2, whole_Of.f, ratio_Floor.f, fun k x => whole_Add.f k x.1 x.2, fun k x => whole_Mul.f k x.1 x.2, fun k x => nat_Add.f k x.1 x.2, fun k x => nat_Mul.f k x.1 x.2, fun k x => nat_Sub.f k x.1 x.2, fun k x => nat_Div.f k x.1 x.2, fun k x => ratio_made.f k x.1 x.2, fun k x => ratio_nearer.f k x.1 x.2.1 x.2.2⟩
def f (k : Nat) (a0 : ZX × LX) (a1 : List Int) : Option (RX × Int) := bestF fs (expF ratio_Floor.f ratio_of.f (fun k x => ratio_Sub.f k x.1 x.2) ratio_Inv.f) k a0 a1
end ratio_Best

namespace ref01_Norm
abbrev Q0 : Type := LX → Int → Option LX
abbrev Q1 : Type := LX → LX → Int → Int → Option LX
def e0 (_k : Nat) (q0 q9 : Q0) (_q4 : Q1) (b0 : LX) (b1 : Int) : Option LX :=
 (bif (decide (b1 > (0 : Int))) then
  (bif (decide (0 ≤ (IntKind.i64.wrap (b1 - (1 : Int)))) && decide ((IntKind.i64.wrap (b1 - (1 : Int))) < (b0.length : Int))) then
   (bif (decide ((nthD (0 : Int) b0 (Int.toNat (IntKind.i64.wrap (b1 - (1 : Int))))) = (0 : Int))) then
    q0 b0 (IntKind.i64.wrap (b1 - (1 : Int)))
   else
    q9 b0 b1)
  else
   none)
 else
  q9 b0 b1)
def e9 (_k : Nat) (_q0 _q9 : Q0) (q4 : Q1) (b0 : LX) (b1 : Int) : Option LX :=
 (bif (decide (0 ≤ b1) && decide (b1 * 4 ≤ 281474976710656) && decide (b1 ≤ 9223372036854775807)) then
  q4 (List.replicate (Int.toNat b1) (0 : Int)) b0 b1 (0 : Int)
 else
  none)
def e4 (_k : Nat) (_q0 _q9 : Q0) (q4 : Q1) (b0 b1 : LX) (b2 b3 : Int) : Option LX :=
 (bif (decide (b3 < b2)) then
  (bif (decide (0 ≤ b3) && decide (b3 < (b1.length : Int))) then
   (bif (decide (0 ≤ b3) && decide (b3 < (b0.length : Int))) then
    q4 (setN (nthD (0 : Int) b1 (Int.toNat b3)) b0 (Int.toNat b3)) b1 b2 (IntKind.i64.wrap (b3 + (1 : Int)))
   else
    none)
  else
   none)
 else
  (some b0))
def e (_k : Nat) (q0 _q9 : Q0) (_q4 : Q1) (a0 : LX) : Option LX :=
 q0 a0 (a0.length : Int)
def pts : Nat → (Q0) × (Q0) × (Q1)
 | 0 => (fun _ _ => none, fun _ _ => none, fun _ _ _ _ => none)
 | k + 1 => (e0 k (pts k).1 (pts k).2.1 (pts k).2.2, e9 k (pts k).1 (pts k).2.1 (pts k).2.2, e4 k (pts k).1 (pts k).2.1 (pts k).2.2)
def p0 (k : Nat) : Q0 := (pts k).1
def p9 (k : Nat) : Q0 := (pts k).2.1
def p4 (k : Nat) : Q1 := (pts k).2.2
theorem p0_succ (k : Nat) (x0 : LX) (x1 : Int) : p0 (k + 1) x0 x1 = e0 k (p0 k) (p9 k) (p4 k) x0 x1 := rfl
theorem p9_succ (k : Nat) (x0 : LX) (x1 : Int) : p9 (k + 1) x0 x1 = e9 k (p0 k) (p9 k) (p4 k) x0 x1 := rfl
theorem p4_succ (k : Nat) (x0 x1 : LX) (x2 x3 : Int) : p4 (k + 1) x0 x1 x2 x3 = e4 k (p0 k) (p9 k) (p4 k) x0 x1 x2 x3 := rfl
def f (k : Nat) (a0 : LX) : Option LX := e k (p0 k) (p9 k) (p4 k) a0
end ref01_Norm

namespace ref02_made
def e (k : Nat) (a0 : Bool) (a1 : LX) : Option ZX :=
 (Option.bind (ref01_Norm.f k a1) fun r1 =>
  (bif a0 then
   (some ((decide ((r1.length : Int) > (0 : Int))), r1))
  else
   (some (false, r1))))
def f (k : Nat) (a0 : Bool) (a1 : LX) : Option ZX := e k a0 a1
end ref02_made

namespace ref02_Norm
def e (k : Nat) (a0 : ZX) : Option ZX :=
 (Option.bind (ref02_made.f k a0.1 a0.2) fun r1 =>
  (some r1))
def f (k : Nat) (a0 : ZX) : Option ZX := e k a0
end ref02_Norm

namespace ref01_at
def e (_k : Nat) (a0 : LX) (a1 : Int) : Option Int :=
 (bif (decide (a1 ≥ (a0.length : Int))) then
  (some (0 : Int))
 else
  (bif (decide (0 ≤ a1) && decide (a1 < (a0.length : Int))) then
   (some (IntKind.u64.wrap (nthD (0 : Int) a0 (Int.toNat a1))))
  else
   none))
def f (k : Nat) (a0 : LX) (a1 : Int) : Option Int := e k a0 a1
end ref01_at

namespace ref01_Cmp
abbrev Q0 : Type := LX → LX → Int → Option Int
def e9 (_k : Nat) (_q9 q0 : Q0) (b0 b1 : LX) (b2 : Int) : Option Int :=
 q0 b0 b1 (IntKind.i64.wrap (b2 - (1 : Int)))
def e0 (k : Nat) (_q9 q0 : Q0) (b0 b1 : LX) (b2 : Int) : Option Int :=
 (bif (decide (b2 ≥ (0 : Int))) then
  (Option.bind (ref01_at.f k b0 b2) fun r1 =>
   (Option.bind (ref01_at.f k b1 b2) fun r2 =>
    (bif (decide (r1 < r2)) then
     (some (-1 : Int))
    else
     (Option.bind (ref01_at.f k b0 b2) fun r3 =>
      (Option.bind (ref01_at.f k b1 b2) fun r4 =>
       (bif (decide (r3 > r4)) then
        (some (1 : Int))
       else
        q0 b0 b1 (IntKind.i64.wrap (b2 - (1 : Int)))))))))
 else
  (some (0 : Int)))
def e (_k : Nat) (q9 _q0 : Q0) (a0 a1 : LX) : Option Int :=
 (bif (decide ((a1.length : Int) > (a0.length : Int))) then
  q9 a0 a1 (a1.length : Int)
 else
  q9 a0 a1 (a0.length : Int))
def pts : Nat → (Q0) × (Q0)
 | 0 => (fun _ _ _ => none, fun _ _ _ => none)
 | k + 1 => (e9 k (pts k).1 (pts k).2, e0 k (pts k).1 (pts k).2)
def p9 (k : Nat) : Q0 := (pts k).1
def p0 (k : Nat) : Q0 := (pts k).2
theorem p9_succ (k : Nat) (x0 x1 : LX) (x2 : Int) : p9 (k + 1) x0 x1 x2 = e9 k (p9 k) (p0 k) x0 x1 x2 := rfl
theorem p0_succ (k : Nat) (x0 x1 : LX) (x2 : Int) : p0 (k + 1) x0 x1 x2 = e0 k (p9 k) (p0 k) x0 x1 x2 := rfl
def f (k : Nat) (a0 a1 : LX) : Option Int := e k (p9 k) (p0 k) a0 a1
end ref01_Cmp

namespace ref01_Bit
def e (_k : Nat) (a0 : LX) (a1 : Int) : Option Bool :=
 (bif (decide (a1 ≥ (0 : Int))) then
  (bif (decide ((IntKind.i64.wrap (Int.tdiv a1 (32 : Int))) < (a0.length : Int))) then
   (bif (decide (0 ≤ (IntKind.i64.wrap (Int.tdiv a1 (32 : Int)))) && decide ((IntKind.i64.wrap (Int.tdiv a1 (32 : Int))) < (a0.length : Int))) then
    (bif (decide ((IntKind.u64.wrap (Int.tmod a1 (32 : Int))) < 0)) then
     none
    else
     (some (decide ((bitsI .and .u32 (Int.fdiv (nthD (0 : Int) a0 (Int.toNat (IntKind.i64.wrap (Int.tdiv a1 (32 : Int))))) (2 ^ min (Int.toNat (IntKind.u64.wrap (Int.tmod a1 (32 : Int)))) 32)) (1 : Int)) = (1 : Int)))))
   else
    none)
  else
   (some false))
 else
  (some false))
def f (k : Nat) (a0 : LX) (a1 : Int) : Option Bool := e k a0 a1
end ref01_Bit

namespace ref01_Shift
abbrev Q0 : Type := Unit → Option (LX × Int)
abbrev Q1 : Type := LX → Int → Int → Option (LX × Int)
abbrev Q2 : Type := LX → LX → Int → Int → Int → Option (LX × Int)
abbrev Q3 : Type := LX → LX → Int → Int → Int → Int → Option (LX × Int)
abbrev Q4 : Type := LX → LX → Int → Int → Int → Int → Int → Option (LX × Int)
def e5 (_k : Nat) (_q5 : Q0) (_q17 : Q1) (_q29 : Q2) (_q0 : Q3) (_q41 : Q4) (_q33 : Q3) (_ : Unit) : Option (LX × Int) :=
 (some (([] : List Int), (12 : Int)))
def e17 (_k : Nat) (_q5 : Q0) (_q17 : Q1) (q29 : Q2) (_q0 : Q3) (_q41 : Q4) (_q33 : Q3) (b0 : LX) (b1 b2 : Int) : Option (LX × Int) :=
 (bif (decide (0 ≤ b2) && decide (b2 * 4 ≤ 281474976710656) && decide (b2 ≤ 9223372036854775807)) then
  (bif (decide ((Int.tmod b1 (32 : Int)) < (0 : Int))) then
   q29 (List.replicate (Int.toNat b2) (0 : Int)) b0 b2 (IntKind.i64.wrap ((IntKind.i64.wrap (Int.tdiv b1 (32 : Int))) - (1 : Int))) (IntKind.i64.wrap ((Int.tmod b1 (32 : Int)) + (32 : Int)))
  else
   q29 (List.replicate (Int.toNat b2) (0 : Int)) b0 b2 (IntKind.i64.wrap (Int.tdiv b1 (32 : Int))) (Int.tmod b1 (32 : Int)))
 else
  none)
def e29 (_k : Nat) (_q5 : Q0) (_q17 : Q1) (_q29 : Q2) (q0 : Q3) (_q41 : Q4) (_q33 : Q3) (b0 b1 : LX) (b2 b3 b4 : Int) : Option (LX × Int) :=
 q0 b0 b1 b2 b3 b4 (0 : Int)
def e0 (k : Nat) (_q5 : Q0) (_q17 : Q1) (_q29 : Q2) (_q0 : Q3) (q41 : Q4) (_q33 : Q3) (b0 b1 : LX) (b2 b3 b4 b5 : Int) : Option (LX × Int) :=
 (bif (decide (b5 < (b1.length : Int))) then
  (bif (decide (0 ≤ b5) && decide (b5 < (b1.length : Int))) then
   (bif (decide ((IntKind.u64.wrap b4) < 0)) then
    none
   else
    (bif (decide ((IntKind.i64.wrap (b5 + b3)) ≥ (0 : Int))) then
     (bif (decide ((IntKind.i64.wrap (b5 + b3)) < b2)) then
      (bif (decide (0 ≤ (IntKind.i64.wrap (b5 + b3))) && decide ((IntKind.i64.wrap (b5 + b3)) < (b0.length : Int))) then
       (bif (decide (0 ≤ (IntKind.i64.wrap (b5 + b3))) && decide ((IntKind.i64.wrap (b5 + b3)) < (b0.length : Int))) then
        q41 (setN (bitsI .or .u32 (nthD (0 : Int) b0 (Int.toNat (IntKind.i64.wrap (b5 + b3)))) (IntKind.u32.wrap (IntKind.u64.wrap ((IntKind.u64.wrap (nthD (0 : Int) b1 (Int.toNat b5))) * 2 ^ min (Int.toNat (IntKind.u64.wrap b4)) 64)))) b0 (Int.toNat (IntKind.i64.wrap (b5 + b3)))) b1 b2 b3 b4 b5 (IntKind.u64.wrap ((IntKind.u64.wrap (nthD (0 : Int) b1 (Int.toNat b5))) * 2 ^ min (Int.toNat (IntKind.u64.wrap b4)) 64))
       else
        none)
      else
       none)
     else
      q41 b0 b1 b2 b3 b4 b5 (IntKind.u64.wrap ((IntKind.u64.wrap (nthD (0 : Int) b1 (Int.toNat b5))) * 2 ^ min (Int.toNat (IntKind.u64.wrap b4)) 64)))
    else
     q41 b0 b1 b2 b3 b4 b5 (IntKind.u64.wrap ((IntKind.u64.wrap (nthD (0 : Int) b1 (Int.toNat b5))) * 2 ^ min (Int.toNat (IntKind.u64.wrap b4)) 64))))
  else
   none)
 else
  (Option.bind (ref01_Norm.f k b0) fun r2 =>
   (some (r2, (0 : Int)))))
def e41 (_k : Nat) (_q5 : Q0) (_q17 : Q1) (_q29 : Q2) (_q0 : Q3) (_q41 : Q4) (q33 : Q3) (b0 b1 : LX) (b2 b3 b4 b5 b6 : Int) : Option (LX × Int) :=
 (bif (decide ((IntKind.i64.wrap ((IntKind.i64.wrap (b5 + b3)) + (1 : Int))) ≥ (0 : Int))) then
  (bif (decide ((IntKind.i64.wrap ((IntKind.i64.wrap (b5 + b3)) + (1 : Int))) < b2)) then
   (bif (decide (0 ≤ (IntKind.i64.wrap ((IntKind.i64.wrap (b5 + b3)) + (1 : Int)))) && decide ((IntKind.i64.wrap ((IntKind.i64.wrap (b5 + b3)) + (1 : Int))) < (b0.length : Int))) then
    (bif (decide (0 ≤ (IntKind.i64.wrap ((IntKind.i64.wrap (b5 + b3)) + (1 : Int)))) && decide ((IntKind.i64.wrap ((IntKind.i64.wrap (b5 + b3)) + (1 : Int))) < (b0.length : Int))) then
     q33 (setN (bitsI .or .u32 (nthD (0 : Int) b0 (Int.toNat (IntKind.i64.wrap ((IntKind.i64.wrap (b5 + b3)) + (1 : Int))))) (IntKind.u32.wrap (Int.fdiv b6 (2 ^ 32)))) b0 (Int.toNat (IntKind.i64.wrap ((IntKind.i64.wrap (b5 + b3)) + (1 : Int))))) b1 b2 b3 b4 b5
    else
     none)
   else
    none)
  else
   q33 b0 b1 b2 b3 b4 b5)
 else
  q33 b0 b1 b2 b3 b4 b5)
def e33 (_k : Nat) (_q5 : Q0) (_q17 : Q1) (_q29 : Q2) (q0 : Q3) (_q41 : Q4) (_q33 : Q3) (b0 b1 : LX) (b2 b3 b4 b5 : Int) : Option (LX × Int) :=
 q0 b0 b1 b2 b3 b4 (IntKind.i64.wrap (b5 + (1 : Int)))
def e (k : Nat) (q5 : Q0) (q17 : Q1) (_q29 : Q2) (_q0 : Q3) (_q41 : Q4) (_q33 : Q3) (a0 : LX) (a1 : Int) : Option (LX × Int) :=
 (bif (decide (a1 < (-1048576 : Int))) then
  q5 ()
 else
  (bif (decide (a1 > (1048576 : Int))) then
   q5 ()
  else
   (Option.bind (ref01_Norm.f k a0) fun r1 =>
    (bif (decide ((r1.length : Int) = (0 : Int))) then
     (some (([] : List Int), (0 : Int)))
    else
     (bif (decide (a1 > (0 : Int))) then
      q17 a0 a1 (IntKind.i64.wrap ((a0.length : Int) + (IntKind.i64.wrap ((IntKind.i64.wrap (Int.tdiv a1 (32 : Int))) + (1 : Int)))))
     else
      q17 a0 a1 (a0.length : Int))))))
def pts : Nat → (Q0) × (Q1) × (Q2) × (Q3) × (Q4) × (Q3)
 | 0 => (fun _ => none, fun _ _ _ => none, fun _ _ _ _ _ => none, fun _ _ _ _ _ _ => none, fun _ _ _ _ _ _ _ => none, fun _ _ _ _ _ _ => none)
 | k + 1 => (e5 k (pts k).1 (pts k).2.1 (pts k).2.2.1 (pts k).2.2.2.1 (pts k).2.2.2.2.1 (pts k).2.2.2.2.2, e17 k (pts k).1 (pts k).2.1 (pts k).2.2.1 (pts k).2.2.2.1 (pts k).2.2.2.2.1 (pts k).2.2.2.2.2, e29 k (pts k).1 (pts k).2.1 (pts k).2.2.1 (pts k).2.2.2.1 (pts k).2.2.2.2.1 (pts k).2.2.2.2.2, e0 k (pts k).1 (pts k).2.1 (pts k).2.2.1 (pts k).2.2.2.1 (pts k).2.2.2.2.1 (pts k).2.2.2.2.2, e41 k (pts k).1 (pts k).2.1 (pts k).2.2.1 (pts k).2.2.2.1 (pts k).2.2.2.2.1 (pts k).2.2.2.2.2, e33 k (pts k).1 (pts k).2.1 (pts k).2.2.1 (pts k).2.2.2.1 (pts k).2.2.2.2.1 (pts k).2.2.2.2.2)
def p5 (k : Nat) : Q0 := (pts k).1
def p17 (k : Nat) : Q1 := (pts k).2.1
def p29 (k : Nat) : Q2 := (pts k).2.2.1
def p0 (k : Nat) : Q3 := (pts k).2.2.2.1
def p41 (k : Nat) : Q4 := (pts k).2.2.2.2.1
def p33 (k : Nat) : Q3 := (pts k).2.2.2.2.2
theorem p17_succ (k : Nat) (x0 : LX) (x1 x2 : Int) : p17 (k + 1) x0 x1 x2 = e17 k (p5 k) (p17 k) (p29 k) (p0 k) (p41 k) (p33 k) x0 x1 x2 := rfl
theorem p29_succ (k : Nat) (x0 x1 : LX) (x2 x3 x4 : Int) : p29 (k + 1) x0 x1 x2 x3 x4 = e29 k (p5 k) (p17 k) (p29 k) (p0 k) (p41 k) (p33 k) x0 x1 x2 x3 x4 := rfl
theorem p0_succ (k : Nat) (x0 x1 : LX) (x2 x3 x4 x5 : Int) : p0 (k + 1) x0 x1 x2 x3 x4 x5 = e0 k (p5 k) (p17 k) (p29 k) (p0 k) (p41 k) (p33 k) x0 x1 x2 x3 x4 x5 := rfl
theorem p41_succ (k : Nat) (x0 x1 : LX) (x2 x3 x4 x5 x6 : Int) : p41 (k + 1) x0 x1 x2 x3 x4 x5 x6 = e41 k (p5 k) (p17 k) (p29 k) (p0 k) (p41 k) (p33 k) x0 x1 x2 x3 x4 x5 x6 := rfl
theorem p33_succ (k : Nat) (x0 x1 : LX) (x2 x3 x4 x5 : Int) : p33 (k + 1) x0 x1 x2 x3 x4 x5 = e33 k (p5 k) (p17 k) (p29 k) (p0 k) (p41 k) (p33 k) x0 x1 x2 x3 x4 x5 := rfl
def f (k : Nat) (a0 : LX) (a1 : Int) : Option (LX × Int) := e k (p5 k) (p17 k) (p29 k) (p0 k) (p41 k) (p33 k) a0 a1
end ref01_Shift

namespace ref01_Sub
def e0 (k : Nat) (q0 : LX → LX → LX → Int → Int → Option (LX × Int)) (b0 b1 b2 : LX) (b3 b4 : Int) : Option (LX × Int) :=
 (bif (decide (b4 < (b1.length : Int))) then
  (Option.bind (ref01_at.f k b1 b4) fun r2 =>
   (Option.bind (ref01_at.f k b2 b4) fun r3 =>
    (bif (decide (0 ≤ b4) && decide (b4 < (b0.length : Int))) then
     q0 (setN (IntKind.u32.wrap (IntKind.u64.wrap ((IntKind.u64.wrap (r2 - r3)) - b3))) b0 (Int.toNat b4)) b1 b2 (Int.fdiv (IntKind.u64.wrap ((IntKind.u64.wrap (r2 - r3)) - b3)) (2 ^ 63)) (IntKind.i64.wrap (b4 + (1 : Int)))
    else
     none)))
 else
  (Option.bind (ref01_Norm.f k b0) fun r4 =>
   (some (r4, (0 : Int)))))
def e (k : Nat) (q0 : LX → LX → LX → Int → Int → Option (LX × Int)) (a0 a1 : LX) : Option (LX × Int) :=
 (Option.bind (ref01_Cmp.f k a0 a1) fun r1 =>
  (bif (decide (r1 < (0 : Int))) then
   (some (([] : List Int), (10 : Int)))
  else
   (bif (decide (0 ≤ (a0.length : Int)) && decide ((a0.length : Int) * 4 ≤ 281474976710656) && decide ((a0.length : Int) ≤ 9223372036854775807)) then
    q0 (List.replicate (Int.toNat (a0.length : Int)) (0 : Int)) a0 a1 (0 : Int) (0 : Int)
   else
    none)))
def pts : Nat → (LX → LX → LX → Int → Int → Option (LX × Int))
 | 0 => fun _ _ _ _ _ => none
 | k + 1 => e0 k (pts k)
def p0 (k : Nat) : LX → LX → LX → Int → Int → Option (LX × Int) := (pts k)
theorem p0_succ (k : Nat) (x0 x1 x2 : LX) (x3 x4 : Int) : p0 (k + 1) x0 x1 x2 x3 x4 = e0 k (p0 k) x0 x1 x2 x3 x4 := rfl
def f (k : Nat) (a0 a1 : LX) : Option (LX × Int) := e k (p0 k) a0 a1
end ref01_Sub

namespace ref01_twice
abbrev Q0 : Type := LX → LX → Int → Option LX
abbrev Q1 : Type := LX → LX → Int → Int → Option LX
def e11 (_k : Nat) (_q11 : Q0) (q0 : Q1) (b0 b1 : LX) (b2 : Int) : Option LX :=
 q0 b0 b1 b2 (0 : Int)
def e0 (k : Nat) (_q11 : Q0) (q0 : Q1) (b0 b1 : LX) (b2 b3 : Int) : Option LX :=
 (bif (decide (b3 < (b1.length : Int))) then
  (bif (decide (0 ≤ b3) && decide (b3 < (b1.length : Int))) then
   (bif (decide (0 ≤ b3) && decide (b3 < (b0.length : Int))) then
    (bif (decide (0 ≤ b3) && decide (b3 < (b1.length : Int))) then
     q0 (setN (bitsI .or .u32 (IntKind.u32.wrap ((nthD (0 : Int) b1 (Int.toNat b3)) * 2 ^ 1)) b2) b0 (Int.toNat b3)) b1 (Int.fdiv (nthD (0 : Int) b1 (Int.toNat b3)) (2 ^ 31)) (IntKind.i64.wrap (b3 + (1 : Int)))
    else
     none)
   else
    none)
  else
   none)
 else
  (bif (decide (0 ≤ (b1.length : Int)) && decide ((b1.length : Int) < (b0.length : Int))) then
   (Option.bind (ref01_Norm.f k (setN b2 b0 (Int.toNat (b1.length : Int)))) fun r1 =>
    (some r1))
  else
   none))
def e (_k : Nat) (q11 : Q0) (_q0 : Q1) (a0 : LX) (a1 : Bool) : Option LX :=
 (bif (decide (0 ≤ (IntKind.i64.wrap ((a0.length : Int) + (1 : Int)))) && decide ((IntKind.i64.wrap ((a0.length : Int) + (1 : Int))) * 4 ≤ 281474976710656) && decide ((IntKind.i64.wrap ((a0.length : Int) + (1 : Int))) ≤ 9223372036854775807)) then
  (bif a1 then
   q11 (List.replicate (Int.toNat (IntKind.i64.wrap ((a0.length : Int) + (1 : Int)))) (0 : Int)) a0 (1 : Int)
  else
   q11 (List.replicate (Int.toNat (IntKind.i64.wrap ((a0.length : Int) + (1 : Int)))) (0 : Int)) a0 (0 : Int))
 else
  none)
def pts : Nat → (Q0) × (Q1)
 | 0 => (fun _ _ _ => none, fun _ _ _ _ => none)
 | k + 1 => (e11 k (pts k).1 (pts k).2, e0 k (pts k).1 (pts k).2)
def p11 (k : Nat) : Q0 := (pts k).1
def p0 (k : Nat) : Q1 := (pts k).2
theorem p11_succ (k : Nat) (x0 x1 : LX) (x2 : Int) : p11 (k + 1) x0 x1 x2 = e11 k (p11 k) (p0 k) x0 x1 x2 := rfl
theorem p0_succ (k : Nat) (x0 x1 : LX) (x2 x3 : Int) : p0 (k + 1) x0 x1 x2 x3 = e0 k (p11 k) (p0 k) x0 x1 x2 x3 := rfl
def f (k : Nat) (a0 : LX) (a1 : Bool) : Option LX := e k (p11 k) (p0 k) a0 a1
end ref01_twice

namespace ref01_Gcd
abbrev Q0 : Type := LX → Option LX
abbrev Q1 : Type := LX → LX → Int → Option LX
abbrev Q2 : Type := LX → Int → Int → Option LX
def e19 (_k : Nat) (_q19 : Q0) (_q0 _q4 _q8 : Q1) (_q16 : Q2) (_q12 _q45 : Q1) (b0 : LX) : Option LX :=
 (some b0)
def e0 (k : Nat) (_q19 : Q0) (q0 q4 _q8 : Q1) (_q16 : Q2) (_q12 _q45 : Q1) (b0 b1 : LX) (b2 : Int) : Option LX :=
 (Option.bind (ref01_Bit.f k b0 (0 : Int)) fun r5 =>
  (bif (!r5) then
   (Option.bind (ref01_Bit.f k b1 (0 : Int)) fun r6 =>
    (bif (!r6) then
     (Option.bind (ref01_Shift.f k b0 (-1 : Int)) fun r7 =>
      (Option.bind (ref01_Shift.f k b1 (-1 : Int)) fun r8 =>
       q0 r7.1 r8.1 (IntKind.i64.wrap (b2 + (1 : Int)))))
    else
     q4 b0 b1 b2))
  else
   q4 b0 b1 b2))
def e4 (_k : Nat) (_q19 : Q0) (_q0 _q4 q8 : Q1) (q16 : Q2) (_q12 _q45 : Q1) (b0 b1 : LX) (b2 : Int) : Option LX :=
 (bif (decide ((b1.length : Int) > (0 : Int))) then
  q8 b0 b1 b2
 else
  q16 b0 b2 (0 : Int))
def e8 (k : Nat) (_q19 : Q0) (_q0 _q4 q8 : Q1) (_q16 : Q2) (q12 _q45 : Q1) (b0 b1 : LX) (b2 : Int) : Option LX :=
 (Option.bind (ref01_Bit.f k b0 (0 : Int)) fun r9 =>
  (bif (!r9) then
   (Option.bind (ref01_Shift.f k b0 (-1 : Int)) fun r10 =>
    q8 r10.1 b1 b2)
  else
   q12 b0 b1 b2))
def e16 (k : Nat) (_q19 : Q0) (_q0 _q4 _q8 : Q1) (q16 : Q2) (_q12 _q45 : Q1) (b0 : LX) (b1 b2 : Int) : Option LX :=
 (bif (decide (b2 < b1)) then
  (Option.bind (ref01_twice.f k b0 false) fun r11 =>
   q16 r11 b1 (IntKind.i64.wrap (b2 + (1 : Int))))
 else
  (some b0))
def e12 (k : Nat) (_q19 : Q0) (_q0 _q4 _q8 : Q1) (_q16 : Q2) (q12 q45 : Q1) (b0 b1 : LX) (b2 : Int) : Option LX :=
 (Option.bind (ref01_Bit.f k b1 (0 : Int)) fun r12 =>
  (bif (!r12) then
   (Option.bind (ref01_Shift.f k b1 (-1 : Int)) fun r13 =>
    q12 b0 r13.1 b2)
  else
   (Option.bind (ref01_Cmp.f k b0 b1) fun r14 =>
    (bif (decide (r14 > (0 : Int))) then
     q45 b1 b0 b2
    else
     q45 b0 b1 b2))))
def e45 (k : Nat) (_q19 : Q0) (_q0 q4 _q8 : Q1) (_q16 : Q2) (_q12 _q45 : Q1) (b0 b1 : LX) (b2 : Int) : Option LX :=
 (Option.bind (ref01_Sub.f k b1 b0) fun r15 =>
  q4 b0 r15.1 b2)
def e (k : Nat) (q19 : Q0) (q0 _q4 _q8 : Q1) (_q16 : Q2) (_q12 _q45 : Q1) (a0 a1 : LX) : Option LX :=
 (Option.bind (ref01_Norm.f k a0) fun r1 =>
  (Option.bind (ref01_Norm.f k a1) fun r2 =>
   (bif (decide ((r1.length : Int) = (0 : Int))) then
    (some r2)
   else
    (bif (decide ((r2.length : Int) = (0 : Int))) then
     (some r1)
    else
     (Option.bind (ref01_Cmp.f k r1 [(1 : Int)]) fun r3 =>
      (bif (decide (r3 = (0 : Int))) then
       q19 [(1 : Int)]
      else
       (Option.bind (ref01_Cmp.f k r2 [(1 : Int)]) fun r4 =>
        (bif (decide (r4 = (0 : Int))) then
         q19 [(1 : Int)]
        else
         q0 r1 r2 (0 : Int)))))))))
def pts : Nat → (Q0) × (Q1) × (Q1) × (Q1) × (Q2) × (Q1) × (Q1)
 | 0 => (fun _ => none, fun _ _ _ => none, fun _ _ _ => none, fun _ _ _ => none, fun _ _ _ => none, fun _ _ _ => none, fun _ _ _ => none)
 | k + 1 => (e19 k (pts k).1 (pts k).2.1 (pts k).2.2.1 (pts k).2.2.2.1 (pts k).2.2.2.2.1 (pts k).2.2.2.2.2.1 (pts k).2.2.2.2.2.2, e0 k (pts k).1 (pts k).2.1 (pts k).2.2.1 (pts k).2.2.2.1 (pts k).2.2.2.2.1 (pts k).2.2.2.2.2.1 (pts k).2.2.2.2.2.2, e4 k (pts k).1 (pts k).2.1 (pts k).2.2.1 (pts k).2.2.2.1 (pts k).2.2.2.2.1 (pts k).2.2.2.2.2.1 (pts k).2.2.2.2.2.2, e8 k (pts k).1 (pts k).2.1 (pts k).2.2.1 (pts k).2.2.2.1 (pts k).2.2.2.2.1 (pts k).2.2.2.2.2.1 (pts k).2.2.2.2.2.2, e16 k (pts k).1 (pts k).2.1 (pts k).2.2.1 (pts k).2.2.2.1 (pts k).2.2.2.2.1 (pts k).2.2.2.2.2.1 (pts k).2.2.2.2.2.2, e12 k (pts k).1 (pts k).2.1 (pts k).2.2.1 (pts k).2.2.2.1 (pts k).2.2.2.2.1 (pts k).2.2.2.2.2.1 (pts k).2.2.2.2.2.2, e45 k (pts k).1 (pts k).2.1 (pts k).2.2.1 (pts k).2.2.2.1 (pts k).2.2.2.2.1 (pts k).2.2.2.2.2.1 (pts k).2.2.2.2.2.2)
def p19 (k : Nat) : Q0 := (pts k).1
def p0 (k : Nat) : Q1 := (pts k).2.1
def p4 (k : Nat) : Q1 := (pts k).2.2.1
def p8 (k : Nat) : Q1 := (pts k).2.2.2.1
def p16 (k : Nat) : Q2 := (pts k).2.2.2.2.1
def p12 (k : Nat) : Q1 := (pts k).2.2.2.2.2.1
def p45 (k : Nat) : Q1 := (pts k).2.2.2.2.2.2
theorem p19_succ (k : Nat) (x0 : LX) : p19 (k + 1) x0 = e19 k (p19 k) (p0 k) (p4 k) (p8 k) (p16 k) (p12 k) (p45 k) x0 := rfl
theorem p0_succ (k : Nat) (x0 x1 : LX) (x2 : Int) : p0 (k + 1) x0 x1 x2 = e0 k (p19 k) (p0 k) (p4 k) (p8 k) (p16 k) (p12 k) (p45 k) x0 x1 x2 := rfl
theorem p4_succ (k : Nat) (x0 x1 : LX) (x2 : Int) : p4 (k + 1) x0 x1 x2 = e4 k (p19 k) (p0 k) (p4 k) (p8 k) (p16 k) (p12 k) (p45 k) x0 x1 x2 := rfl
theorem p8_succ (k : Nat) (x0 x1 : LX) (x2 : Int) : p8 (k + 1) x0 x1 x2 = e8 k (p19 k) (p0 k) (p4 k) (p8 k) (p16 k) (p12 k) (p45 k) x0 x1 x2 := rfl
theorem p16_succ (k : Nat) (x0 : LX) (x1 x2 : Int) : p16 (k + 1) x0 x1 x2 = e16 k (p19 k) (p0 k) (p4 k) (p8 k) (p16 k) (p12 k) (p45 k) x0 x1 x2 := rfl
theorem p12_succ (k : Nat) (x0 x1 : LX) (x2 : Int) : p12 (k + 1) x0 x1 x2 = e12 k (p19 k) (p0 k) (p4 k) (p8 k) (p16 k) (p12 k) (p45 k) x0 x1 x2 := rfl
theorem p45_succ (k : Nat) (x0 x1 : LX) (x2 : Int) : p45 (k + 1) x0 x1 x2 = e45 k (p19 k) (p0 k) (p4 k) (p8 k) (p16 k) (p12 k) (p45 k) x0 x1 x2 := rfl
def f (k : Nat) (a0 a1 : LX) : Option LX := e k (p19 k) (p0 k) (p4 k) (p8 k) (p16 k) (p12 k) (p45 k) a0 a1
end ref01_Gcd

namespace ref01_Div
abbrev Q0 : Type := LX → LX → LX → Int → Option (LX × LX × Int)
abbrev Q1 : Type := LX → LX → LX → LX → Int → Option (LX × LX × Int)
def e19 (k : Nat) (_q19 : Q0) (q0 _q25 : Q1) (b0 b1 b2 : LX) (b3 : Int) : Option (LX × LX × Int) :=
 (bif (decide (0 ≤ (IntKind.i64.wrap ((b1.length : Int) - b3))) && decide ((IntKind.i64.wrap ((b1.length : Int) - b3)) ≤ (b1.length : Int)) && decide ((b1.length : Int) ≤ (b1.length : Int))) then
  (Option.bind (ref01_Norm.f k ((b1.take (Int.toNat (b1.length : Int))).drop (Int.toNat (IntKind.i64.wrap ((b1.length : Int) - b3))))) fun r3 =>
   q0 b0 b1 b2 r3 (IntKind.i64.wrap ((IntKind.i64.wrap ((32 : Int) * (IntKind.i64.wrap ((b1.length : Int) - b3)))) - (1 : Int))))
 else
  none)
def e0 (k : Nat) (_q19 : Q0) (_q0 q25 : Q1) (b0 b1 b2 b3 : LX) (b4 : Int) : Option (LX × LX × Int) :=
 (bif (decide (b4 ≥ (0 : Int))) then
  (Option.bind (ref01_Bit.f k b1 b4) fun r4 =>
   (Option.bind (ref01_twice.f k b3 r4) fun r5 =>
    (Option.bind (ref01_Cmp.f k r5 b2) fun r6 =>
     (bif (decide (r6 ≥ (0 : Int))) then
      (Option.bind (ref01_Sub.f k r5 b2) fun r7 =>
       (bif (decide (0 ≤ (IntKind.i64.wrap (Int.tdiv b4 (32 : Int)))) && decide ((IntKind.i64.wrap (Int.tdiv b4 (32 : Int))) < (b0.length : Int))) then
        (bif (decide ((IntKind.u64.wrap (Int.tmod b4 (32 : Int))) < 0)) then
         none
        else
         (bif (decide (0 ≤ (IntKind.i64.wrap (Int.tdiv b4 (32 : Int)))) && decide ((IntKind.i64.wrap (Int.tdiv b4 (32 : Int))) < (b0.length : Int))) then
          q25 (setN (bitsI .or .u32 (nthD (0 : Int) b0 (Int.toNat (IntKind.i64.wrap (Int.tdiv b4 (32 : Int))))) (IntKind.u32.wrap ((1 : Int) * 2 ^ min (Int.toNat (IntKind.u64.wrap (Int.tmod b4 (32 : Int)))) 32))) b0 (Int.toNat (IntKind.i64.wrap (Int.tdiv b4 (32 : Int))))) b1 b2 r7.1 b4
         else
          none))
       else
        none))
     else
      q25 b0 b1 b2 r5 b4))))
 else
  (Option.bind (ref01_Norm.f k b0) fun r8 =>
   (some (r8, b3, (0 : Int)))))
def e25 (_k : Nat) (_q19 : Q0) (q0 _q25 : Q1) (b0 b1 b2 b3 : LX) (b4 : Int) : Option (LX × LX × Int) :=
 q0 b0 b1 b2 b3 (IntKind.i64.wrap (b4 - (1 : Int)))
def e (k : Nat) (q19 : Q0) (_q0 _q25 : Q1) (a0 a1 : LX) : Option (LX × LX × Int) :=
 (Option.bind (ref01_Norm.f k a1) fun r1 =>
  (bif (decide ((r1.length : Int) = (0 : Int))) then
   (some (([] : List Int), ([] : List Int), (11 : Int)))
  else
   (Option.bind (ref01_Norm.f k a0) fun r2 =>
    (bif (decide (0 ≤ (r2.length : Int)) && decide ((r2.length : Int) * 4 ≤ 281474976710656) && decide ((r2.length : Int) ≤ 9223372036854775807)) then
     (bif (decide ((IntKind.i64.wrap ((r1.length : Int) - (1 : Int))) > (r2.length : Int))) then
      q19 (List.replicate (Int.toNat (r2.length : Int)) (0 : Int)) r2 r1 (r2.length : Int)
     else
      q19 (List.replicate (Int.toNat (r2.length : Int)) (0 : Int)) r2 r1 (IntKind.i64.wrap ((r1.length : Int) - (1 : Int))))
    else
     none))))
def pts : Nat → (Q0) × (Q1) × (Q1)
 | 0 => (fun _ _ _ _ => none, fun _ _ _ _ _ => none, fun _ _ _ _ _ => none)
 | k + 1 => (e19 k (pts k).1 (pts k).2.1 (pts k).2.2, e0 k (pts k).1 (pts k).2.1 (pts k).2.2, e25 k (pts k).1 (pts k).2.1 (pts k).2.2)
def p19 (k : Nat) : Q0 := (pts k).1
def p0 (k : Nat) : Q1 := (pts k).2.1
def p25 (k : Nat) : Q1 := (pts k).2.2
theorem p19_succ (k : Nat) (x0 x1 x2 : LX) (x3 : Int) : p19 (k + 1) x0 x1 x2 x3 = e19 k (p19 k) (p0 k) (p25 k) x0 x1 x2 x3 := rfl
theorem p0_succ (k : Nat) (x0 x1 x2 x3 : LX) (x4 : Int) : p0 (k + 1) x0 x1 x2 x3 x4 = e0 k (p19 k) (p0 k) (p25 k) x0 x1 x2 x3 x4 := rfl
theorem p25_succ (k : Nat) (x0 x1 x2 x3 : LX) (x4 : Int) : p25 (k + 1) x0 x1 x2 x3 x4 = e25 k (p19 k) (p0 k) (p25 k) x0 x1 x2 x3 x4 := rfl
def f (k : Nat) (a0 a1 : LX) : Option (LX × LX × Int) := e k (p19 k) (p0 k) (p25 k) a0 a1
end ref01_Div

namespace ref03_Norm
def e9 (_k : Nat) (_q9 : RX → Option RX) (_b0 : RX) : Option RX :=
 (some ((false, ([] : List Int)), [(1 : Int)]))
def e (k : Nat) (q9 : RX → Option RX) (a0 : RX) : Option RX :=
 (Option.bind (ref02_Norm.f k a0.1) fun r1 =>
  (Option.bind (ref01_Norm.f k a0.2) fun r2 =>
   (bif (decide ((r2.length : Int) = (0 : Int))) then
    q9 ((false, ([] : List Int)), ([] : List Int))
   else
    (bif (decide ((r1.2.length : Int) = (0 : Int))) then
     q9 ((false, ([] : List Int)), ([] : List Int))
    else
     (Option.bind (ref01_Gcd.f k r1.2 r2) fun r3 =>
      (Option.bind (ref01_Div.f k r1.2 r3) fun r4 =>
       (Option.bind (ref01_Div.f k r2 r3) fun r5 =>
        (some ((r1.1, r4.1), r5.1)))))))))
def pts : Nat → (RX → Option RX)
 | 0 => fun _ => none
 | k + 1 => e9 k (pts k)
def p9 (k : Nat) : RX → Option RX := (pts k)
theorem p9_succ (k : Nat) (x0 : RX) : p9 (k + 1) x0 = e9 k (p9 k) x0 := rfl
def f (k : Nat) (a0 : RX) : Option RX := e k (p9 k) a0
end ref03_Norm

namespace ref03_positive
def e (_k : Nat) (a0 : LX) : Option ZX :=
 (some (false, a0))
def f (k : Nat) (a0 : LX) : Option ZX := e k a0
end ref03_positive

namespace ref02_Sign
def e (k : Nat) (a0 : ZX) : Option Int :=
 (Option.bind (ref02_Norm.f k a0) fun r1 =>
  (bif r1.1 then
   (some (-1 : Int))
  else
   (bif (decide ((r1.2.length : Int) > (0 : Int))) then
    (some (1 : Int))
   else
    (some (0 : Int)))))
def f (k : Nat) (a0 : ZX) : Option Int := e k a0
end ref02_Sign

namespace ref02_Quo
def e (k : Nat) (a0 a1 : ZX) : Option (ZX × ZX × Int) :=
 (Option.bind (ref02_Sign.f k a1) fun r1 =>
  (bif (decide (r1 = (0 : Int))) then
   (some ((false, ([] : List Int)), (false, ([] : List Int)), (11 : Int)))
  else
   (Option.bind (ref01_Div.f k a0.2 a1.2) fun r2 =>
    (Option.bind (ref02_made.f k (!(a0.1 == a1.1)) r2.1) fun r3 =>
     (Option.bind (ref02_made.f k a0.1 r2.2.1) fun r4 =>
      (some (r3, r4, (0 : Int))))))))
def f (k : Nat) (a0 a1 : ZX) : Option (ZX × ZX × Int) := e k a0 a1
end ref02_Quo

namespace ref01_Of
def e (k : Nat) (a0 : Int) : Option LX :=
 (Option.bind (ref01_Norm.f k [(IntKind.u32.wrap a0), (IntKind.u32.wrap (Int.fdiv a0 (2 ^ 32)))]) fun r1 =>
  (some r1))
def f (k : Nat) (a0 : Int) : Option LX := e k a0
end ref01_Of

namespace ref02_Of
def e (k : Nat) (a0 : Int) : Option ZX :=
 (bif (decide (a0 < (0 : Int))) then
  (Option.bind (ref01_Of.f k (IntKind.u64.wrap ((0 : Int) - (IntKind.u64.wrap a0)))) fun r1 =>
   (Option.bind (ref02_made.f k true r1) fun r2 =>
    (some r2)))
 else
  (Option.bind (ref01_Of.f k (IntKind.u64.wrap a0)) fun r3 =>
   (Option.bind (ref02_made.f k false r3) fun r4 =>
    (some r4))))
def f (k : Nat) (a0 : Int) : Option ZX := e k a0
end ref02_Of

namespace ref02_Neg
def e (k : Nat) (a0 : ZX) : Option ZX :=
 (Option.bind (ref02_made.f k (!a0.1) a0.2) fun r1 =>
  (some r1))
def f (k : Nat) (a0 : ZX) : Option ZX := e k a0
end ref02_Neg

namespace ref01_Add
abbrev Q0 : Type := LX → LX → Int → Option LX
abbrev Q1 : Type := LX → LX → LX → Int → Int → Int → Option LX
def e9 (_k : Nat) (_q9 : Q0) (q0 : Q1) (b0 b1 : LX) (b2 : Int) : Option LX :=
 (bif (decide (0 ≤ (IntKind.i64.wrap (b2 + (1 : Int)))) && decide ((IntKind.i64.wrap (b2 + (1 : Int))) * 4 ≤ 281474976710656) && decide ((IntKind.i64.wrap (b2 + (1 : Int))) ≤ 9223372036854775807)) then
  q0 (List.replicate (Int.toNat (IntKind.i64.wrap (b2 + (1 : Int)))) (0 : Int)) b0 b1 b2 (0 : Int) (0 : Int)
 else
  none)
def e0 (k : Nat) (_q9 : Q0) (q0 : Q1) (b0 b1 b2 : LX) (b3 b4 b5 : Int) : Option LX :=
 (bif (decide (b5 ≤ b3)) then
  (Option.bind (ref01_at.f k b1 b5) fun r1 =>
   (Option.bind (ref01_at.f k b2 b5) fun r2 =>
    (bif (decide (0 ≤ b5) && decide (b5 < (b0.length : Int))) then
     q0 (setN (IntKind.u32.wrap (IntKind.u64.wrap ((IntKind.u64.wrap (r1 + r2)) + b4))) b0 (Int.toNat b5)) b1 b2 b3 (Int.fdiv (IntKind.u64.wrap ((IntKind.u64.wrap (r1 + r2)) + b4)) (2 ^ 32)) (IntKind.i64.wrap (b5 + (1 : Int)))
    else
     none)))
 else
  (Option.bind (ref01_Norm.f k b0) fun r3 =>
   (some r3)))
def e (_k : Nat) (q9 : Q0) (_q0 : Q1) (a0 a1 : LX) : Option LX :=
 (bif (decide ((a1.length : Int) > (a0.length : Int))) then
  q9 a0 a1 (a1.length : Int)
 else
  q9 a0 a1 (a0.length : Int))
def pts : Nat → (Q0) × (Q1)
 | 0 => (fun _ _ _ => none, fun _ _ _ _ _ _ => none)
 | k + 1 => (e9 k (pts k).1 (pts k).2, e0 k (pts k).1 (pts k).2)
def p9 (k : Nat) : Q0 := (pts k).1
def p0 (k : Nat) : Q1 := (pts k).2
theorem p9_succ (k : Nat) (x0 x1 : LX) (x2 : Int) : p9 (k + 1) x0 x1 x2 = e9 k (p9 k) (p0 k) x0 x1 x2 := rfl
theorem p0_succ (k : Nat) (x0 x1 x2 : LX) (x3 x4 x5 : Int) : p0 (k + 1) x0 x1 x2 x3 x4 x5 = e0 k (p9 k) (p0 k) x0 x1 x2 x3 x4 x5 := rfl
def f (k : Nat) (a0 a1 : LX) : Option LX := e k (p9 k) (p0 k) a0 a1
end ref01_Add

namespace ref02_Add
def e (k : Nat) (a0 a1 : ZX) : Option ZX :=
 (bif (a0.1 == a1.1) then
  (Option.bind (ref01_Add.f k a0.2 a1.2) fun r1 =>
   (Option.bind (ref02_made.f k a0.1 r1) fun r2 =>
    (some r2)))
 else
  (Option.bind (ref01_Cmp.f k a0.2 a1.2) fun r3 =>
   (bif (decide (r3 ≥ (0 : Int))) then
    (Option.bind (ref01_Sub.f k a0.2 a1.2) fun r4 =>
     (Option.bind (ref02_made.f k a0.1 r4.1) fun r5 =>
      (some r5)))
   else
    (Option.bind (ref01_Sub.f k a1.2 a0.2) fun r6 =>
     (Option.bind (ref02_made.f k a1.1 r6.1) fun r7 =>
      (some r7))))))
def f (k : Nat) (a0 a1 : ZX) : Option ZX := e k a0 a1
end ref02_Add

namespace ref02_Sub
def e (k : Nat) (a0 a1 : ZX) : Option ZX :=
 (Option.bind (ref02_Neg.f k a1) fun r1 =>
  (Option.bind (ref02_Add.f k a0 r1) fun r2 =>
   (some r2)))
def f (k : Nat) (a0 a1 : ZX) : Option ZX := e k a0 a1
end ref02_Sub

namespace ref02_Floor
def e9 (_k : Nat) (_q9 : ZX → ZX → ZX → ZX → Int → Option (ZX × ZX × Int)) (_b0 _b1 b2 b3 : ZX) (b4 : Int) : Option (ZX × ZX × Int) :=
 (some (b2, b3, b4))
def e (k : Nat) (q9 : ZX → ZX → ZX → ZX → Int → Option (ZX × ZX × Int)) (a0 a1 : ZX) : Option (ZX × ZX × Int) :=
 (Option.bind (ref02_Quo.f k a0 a1) fun r1 =>
  (bif (decide (r1.2.2 = (0 : Int))) then
   (Option.bind (ref02_Sign.f k r1.2.1) fun r2 =>
    (bif (!decide (r2 = (0 : Int))) then
     (Option.bind (ref02_Sign.f k r1.2.1) fun r3 =>
      (Option.bind (ref02_Sign.f k a1) fun r4 =>
       (bif (!decide (r3 = r4)) then
        (Option.bind (ref02_Of.f k (1 : Int)) fun r5 =>
         (Option.bind (ref02_Sub.f k r1.1 r5) fun r6 =>
          (Option.bind (ref02_Add.f k r1.2.1 a1) fun r7 =>
           (some (r6, r7, (0 : Int))))))
       else
        q9 (false, ([] : List Int)) (false, ([] : List Int)) r1.1 r1.2.1 r1.2.2)))
    else
     q9 (false, ([] : List Int)) (false, ([] : List Int)) r1.1 r1.2.1 r1.2.2))
  else
   q9 (false, ([] : List Int)) (false, ([] : List Int)) r1.1 r1.2.1 r1.2.2))
def pts : Nat → (ZX → ZX → ZX → ZX → Int → Option (ZX × ZX × Int))
 | 0 => fun _ _ _ _ _ => none
 | k + 1 => e9 k (pts k)
def p9 (k : Nat) : ZX → ZX → ZX → ZX → Int → Option (ZX × ZX × Int) := (pts k)
theorem p9_succ (k : Nat) (x0 x1 x2 x3 : ZX) (x4 : Int) : p9 (k + 1) x0 x1 x2 x3 x4 = e9 k (p9 k) x0 x1 x2 x3 x4 := rfl
def f (k : Nat) (a0 a1 : ZX) : Option (ZX × ZX × Int) := e k (p9 k) a0 a1
end ref02_Floor

namespace ref03_Floor
def e (k : Nat) (a0 : RX) : Option ZX :=
 (Option.bind (ref03_Norm.f k a0) fun r1 =>
  (Option.bind (ref03_positive.f k r1.2) fun r2 =>
   (Option.bind (ref02_Floor.f k r1.1 r2) fun r3 =>
    (some r3.1))))
def f (k : Nat) (a0 : RX) : Option ZX := e k a0
end ref03_Floor

namespace ref03_Int
def e (k : Nat) (a0 : ZX) : Option RX :=
 (Option.bind (ref03_Norm.f k (a0, [(1 : Int)])) fun r1 =>
  (some r1))
def f (k : Nat) (a0 : ZX) : Option RX := e k a0
end ref03_Int

namespace ref03_Neg
def e (k : Nat) (a0 : RX) : Option RX :=
 (Option.bind (ref03_Norm.f k a0) fun r1 =>
  (Option.bind (ref02_Neg.f k r1.1) fun r2 =>
   (Option.bind (ref03_Norm.f k (r2, r1.2)) fun r3 =>
    (some r3))))
def f (k : Nat) (a0 : RX) : Option RX := e k a0
end ref03_Neg

namespace ref01_Mul
abbrev Q0 : Type := LX → LX → LX → Int → Option LX
abbrev Q1 : Type := LX → LX → LX → Int → Int → Int → Option LX
def e0 (k : Nat) (_q0 : Q0) (q4 : Q1) (b0 b1 b2 : LX) (b3 : Int) : Option LX :=
 (bif (decide (b3 < (b1.length : Int))) then
  q4 b0 b1 b2 b3 (0 : Int) (0 : Int)
 else
  (Option.bind (ref01_Norm.f k b0) fun r1 =>
   (some r1)))
def e4 (_k : Nat) (q0 : Q0) (q4 : Q1) (b0 b1 b2 : LX) (b3 b4 b5 : Int) : Option LX :=
 (bif (decide (b5 < (b2.length : Int))) then
  (bif (decide (0 ≤ b3) && decide (b3 < (b1.length : Int))) then
   (bif (decide (0 ≤ b5) && decide (b5 < (b2.length : Int))) then
    (bif (decide (0 ≤ (IntKind.i64.wrap (b3 + b5))) && decide ((IntKind.i64.wrap (b3 + b5)) < (b0.length : Int))) then
     (bif (decide (0 ≤ (IntKind.i64.wrap (b3 + b5))) && decide ((IntKind.i64.wrap (b3 + b5)) < (b0.length : Int))) then
      q4 (setN (IntKind.u32.wrap (IntKind.u64.wrap ((IntKind.u64.wrap ((IntKind.u64.wrap ((IntKind.u64.wrap (nthD (0 : Int) b1 (Int.toNat b3))) * (IntKind.u64.wrap (nthD (0 : Int) b2 (Int.toNat b5))))) + (IntKind.u64.wrap (nthD (0 : Int) b0 (Int.toNat (IntKind.i64.wrap (b3 + b5))))))) + b4))) b0 (Int.toNat (IntKind.i64.wrap (b3 + b5)))) b1 b2 b3 (Int.fdiv (IntKind.u64.wrap ((IntKind.u64.wrap ((IntKind.u64.wrap ((IntKind.u64.wrap (nthD (0 : Int) b1 (Int.toNat b3))) * (IntKind.u64.wrap (nthD (0 : Int) b2 (Int.toNat b5))))) + (IntKind.u64.wrap (nthD (0 : Int) b0 (Int.toNat (IntKind.i64.wrap (b3 + b5))))))) + b4)) (2 ^ 32)) (IntKind.i64.wrap (b5 + (1 : Int)))
     else
      none)
    else
     none)
   else
    none)
  else
   none)
 else
  (bif (decide (0 ≤ (IntKind.i64.wrap (b3 + (b2.length : Int)))) && decide ((IntKind.i64.wrap (b3 + (b2.length : Int))) < (b0.length : Int))) then
   q0 (setN (IntKind.u32.wrap b4) b0 (Int.toNat (IntKind.i64.wrap (b3 + (b2.length : Int))))) b1 b2 (IntKind.i64.wrap (b3 + (1 : Int)))
  else
   none))
def e (_k : Nat) (q0 : Q0) (_q4 : Q1) (a0 a1 : LX) : Option LX :=
 (bif (decide (0 ≤ (IntKind.i64.wrap ((a0.length : Int) + (a1.length : Int)))) && decide ((IntKind.i64.wrap ((a0.length : Int) + (a1.length : Int))) * 4 ≤ 281474976710656) && decide ((IntKind.i64.wrap ((a0.length : Int) + (a1.length : Int))) ≤ 9223372036854775807)) then
  q0 (List.replicate (Int.toNat (IntKind.i64.wrap ((a0.length : Int) + (a1.length : Int)))) (0 : Int)) a0 a1 (0 : Int)
 else
  none)
def pts : Nat → (Q0) × (Q1)
 | 0 => (fun _ _ _ _ => none, fun _ _ _ _ _ _ => none)
 | k + 1 => (e0 k (pts k).1 (pts k).2, e4 k (pts k).1 (pts k).2)
def p0 (k : Nat) : Q0 := (pts k).1
def p4 (k : Nat) : Q1 := (pts k).2
theorem p0_succ (k : Nat) (x0 x1 x2 : LX) (x3 : Int) : p0 (k + 1) x0 x1 x2 x3 = e0 k (p0 k) (p4 k) x0 x1 x2 x3 := rfl
theorem p4_succ (k : Nat) (x0 x1 x2 : LX) (x3 x4 x5 : Int) : p4 (k + 1) x0 x1 x2 x3 x4 x5 = e4 k (p0 k) (p4 k) x0 x1 x2 x3 x4 x5 := rfl
def f (k : Nat) (a0 a1 : LX) : Option LX := e k (p0 k) (p4 k) a0 a1
end ref01_Mul

namespace ref02_Mul
def e (k : Nat) (a0 a1 : ZX) : Option ZX :=
 (Option.bind (ref01_Mul.f k a0.2 a1.2) fun r1 =>
  (Option.bind (ref02_made.f k (!(a0.1 == a1.1)) r1) fun r2 =>
   (some r2)))
def f (k : Nat) (a0 a1 : ZX) : Option ZX := e k a0 a1
end ref02_Mul

namespace ref03_Add
def e (k : Nat) (a0 a1 : RX) : Option RX :=
 (Option.bind (ref03_Norm.f k a0) fun r1 =>
  (Option.bind (ref03_Norm.f k a1) fun r2 =>
   (Option.bind (ref03_positive.f k r2.2) fun r3 =>
    (Option.bind (ref02_Mul.f k r1.1 r3) fun r4 =>
     (Option.bind (ref03_positive.f k r1.2) fun r5 =>
      (Option.bind (ref02_Mul.f k r2.1 r5) fun r6 =>
       (Option.bind (ref02_Add.f k r4 r6) fun r7 =>
        (Option.bind (ref01_Mul.f k r1.2 r2.2) fun r8 =>
         (Option.bind (ref03_Norm.f k (r7, r8)) fun r9 =>
          (some r9))))))))))
def f (k : Nat) (a0 a1 : RX) : Option RX := e k a0 a1
end ref03_Add

namespace ref03_Sub
def e (k : Nat) (a0 a1 : RX) : Option RX :=
 (Option.bind (ref03_Neg.f k a1) fun r1 =>
  (Option.bind (ref03_Add.f k a0 r1) fun r2 =>
   (some r2)))
def f (k : Nat) (a0 a1 : RX) : Option RX := e k a0 a1
end ref03_Sub

namespace ref03_Sign
def e (k : Nat) (a0 : RX) : Option Int :=
 (Option.bind (ref03_Norm.f k a0) fun r1 =>
  (Option.bind (ref02_Sign.f k r1.1) fun r2 =>
   (some r2)))
def f (k : Nat) (a0 : RX) : Option Int := e k a0
end ref03_Sign

namespace ref03_Of
def e (k : Nat) (a0 a1 : ZX) : Option (RX × Int) :=
 (Option.bind (ref02_Norm.f k a0) fun r1 =>
  (Option.bind (ref02_Norm.f k a1) fun r2 =>
   (bif (decide ((r2.2.length : Int) = (0 : Int))) then
    (some (((false, ([] : List Int)), ([] : List Int)), (11 : Int)))
   else
    (Option.bind (ref03_Norm.f k (((!(r1.1 == r2.1)), r1.2), r2.2)) fun r3 =>
     (some (r3, (0 : Int)))))))
def f (k : Nat) (a0 a1 : ZX) : Option (RX × Int) := e k a0 a1
end ref03_Of

namespace ref03_Inv
def e (k : Nat) (a0 : RX) : Option (RX × Int) :=
 (Option.bind (ref03_Norm.f k a0) fun r1 =>
  (Option.bind (ref03_positive.f k r1.2) fun r2 =>
   (Option.bind (ref03_Of.f k r2 r1.1) fun r3 =>
    (some (r3.1, r3.2)))))
def f (k : Nat) (a0 : RX) : Option (RX × Int) := e k a0
end ref03_Inv

namespace ref03_Expand
def e0 (k : Nat) (q0 : RX → (List ZX) → Option (List ZX)) (b0 : RX) (b1 : (List ZX)) : Option (List ZX) :=
 (Option.bind (ref03_Floor.f k b0) fun r1 =>
  (bif (Nat.ble ((b1.length + [r1].length) * 32) 140737488355328 && Nat.ble (b1.length + [r1].length) 9223372036854775807) then
   (Option.bind (ref03_Int.f k r1) fun r2 =>
    (Option.bind (ref03_Sub.f k b0 r2) fun r3 =>
     (Option.bind (ref03_Sign.f k r3) fun r4 =>
      (bif (decide (r4 = (0 : Int))) then
       (some (b1 ++ [r1]))
      else
       (Option.bind (ref03_Inv.f k r3) fun r5 =>
        q0 r5.1 (b1 ++ [r1]))))))
  else
   none))
def e (_k : Nat) (q0 : RX → (List ZX) → Option (List ZX)) (a0 : RX) : Option (List ZX) :=
 q0 a0 ([] : List ZX)
def pts : Nat → (RX → (List ZX) → Option (List ZX))
 | 0 => fun _ _ => none
 | k + 1 => e0 k (pts k)
def p0 (k : Nat) : RX → (List ZX) → Option (List ZX) := (pts k)
theorem p0_succ (k : Nat) (x0 : RX) (x1 : (List ZX)) : p0 (k + 1) x0 x1 = e0 k (p0 k) x0 x1 := rfl
def f (k : Nat) (a0 : RX) : Option (List ZX) := e k (p0 k) a0
end ref03_Expand

namespace ref03_Abs
def e (k : Nat) (a0 : RX) : Option RX :=
 (Option.bind (ref03_Sign.f k a0) fun r1 =>
  (bif (decide (r1 < (0 : Int))) then
   (Option.bind (ref03_Neg.f k a0) fun r2 =>
    (some r2))
  else
   (Option.bind (ref03_Norm.f k a0) fun r3 =>
    (some r3))))
def f (k : Nat) (a0 : RX) : Option RX := e k a0
end ref03_Abs

namespace ref03_Cmp
def e (k : Nat) (a0 a1 : RX) : Option Int :=
 (Option.bind (ref03_Sub.f k a0 a1) fun r1 =>
  (Option.bind (ref03_Sign.f k r1) fun r2 =>
   (some r2)))
def f (k : Nat) (a0 a1 : RX) : Option Int := e k a0 a1
end ref03_Cmp

namespace ref03_Nearer
def e (k : Nat) (a0 a1 a2 : RX) : Option Bool :=
 (Option.bind (ref03_Sub.f k a0 a1) fun r1 =>
  (Option.bind (ref03_Abs.f k r1) fun r2 =>
   (Option.bind (ref03_Sub.f k a0 a2) fun r3 =>
    (Option.bind (ref03_Abs.f k r3) fun r4 =>
     (Option.bind (ref03_Cmp.f k r2 r4) fun r5 =>
      (bif (!decide (r5 = (0 : Int))) then
       (some (decide (r5 < (0 : Int))))
      else
       (Option.bind (ref03_Norm.f k a1) fun r6 =>
        (Option.bind (ref03_Norm.f k a2) fun r7 =>
         (Option.bind (ref01_Cmp.f k r6.2 r7.2) fun r8 =>
          (bif (!decide (r8 = (0 : Int))) then
           (some (decide (r8 < (0 : Int))))
          else
           (Option.bind (ref03_Cmp.f k a1 a2) fun r9 =>
            (some (decide (r9 < (0 : Int)))))))))))))))
def f (k : Nat) (a0 a1 a2 : RX) : Option Bool := e k a0 a1 a2
end ref03_Nearer

namespace ref03_Best
def e0 (k : Nat) (q0 : RX → RX → ZX → ZX → LX → (List ZX) → LX → LX → Int → Option (RX × Int)) (b0 b1 : RX) (b2 b3 : ZX) (b4 : LX) (b5 : (List ZX)) (b6 b7 : LX) (b8 : Int) : Option (RX × Int) :=
 (bif (decide (0 ≤ b8) && decide (b8 < (b5.length : Int))) then
  (Option.bind (ref01_Mul.f k (nthD (false, ([] : List Int)) b5 (Int.toNat b8)).2 b7) fun r6 =>
   (Option.bind (ref01_Add.f k b6 r6) fun r7 =>
    (Option.bind (ref01_Cmp.f k r7 b4) fun r8 =>
     (bif (decide (r8 > (0 : Int))) then
      (Option.bind (ref01_Sub.f k b4 b6) fun r9 =>
       (Option.bind (ref01_Div.f k r9.1 b7) fun r10 =>
        (Option.bind (ref03_Norm.f k (b3, b7)) fun r11 =>
         (Option.bind (ref03_positive.f k r10.1) fun r12 =>
          (Option.bind (ref02_Mul.f k r12 b3) fun r13 =>
           (Option.bind (ref02_Add.f k b2 r13) fun r14 =>
            (Option.bind (ref01_Mul.f k r10.1 b7) fun r15 =>
             (Option.bind (ref01_Add.f k b6 r15) fun r16 =>
              (Option.bind (ref03_Norm.f k (r14, r16)) fun r17 =>
               (Option.bind (ref03_Nearer.f k b0 r17 r11) fun r18 =>
                (bif r18 then
                 (some (r17, (0 : Int)))
                else
                 (some (r11, (0 : Int))))))))))))))
     else
      (bif (decide (0 ≤ b8) && decide (b8 < (b5.length : Int))) then
       (Option.bind (ref02_Mul.f k (nthD (false, ([] : List Int)) b5 (Int.toNat b8)) b3) fun r19 =>
        (Option.bind (ref02_Add.f k b2 r19) fun r20 =>
         q0 b0 b1 b3 r20 b4 b5 b7 r7 (IntKind.i64.wrap (b8 + (1 : Int)))))
      else
       none)))))
 else
  none)
def e (k : Nat) (q0 : RX → RX → ZX → ZX → LX → (List ZX) → LX → LX → Int → Option (RX × Int)) (a0 : RX) (a1 : LX) : Option (RX × Int) :=
 (Option.bind (ref03_Norm.f k a0) fun r1 =>
  (Option.bind (ref01_Norm.f k a1) fun r2 =>
   (bif (decide ((r2.length : Int) = (0 : Int))) then
    (some (((false, ([] : List Int)), ([] : List Int)), (11 : Int)))
   else
    (Option.bind (ref01_Cmp.f k r1.2 a1) fun r3 =>
     (bif (decide (r3 ≤ (0 : Int))) then
      (some (r1, (0 : Int)))
     else
      (Option.bind (ref03_Expand.f k r1) fun r4 =>
       (Option.bind (ref02_Of.f k (1 : Int)) fun r5 =>
        (bif (decide ((0 : Int) < (r4.length : Int))) then
         q0 r1 ((false, ([] : List Int)), ([] : List Int)) r5 (nthD (false, ([] : List Int)) r4 0) a1 r4 ([] : List Int) [(1 : Int)] (1 : Int)
        else
         none))))))))
def pts : Nat → (RX → RX → ZX → ZX → LX → (List ZX) → LX → LX → Int → Option (RX × Int))
 | 0 => fun _ _ _ _ _ _ _ _ _ => none
 | k + 1 => e0 k (pts k)
def p0 (k : Nat) : RX → RX → ZX → ZX → LX → (List ZX) → LX → LX → Int → Option (RX × Int) := (pts k)
theorem p0_succ (k : Nat) (x0 x1 : RX) (x2 x3 : ZX) (x4 : LX) (x5 : (List ZX)) (x6 x7 : LX) (x8 : Int) : p0 (k + 1) x0 x1 x2 x3 x4 x5 x6 x7 x8 = e0 k (p0 k) x0 x1 x2 x3 x4 x5 x6 x7 x8 := rfl
def f (k : Nat) (a0 : RX) (a1 : LX) : Option (RX × Int) := e k (p0 k) a0 a1
end ref03_Best

namespace ref01_Same
def e0 (_k : Nat) (q0 : LX → LX → Int → Option Bool) (b0 b1 : LX) (b2 : Int) : Option Bool :=
 (bif (decide (b2 < (b0.length : Int))) then
  (bif (decide (0 ≤ b2) && decide (b2 < (b0.length : Int))) then
   (bif (decide (0 ≤ b2) && decide (b2 < (b1.length : Int))) then
    (bif (!decide ((nthD (0 : Int) b0 (Int.toNat b2)) = (nthD (0 : Int) b1 (Int.toNat b2)))) then
     (some false)
    else
     q0 b0 b1 (IntKind.i64.wrap (b2 + (1 : Int))))
   else
    none)
  else
   none)
 else
  (some true))
def e (_k : Nat) (q0 : LX → LX → Int → Option Bool) (a0 a1 : LX) : Option Bool :=
 (bif (!decide ((a0.length : Int) = (a1.length : Int))) then
  (some false)
 else
  q0 a0 a1 (0 : Int))
def pts : Nat → (LX → LX → Int → Option Bool)
 | 0 => fun _ _ _ => none
 | k + 1 => e0 k (pts k)
def p0 (k : Nat) : LX → LX → Int → Option Bool := (pts k)
def f (k : Nat) (a0 a1 : LX) : Option Bool := e k (p0 k) a0 a1
end ref01_Same

namespace ref03_Same
def e (k : Nat) (a0 a1 : RX) : Option Bool :=
 (bif (a0.1.1 == a1.1.1) then
  (Option.bind (ref01_Same.f k a0.1.2 a1.1.2) fun r1 =>
   (bif r1 then
    (Option.bind (ref01_Same.f k a0.2 a1.2) fun r2 =>
     (some r2))
   else
    (some false)))
 else
  (some false))
def f (k : Nat) (a0 a1 : RX) : Option Bool := e k a0 a1
end ref03_Same

namespace law03_same
def e (k : Nat) (a0 a1 : RX) : Option Bool :=
 (Option.bind (ref03_Same.f k a0 a1) fun r1 =>
  (some r1))
def f (k : Nat) (a0 a1 : RX) : Option Bool := e k a0 a1
end law03_same

namespace law03_none
def e (_k : Nat) (a0 : RX) : Option Bool :=
 (bif (!a0.1.1) then
  (bif (decide ((a0.1.2.length : Int) = (0 : Int))) then
   (some (decide ((a0.2.length : Int) = (0 : Int))))
  else
   (some false))
 else
  (some false))
def f (k : Nat) (a0 : RX) : Option Bool := e k a0
end law03_none

namespace stringslite_HasPrefix
def e (_k : Nat) (a0 a1 : ByteArray) : Option Bool :=
 (bif (decide ((a0.size : Int) ≥ (a1.size : Int))) then
  (bif (decide (0 ≤ (0 : Int)) && decide ((0 : Int) ≤ (a1.size : Int)) && decide ((a1.size : Int) ≤ (a0.size : Int))) then
   (some ((a0.extract (Int.toNat (0 : Int)) (Int.toNat (a1.size : Int))).toList == a1.toList))
  else
   none)
 else
  (some false))
def f (k : Nat) (a0 a1 : ByteArray) : Option Bool := e k a0 a1
end stringslite_HasPrefix

namespace stringslite_CutPrefix
def e (k : Nat) (a0 a1 : ByteArray) : Option (ByteArray × Bool) :=
 (Option.bind (stringslite_HasPrefix.f k a0 a1) fun r1 =>
  (bif (!r1) then
   (some (a0, false))
  else
   (bif (decide (0 ≤ (a1.size : Int)) && decide ((a1.size : Int) ≤ (a0.size : Int)) && decide ((a0.size : Int) ≤ (a0.size : Int))) then
    (some ((a0.extract (Int.toNat (a1.size : Int)) (Int.toNat (a0.size : Int))), true))
   else
    none)))
def f (k : Nat) (a0 a1 : ByteArray) : Option (ByteArray × Bool) := e k a0 a1
end stringslite_CutPrefix

namespace strings_CutPrefix
def e (k : Nat) (a0 a1 : ByteArray) : Option (ByteArray × Bool) :=
 (Option.bind (stringslite_CutPrefix.f k a0 a1) fun r1 =>
  (some (r1.1, r1.2)))
def f (k : Nat) (a0 a1 : ByteArray) : Option (ByteArray × Bool) := e k a0 a1
end strings_CutPrefix

namespace bytealg_IndexByteString
def f (_k : Nat) (a0 : ByteArray) (a1 : Int) : Option Int := some (Go.Lib.indexByte a0.data.toList a1.toNat.toUInt8)
end bytealg_IndexByteString

namespace stringslite_IndexByte
def e (k : Nat) (a0 : ByteArray) (a1 : Int) : Option Int :=
 (Option.bind (bytealg_IndexByteString.f k a0 a1) fun r1 =>
  (some r1))
def f (k : Nat) (a0 : ByteArray) (a1 : Int) : Option Int := e k a0 a1
end stringslite_IndexByte

namespace bytealg_Cutover
def e (_k : Nat) (a0 : Int) : Option Int :=
 (some (IntKind.i64.wrap (Int.tdiv (IntKind.i64.wrap (a0 + (16 : Int))) (8 : Int))))
def f (k : Nat) (a0 : Int) : Option Int := e k a0
end bytealg_Cutover

namespace bytealg_hashStr_string_
abbrev Q0 : Type := ByteArray → Int → Int → Option (Int × Int)
abbrev Q1 : Type := Int → Int → Int → Int → Option (Int × Int)
def e0 (_k : Nat) (q0 : Q0) (q4 _q25 : Q1) (b0 : ByteArray) (b1 b2 : Int) : Option (Int × Int) :=
 (bif (decide (b2 < (b0.size : Int))) then
  (bif (decide (0 ≤ b2) && decide (b2 < (b0.size : Int))) then
   q0 b0 (IntKind.u32.wrap ((IntKind.u32.wrap (b1 * (16777619 : Int))) + (IntKind.u32.wrap (btI b0 b2)))) (IntKind.i64.wrap (b2 + (1 : Int)))
  else
   none)
 else
  q4 b1 (1 : Int) (16777619 : Int) (b0.size : Int))
def e4 (_k : Nat) (_q0 : Q0) (_q4 q25 : Q1) (b0 b1 b2 b3 : Int) : Option (Int × Int) :=
 (bif (decide (b3 > (0 : Int))) then
  (bif (!decide ((bitsI .and .i64 b3 (1 : Int)) = (0 : Int))) then
   q25 b0 (IntKind.u32.wrap (b1 * b2)) b2 b3
  else
   q25 b0 b1 b2 b3)
 else
  (some (b0, b1)))
def e25 (_k : Nat) (_q0 : Q0) (q4 _q25 : Q1) (b0 b1 b2 b3 : Int) : Option (Int × Int) :=
 q4 b0 b1 (IntKind.u32.wrap (b2 * b2)) (Int.fdiv b3 (2 ^ 1))
def e (_k : Nat) (q0 : Q0) (_q4 _q25 : Q1) (a0 : ByteArray) : Option (Int × Int) :=
 q0 a0 (0 : Int) (0 : Int)
def pts : Nat → (Q0) × (Q1) × (Q1)
 | 0 => (fun _ _ _ => none, fun _ _ _ _ => none, fun _ _ _ _ => none)
 | k + 1 => (e0 k (pts k).1 (pts k).2.1 (pts k).2.2, e4 k (pts k).1 (pts k).2.1 (pts k).2.2, e25 k (pts k).1 (pts k).2.1 (pts k).2.2)
def p0 (k : Nat) : Q0 := (pts k).1
def p4 (k : Nat) : Q1 := (pts k).2.1
def p25 (k : Nat) : Q1 := (pts k).2.2
def f (k : Nat) (a0 : ByteArray) : Option (Int × Int) := e k (p0 k) (p4 k) (p25 k) a0
end bytealg_hashStr_string_

namespace bytealg_IndexRabinKarp_string_
abbrev Q0 : Type := ByteArray → ByteArray → Int → Int → Int → Int → Int → Option Int
abbrev Q1 : Type := ByteArray → ByteArray → Int → Int → Int → Int → Option Int
def e0 (_k : Nat) (q0 : Q0) (q21 : Q1) (_q4 : Q0) (b0 b1 : ByteArray) (b2 b3 b4 b5 b6 : Int) : Option Int :=
 (bif (decide (b6 < b4)) then
  (bif (decide (0 ≤ b6) && decide (b6 < (b0.size : Int))) then
   q0 b0 b1 b2 b3 b4 (IntKind.u32.wrap ((IntKind.u32.wrap (b5 * (16777619 : Int))) + (IntKind.u32.wrap (btI b0 b6)))) (IntKind.i64.wrap (b6 + (1 : Int)))
  else
   none)
 else
  (bif (decide (b5 = b2)) then
   (bif (decide (0 ≤ (0 : Int)) && decide ((0 : Int) ≤ b4) && decide (b4 ≤ (b0.size : Int))) then
    (bif ((b0.extract (Int.toNat (0 : Int)) (Int.toNat b4)).toList == b1.toList) then
     (some (0 : Int))
    else
     q21 b0 b1 b2 b3 b4 b5)
   else
    none)
  else
   q21 b0 b1 b2 b3 b4 b5))
def e21 (_k : Nat) (_q0 : Q0) (_q21 : Q1) (q4 : Q0) (b0 b1 : ByteArray) (b2 b3 b4 b5 : Int) : Option Int :=
 q4 b0 b1 b2 b3 b4 b5 b4
def e4 (_k : Nat) (_q0 : Q0) (_q21 : Q1) (q4 : Q0) (b0 b1 : ByteArray) (b2 b3 b4 b5 b6 : Int) : Option Int :=
 (bif (decide (b6 < (b0.size : Int))) then
  (bif (decide (0 ≤ b6) && decide (b6 < (b0.size : Int))) then
   (bif (decide (0 ≤ (IntKind.i64.wrap (b6 - b4))) && decide ((IntKind.i64.wrap (b6 - b4)) < (b0.size : Int))) then
    (bif (decide ((IntKind.u32.wrap ((IntKind.u32.wrap ((IntKind.u32.wrap (b5 * (16777619 : Int))) + (IntKind.u32.wrap (btI b0 b6)))) - (IntKind.u32.wrap (b3 * (IntKind.u32.wrap (btI b0 (IntKind.i64.wrap (b6 - b4)))))))) = b2)) then
     (bif (decide (0 ≤ (IntKind.i64.wrap ((IntKind.i64.wrap (b6 + (1 : Int))) - b4))) && decide ((IntKind.i64.wrap ((IntKind.i64.wrap (b6 + (1 : Int))) - b4)) ≤ (IntKind.i64.wrap (b6 + (1 : Int)))) && decide ((IntKind.i64.wrap (b6 + (1 : Int))) ≤ (b0.size : Int))) then
      (bif ((b0.extract (Int.toNat (IntKind.i64.wrap ((IntKind.i64.wrap (b6 + (1 : Int))) - b4))) (Int.toNat (IntKind.i64.wrap (b6 + (1 : Int))))).toList == b1.toList) then
       (some (IntKind.i64.wrap ((IntKind.i64.wrap (b6 + (1 : Int))) - b4)))
      else
       q4 b0 b1 b2 b3 b4 (IntKind.u32.wrap ((IntKind.u32.wrap ((IntKind.u32.wrap (b5 * (16777619 : Int))) + (IntKind.u32.wrap (btI b0 b6)))) - (IntKind.u32.wrap (b3 * (IntKind.u32.wrap (btI b0 (IntKind.i64.wrap (b6 - b4)))))))) (IntKind.i64.wrap (b6 + (1 : Int))))
     else
      none)
    else
     q4 b0 b1 b2 b3 b4 (IntKind.u32.wrap ((IntKind.u32.wrap ((IntKind.u32.wrap (b5 * (16777619 : Int))) + (IntKind.u32.wrap (btI b0 b6)))) - (IntKind.u32.wrap (b3 * (IntKind.u32.wrap (btI b0 (IntKind.i64.wrap (b6 - b4)))))))) (IntKind.i64.wrap (b6 + (1 : Int))))
   else
    none)
  else
   none)
 else
  (some (-1 : Int)))
def e (k : Nat) (q0 : Q0) (_q21 : Q1) (_q4 : Q0) (a0 a1 : ByteArray) : Option Int :=
 (Option.bind (bytealg_hashStr_string_.f k a1) fun r1 =>
  q0 a0 a1 r1.1 r1.2 (a1.size : Int) (0 : Int) (0 : Int))
def pts : Nat → (Q0) × (Q1) × (Q0)
 | 0 => (fun _ _ _ _ _ _ _ => none, fun _ _ _ _ _ _ => none, fun _ _ _ _ _ _ _ => none)
 | k + 1 => (e0 k (pts k).1 (pts k).2.1 (pts k).2.2, e21 k (pts k).1 (pts k).2.1 (pts k).2.2, e4 k (pts k).1 (pts k).2.1 (pts k).2.2)
def p0 (k : Nat) : Q0 := (pts k).1
def p21 (k : Nat) : Q1 := (pts k).2.1
def p4 (k : Nat) : Q0 := (pts k).2.2
def f (k : Nat) (a0 a1 : ByteArray) : Option Int := e k (p0 k) (p21 k) (p4 k) a0 a1
end bytealg_IndexRabinKarp_string_

namespace stringslite_Index
def e7 (_k : Nat) (_q7 : Unit → Option Int) (_ : Unit) : Option Int :=
 (some (0 : Int))
def e (k : Nat) (q7 : Unit → Option Int) (a0 a1 : ByteArray) : Option Int :=
 (bif (decide ((a1.size : Int) = (0 : Int))) then
  q7 ()
 else
  (bif (a1.toList == a0.toList) then
   q7 ()
  else
   (bif (decide ((a1.size : Int) = (1 : Int))) then
    (bif (decide ((0 : Int) < (a1.size : Int))) then
     (Option.bind (stringslite_IndexByte.f k a0 (btI a1 (0 : Int))) fun r1 =>
      (some r1))
    else
     none)
   else
    (bif (decide ((a1.size : Int) ≥ (a0.size : Int))) then
     (some (-1 : Int))
    else
     none))))
def pts : Nat → (Unit → Option Int)
 | 0 => fun _ => none
 | k + 1 => e7 k (pts k)
def p7 (k : Nat) : Unit → Option Int := (pts k)
def f (k : Nat) (a0 a1 : ByteArray) : Option Int := e k (p7 k) a0 a1
end stringslite_Index

namespace stringslite_Cut
def e (k : Nat) (a0 a1 : ByteArray) : Option (ByteArray × ByteArray × Bool) :=
 (Option.bind (stringslite_Index.f k a0 a1) fun r1 =>
  (bif (decide (r1 ≥ (0 : Int))) then
   (bif (decide (0 ≤ (0 : Int)) && decide ((0 : Int) ≤ r1) && decide (r1 ≤ (a0.size : Int))) then
    (bif (decide (0 ≤ (IntKind.i64.wrap (r1 + (a1.size : Int)))) && decide ((IntKind.i64.wrap (r1 + (a1.size : Int))) ≤ (a0.size : Int)) && decide ((a0.size : Int) ≤ (a0.size : Int))) then
     (some ((a0.extract (Int.toNat (0 : Int)) (Int.toNat r1)), (a0.extract (Int.toNat (IntKind.i64.wrap (r1 + (a1.size : Int)))) (Int.toNat (a0.size : Int))), true))
    else
     none)
   else
    none)
  else
   (some (a0, (ByteArray.mk #[]), false))))
def f (k : Nat) (a0 a1 : ByteArray) : Option (ByteArray × ByteArray × Bool) := e k a0 a1
end stringslite_Cut

namespace strings_Cut
def e (k : Nat) (a0 a1 : ByteArray) : Option (ByteArray × ByteArray × Bool) :=
 (Option.bind (stringslite_Cut.f k a0 a1) fun r1 =>
  (some (r1.1, r1.2.1, r1.2.2)))
def f (k : Nat) (a0 a1 : ByteArray) : Option (ByteArray × ByteArray × Bool) := e k a0 a1
end strings_Cut

namespace nat_Parse
abbrev Q0 : Type := Unit → Option (LX × Int)
abbrev Q1 : Type := ByteArray → Int → Option (LX × Int)
abbrev Q2 : Type := LX → ByteArray → Int → Int → Int → Option (LX × Int)
abbrev Q3 : Type := LX → ByteArray → Int → Int → Int → Int → Int → Int → Option (LX × Int)
def e5 (_k : Nat) (_q5 _q9 : Q0) (_q11 : Q1) (_q0 : Q2) (_q23 : Q0) (_q4 : Q3) (_q45 : Q2) (_ : Unit) : Option (LX × Int) :=
 (some (([] : List Int), (14 : Int)))
def e9 (_k : Nat) (_q5 _q9 : Q0) (_q11 : Q1) (_q0 : Q2) (_q23 : Q0) (_q4 : Q3) (_q45 : Q2) (_ : Unit) : Option (LX × Int) :=
 (some (([] : List Int), (15 : Int)))
def e11 (_k : Nat) (_q5 _q9 : Q0) (_q11 : Q1) (q0 : Q2) (_q23 : Q0) (_q4 : Q3) (_q45 : Q2) (b0 : ByteArray) (b1 : Int) : Option (LX × Int) :=
 q0 ([] : List Int) b0 b1 (b0.size : Int) (0 : Int)
def e0 (k : Nat) (_q5 _q9 : Q0) (_q11 : Q1) (_q0 : Q2) (q23 : Q0) (q4 : Q3) (_q45 : Q2) (b0 : LX) (b1 : ByteArray) (b2 b3 b4 : Int) : Option (LX × Int) :=
 (bif (decide (b4 < b3)) then
  (bif (decide (0 ≤ b4) && decide (b4 < (b1.size : Int))) then
   (bif (decide ((IntKind.i64.wrap ((IntKind.i64.wrap (btI b1 b4)) - (48 : Int))) < (0 : Int))) then
    q23 ()
   else
    (bif (decide ((IntKind.i64.wrap ((IntKind.i64.wrap (btI b1 b4)) - (48 : Int))) ≥ (55 : Int))) then
     q23 ()
    else
     (bif (decide (0 ≤ (IntKind.i64.wrap ((IntKind.i64.wrap (btI b1 b4)) - (48 : Int)))) && decide ((IntKind.i64.wrap ((IntKind.i64.wrap (btI b1 b4)) - (48 : Int))) < (tab_0.length : Int))) then
      (bif (decide ((nthD (0 : Int) tab_0 (Int.toNat (IntKind.i64.wrap ((IntKind.i64.wrap (btI b1 b4)) - (48 : Int))))) ≥ (IntKind.u32.wrap b2))) then
       q23 ()
      else
       (bif (decide (0 ≤ (IntKind.i64.wrap ((IntKind.i64.wrap (btI b1 b4)) - (48 : Int)))) && decide ((IntKind.i64.wrap ((IntKind.i64.wrap (btI b1 b4)) - (48 : Int))) < (tab_0.length : Int))) then
        q4 b0 b1 b2 (IntKind.u64.wrap (nthD (0 : Int) tab_0 (Int.toNat (IntKind.i64.wrap ((IntKind.i64.wrap (btI b1 b4)) - (48 : Int)))))) b3 b4 (b0.length : Int) (0 : Int)
       else
        none))
     else
      none)))
  else
   none)
 else
  (Option.bind (nat_own.f k b0) fun r1 =>
   (some (r1, (0 : Int)))))
def e23 (_k : Nat) (_q5 _q9 : Q0) (_q11 : Q1) (_q0 : Q2) (_q23 : Q0) (_q4 : Q3) (_q45 : Q2) (_ : Unit) : Option (LX × Int) :=
 (some (([] : List Int), (15 : Int)))
def e4 (_k : Nat) (_q5 _q9 : Q0) (_q11 : Q1) (_q0 : Q2) (_q23 : Q0) (q4 : Q3) (q45 : Q2) (b0 : LX) (b1 : ByteArray) (b2 b3 b4 b5 b6 b7 : Int) : Option (LX × Int) :=
 (bif (decide (b7 < b6)) then
  (bif (decide (0 ≤ b7) && decide (b7 < (b0.length : Int))) then
   (bif (decide (0 ≤ b7) && decide (b7 < (b0.length : Int))) then
    q4 (setN (IntKind.u32.wrap (IntKind.u64.wrap ((IntKind.u64.wrap ((IntKind.u64.wrap (nthD (0 : Int) b0 (Int.toNat b7))) * (IntKind.u64.wrap b2))) + b3))) b0 (Int.toNat b7)) b1 b2 (Int.fdiv (IntKind.u64.wrap ((IntKind.u64.wrap ((IntKind.u64.wrap (nthD (0 : Int) b0 (Int.toNat b7))) * (IntKind.u64.wrap b2))) + b3)) (2 ^ 32)) b4 b5 b6 (IntKind.i64.wrap (b7 + (1 : Int)))
   else
    none)
  else
   none)
 else
  (bif (decide (b3 > (0 : Int))) then
   (bif (Nat.ble ((b0.length + [(IntKind.u32.wrap b3)].length) * 4) 140737488355328 && Nat.ble (b0.length + [(IntKind.u32.wrap b3)].length) 9223372036854775807) then
    q45 (b0 ++ [(IntKind.u32.wrap b3)]) b1 b2 b4 b5
   else
    none)
  else
   q45 b0 b1 b2 b4 b5))
def e45 (_k : Nat) (_q5 _q9 : Q0) (_q11 : Q1) (q0 : Q2) (_q23 : Q0) (_q4 : Q3) (_q45 : Q2) (b0 : LX) (b1 : ByteArray) (b2 b3 b4 : Int) : Option (LX × Int) :=
 q0 b0 b1 b2 b3 (IntKind.i64.wrap (b4 + (1 : Int)))
def e (_k : Nat) (q5 q9 : Q0) (q11 : Q1) (_q0 : Q2) (_q23 : Q0) (_q4 : Q3) (_q45 : Q2) (a0 : ByteArray) (a1 : Int) : Option (LX × Int) :=
 (bif (decide (a1 < (2 : Int))) then
  q5 ()
 else
  (bif (decide (a1 > (16 : Int))) then
   q5 ()
  else
   (bif (a0.toList == (ByteArray.mk #[]).toList) then
    q9 ()
   else
    (bif (decide ((a0.size : Int) > (1 : Int))) then
     (bif (decide ((0 : Int) < (a0.size : Int))) then
      (bif (decide ((btI a0 (0 : Int)) = (48 : Int))) then
       q9 ()
      else
       q11 a0 a1)
     else
      none)
    else
     q11 a0 a1))))
def pts : Nat → (Q0) × (Q0) × (Q1) × (Q2) × (Q0) × (Q3) × (Q2)
 | 0 => (fun _ => none, fun _ => none, fun _ _ => none, fun _ _ _ _ _ => none, fun _ => none, fun _ _ _ _ _ _ _ _ => none, fun _ _ _ _ _ => none)
 | k + 1 => (e5 k (pts k).1 (pts k).2.1 (pts k).2.2.1 (pts k).2.2.2.1 (pts k).2.2.2.2.1 (pts k).2.2.2.2.2.1 (pts k).2.2.2.2.2.2, e9 k (pts k).1 (pts k).2.1 (pts k).2.2.1 (pts k).2.2.2.1 (pts k).2.2.2.2.1 (pts k).2.2.2.2.2.1 (pts k).2.2.2.2.2.2, e11 k (pts k).1 (pts k).2.1 (pts k).2.2.1 (pts k).2.2.2.1 (pts k).2.2.2.2.1 (pts k).2.2.2.2.2.1 (pts k).2.2.2.2.2.2, e0 k (pts k).1 (pts k).2.1 (pts k).2.2.1 (pts k).2.2.2.1 (pts k).2.2.2.2.1 (pts k).2.2.2.2.2.1 (pts k).2.2.2.2.2.2, e23 k (pts k).1 (pts k).2.1 (pts k).2.2.1 (pts k).2.2.2.1 (pts k).2.2.2.2.1 (pts k).2.2.2.2.2.1 (pts k).2.2.2.2.2.2, e4 k (pts k).1 (pts k).2.1 (pts k).2.2.1 (pts k).2.2.2.1 (pts k).2.2.2.2.1 (pts k).2.2.2.2.2.1 (pts k).2.2.2.2.2.2, e45 k (pts k).1 (pts k).2.1 (pts k).2.2.1 (pts k).2.2.2.1 (pts k).2.2.2.2.1 (pts k).2.2.2.2.2.1 (pts k).2.2.2.2.2.2)
def p5 (k : Nat) : Q0 := (pts k).1
def p9 (k : Nat) : Q0 := (pts k).2.1
def p11 (k : Nat) : Q1 := (pts k).2.2.1
def p0 (k : Nat) : Q2 := (pts k).2.2.2.1
def p23 (k : Nat) : Q0 := (pts k).2.2.2.2.1
def p4 (k : Nat) : Q3 := (pts k).2.2.2.2.2.1
def p45 (k : Nat) : Q2 := (pts k).2.2.2.2.2.2
def f (k : Nat) (a0 : ByteArray) (a1 : Int) : Option (LX × Int) := e k (p5 k) (p9 k) (p11 k) (p0 k) (p23 k) (p4 k) (p45 k) a0 a1
end nat_Parse

namespace strings_trimLeftByte
abbrev Q0 : Type := ByteArray → Int → Option ByteArray
abbrev Q1 : Type := ByteArray → Option ByteArray
def e0 (_k : Nat) (q0 : Q0) (q7 : Q1) (b0 : ByteArray) (b1 : Int) : Option ByteArray :=
 (bif (decide ((b0.size : Int) > (0 : Int))) then
  (bif (decide ((0 : Int) < (b0.size : Int))) then
   (bif (decide ((btI b0 (0 : Int)) = b1)) then
    (bif (decide (0 ≤ (1 : Int)) && decide ((1 : Int) ≤ (b0.size : Int)) && decide ((b0.size : Int) ≤ (b0.size : Int))) then
     q0 (b0.extract (Int.toNat (1 : Int)) (Int.toNat (b0.size : Int))) b1
    else
     none)
   else
    q7 b0)
  else
   none)
 else
  q7 b0)
def e7 (_k : Nat) (_q0 : Q0) (_q7 : Q1) (b0 : ByteArray) : Option ByteArray :=
 (some b0)
def e (_k : Nat) (q0 : Q0) (_q7 : Q1) (a0 : ByteArray) (a1 : Int) : Option ByteArray :=
 q0 a0 a1
def pts : Nat → (Q0) × (Q1)
 | 0 => (fun _ _ => none, fun _ => none)
 | k + 1 => (e0 k (pts k).1 (pts k).2, e7 k (pts k).1 (pts k).2)
def p0 (k : Nat) : Q0 := (pts k).1
def p7 (k : Nat) : Q1 := (pts k).2
def f (k : Nat) (a0 : ByteArray) (a1 : Int) : Option ByteArray := e k (p0 k) (p7 k) a0 a1
end strings_trimLeftByte

namespace utf8_decodeRuneInStringSlow
def e (_k : Nat) (a0 : ByteArray) : Option (Int × Int) :=
 (bif (decide ((a0.size : Int) < (1 : Int))) then
  (some ((65533 : Int), (0 : Int)))
 else
  (bif (decide ((0 : Int) < (a0.size : Int))) then
   none
  else
   none))
def f (k : Nat) (a0 : ByteArray) : Option (Int × Int) := e k a0
end utf8_decodeRuneInStringSlow

namespace utf8_DecodeRuneInString
def e7 (k : Nat) (_q7 : ByteArray → Option (Int × Int)) (b0 : ByteArray) : Option (Int × Int) :=
 (Option.bind (utf8_decodeRuneInStringSlow.f k b0) fun r1 =>
  (some (r1.1, r1.2)))
def e (_k : Nat) (q7 : ByteArray → Option (Int × Int)) (a0 : ByteArray) : Option (Int × Int) :=
 (bif (!(a0.toList == (ByteArray.mk #[]).toList)) then
  (bif (decide ((0 : Int) < (a0.size : Int))) then
   (bif (decide ((btI a0 (0 : Int)) < (128 : Int))) then
    (bif (decide ((0 : Int) < (a0.size : Int))) then
     (some ((IntKind.i32.wrap (btI a0 (0 : Int))), (1 : Int)))
    else
     none)
   else
    q7 a0)
  else
   none)
 else
  q7 a0)
def pts : Nat → (ByteArray → Option (Int × Int))
 | 0 => fun _ => none
 | k + 1 => e7 k (pts k)
def p7 (k : Nat) : ByteArray → Option (Int × Int) := (pts k)
def f (k : Nat) (a0 : ByteArray) : Option (Int × Int) := e k (p7 k) a0
end utf8_DecodeRuneInString

namespace strings_IndexByte
def e (k : Nat) (a0 : ByteArray) (a1 : Int) : Option Int :=
 (Option.bind (stringslite_IndexByte.f k a0 a1) fun r1 =>
  (some r1))
def f (k : Nat) (a0 : ByteArray) (a1 : Int) : Option Int := e k a0 a1
end strings_IndexByte

namespace utf8_ValidRune
abbrev Q0 : Type := Int → Option Bool
abbrev Q1 : Type := Unit → Option Bool
def e7 (_k : Nat) (_q7 : Q0) (q11 : Q1) (b0 : Int) : Option Bool :=
 (bif (decide ((57343 : Int) < b0)) then
  (bif (decide (b0 ≤ (1114111 : Int))) then
   (some true)
  else
   q11 ())
 else
  q11 ())
def e11 (_k : Nat) (_q7 : Q0) (_q11 : Q1) (_ : Unit) : Option Bool :=
 (some false)
def e (_k : Nat) (q7 : Q0) (_q11 : Q1) (a0 : Int) : Option Bool :=
 (bif (decide ((0 : Int) ≤ a0)) then
  (bif (decide (a0 < (55296 : Int))) then
   (some true)
  else
   q7 a0)
 else
  q7 a0)
def pts : Nat → (Q0) × (Q1)
 | 0 => (fun _ => none, fun _ => none)
 | k + 1 => (e7 k (pts k).1 (pts k).2, e11 k (pts k).1 (pts k).2)
def p7 (k : Nat) : Q0 := (pts k).1
def p11 (k : Nat) : Q1 := (pts k).2
def f (k : Nat) (a0 : Int) : Option Bool := e k (p7 k) (p11 k) a0
end utf8_ValidRune

namespace strings_IndexRune
abbrev Q0 : Type := ByteArray → Int → Option Int
abbrev Q1 : Type := (ByteArray × Nat) → Option Int
abbrev Q2 : Type := ByteArray → ByteArray → Int → Int → Option Int
abbrev Q3 : Type := ByteArray → ByteArray → Int → Int → Int → Option Int
def e73 (k : Nat) (_q73 : Q0) (q18 : Q1) (q2 _q23 : Q2) (_q6 : Q3) (b0 : ByteArray) (b1 : Int) : Option Int :=
 (bif (decide (b1 = (65533 : Int))) then
  q18 (b0, (0 : Nat))
 else
  (Option.bind (utf8_ValidRune.f k b1) fun r2 =>
   (bif (!r2) then
    (some (-1 : Int))
   else
    q2 b0 (Utf8.encode b1) (IntKind.i64.wrap (((Utf8.encode b1).size : Int) - (1 : Int))) (IntKind.i64.wrap (((Utf8.encode b1).size : Int) - (1 : Int))))))
def e18 (_k : Nat) (_q73 : Q0) (q18 : Q1) (_q2 _q23 : Q2) (_q6 : Q3) (b0 : (ByteArray × Nat)) : Option Int :=
 (bif (Nat.blt b0.2 b0.1.size) then
  (bif (decide (((Utf8.decode b0.1 b0.2).1 : Int) = (65533 : Int))) then
   (some ((b0.2 : Nat) : Int))
  else
   q18 (b0.1, (b0.2 + (Utf8.decode b0.1 b0.2).2)))
 else
  (some (-1 : Int)))
def e2 (k : Nat) (_q73 : Q0) (_q18 : Q1) (_q2 q23 : Q2) (_q6 : Q3) (b0 b1 : ByteArray) (b2 b3 : Int) : Option Int :=
 (bif (decide (b3 < (b0.size : Int))) then
  (bif (decide (0 ≤ b3) && decide (b3 < (b0.size : Int))) then
   (bif (decide (0 ≤ b2) && decide (b2 < (b1.size : Int))) then
    (bif (!decide ((btI b0 b3) = (btI b1 b2))) then
     (bif (decide (0 ≤ (IntKind.i64.wrap (b3 + (1 : Int)))) && decide ((IntKind.i64.wrap (b3 + (1 : Int))) ≤ (b0.size : Int)) && decide ((b0.size : Int) ≤ (b0.size : Int))) then
      (bif (decide (0 ≤ b2) && decide (b2 < (b1.size : Int))) then
       (Option.bind (strings_IndexByte.f k (b0.extract (Int.toNat (IntKind.i64.wrap (b3 + (1 : Int)))) (Int.toNat (b0.size : Int))) (btI b1 b2)) fun r3 =>
        (bif (decide (r3 < (0 : Int))) then
         (some (-1 : Int))
        else
         q23 b0 b1 b2 (IntKind.i64.wrap (b3 + (IntKind.i64.wrap (r3 + (1 : Int)))))))
      else
       none)
     else
      none)
    else
     q23 b0 b1 b2 b3)
   else
    none)
  else
   none)
 else
  (some (-1 : Int)))
def e23 (_k : Nat) (_q73 : Q0) (_q18 : Q1) (_q2 _q23 : Q2) (q6 : Q3) (b0 b1 : ByteArray) (b2 b3 : Int) : Option Int :=
 q6 b0 b1 b2 b3 (1 : Int)
def e6 (_k : Nat) (_q73 : Q0) (_q18 : Q1) (_q2 _q23 : Q2) (q6 : Q3) (b0 b1 : ByteArray) (b2 b3 b4 : Int) : Option Int :=
 (bif (decide (b4 < (b1.size : Int))) then
  (bif (decide (0 ≤ (IntKind.i64.wrap (b3 - b4))) && decide ((IntKind.i64.wrap (b3 - b4)) < (b0.size : Int))) then
   (bif (decide (0 ≤ (IntKind.i64.wrap (b2 - b4))) && decide ((IntKind.i64.wrap (b2 - b4)) < (b1.size : Int))) then
    (bif (!decide ((btI b0 (IntKind.i64.wrap (b3 - b4))) = (btI b1 (IntKind.i64.wrap (b2 - b4))))) then
     none
    else
     q6 b0 b1 b2 b3 (IntKind.i64.wrap (b4 + (1 : Int))))
   else
    none)
  else
   none)
 else
  (some (IntKind.i64.wrap (b3 - b2))))
def e (k : Nat) (q73 : Q0) (_q18 : Q1) (_q2 _q23 : Q2) (_q6 : Q3) (a0 : ByteArray) (a1 : Int) : Option Int :=
 (bif (decide ((0 : Int) ≤ a1)) then
  (bif (decide (a1 < (128 : Int))) then
   (Option.bind (strings_IndexByte.f k a0 (IntKind.u8.wrap a1)) fun r1 =>
    (some r1))
  else
   q73 a0 a1)
 else
  q73 a0 a1)
def pts : Nat → (Q0) × (Q1) × (Q2) × (Q2) × (Q3)
 | 0 => (fun _ _ => none, fun _ => none, fun _ _ _ _ => none, fun _ _ _ _ => none, fun _ _ _ _ _ => none)
 | k + 1 => (e73 k (pts k).1 (pts k).2.1 (pts k).2.2.1 (pts k).2.2.2.1 (pts k).2.2.2.2, e18 k (pts k).1 (pts k).2.1 (pts k).2.2.1 (pts k).2.2.2.1 (pts k).2.2.2.2, e2 k (pts k).1 (pts k).2.1 (pts k).2.2.1 (pts k).2.2.2.1 (pts k).2.2.2.2, e23 k (pts k).1 (pts k).2.1 (pts k).2.2.1 (pts k).2.2.2.1 (pts k).2.2.2.2, e6 k (pts k).1 (pts k).2.1 (pts k).2.2.1 (pts k).2.2.2.1 (pts k).2.2.2.2)
def p73 (k : Nat) : Q0 := (pts k).1
def p18 (k : Nat) : Q1 := (pts k).2.1
def p2 (k : Nat) : Q2 := (pts k).2.2.1
def p23 (k : Nat) : Q2 := (pts k).2.2.2.1
def p6 (k : Nat) : Q3 := (pts k).2.2.2.2
def f (k : Nat) (a0 : ByteArray) (a1 : Int) : Option Int := e k (p73 k) (p18 k) (p2 k) (p23 k) (p6 k) a0 a1
end strings_IndexRune

namespace strings_ContainsRune
def e (k : Nat) (a0 : ByteArray) (a1 : Int) : Option Bool :=
 (Option.bind (strings_IndexRune.f k a0 a1) fun r1 =>
  (some (decide (r1 ≥ (0 : Int)))))
def f (k : Nat) (a0 : ByteArray) (a1 : Int) : Option Bool := e k a0 a1
end strings_ContainsRune

namespace strings_trimLeftUnicode
abbrev Q0 : Type := ByteArray → ByteArray → Option ByteArray
abbrev Q1 : Type := ByteArray → Option ByteArray
def e0 (k : Nat) (q0 : Q0) (q11 : Q1) (b0 b1 : ByteArray) : Option ByteArray :=
 (bif (decide ((b0.size : Int) > (0 : Int))) then
  (Option.bind (utf8_DecodeRuneInString.f k b0) fun r1 =>
   (Option.bind (strings_ContainsRune.f k b1 r1.1) fun r2 =>
    (bif (!r2) then
     q11 b0
    else
     (bif (decide (0 ≤ r1.2) && decide (r1.2 ≤ (b0.size : Int)) && decide ((b0.size : Int) ≤ (b0.size : Int))) then
      q0 (b0.extract (Int.toNat r1.2) (Int.toNat (b0.size : Int))) b1
     else
      none))))
 else
  q11 b0)
def e11 (_k : Nat) (_q0 : Q0) (_q11 : Q1) (b0 : ByteArray) : Option ByteArray :=
 (some b0)
def e (_k : Nat) (q0 : Q0) (_q11 : Q1) (a0 a1 : ByteArray) : Option ByteArray :=
 q0 a0 a1
def pts : Nat → (Q0) × (Q1)
 | 0 => (fun _ _ => none, fun _ => none)
 | k + 1 => (e0 k (pts k).1 (pts k).2, e11 k (pts k).1 (pts k).2)
def p0 (k : Nat) : Q0 := (pts k).1
def p11 (k : Nat) : Q1 := (pts k).2
def f (k : Nat) (a0 a1 : ByteArray) : Option ByteArray := e k (p0 k) (p11 k) a0 a1
end strings_trimLeftUnicode

namespace strings_TrimLeft
abbrev Q0 : Type := ByteArray → Option ByteArray
abbrev Q1 : Type := ByteArray → ByteArray → Option ByteArray
def e5 (_k : Nat) (_q5 : Q0) (_q11 : Q1) (b0 : ByteArray) : Option ByteArray :=
 (some b0)
def e11 (_k : Nat) (_q5 : Q0) (_q11 : Q1) (_b0 _b1 : ByteArray) : Option ByteArray :=
 none
def e (k : Nat) (q5 : Q0) (q11 : Q1) (a0 a1 : ByteArray) : Option ByteArray :=
 (bif (a0.toList == (ByteArray.mk #[]).toList) then
  q5 a0
 else
  (bif (a1.toList == (ByteArray.mk #[]).toList) then
   q5 a0
  else
   (bif (decide ((a1.size : Int) = (1 : Int))) then
    (bif (decide ((0 : Int) < (a1.size : Int))) then
     (bif (decide ((btI a1 (0 : Int)) < (128 : Int))) then
      (bif (decide ((0 : Int) < (a1.size : Int))) then
       (Option.bind (strings_trimLeftByte.f k a0 (btI a1 (0 : Int))) fun r1 =>
        (some r1))
      else
       none)
     else
      q11 a0 a1)
    else
     none)
   else
    q11 a0 a1)))
def pts : Nat → (Q0) × (Q1)
 | 0 => (fun _ => none, fun _ _ => none)
 | k + 1 => (e5 k (pts k).1 (pts k).2, e11 k (pts k).1 (pts k).2)
def p5 (k : Nat) : Q0 := (pts k).1
def p11 (k : Nat) : Q1 := (pts k).2
def f (k : Nat) (a0 a1 : ByteArray) : Option ByteArray := e k (p5 k) (p11 k) a0 a1
end strings_TrimLeft

namespace nat_Pow
abbrev Q0 : Type := Unit → Option (LX × Int)
abbrev Q1 : Type := Int → LX → LX → Option (LX × Int)
def e5 (_k : Nat) (_q5 : Q0) (_q0 _q19 _q13 : Q1) (_ : Unit) : Option (LX × Int) :=
 (some (([] : List Int), (13 : Int)))
def e0 (k : Nat) (_q5 : Q0) (_q0 q19 _q13 : Q1) (b0 : Int) (b1 b2 : LX) : Option (LX × Int) :=
 (bif (decide (b0 > (0 : Int))) then
  (bif (decide ((Int.tmod b0 (2 : Int)) = (1 : Int))) then
   (Option.bind (nat_Mul.f k b1 b2) fun r2 =>
    q19 b0 r2 b2)
  else
   q19 b0 b1 b2)
 else
  (some (b1, (0 : Int))))
def e19 (k : Nat) (_q5 : Q0) (_q0 _q19 q13 : Q1) (b0 : Int) (b1 b2 : LX) : Option (LX × Int) :=
 (bif (decide (b0 > (1 : Int))) then
  (Option.bind (nat_Mul.f k b2 b2) fun r3 =>
   q13 b0 b1 r3)
 else
  q13 b0 b1 b2)
def e13 (_k : Nat) (_q5 : Q0) (q0 _q19 _q13 : Q1) (b0 : Int) (b1 b2 : LX) : Option (LX × Int) :=
 q0 (IntKind.i64.wrap (Int.tdiv b0 (2 : Int))) b1 b2
def e (k : Nat) (q5 : Q0) (q0 _q19 _q13 : Q1) (a0 : LX) (a1 : Int) : Option (LX × Int) :=
 (bif (decide (a1 < (0 : Int))) then
  q5 ()
 else
  (bif (decide (a1 > (4096 : Int))) then
   q5 ()
  else
   (Option.bind (nat_own.f k a0) fun r1 =>
    q0 a1 [(1 : Int)] r1)))
def pts : Nat → (Q0) × (Q1) × (Q1) × (Q1)
 | 0 => (fun _ => none, fun _ _ _ => none, fun _ _ _ => none, fun _ _ _ => none)
 | k + 1 => (e5 k (pts k).1 (pts k).2.1 (pts k).2.2.1 (pts k).2.2.2, e0 k (pts k).1 (pts k).2.1 (pts k).2.2.1 (pts k).2.2.2, e19 k (pts k).1 (pts k).2.1 (pts k).2.2.1 (pts k).2.2.2, e13 k (pts k).1 (pts k).2.1 (pts k).2.2.1 (pts k).2.2.2)
def p5 (k : Nat) : Q0 := (pts k).1
def p0 (k : Nat) : Q1 := (pts k).2.1
def p19 (k : Nat) : Q1 := (pts k).2.2.1
def p13 (k : Nat) : Q1 := (pts k).2.2.2
def f (k : Nat) (a0 : LX) (a1 : Int) : Option (LX × Int) := e k (p5 k) (p0 k) (p19 k) (p13 k) a0 a1
end nat_Pow

namespace ratio_ten
def e0 (k : Nat) (q0 : Int → LX → Option LX) (b0 : Int) (b1 : LX) : Option LX :=
 (bif (decide (b0 > (0 : Int))) then
  (Option.bind (nat_Pow.f k [(10 : Int)] (bif decide ((4096 : Int) < b0) then (4096 : Int) else b0)) fun r1 =>
   (Option.bind (nat_Mul.f k b1 r1.1) fun r2 =>
    q0 (IntKind.i64.wrap (b0 - (bif decide ((4096 : Int) < b0) then (4096 : Int) else b0))) r2))
 else
  (some b1))
def e (_k : Nat) (q0 : Int → LX → Option LX) (a0 : Int) : Option LX :=
 q0 a0 [(1 : Int)]
def pts : Nat → (Int → LX → Option LX)
 | 0 => fun _ _ => none
 | k + 1 => e0 k (pts k)
def p0 (k : Nat) : Int → LX → Option LX := (pts k)
def f (k : Nat) (a0 : Int) : Option LX := e k (p0 k) a0
end ratio_ten

namespace ratio_Parse
abbrev Q0 : Type := RX → Option (RX × Int)
abbrev Q1 : Type := RX → Bool → ByteArray → LX → Option (RX × Int)
abbrev Q2 : Type := RX → Bool → ByteArray → LX → ByteArray → Option (RX × Int)
def e15 (_k : Nat) (_q15 _q25 : Q0) (_q27 : Q1) (_q33 : Q2) (_b0 : RX) : Option (RX × Int) :=
 (some (((false, ([] : List Int)), ([] : List Int)), (31 : Int)))
def e25 (_k : Nat) (_q15 _q25 : Q0) (_q27 : Q1) (_q33 : Q2) (_b0 : RX) : Option (RX × Int) :=
 (some (((false, ([] : List Int)), ([] : List Int)), (31 : Int)))
def e27 (k : Nat) (_q15 _q25 : Q0) (_q27 : Q1) (q33 : Q2) (b0 : RX) (b1 : Bool) (b2 : ByteArray) (b3 : LX) : Option (RX × Int) :=
 (Option.bind (strings_TrimLeft.f k b2 (ByteArray.mk #[48])) fun r8 =>
  (bif (r8.toList == (ByteArray.mk #[]).toList) then
   q33 b0 b1 b2 b3 (ByteArray.mk #[48])
  else
   q33 b0 b1 b2 b3 r8))
def e33 (k : Nat) (_q15 _q25 : Q0) (_q27 : Q1) (_q33 : Q2) (_b0 : RX) (b1 : Bool) (b2 : ByteArray) (b3 : LX) (b4 : ByteArray) : Option (RX × Int) :=
 (Option.bind (nat_Parse.f k b4 (10 : Int)) fun r9 =>
  (bif (!decide (r9.2 = (0 : Int))) then
   (some (((false, ([] : List Int)), ([] : List Int)), (31 : Int)))
  else
   (Option.bind (ratio_ten.f k (b2.size : Int)) fun r10 =>
    (Option.bind (nat_Mul.f k b3 r10) fun r11 =>
     (Option.bind (nat_Add.f k r11 r9.1) fun r12 =>
      (Option.bind (ratio_made.f k (b1, r12) r10) fun r13 =>
       (some (r13, (0 : Int)))))))))
def e (k : Nat) (q15 q25 : Q0) (q27 : Q1) (_q33 : Q2) (a0 : ByteArray) : Option (RX × Int) :=
 (Option.bind (strings_CutPrefix.f k a0 (ByteArray.mk #[45])) fun r1 =>
  (Option.bind (strings_Cut.f k r1.1 (ByteArray.mk #[47])) fun r2 =>
   (bif r2.2.2 then
    (Option.bind (nat_Parse.f k r2.1 (10 : Int)) fun r3 =>
     (Option.bind (nat_Parse.f k r2.2.1 (10 : Int)) fun r4 =>
      (bif (!decide (r3.2 = (0 : Int))) then
       q15 ((false, ([] : List Int)), ([] : List Int))
      else
       (bif (!decide (r4.2 = (0 : Int))) then
        q15 ((false, ([] : List Int)), ([] : List Int))
       else
        (bif (decide ((r4.1.length : Int) = (0 : Int))) then
         q15 ((false, ([] : List Int)), ([] : List Int))
        else
         (Option.bind (ratio_made.f k (r1.2, r3.1) r4.1) fun r5 =>
          (some (r5, (0 : Int)))))))))
   else
    (Option.bind (strings_Cut.f k r1.1 (ByteArray.mk #[46])) fun r6 =>
     (Option.bind (nat_Parse.f k r6.1 (10 : Int)) fun r7 =>
      (bif (!decide (r7.2 = (0 : Int))) then
       q25 ((false, ([] : List Int)), ([] : List Int))
      else
       (bif r6.2.2 then
        (bif (r6.2.1.toList == (ByteArray.mk #[]).toList) then
         q25 ((false, ([] : List Int)), ([] : List Int))
        else
         q27 ((false, ([] : List Int)), ([] : List Int)) r1.2 r6.2.1 r7.1)
       else
        q27 ((false, ([] : List Int)), ([] : List Int)) r1.2 r6.2.1 r7.1)))))))
def pts : Nat → (Q0) × (Q0) × (Q1) × (Q2)
 | 0 => (fun _ => none, fun _ => none, fun _ _ _ _ => none, fun _ _ _ _ _ => none)
 | k + 1 => (e15 k (pts k).1 (pts k).2.1 (pts k).2.2.1 (pts k).2.2.2, e25 k (pts k).1 (pts k).2.1 (pts k).2.2.1 (pts k).2.2.2, e27 k (pts k).1 (pts k).2.1 (pts k).2.2.1 (pts k).2.2.2, e33 k (pts k).1 (pts k).2.1 (pts k).2.2.1 (pts k).2.2.2)
def p15 (k : Nat) : Q0 := (pts k).1
def p25 (k : Nat) : Q0 := (pts k).2.1
def p27 (k : Nat) : Q1 := (pts k).2.2.1
def p33 (k : Nat) : Q2 := (pts k).2.2.2
def f (k : Nat) (a0 : ByteArray) : Option (RX × Int) := e k (p15 k) (p25 k) (p27 k) (p33 k) a0
end ratio_Parse

namespace law03_half
def e (k : Nat) (_ : Unit) : Option Bool :=
 (Option.bind (ratio_Parse.f k (ByteArray.mk #[50, 47, 52])) fun r1 =>
  (bif (decide (r1.2 = (0 : Int))) then
   (Option.bind (law03_same.f k r1.1 ((false, [(1 : Int)]), [(2 : Int)])) fun r2 =>
    (some r2))
  else
   (some false)))
def f (k : Nat) (a0 : Unit) : Option Bool := e k a0
end law03_half

namespace law03_RatioNearest
abbrev Q0 : Type := Unit → Option Bool
def e9 (_k : Nat) (_q9 _q11 : Q0) (_ : Unit) : Option Bool :=
 (some false)
def e11 (k : Nat) (_q9 _q11 : Q0) (_ : Unit) : Option Bool :=
 (Option.bind (law03_half.f k ()) fun r8 =>
  (some r8))
def e (k : Nat) (q9 q11 : Q0) (a0 : RX) (a1 : LX) : Option Bool :=
 (Option.bind (law03_twin.f k a0) fun r1 =>
  (Option.bind (law03_nat.f k a1) fun r2 =>
   (Option.bind (ratio_Best.f k r1 r2) fun r3 =>
    (Option.bind (ref03_Best.f k a0 a1) fun r4 =>
     (bif (!decide (r3.2 = r4.2)) then
      q9 ()
     else
      (bif (decide (r3.2 = (0 : Int))) then
       (Option.bind (law03_same.f k r3.1 r4.1) fun r5 =>
        (bif (!r5) then
         q9 ()
        else
         (bif (!decide (r3.2 = (0 : Int))) then
          (Option.bind (law03_none.f k r3.1) fun r6 =>
           (bif (!r6) then
            q9 ()
           else
            q11 ()))
         else
          q11 ())))
      else
       (bif (!decide (r3.2 = (0 : Int))) then
        (Option.bind (law03_none.f k r3.1) fun r7 =>
         (bif (!r7) then
          q9 ()
         else
          q11 ()))
       else
        q11 ())))))))
def pts : Nat → (Q0) × (Q0)
 | 0 => (fun _ => none, fun _ => none)
 | k + 1 => (e9 k (pts k).1 (pts k).2, e11 k (pts k).1 (pts k).2)
def p9 (k : Nat) : Q0 := (pts k).1
def p11 (k : Nat) : Q0 := (pts k).2
def f (k : Nat) (a0 : RX) (a1 : LX) : Option Bool := e k (p9 k) (p11 k) a0 a1
end law03_RatioNearest

namespace law03_RatioCloser
def e7 (_k : Nat) (_q7 : Unit → Option Bool) (_ : Unit) : Option Bool :=
 (some false)
def e (k : Nat) (q7 : Unit → Option Bool) (a0 a1 : RX) (a2 : LX) : Option Bool :=
 (Option.bind (law03_twin.f k a0) fun r1 =>
  (Option.bind (law03_nat.f k a2) fun r2 =>
   (Option.bind (ratio_Best.f k r1 r2) fun r3 =>
    (Option.bind (ref01_Norm.f k a2) fun r4 =>
     (bif (!((decide (r3.2 = (0 : Int))) == (decide ((r4.length : Int) > (0 : Int))))) then
      q7 ()
     else
      (Option.bind (law03_half.f k ()) fun r5 =>
       (bif (!r5) then
        q7 ()
       else
        (bif (!decide (r3.2 = (0 : Int))) then
         (some true)
        else
         (Option.bind (ref03_Norm.f k a1) fun r6 =>
          (Option.bind (ref01_Cmp.f k r3.1.2 a2) fun r7 =>
           (bif (decide (r7 > (0 : Int))) then
            (some false)
           else
            (Option.bind (ref01_Cmp.f k r6.2 a2) fun r8 =>
             (bif (decide (r8 > (0 : Int))) then
              (some true)
             else
              (Option.bind (ref03_Nearer.f k a0 r6 r3.1) fun r9 =>
               (some (!r9))))))))))))))))
def pts : Nat → (Unit → Option Bool)
 | 0 => fun _ => none
 | k + 1 => e7 k (pts k)
def p7 (k : Nat) : Unit → Option Bool := (pts k)
def f (k : Nat) (a0 a1 : RX) (a2 : LX) : Option Bool := e k (p7 k) a0 a1 a2
end law03_RatioCloser
end Go.FK
