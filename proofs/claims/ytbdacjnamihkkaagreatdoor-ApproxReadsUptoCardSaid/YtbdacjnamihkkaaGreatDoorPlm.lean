/- Plain functions, printed by fgen.py: what the loaded functions come to. -/
import Derived.Test.YtbdacjnamihkkaaGreatDoorF2
namespace Go.FK
def tab_1 : List Int := [0, 1, 2, 3, 4, 5, 6, 7, 8, 9, 99, 99, 99, 99, 99, 99, 99, 99, 99, 99, 99, 99, 99, 99, 99, 99, 99, 99, 99, 99, 99, 99, 99, 99, 99, 99, 99, 99, 99, 99, 99, 99, 99, 99, 99, 99, 99, 99, 99, 10, 11, 12, 13, 14, 15]
/-- 0123456789abcdefghijklmnopqrstuvwxyz -/
def str_74e7e5bb9d : ByteArray := (ByteArray.mk #[48, 49, 50, 51, 52, 53, 54, 55, 56, 57, 97, 98, 99, 100, 101, 102, 103, 104, 105, 106, 107, 108, 109, 110, 111, 112, 113, 114, 115, 116, 117, 118, 119, 120, 121, 122])
/-- 000102030405060708091011121314151617181920212223242526272829 -/
def str_bedfbc17df : ByteArray := (ByteArray.mk #[48, 48, 48, 49, 48, 50, 48, 51, 48, 52, 48, 53, 48, 54, 48, 55, 48, 56, 48, 57, 49, 48, 49, 49, 49, 50, 49, 51, 49, 52, 49, 53, 49, 54, 49, 55, 49, 56, 49, 57, 50, 48, 50, 49, 50, 50, 50, 51, 50, 52, 50, 53, 50, 54, 50, 55, 50, 56, 50, 57, 51, 48, 51, 49, 51, 50, 51, 51, 51, 52, 51, 53, 51, 54, 51, 55, 51, 56, 51, 57, 52, 48, 52, 49, 52, 50, 52, 51, 52, 52, 52, 53, 52, 54, 52, 55, 52, 56, 52, 57, 53, 48, 53, 49, 53, 50, 53, 51, 53, 52, 53, 53, 53, 54, 53, 55, 53, 56, 53, 57, 54, 48, 54, 49, 54, 50, 54, 51, 54, 52, 54, 53, 54, 54, 54, 55, 54, 56, 54, 57, 55, 48, 55, 49, 55, 50, 55, 51, 55, 52, 55, 53, 55, 54, 55, 55, 55, 56, 55, 57, 56, 48, 56, 49, 56, 50, 56, 51, 56, 52, 56, 53, 56, 54, 56, 55, 56, 56, 56, 57, 57, 48, 57, 49, 57, 50, 57, 51, 57, 52, 57, 53, 57, 54, 57, 55, 57, 56, 57, 57])
/-- ???????????????????????????????????????????????????????????? -/
def str_14a5d850c2 : ByteArray := (ByteArray.mk #[0, 1, 2, 2, 3, 3, 3, 3, 4, 4, 4, 4, 4, 4, 4, 4, 5, 5, 5, 5, 5, 5, 5, 5, 5, 5, 5, 5, 5, 5, 5, 5, 6, 6, 6, 6, 6, 6, 6, 6, 6, 6, 6, 6, 6, 6, 6, 6, 6, 6, 6, 6, 6, 6, 6, 6, 6, 6, 6, 6, 6, 6, 6, 6, 7, 7, 7, 7, 7, 7, 7, 7, 7, 7, 7, 7, 7, 7, 7, 7, 7, 7, 7, 7, 7, 7, 7, 7, 7, 7, 7, 7, 7, 7, 7, 7, 7, 7, 7, 7, 7, 7, 7, 7, 7, 7, 7, 7, 7, 7, 7, 7, 7, 7, 7, 7, 7, 7, 7, 7, 7, 7, 7, 7, 7, 7, 7, 7, 8, 8, 8, 8, 8, 8, 8, 8, 8, 8, 8, 8, 8, 8, 8, 8, 8, 8, 8, 8, 8, 8, 8, 8, 8, 8, 8, 8, 8, 8, 8, 8, 8, 8, 8, 8, 8, 8, 8, 8, 8, 8, 8, 8, 8, 8, 8, 8, 8, 8, 8, 8, 8, 8, 8, 8, 8, 8, 8, 8, 8, 8, 8, 8, 8, 8, 8, 8, 8, 8, 8, 8, 8, 8, 8, 8, 8, 8, 8, 8, 8, 8, 8, 8, 8, 8, 8, 8, 8, 8, 8, 8, 8, 8, 8, 8, 8, 8, 8, 8, 8, 8, 8, 8, 8, 8, 8, 8, 8, 8, 8, 8, 8, 8, 8, 8, 8, 8, 8, 8, 8, 8, 8, 8, 8, 8, 8, 8])
/-- invalid base  -/
def str_6737e6a749 : ByteArray := (ByteArray.mk #[105, 110, 118, 97, 108, 105, 100, 32, 98, 97, 115, 101, 32])
/-- invalid bit size  -/
def str_ea75b49c62 : ByteArray := (ByteArray.mk #[105, 110, 118, 97, 108, 105, 100, 32, 98, 105, 116, 32, 115, 105, 122, 101, 32])
/-- 0123456789abcdef -/
def str_9f9f5111f7 : ByteArray := (ByteArray.mk #[48, 49, 50, 51, 52, 53, 54, 55, 56, 57, 97, 98, 99, 100, 101, 102])
namespace stringslite_HasPrefix
def e (_k : Nat) (a0 : ByteArray) (a1 : ByteArray) : Option Bool :=
  (bif (decide ((a0.size : Int) ≥ (a1.size : Int))) then
    (bif (decide (0 ≤ (0 : Int)) && decide ((0 : Int) ≤ (a1.size : Int)) && decide ((a1.size : Int) ≤ (a0.size : Int))) then
      (some ((a0.extract (Int.toNat (0 : Int)) (Int.toNat (a1.size : Int))).toList == a1.toList))
    else
      none)
  else
    (some false))
def f (k : Nat) (a0 : ByteArray) (a1 : ByteArray) : Option Bool := e k a0 a1
end stringslite_HasPrefix

namespace stringslite_CutPrefix
def e (k : Nat) (a0 : ByteArray) (a1 : ByteArray) : Option (ByteArray × Bool) :=
  (Option.bind (stringslite_HasPrefix.f k a0 a1) fun r1 =>
    (bif (!r1) then
      (some (a0, false))
    else
      (bif (decide (0 ≤ (a1.size : Int)) && decide ((a1.size : Int) ≤ (a0.size : Int)) && decide ((a0.size : Int) ≤ (a0.size : Int))) then
        (some ((a0.extract (Int.toNat (a1.size : Int)) (Int.toNat (a0.size : Int))), true))
      else
        none)))
def f (k : Nat) (a0 : ByteArray) (a1 : ByteArray) : Option (ByteArray × Bool) := e k a0 a1
end stringslite_CutPrefix

namespace strings_CutPrefix
def e (k : Nat) (a0 : ByteArray) (a1 : ByteArray) : Option (ByteArray × Bool) :=
  (Option.bind (stringslite_CutPrefix.f k a0 a1) fun r1 =>
    (some (r1.1, r1.2)))
def f (k : Nat) (a0 : ByteArray) (a1 : ByteArray) : Option (ByteArray × Bool) := e k a0 a1
end strings_CutPrefix

namespace approx_digits
def e0 (_k : Nat) (q0 : ByteArray → Int → Option (ByteArray × ByteArray)) (q9 : ByteArray → Int → Option (ByteArray × ByteArray)) (b0 : ByteArray) (b1 : Int) : Option (ByteArray × ByteArray) :=
  (bif (decide (b1 < (b0.size : Int))) then
    (bif (decide (0 ≤ b1) && decide (b1 < (b0.size : Int))) then
      (bif (decide ((btI b0 b1) ≥ (48 : Int))) then
        (bif (decide (0 ≤ b1) && decide (b1 < (b0.size : Int))) then
          (bif (decide ((btI b0 b1) ≤ (57 : Int))) then
            q0 b0 (IntKind.i64.wrap (b1 + (1 : Int)))
          else
            q9 b0 b1)
        else
          none)
      else
        q9 b0 b1)
    else
      none)
  else
    q9 b0 b1)
def e9 (_k : Nat) (_q0 : ByteArray → Int → Option (ByteArray × ByteArray)) (_q9 : ByteArray → Int → Option (ByteArray × ByteArray)) (b0 : ByteArray) (b1 : Int) : Option (ByteArray × ByteArray) :=
  (bif (decide (0 ≤ (0 : Int)) && decide ((0 : Int) ≤ b1) && decide (b1 ≤ (b0.size : Int))) then
    (bif (decide (0 ≤ b1) && decide (b1 ≤ (b0.size : Int)) && decide ((b0.size : Int) ≤ (b0.size : Int))) then
      (some ((b0.extract (Int.toNat (0 : Int)) (Int.toNat b1)), (b0.extract (Int.toNat b1) (Int.toNat (b0.size : Int)))))
    else
      none)
  else
    none)
def e (_k : Nat) (q0 : ByteArray → Int → Option (ByteArray × ByteArray)) (_q9 : ByteArray → Int → Option (ByteArray × ByteArray)) (a0 : ByteArray) : Option (ByteArray × ByteArray) :=
  q0 a0 (0 : Int)
def pts : Nat → (ByteArray → Int → Option (ByteArray × ByteArray)) × (ByteArray → Int → Option (ByteArray × ByteArray))
  | 0 => (fun _ _ => none, fun _ _ => none)
  | k + 1 => (e0 k (pts k).1 (pts k).2, e9 k (pts k).1 (pts k).2)
def p0 (k : Nat) : ByteArray → Int → Option (ByteArray × ByteArray) := (pts k).1
def p9 (k : Nat) : ByteArray → Int → Option (ByteArray × ByteArray) := (pts k).2
theorem p0_succ (k : Nat) (x0 : ByteArray) (x1 : Int) : p0 (k + 1) x0 x1 = e0 k (p0 k) (p9 k) x0 x1 := rfl
theorem p9_succ (k : Nat) (x0 : ByteArray) (x1 : Int) : p9 (k + 1) x0 x1 = e9 k (p0 k) (p9 k) x0 x1 := rfl
def f (k : Nat) (a0 : ByteArray) : Option (ByteArray × ByteArray) := e k (p0 k) (p9 k) a0
end approx_digits

namespace strings_HasPrefix
def e (k : Nat) (a0 : ByteArray) (a1 : ByteArray) : Option Bool :=
  (Option.bind (stringslite_HasPrefix.f k a0 a1) fun r1 =>
    (some r1))
def f (k : Nat) (a0 : ByteArray) (a1 : ByteArray) : Option Bool := e k a0 a1
end strings_HasPrefix

namespace strings_trimLeftByte
def e0 (_k : Nat) (q0 : ByteArray → Int → Option ByteArray) (q7 : ByteArray → Option ByteArray) (b0 : ByteArray) (b1 : Int) : Option ByteArray :=
  (bif (decide ((b0.size : Int) > (0 : Int))) then
    (bif (decide ((0 : Int) < (b0.size : Int))) then
      (bif (decide ((btI b0 (0 : Int)) = b1)) then
        (bif (decide (0 ≤ (1 : Int)) && decide ((1 : Int) ≤ (b0.size : Int)) && decide ((b0.size : Int) ≤ (b0.size : Int))) then
          q0 (b0.extract (Int.toNat (1 : Int)) (Int.toNat (b0.size : Int))) b1
        else
          none)
      else
        q7 b0)
    else
      none)
  else
    q7 b0)
def e7 (_k : Nat) (_q0 : ByteArray → Int → Option ByteArray) (_q7 : ByteArray → Option ByteArray) (b0 : ByteArray) : Option ByteArray :=
  (some b0)
def e (_k : Nat) (q0 : ByteArray → Int → Option ByteArray) (_q7 : ByteArray → Option ByteArray) (a0 : ByteArray) (a1 : Int) : Option ByteArray :=
  q0 a0 a1
def pts : Nat → (ByteArray → Int → Option ByteArray) × (ByteArray → Option ByteArray)
  | 0 => (fun _ _ => none, fun _ => none)
  | k + 1 => (e0 k (pts k).1 (pts k).2, e7 k (pts k).1 (pts k).2)
def p0 (k : Nat) : ByteArray → Int → Option ByteArray := (pts k).1
def p7 (k : Nat) : ByteArray → Option ByteArray := (pts k).2
theorem p0_succ (k : Nat) (x0 : ByteArray) (x1 : Int) : p0 (k + 1) x0 x1 = e0 k (p0 k) (p7 k) x0 x1 := rfl
theorem p7_succ (k : Nat) (x0 : ByteArray) : p7 (k + 1) x0 = e7 k (p0 k) (p7 k) x0 := rfl
def f (k : Nat) (a0 : ByteArray) (a1 : Int) : Option ByteArray := e k (p0 k) (p7 k) a0 a1
end strings_trimLeftByte

namespace utf8_decodeRuneInStringSlow
def e (_k : Nat) (a0 : ByteArray) : Option (Int × Int) :=
  (bif (decide ((a0.size : Int) < (1 : Int))) then
    (some ((65533 : Int), (0 : Int)))
  else
    (bif (decide ((0 : Int) < (a0.size : Int))) then
      none
    else
      none))
def f (k : Nat) (a0 : ByteArray) : Option (Int × Int) := e k a0
end utf8_decodeRuneInStringSlow

namespace utf8_DecodeRuneInString
def e7 (k : Nat) (_q7 : ByteArray → Option (Int × Int)) (b0 : ByteArray) : Option (Int × Int) :=
  (Option.bind (utf8_decodeRuneInStringSlow.f k b0) fun r1 =>
    (some (r1.1, r1.2)))
def e (_k : Nat) (q7 : ByteArray → Option (Int × Int)) (a0 : ByteArray) : Option (Int × Int) :=
  (bif (!(a0.toList == (ByteArray.mk #[]).toList)) then
    (bif (decide ((0 : Int) < (a0.size : Int))) then
      (bif (decide ((btI a0 (0 : Int)) < (128 : Int))) then
        (bif (decide ((0 : Int) < (a0.size : Int))) then
          (some ((IntKind.i32.wrap (btI a0 (0 : Int))), (1 : Int)))
        else
          none)
      else
        q7 a0)
    else
      none)
  else
    q7 a0)
def pts : Nat → (ByteArray → Option (Int × Int))
  | 0 => fun _ => none
  | k + 1 => e7 k (pts k)
def p7 (k : Nat) : ByteArray → Option (Int × Int) := (pts k)
theorem p7_succ (k : Nat) (x0 : ByteArray) : p7 (k + 1) x0 = e7 k (p7 k) x0 := rfl
def f (k : Nat) (a0 : ByteArray) : Option (Int × Int) := e k (p7 k) a0
end utf8_DecodeRuneInString

namespace bytealg_IndexByteString
def f (_k : Nat) (a0 : ByteArray) (a1 : Int) : Option Int := some (Go.Lib.indexByte a0.data.toList a1.toNat.toUInt8)
end bytealg_IndexByteString

namespace stringslite_IndexByte
def e (k : Nat) (a0 : ByteArray) (a1 : Int) : Option Int :=
  (Option.bind (bytealg_IndexByteString.f k a0 a1) fun r1 =>
    (some r1))
def f (k : Nat) (a0 : ByteArray) (a1 : Int) : Option Int := e k a0 a1
end stringslite_IndexByte

namespace strings_IndexByte
def e (k : Nat) (a0 : ByteArray) (a1 : Int) : Option Int :=
  (Option.bind (stringslite_IndexByte.f k a0 a1) fun r1 =>
    (some r1))
def f (k : Nat) (a0 : ByteArray) (a1 : Int) : Option Int := e k a0 a1
end strings_IndexByte

namespace utf8_ValidRune
def e7 (_k : Nat) (_q7 : Int → Option Bool) (q11 : Unit → Option Bool) (b0 : Int) : Option Bool :=
  (bif (decide ((57343 : Int) < b0)) then
    (bif (decide (b0 ≤ (1114111 : Int))) then
      (some true)
    else
      q11 ())
  else
    q11 ())
def e11 (_k : Nat) (_q7 : Int → Option Bool) (_q11 : Unit → Option Bool) (_ : Unit) : Option Bool :=
  (some false)
def e (_k : Nat) (q7 : Int → Option Bool) (_q11 : Unit → Option Bool) (a0 : Int) : Option Bool :=
  (bif (decide ((0 : Int) ≤ a0)) then
    (bif (decide (a0 < (55296 : Int))) then
      (some true)
    else
      q7 a0)
  else
    q7 a0)
def pts : Nat → (Int → Option Bool) × (Unit → Option Bool)
  | 0 => (fun _ => none, fun _ => none)
  | k + 1 => (e7 k (pts k).1 (pts k).2, e11 k (pts k).1 (pts k).2)
def p7 (k : Nat) : Int → Option Bool := (pts k).1
def p11 (k : Nat) : Unit → Option Bool := (pts k).2
theorem p7_succ (k : Nat) (x0 : Int) : p7 (k + 1) x0 = e7 k (p7 k) (p11 k) x0 := rfl
theorem p11_succ (k : Nat) (x0 : Unit) : p11 (k + 1) x0 = e11 k (p7 k) (p11 k) x0 := rfl
def f (k : Nat) (a0 : Int) : Option Bool := e k (p7 k) (p11 k) a0
end utf8_ValidRune

namespace bytealg_Cutover
def e (_k : Nat) (a0 : Int) : Option Int :=
  (some (IntKind.i64.wrap (Int.tdiv (IntKind.i64.wrap (a0 + (16 : Int))) (8 : Int))))
def f (k : Nat) (a0 : Int) : Option Int := e k a0
end bytealg_Cutover

namespace strings_IndexRune
def e73 (k : Nat) (_q73 : ByteArray → Int → Option Int) (q2 : ByteArray → ByteArray → Int → Int → Option Int) (_q23 : ByteArray → ByteArray → Int → Int → Option Int) (_q6 : ByteArray → ByteArray → Int → Int → Int → Option Int) (b0 : ByteArray) (b1 : Int) : Option Int :=
  (bif (decide (b1 = (65533 : Int))) then
    none
  else
    (Option.bind (utf8_ValidRune.f k b1) fun r2 =>
      (bif (!r2) then
        (some (-1 : Int))
      else
        q2 b0 (Utf8.encode b1) (IntKind.i64.wrap (((Utf8.encode b1).size : Int) - (1 : Int))) (IntKind.i64.wrap (((Utf8.encode b1).size : Int) - (1 : Int))))))
def e2 (k : Nat) (_q73 : ByteArray → Int → Option Int) (_q2 : ByteArray → ByteArray → Int → Int → Option Int) (q23 : ByteArray → ByteArray → Int → Int → Option Int) (_q6 : ByteArray → ByteArray → Int → Int → Int → Option Int) (b0 : ByteArray) (b1 : ByteArray) (b2 : Int) (b3 : Int) : Option Int :=
  (bif (decide (b3 < (b0.size : Int))) then
    (bif (decide (0 ≤ b3) && decide (b3 < (b0.size : Int))) then
      (bif (decide (0 ≤ b2) && decide (b2 < (b1.size : Int))) then
        (bif (!decide ((btI b0 b3) = (btI b1 b2))) then
          (bif (decide (0 ≤ (IntKind.i64.wrap (b3 + (1 : Int)))) && decide ((IntKind.i64.wrap (b3 + (1 : Int))) ≤ (b0.size : Int)) && decide ((b0.size : Int) ≤ (b0.size : Int))) then
            (bif (decide (0 ≤ b2) && decide (b2 < (b1.size : Int))) then
              (Option.bind (strings_IndexByte.f k (b0.extract (Int.toNat (IntKind.i64.wrap (b3 + (1 : Int)))) (Int.toNat (b0.size : Int))) (btI b1 b2)) fun r3 =>
                (bif (decide (r3 < (0 : Int))) then
                  (some (-1 : Int))
                else
                  q23 b0 b1 b2 (IntKind.i64.wrap (b3 + (IntKind.i64.wrap (r3 + (1 : Int)))))))
            else
              none)
          else
            none)
        else
          q23 b0 b1 b2 b3)
      else
        none)
    else
      none)
  else
    (some (-1 : Int)))
def e23 (_k : Nat) (_q73 : ByteArray → Int → Option Int) (_q2 : ByteArray → ByteArray → Int → Int → Option Int) (_q23 : ByteArray → ByteArray → Int → Int → Option Int) (q6 : ByteArray → ByteArray → Int → Int → Int → Option Int) (b0 : ByteArray) (b1 : ByteArray) (b2 : Int) (b3 : Int) : Option Int :=
  q6 b0 b1 b2 b3 (1 : Int)
def e6 (_k : Nat) (_q73 : ByteArray → Int → Option Int) (_q2 : ByteArray → ByteArray → Int → Int → Option Int) (_q23 : ByteArray → ByteArray → Int → Int → Option Int) (q6 : ByteArray → ByteArray → Int → Int → Int → Option Int) (b0 : ByteArray) (b1 : ByteArray) (b2 : Int) (b3 : Int) (b4 : Int) : Option Int :=
  (bif (decide (b4 < (b1.size : Int))) then
    (bif (decide (0 ≤ (IntKind.i64.wrap (b3 - b4))) && decide ((IntKind.i64.wrap (b3 - b4)) < (b0.size : Int))) then
      (bif (decide (0 ≤ (IntKind.i64.wrap (b2 - b4))) && decide ((IntKind.i64.wrap (b2 - b4)) < (b1.size : Int))) then
        (bif (!decide ((btI b0 (IntKind.i64.wrap (b3 - b4))) = (btI b1 (IntKind.i64.wrap (b2 - b4))))) then
          none
        else
          q6 b0 b1 b2 b3 (IntKind.i64.wrap (b4 + (1 : Int))))
      else
        none)
    else
      none)
  else
    (some (IntKind.i64.wrap (b3 - b2))))
def e (k : Nat) (q73 : ByteArray → Int → Option Int) (_q2 : ByteArray → ByteArray → Int → Int → Option Int) (_q23 : ByteArray → ByteArray → Int → Int → Option Int) (_q6 : ByteArray → ByteArray → Int → Int → Int → Option Int) (a0 : ByteArray) (a1 : Int) : Option Int :=
  (bif (decide ((0 : Int) ≤ a1)) then
    (bif (decide (a1 < (128 : Int))) then
      (Option.bind (strings_IndexByte.f k a0 (IntKind.u8.wrap a1)) fun r1 =>
        (some r1))
    else
      q73 a0 a1)
  else
    q73 a0 a1)
def pts : Nat → (ByteArray → Int → Option Int) × (ByteArray → ByteArray → Int → Int → Option Int) × (ByteArray → ByteArray → Int → Int → Option Int) × (ByteArray → ByteArray → Int → Int → Int → Option Int)
  | 0 => (fun _ _ => none, fun _ _ _ _ => none, fun _ _ _ _ => none, fun _ _ _ _ _ => none)
  | k + 1 => (e73 k (pts k).1 (pts k).2.1 (pts k).2.2.1 (pts k).2.2.2, e2 k (pts k).1 (pts k).2.1 (pts k).2.2.1 (pts k).2.2.2, e23 k (pts k).1 (pts k).2.1 (pts k).2.2.1 (pts k).2.2.2, e6 k (pts k).1 (pts k).2.1 (pts k).2.2.1 (pts k).2.2.2)
def p73 (k : Nat) : ByteArray → Int → Option Int := (pts k).1
def p2 (k : Nat) : ByteArray → ByteArray → Int → Int → Option Int := (pts k).2.1
def p23 (k : Nat) : ByteArray → ByteArray → Int → Int → Option Int := (pts k).2.2.1
def p6 (k : Nat) : ByteArray → ByteArray → Int → Int → Int → Option Int := (pts k).2.2.2
theorem p73_succ (k : Nat) (x0 : ByteArray) (x1 : Int) : p73 (k + 1) x0 x1 = e73 k (p73 k) (p2 k) (p23 k) (p6 k) x0 x1 := rfl
theorem p2_succ (k : Nat) (x0 : ByteArray) (x1 : ByteArray) (x2 : Int) (x3 : Int) : p2 (k + 1) x0 x1 x2 x3 = e2 k (p73 k) (p2 k) (p23 k) (p6 k) x0 x1 x2 x3 := rfl
theorem p23_succ (k : Nat) (x0 : ByteArray) (x1 : ByteArray) (x2 : Int) (x3 : Int) : p23 (k + 1) x0 x1 x2 x3 = e23 k (p73 k) (p2 k) (p23 k) (p6 k) x0 x1 x2 x3 := rfl
theorem p6_succ (k : Nat) (x0 : ByteArray) (x1 : ByteArray) (x2 : Int) (x3 : Int) (x4 : Int) : p6 (k + 1) x0 x1 x2 x3 x4 = e6 k (p73 k) (p2 k) (p23 k) (p6 k) x0 x1 x2 x3 x4 := rfl
def f (k : Nat) (a0 : ByteArray) (a1 : Int) : Option Int := e k (p73 k) (p2 k) (p23 k) (p6 k) a0 a1
end strings_IndexRune

namespace strings_ContainsRune
def e (k : Nat) (a0 : ByteArray) (a1 : Int) : Option Bool :=
  (Option.bind (strings_IndexRune.f k a0 a1) fun r1 =>
    (some (decide (r1 ≥ (0 : Int)))))
def f (k : Nat) (a0 : ByteArray) (a1 : Int) : Option Bool := e k a0 a1
end strings_ContainsRune

namespace strings_trimLeftUnicode
def e0 (k : Nat) (q0 : ByteArray → ByteArray → Option ByteArray) (q11 : ByteArray → Option ByteArray) (b0 : ByteArray) (b1 : ByteArray) : Option ByteArray :=
  (bif (decide ((b0.size : Int) > (0 : Int))) then
    (Option.bind (utf8_DecodeRuneInString.f k b0) fun r1 =>
      (Option.bind (strings_ContainsRune.f k b1 r1.1) fun r2 =>
        (bif (!r2) then
          q11 b0
        else
          (bif (decide (0 ≤ r1.2) && decide (r1.2 ≤ (b0.size : Int)) && decide ((b0.size : Int) ≤ (b0.size : Int))) then
            q0 (b0.extract (Int.toNat r1.2) (Int.toNat (b0.size : Int))) b1
          else
            none))))
  else
    q11 b0)
def e11 (_k : Nat) (_q0 : ByteArray → ByteArray → Option ByteArray) (_q11 : ByteArray → Option ByteArray) (b0 : ByteArray) : Option ByteArray :=
  (some b0)
def e (_k : Nat) (q0 : ByteArray → ByteArray → Option ByteArray) (_q11 : ByteArray → Option ByteArray) (a0 : ByteArray) (a1 : ByteArray) : Option ByteArray :=
  q0 a0 a1
def pts : Nat → (ByteArray → ByteArray → Option ByteArray) × (ByteArray → Option ByteArray)
  | 0 => (fun _ _ => none, fun _ => none)
  | k + 1 => (e0 k (pts k).1 (pts k).2, e11 k (pts k).1 (pts k).2)
def p0 (k : Nat) : ByteArray → ByteArray → Option ByteArray := (pts k).1
def p11 (k : Nat) : ByteArray → Option ByteArray := (pts k).2
theorem p0_succ (k : Nat) (x0 : ByteArray) (x1 : ByteArray) : p0 (k + 1) x0 x1 = e0 k (p0 k) (p11 k) x0 x1 := rfl
theorem p11_succ (k : Nat) (x0 : ByteArray) : p11 (k + 1) x0 = e11 k (p0 k) (p11 k) x0 := rfl
def f (k : Nat) (a0 : ByteArray) (a1 : ByteArray) : Option ByteArray := e k (p0 k) (p11 k) a0 a1
end strings_trimLeftUnicode

namespace strings_TrimLeft
def e5 (_k : Nat) (_q5 : ByteArray → Option ByteArray) (_q11 : ByteArray → ByteArray → Option ByteArray) (b0 : ByteArray) : Option ByteArray :=
  (some b0)
def e11 (_k : Nat) (_q5 : ByteArray → Option ByteArray) (_q11 : ByteArray → ByteArray → Option ByteArray) (_b0 : ByteArray) (_b1 : ByteArray) : Option ByteArray :=
  none
def e (k : Nat) (q5 : ByteArray → Option ByteArray) (q11 : ByteArray → ByteArray → Option ByteArray) (a0 : ByteArray) (a1 : ByteArray) : Option ByteArray :=
  (bif (a0.toList == (ByteArray.mk #[]).toList) then
    q5 a0
  else
    (bif (a1.toList == (ByteArray.mk #[]).toList) then
      q5 a0
    else
      (bif (decide ((a1.size : Int) = (1 : Int))) then
        (bif (decide ((0 : Int) < (a1.size : Int))) then
          (bif (decide ((btI a1 (0 : Int)) < (128 : Int))) then
            (bif (decide ((0 : Int) < (a1.size : Int))) then
              (Option.bind (strings_trimLeftByte.f k a0 (btI a1 (0 : Int))) fun r1 =>
                (some r1))
            else
              none)
          else
            q11 a0 a1)
        else
          none)
      else
        q11 a0 a1)))
def pts : Nat → (ByteArray → Option ByteArray) × (ByteArray → ByteArray → Option ByteArray)
  | 0 => (fun _ => none, fun _ _ => none)
  | k + 1 => (e5 k (pts k).1 (pts k).2, e11 k (pts k).1 (pts k).2)
def p5 (k : Nat) : ByteArray → Option ByteArray := (pts k).1
def p11 (k : Nat) : ByteArray → ByteArray → Option ByteArray := (pts k).2
theorem p5_succ (k : Nat) (x0 : ByteArray) : p5 (k + 1) x0 = e5 k (p5 k) (p11 k) x0 := rfl
theorem p11_succ (k : Nat) (x0 : ByteArray) (x1 : ByteArray) : p11 (k + 1) x0 x1 = e11 k (p5 k) (p11 k) x0 x1 := rfl
def f (k : Nat) (a0 : ByteArray) (a1 : ByteArray) : Option ByteArray := e k (p5 k) (p11 k) a0 a1
end strings_TrimLeft

namespace intconv_lower
def e (_k : Nat) (a0 : Int) : Option Int :=
  (some (bitsI .or .u8 a0 (32 : Int)))
def f (k : Nat) (a0 : Int) : Option Int := e k a0
end intconv_lower

namespace intconv_underscoreOK
def e9 (_k : Nat) (_q9 : ByteArray → Int → Int → Option Bool) (q11 : ByteArray → Int → Int → Option Bool) (_q15 : ByteArray → Option Bool) (_q0 : ByteArray → Int → Int → Bool → Option Bool) (_q27 : ByteArray → Int → Bool → Option Bool) (_q29 : ByteArray → Int → Int → Bool → Option Bool) (_q23 : ByteArray → Int → Int → Bool → Option Bool) (b0 : ByteArray) (b1 : Int) (b2 : Int) : Option Bool :=
  (bif (decide (0 ≤ (1 : Int)) && decide ((1 : Int) ≤ (b0.size : Int)) && decide ((b0.size : Int) ≤ (b0.size : Int))) then
    q11 (b0.extract (Int.toNat (1 : Int)) (Int.toNat (b0.size : Int))) b1 b2
  else
    none)
def e11 (k : Nat) (_q9 : ByteArray → Int → Int → Option Bool) (_q11 : ByteArray → Int → Int → Option Bool) (q15 : ByteArray → Option Bool) (q0 : ByteArray → Int → Int → Bool → Option Bool) (_q27 : ByteArray → Int → Bool → Option Bool) (_q29 : ByteArray → Int → Int → Bool → Option Bool) (_q23 : ByteArray → Int → Int → Bool → Option Bool) (b0 : ByteArray) (b1 : Int) (b2 : Int) : Option Bool :=
  (bif (decide ((b0.size : Int) ≥ (2 : Int))) then
    (bif (decide ((0 : Int) < (b0.size : Int))) then
      (bif (decide ((btI b0 (0 : Int)) = (48 : Int))) then
        (bif (decide ((1 : Int) < (b0.size : Int))) then
          (Option.bind (intconv_lower.f k (btI b0 (1 : Int))) fun r1 =>
            (bif (decide (r1 = (98 : Int))) then
              q15 b0
            else
              (bif (decide ((1 : Int) < (b0.size : Int))) then
                (Option.bind (intconv_lower.f k (btI b0 (1 : Int))) fun r2 =>
                  (bif (decide (r2 = (111 : Int))) then
                    q15 b0
                  else
                    (bif (decide ((1 : Int) < (b0.size : Int))) then
                      (Option.bind (intconv_lower.f k (btI b0 (1 : Int))) fun r3 =>
                        (bif (decide (r3 = (120 : Int))) then
                          q15 b0
                        else
                          q0 b0 b1 b2 false))
                    else
                      none)))
              else
                none)))
        else
          none)
      else
        q0 b0 b1 b2 false)
    else
      none)
  else
    q0 b0 b1 b2 false)
def e15 (k : Nat) (_q9 : ByteArray → Int → Int → Option Bool) (_q11 : ByteArray → Int → Int → Option Bool) (_q15 : ByteArray → Option Bool) (q0 : ByteArray → Int → Int → Bool → Option Bool) (_q27 : ByteArray → Int → Bool → Option Bool) (_q29 : ByteArray → Int → Int → Bool → Option Bool) (_q23 : ByteArray → Int → Int → Bool → Option Bool) (b0 : ByteArray) : Option Bool :=
  (bif (decide ((1 : Int) < (b0.size : Int))) then
    (Option.bind (intconv_lower.f k (btI b0 (1 : Int))) fun r4 =>
      q0 b0 (48 : Int) (2 : Int) (decide (r4 = (120 : Int))))
  else
    none)
def e0 (k : Nat) (_q9 : ByteArray → Int → Int → Option Bool) (_q11 : ByteArray → Int → Int → Option Bool) (_q15 : ByteArray → Option Bool) (_q0 : ByteArray → Int → Int → Bool → Option Bool) (q27 : ByteArray → Int → Bool → Option Bool) (q29 : ByteArray → Int → Int → Bool → Option Bool) (_q23 : ByteArray → Int → Int → Bool → Option Bool) (b0 : ByteArray) (b1 : Int) (b2 : Int) (b3 : Bool) : Option Bool :=
  (bif (decide (b2 < (b0.size : Int))) then
    (bif (decide (0 ≤ b2) && decide (b2 < (b0.size : Int))) then
      (bif (decide ((48 : Int) ≤ (btI b0 b2))) then
        (bif (decide (0 ≤ b2) && decide (b2 < (b0.size : Int))) then
          (bif (decide ((btI b0 b2) ≤ (57 : Int))) then
            q27 b0 b2 b3
          else
            (bif b3 then
              (bif (decide (0 ≤ b2) && decide (b2 < (b0.size : Int))) then
                (Option.bind (intconv_lower.f k (btI b0 b2)) fun r5 =>
                  (bif (decide ((97 : Int) ≤ r5)) then
                    (bif (decide (0 ≤ b2) && decide (b2 < (b0.size : Int))) then
                      (Option.bind (intconv_lower.f k (btI b0 b2)) fun r6 =>
                        (bif (decide (r6 ≤ (102 : Int))) then
                          q27 b0 b2 b3
                        else
                          q29 b0 b1 b2 b3))
                    else
                      none)
                  else
                    q29 b0 b1 b2 b3))
              else
                none)
            else
              q29 b0 b1 b2 b3))
        else
          none)
      else
        (bif b3 then
          (bif (decide (0 ≤ b2) && decide (b2 < (b0.size : Int))) then
            (Option.bind (intconv_lower.f k (btI b0 b2)) fun r7 =>
              (bif (decide ((97 : Int) ≤ r7)) then
                (bif (decide (0 ≤ b2) && decide (b2 < (b0.size : Int))) then
                  (Option.bind (intconv_lower.f k (btI b0 b2)) fun r8 =>
                    (bif (decide (r8 ≤ (102 : Int))) then
                      q27 b0 b2 b3
                    else
                      q29 b0 b1 b2 b3))
                else
                  none)
              else
                q29 b0 b1 b2 b3))
          else
            none)
        else
          q29 b0 b1 b2 b3))
    else
      none)
  else
    (some (!decide (b1 = (95 : Int)))))
def e27 (_k : Nat) (_q9 : ByteArray → Int → Int → Option Bool) (_q11 : ByteArray → Int → Int → Option Bool) (_q15 : ByteArray → Option Bool) (_q0 : ByteArray → Int → Int → Bool → Option Bool) (_q27 : ByteArray → Int → Bool → Option Bool) (_q29 : ByteArray → Int → Int → Bool → Option Bool) (q23 : ByteArray → Int → Int → Bool → Option Bool) (b0 : ByteArray) (b1 : Int) (b2 : Bool) : Option Bool :=
  q23 b0 (48 : Int) b1 b2
def e29 (_k : Nat) (_q9 : ByteArray → Int → Int → Option Bool) (_q11 : ByteArray → Int → Int → Option Bool) (_q15 : ByteArray → Option Bool) (_q0 : ByteArray → Int → Int → Bool → Option Bool) (_q27 : ByteArray → Int → Bool → Option Bool) (_q29 : ByteArray → Int → Int → Bool → Option Bool) (q23 : ByteArray → Int → Int → Bool → Option Bool) (b0 : ByteArray) (b1 : Int) (b2 : Int) (b3 : Bool) : Option Bool :=
  (bif (decide (0 ≤ b2) && decide (b2 < (b0.size : Int))) then
    (bif (decide ((btI b0 b2) = (95 : Int))) then
      (bif (!decide (b1 = (48 : Int))) then
        (some false)
      else
        q23 b0 (95 : Int) b2 b3)
    else
      (bif (decide (b1 = (95 : Int))) then
        (some false)
      else
        q23 b0 (33 : Int) b2 b3))
  else
    none)
def e23 (_k : Nat) (_q9 : ByteArray → Int → Int → Option Bool) (_q11 : ByteArray → Int → Int → Option Bool) (_q15 : ByteArray → Option Bool) (q0 : ByteArray → Int → Int → Bool → Option Bool) (_q27 : ByteArray → Int → Bool → Option Bool) (_q29 : ByteArray → Int → Int → Bool → Option Bool) (_q23 : ByteArray → Int → Int → Bool → Option Bool) (b0 : ByteArray) (b1 : Int) (b2 : Int) (b3 : Bool) : Option Bool :=
  q0 b0 b1 (IntKind.i64.wrap (b2 + (1 : Int))) b3
def e (_k : Nat) (q9 : ByteArray → Int → Int → Option Bool) (q11 : ByteArray → Int → Int → Option Bool) (_q15 : ByteArray → Option Bool) (_q0 : ByteArray → Int → Int → Bool → Option Bool) (_q27 : ByteArray → Int → Bool → Option Bool) (_q29 : ByteArray → Int → Int → Bool → Option Bool) (_q23 : ByteArray → Int → Int → Bool → Option Bool) (a0 : ByteArray) : Option Bool :=
  (bif (decide ((a0.size : Int) ≥ (1 : Int))) then
    (bif (decide ((0 : Int) < (a0.size : Int))) then
      (bif (decide ((btI a0 (0 : Int)) = (45 : Int))) then
        q9 a0 (94 : Int) (0 : Int)
      else
        (bif (decide ((0 : Int) < (a0.size : Int))) then
          (bif (decide ((btI a0 (0 : Int)) = (43 : Int))) then
            q9 a0 (94 : Int) (0 : Int)
          else
            q11 a0 (94 : Int) (0 : Int))
        else
          none))
    else
      none)
  else
    q11 a0 (94 : Int) (0 : Int))
def pts : Nat → (ByteArray → Int → Int → Option Bool) × (ByteArray → Int → Int → Option Bool) × (ByteArray → Option Bool) × (ByteArray → Int → Int → Bool → Option Bool) × (ByteArray → Int → Bool → Option Bool) × (ByteArray → Int → Int → Bool → Option Bool) × (ByteArray → Int → Int → Bool → Option Bool)
  | 0 => (fun _ _ _ => none, fun _ _ _ => none, fun _ => none, fun _ _ _ _ => none, fun _ _ _ => none, fun _ _ _ _ => none, fun _ _ _ _ => none)
  | k + 1 => (e9 k (pts k).1 (pts k).2.1 (pts k).2.2.1 (pts k).2.2.2.1 (pts k).2.2.2.2.1 (pts k).2.2.2.2.2.1 (pts k).2.2.2.2.2.2, e11 k (pts k).1 (pts k).2.1 (pts k).2.2.1 (pts k).2.2.2.1 (pts k).2.2.2.2.1 (pts k).2.2.2.2.2.1 (pts k).2.2.2.2.2.2, e15 k (pts k).1 (pts k).2.1 (pts k).2.2.1 (pts k).2.2.2.1 (pts k).2.2.2.2.1 (pts k).2.2.2.2.2.1 (pts k).2.2.2.2.2.2, e0 k (pts k).1 (pts k).2.1 (pts k).2.2.1 (pts k).2.2.2.1 (pts k).2.2.2.2.1 (pts k).2.2.2.2.2.1 (pts k).2.2.2.2.2.2, e27 k (pts k).1 (pts k).2.1 (pts k).2.2.1 (pts k).2.2.2.1 (pts k).2.2.2.2.1 (pts k).2.2.2.2.2.1 (pts k).2.2.2.2.2.2, e29 k (pts k).1 (pts k).2.1 (pts k).2.2.1 (pts k).2.2.2.1 (pts k).2.2.2.2.1 (pts k).2.2.2.2.2.1 (pts k).2.2.2.2.2.2, e23 k (pts k).1 (pts k).2.1 (pts k).2.2.1 (pts k).2.2.2.1 (pts k).2.2.2.2.1 (pts k).2.2.2.2.2.1 (pts k).2.2.2.2.2.2)
def p9 (k : Nat) : ByteArray → Int → Int → Option Bool := (pts k).1
def p11 (k : Nat) : ByteArray → Int → Int → Option Bool := (pts k).2.1
def p15 (k : Nat) : ByteArray → Option Bool := (pts k).2.2.1
def p0 (k : Nat) : ByteArray → Int → Int → Bool → Option Bool := (pts k).2.2.2.1
def p27 (k : Nat) : ByteArray → Int → Bool → Option Bool := (pts k).2.2.2.2.1
def p29 (k : Nat) : ByteArray → Int → Int → Bool → Option Bool := (pts k).2.2.2.2.2.1
def p23 (k : Nat) : ByteArray → Int → Int → Bool → Option Bool := (pts k).2.2.2.2.2.2
theorem p9_succ (k : Nat) (x0 : ByteArray) (x1 : Int) (x2 : Int) : p9 (k + 1) x0 x1 x2 = e9 k (p9 k) (p11 k) (p15 k) (p0 k) (p27 k) (p29 k) (p23 k) x0 x1 x2 := rfl
theorem p11_succ (k : Nat) (x0 : ByteArray) (x1 : Int) (x2 : Int) : p11 (k + 1) x0 x1 x2 = e11 k (p9 k) (p11 k) (p15 k) (p0 k) (p27 k) (p29 k) (p23 k) x0 x1 x2 := rfl
theorem p15_succ (k : Nat) (x0 : ByteArray) : p15 (k + 1) x0 = e15 k (p9 k) (p11 k) (p15 k) (p0 k) (p27 k) (p29 k) (p23 k) x0 := rfl
theorem p0_succ (k : Nat) (x0 : ByteArray) (x1 : Int) (x2 : Int) (x3 : Bool) : p0 (k + 1) x0 x1 x2 x3 = e0 k (p9 k) (p11 k) (p15 k) (p0 k) (p27 k) (p29 k) (p23 k) x0 x1 x2 x3 := rfl
theorem p27_succ (k : Nat) (x0 : ByteArray) (x1 : Int) (x2 : Bool) : p27 (k + 1) x0 x1 x2 = e27 k (p9 k) (p11 k) (p15 k) (p0 k) (p27 k) (p29 k) (p23 k) x0 x1 x2 := rfl
theorem p29_succ (k : Nat) (x0 : ByteArray) (x1 : Int) (x2 : Int) (x3 : Bool) : p29 (k + 1) x0 x1 x2 x3 = e29 k (p9 k) (p11 k) (p15 k) (p0 k) (p27 k) (p29 k) (p23 k) x0 x1 x2 x3 := rfl
theorem p23_succ (k : Nat) (x0 : ByteArray) (x1 : Int) (x2 : Int) (x3 : Bool) : p23 (k + 1) x0 x1 x2 x3 = e23 k (p9 k) (p11 k) (p15 k) (p0 k) (p27 k) (p29 k) (p23 k) x0 x1 x2 x3 := rfl
def f (k : Nat) (a0 : ByteArray) : Option Bool := e k (p9 k) (p11 k) (p15 k) (p0 k) (p27 k) (p29 k) (p23 k) a0
end intconv_underscoreOK

namespace intconv_ParseUint
def e43 (_k : Nat) (_q43 : ByteArray → Int → Int → Bool → ByteArray → Option (Int × Unit)) (_q15 : ByteArray → Int → Int → Bool → ByteArray → Option (Int × Unit)) (q51 : ByteArray → Int → Int → Bool → ByteArray → Option (Int × Unit)) (q49 : Unit → Option (Int × Unit)) (_q31 : ByteArray → Int → Bool → ByteArray → Option (Int × Unit)) (_q65 : ByteArray → Int → Int → Bool → ByteArray → Int → Option (Int × Unit)) (_q37 : ByteArray → Int → Bool → ByteArray → Option (Int × Unit)) (_q6 : Int → Bool → ByteArray → Int → Int → Bool → Int → (List Int) → Int → Int → Option (Int × Unit)) (_q21 : ByteArray → Int → Bool → ByteArray → Option (Int × Unit)) (_q85 : Int → Bool → ByteArray → Int → Int → Bool → Int → Int → (List Int) → Int → Int → Option (Int × Unit)) (_q117 : Int → Option (Int × Unit)) (_q107 : Int → Option (Int × Unit)) (_q89 : Int → Bool → ByteArray → Int → Int → Bool → Int → Int → (List Int) → Int → Int → Option (Int × Unit)) (_q79 : Unit → Option (Int × Unit)) (b0 : ByteArray) (b1 : Int) (b2 : Int) (b3 : Bool) (b4 : ByteArray) : Option (Int × Unit) :=
  (bif (decide (b2 = (0 : Int))) then
    q51 b0 b1 (64 : Int) b3 b4
  else
    (bif (decide (b2 < (0 : Int))) then
      q49 ()
    else
      (bif (decide (b2 > (64 : Int))) then
        q49 ()
      else
        q51 b0 b1 b2 b3 b4)))
def e15 (k : Nat) (q43 : ByteArray → Int → Int → Bool → ByteArray → Option (Int × Unit)) (_q15 : ByteArray → Int → Int → Bool → ByteArray → Option (Int × Unit)) (_q51 : ByteArray → Int → Int → Bool → ByteArray → Option (Int × Unit)) (_q49 : Unit → Option (Int × Unit)) (q31 : ByteArray → Int → Bool → ByteArray → Option (Int × Unit)) (_q65 : ByteArray → Int → Int → Bool → ByteArray → Int → Option (Int × Unit)) (_q37 : ByteArray → Int → Bool → ByteArray → Option (Int × Unit)) (_q6 : Int → Bool → ByteArray → Int → Int → Bool → Int → (List Int) → Int → Int → Option (Int × Unit)) (_q21 : ByteArray → Int → Bool → ByteArray → Option (Int × Unit)) (_q85 : Int → Bool → ByteArray → Int → Int → Bool → Int → Int → (List Int) → Int → Int → Option (Int × Unit)) (_q117 : Int → Option (Int × Unit)) (_q107 : Int → Option (Int × Unit)) (_q89 : Int → Bool → ByteArray → Int → Int → Bool → Int → Int → (List Int) → Int → Int → Option (Int × Unit)) (_q79 : Unit → Option (Int × Unit)) (b0 : ByteArray) (b1 : Int) (b2 : Int) (b3 : Bool) (b4 : ByteArray) : Option (Int × Unit) :=
  (bif (decide (b1 = (0 : Int))) then
    (bif (decide ((0 : Int) < (b0.size : Int))) then
      (bif (decide ((btI b0 (0 : Int)) = (48 : Int))) then
        (bif (decide ((b0.size : Int) ≥ (3 : Int))) then
          (bif (decide ((1 : Int) < (b0.size : Int))) then
            (Option.bind (intconv_lower.f k (btI b0 (1 : Int))) fun r1 =>
              (bif (decide (r1 = (98 : Int))) then
                (bif (decide (0 ≤ (2 : Int)) && decide ((2 : Int) ≤ (b0.size : Int)) && decide ((b0.size : Int) ≤ (b0.size : Int))) then
                  q43 (b0.extract (Int.toNat (2 : Int)) (Int.toNat (b0.size : Int))) (2 : Int) b2 b3 b4
                else
                  none)
              else
                q31 b0 b2 b3 b4))
          else
            none)
        else
          q31 b0 b2 b3 b4)
      else
        q43 b0 (10 : Int) b2 b3 b4)
    else
      none)
  else
    none)
def e51 (_k : Nat) (_q43 : ByteArray → Int → Int → Bool → ByteArray → Option (Int × Unit)) (_q15 : ByteArray → Int → Int → Bool → ByteArray → Option (Int × Unit)) (_q51 : ByteArray → Int → Int → Bool → ByteArray → Option (Int × Unit)) (_q49 : Unit → Option (Int × Unit)) (_q31 : ByteArray → Int → Bool → ByteArray → Option (Int × Unit)) (q65 : ByteArray → Int → Int → Bool → ByteArray → Int → Option (Int × Unit)) (_q37 : ByteArray → Int → Bool → ByteArray → Option (Int × Unit)) (_q6 : Int → Bool → ByteArray → Int → Int → Bool → Int → (List Int) → Int → Int → Option (Int × Unit)) (_q21 : ByteArray → Int → Bool → ByteArray → Option (Int × Unit)) (_q85 : Int → Bool → ByteArray → Int → Int → Bool → Int → Int → (List Int) → Int → Int → Option (Int × Unit)) (_q117 : Int → Option (Int × Unit)) (_q107 : Int → Option (Int × Unit)) (_q89 : Int → Bool → ByteArray → Int → Int → Bool → Int → Int → (List Int) → Int → Int → Option (Int × Unit)) (_q79 : Unit → Option (Int × Unit)) (b0 : ByteArray) (b1 : Int) (b2 : Int) (b3 : Bool) (b4 : ByteArray) : Option (Int × Unit) :=
  (bif (decide (b1 = (10 : Int))) then
    q65 b0 b1 b2 b3 b4 (1844674407370955162 : Int)
  else
    (bif (decide (b1 = (16 : Int))) then
      q65 b0 b1 b2 b3 b4 (1152921504606846976 : Int)
    else
      (bif (decide ((IntKind.u64.wrap b1) = 0)) then
        none
      else
        q65 b0 b1 b2 b3 b4 (IntKind.u64.wrap ((IntKind.u64.wrap (Int.tdiv (18446744073709551615 : Int) (IntKind.u64.wrap b1))) + (1 : Int))))))
def e49 (_k : Nat) (_q43 : ByteArray → Int → Int → Bool → ByteArray → Option (Int × Unit)) (_q15 : ByteArray → Int → Int → Bool → ByteArray → Option (Int × Unit)) (_q51 : ByteArray → Int → Int → Bool → ByteArray → Option (Int × Unit)) (_q49 : Unit → Option (Int × Unit)) (_q31 : ByteArray → Int → Bool → ByteArray → Option (Int × Unit)) (_q65 : ByteArray → Int → Int → Bool → ByteArray → Int → Option (Int × Unit)) (_q37 : ByteArray → Int → Bool → ByteArray → Option (Int × Unit)) (_q6 : Int → Bool → ByteArray → Int → Int → Bool → Int → (List Int) → Int → Int → Option (Int × Unit)) (_q21 : ByteArray → Int → Bool → ByteArray → Option (Int × Unit)) (_q85 : Int → Bool → ByteArray → Int → Int → Bool → Int → Int → (List Int) → Int → Int → Option (Int × Unit)) (_q117 : Int → Option (Int × Unit)) (_q107 : Int → Option (Int × Unit)) (_q89 : Int → Bool → ByteArray → Int → Int → Bool → Int → Int → (List Int) → Int → Int → Option (Int × Unit)) (_q79 : Unit → Option (Int × Unit)) (_ : Unit) : Option (Int × Unit) :=
  none
def e31 (k : Nat) (q43 : ByteArray → Int → Int → Bool → ByteArray → Option (Int × Unit)) (_q15 : ByteArray → Int → Int → Bool → ByteArray → Option (Int × Unit)) (_q51 : ByteArray → Int → Int → Bool → ByteArray → Option (Int × Unit)) (_q49 : Unit → Option (Int × Unit)) (_q31 : ByteArray → Int → Bool → ByteArray → Option (Int × Unit)) (_q65 : ByteArray → Int → Int → Bool → ByteArray → Int → Option (Int × Unit)) (q37 : ByteArray → Int → Bool → ByteArray → Option (Int × Unit)) (_q6 : Int → Bool → ByteArray → Int → Int → Bool → Int → (List Int) → Int → Int → Option (Int × Unit)) (_q21 : ByteArray → Int → Bool → ByteArray → Option (Int × Unit)) (_q85 : Int → Bool → ByteArray → Int → Int → Bool → Int → Int → (List Int) → Int → Int → Option (Int × Unit)) (_q117 : Int → Option (Int × Unit)) (_q107 : Int → Option (Int × Unit)) (_q89 : Int → Bool → ByteArray → Int → Int → Bool → Int → Int → (List Int) → Int → Int → Option (Int × Unit)) (_q79 : Unit → Option (Int × Unit)) (b0 : ByteArray) (b1 : Int) (b2 : Bool) (b3 : ByteArray) : Option (Int × Unit) :=
  (bif (decide ((b0.size : Int) ≥ (3 : Int))) then
    (bif (decide ((1 : Int) < (b0.size : Int))) then
      (Option.bind (intconv_lower.f k (btI b0 (1 : Int))) fun r2 =>
        (bif (decide (r2 = (111 : Int))) then
          (bif (decide (0 ≤ (2 : Int)) && decide ((2 : Int) ≤ (b0.size : Int)) && decide ((b0.size : Int) ≤ (b0.size : Int))) then
            q43 (b0.extract (Int.toNat (2 : Int)) (Int.toNat (b0.size : Int))) (8 : Int) b1 b2 b3
          else
            none)
        else
          q37 b0 b1 b2 b3))
    else
      none)
  else
    q37 b0 b1 b2 b3)
def e65 (_k : Nat) (_q43 : ByteArray → Int → Int → Bool → ByteArray → Option (Int × Unit)) (_q15 : ByteArray → Int → Int → Bool → ByteArray → Option (Int × Unit)) (_q51 : ByteArray → Int → Int → Bool → ByteArray → Option (Int × Unit)) (_q49 : Unit → Option (Int × Unit)) (_q31 : ByteArray → Int → Bool → ByteArray → Option (Int × Unit)) (_q65 : ByteArray → Int → Int → Bool → ByteArray → Int → Option (Int × Unit)) (_q37 : ByteArray → Int → Bool → ByteArray → Option (Int × Unit)) (q6 : Int → Bool → ByteArray → Int → Int → Bool → Int → (List Int) → Int → Int → Option (Int × Unit)) (_q21 : ByteArray → Int → Bool → ByteArray → Option (Int × Unit)) (_q85 : Int → Bool → ByteArray → Int → Int → Bool → Int → Int → (List Int) → Int → Int → Option (Int × Unit)) (_q117 : Int → Option (Int × Unit)) (_q107 : Int → Option (Int × Unit)) (_q89 : Int → Bool → ByteArray → Int → Int → Bool → Int → Int → (List Int) → Int → Int → Option (Int × Unit)) (_q79 : Unit → Option (Int × Unit)) (b0 : ByteArray) (b1 : Int) (b2 : Int) (b3 : Bool) (b4 : ByteArray) (b5 : Int) : Option (Int × Unit) :=
  (bif (decide ((IntKind.u64.wrap b2) < 0)) then
    none
  else
    (bif (decide ((b0.size : Int) ≤ 9223372036854775807)) then
      q6 b1 b3 b4 b5 (IntKind.u64.wrap ((IntKind.u64.wrap ((1 : Int) * 2 ^ min (Int.toNat (IntKind.u64.wrap b2)) 64)) - (1 : Int))) false (0 : Int) (toB b0) ((toB b0).length : Int) (0 : Int)
    else
      none))
def e37 (k : Nat) (q43 : ByteArray → Int → Int → Bool → ByteArray → Option (Int × Unit)) (_q15 : ByteArray → Int → Int → Bool → ByteArray → Option (Int × Unit)) (_q51 : ByteArray → Int → Int → Bool → ByteArray → Option (Int × Unit)) (_q49 : Unit → Option (Int × Unit)) (_q31 : ByteArray → Int → Bool → ByteArray → Option (Int × Unit)) (_q65 : ByteArray → Int → Int → Bool → ByteArray → Int → Option (Int × Unit)) (_q37 : ByteArray → Int → Bool → ByteArray → Option (Int × Unit)) (_q6 : Int → Bool → ByteArray → Int → Int → Bool → Int → (List Int) → Int → Int → Option (Int × Unit)) (q21 : ByteArray → Int → Bool → ByteArray → Option (Int × Unit)) (_q85 : Int → Bool → ByteArray → Int → Int → Bool → Int → Int → (List Int) → Int → Int → Option (Int × Unit)) (_q117 : Int → Option (Int × Unit)) (_q107 : Int → Option (Int × Unit)) (_q89 : Int → Bool → ByteArray → Int → Int → Bool → Int → Int → (List Int) → Int → Int → Option (Int × Unit)) (_q79 : Unit → Option (Int × Unit)) (b0 : ByteArray) (b1 : Int) (b2 : Bool) (b3 : ByteArray) : Option (Int × Unit) :=
  (bif (decide ((b0.size : Int) ≥ (3 : Int))) then
    (bif (decide ((1 : Int) < (b0.size : Int))) then
      (Option.bind (intconv_lower.f k (btI b0 (1 : Int))) fun r3 =>
        (bif (decide (r3 = (120 : Int))) then
          (bif (decide (0 ≤ (2 : Int)) && decide ((2 : Int) ≤ (b0.size : Int)) && decide ((b0.size : Int) ≤ (b0.size : Int))) then
            q43 (b0.extract (Int.toNat (2 : Int)) (Int.toNat (b0.size : Int))) (16 : Int) b1 b2 b3
          else
            none)
        else
          q21 b0 b1 b2 b3))
    else
      none)
  else
    q21 b0 b1 b2 b3)
def e6 (k : Nat) (_q43 : ByteArray → Int → Int → Bool → ByteArray → Option (Int × Unit)) (_q15 : ByteArray → Int → Int → Bool → ByteArray → Option (Int × Unit)) (_q51 : ByteArray → Int → Int → Bool → ByteArray → Option (Int × Unit)) (_q49 : Unit → Option (Int × Unit)) (_q31 : ByteArray → Int → Bool → ByteArray → Option (Int × Unit)) (_q65 : ByteArray → Int → Int → Bool → ByteArray → Int → Option (Int × Unit)) (_q37 : ByteArray → Int → Bool → ByteArray → Option (Int × Unit)) (q6 : Int → Bool → ByteArray → Int → Int → Bool → Int → (List Int) → Int → Int → Option (Int × Unit)) (_q21 : ByteArray → Int → Bool → ByteArray → Option (Int × Unit)) (q85 : Int → Bool → ByteArray → Int → Int → Bool → Int → Int → (List Int) → Int → Int → Option (Int × Unit)) (q117 : Int → Option (Int × Unit)) (_q107 : Int → Option (Int × Unit)) (_q89 : Int → Bool → ByteArray → Int → Int → Bool → Int → Int → (List Int) → Int → Int → Option (Int × Unit)) (_q79 : Unit → Option (Int × Unit)) (b0 : Int) (b1 : Bool) (b2 : ByteArray) (b3 : Int) (b4 : Int) (b5 : Bool) (b6 : Int) (b7 : (List Int)) (b8 : Int) (b9 : Int) : Option (Int × Unit) :=
  (bif (decide (b9 < b8)) then
    (bif (decide (0 ≤ b9) && decide (b9 < (b7.length : Int))) then
      (bif (decide ((nthD (0 : Int) b7 (Int.toNat b9)) = (95 : Int))) then
        (bif b1 then
          q6 b0 b1 b2 b3 b4 true b6 b7 b8 (IntKind.i64.wrap (b9 + (1 : Int)))
        else
          q85 b0 b1 b2 b3 b4 b5 b6 (nthD (0 : Int) b7 (Int.toNat b9)) b7 b8 b9)
      else
        q85 b0 b1 b2 b3 b4 b5 b6 (nthD (0 : Int) b7 (Int.toNat b9)) b7 b8 b9)
    else
      none)
  else
    (bif b5 then
      (Option.bind (intconv_underscoreOK.f k b2) fun r4 =>
        (bif (!r4) then
          none
        else
          q117 b6))
    else
      q117 b6))
def e21 (_k : Nat) (q43 : ByteArray → Int → Int → Bool → ByteArray → Option (Int × Unit)) (_q15 : ByteArray → Int → Int → Bool → ByteArray → Option (Int × Unit)) (_q51 : ByteArray → Int → Int → Bool → ByteArray → Option (Int × Unit)) (_q49 : Unit → Option (Int × Unit)) (_q31 : ByteArray → Int → Bool → ByteArray → Option (Int × Unit)) (_q65 : ByteArray → Int → Int → Bool → ByteArray → Int → Option (Int × Unit)) (_q37 : ByteArray → Int → Bool → ByteArray → Option (Int × Unit)) (_q6 : Int → Bool → ByteArray → Int → Int → Bool → Int → (List Int) → Int → Int → Option (Int × Unit)) (_q21 : ByteArray → Int → Bool → ByteArray → Option (Int × Unit)) (_q85 : Int → Bool → ByteArray → Int → Int → Bool → Int → Int → (List Int) → Int → Int → Option (Int × Unit)) (_q117 : Int → Option (Int × Unit)) (_q107 : Int → Option (Int × Unit)) (_q89 : Int → Bool → ByteArray → Int → Int → Bool → Int → Int → (List Int) → Int → Int → Option (Int × Unit)) (_q79 : Unit → Option (Int × Unit)) (b0 : ByteArray) (b1 : Int) (b2 : Bool) (b3 : ByteArray) : Option (Int × Unit) :=
  (bif (decide (0 ≤ (1 : Int)) && decide ((1 : Int) ≤ (b0.size : Int)) && decide ((b0.size : Int) ≤ (b0.size : Int))) then
    q43 (b0.extract (Int.toNat (1 : Int)) (Int.toNat (b0.size : Int))) (8 : Int) b1 b2 b3
  else
    none)
def e85 (_k : Nat) (_q43 : ByteArray → Int → Int → Bool → ByteArray → Option (Int × Unit)) (_q15 : ByteArray → Int → Int → Bool → ByteArray → Option (Int × Unit)) (_q51 : ByteArray → Int → Int → Bool → ByteArray → Option (Int × Unit)) (_q49 : Unit → Option (Int × Unit)) (_q31 : ByteArray → Int → Bool → ByteArray → Option (Int × Unit)) (_q65 : ByteArray → Int → Int → Bool → ByteArray → Int → Option (Int × Unit)) (_q37 : ByteArray → Int → Bool → ByteArray → Option (Int × Unit)) (q6 : Int → Bool → ByteArray → Int → Int → Bool → Int → (List Int) → Int → Int → Option (Int × Unit)) (_q21 : ByteArray → Int → Bool → ByteArray → Option (Int × Unit)) (_q85 : Int → Bool → ByteArray → Int → Int → Bool → Int → Int → (List Int) → Int → Int → Option (Int × Unit)) (_q117 : Int → Option (Int × Unit)) (q107 : Int → Option (Int × Unit)) (q89 : Int → Bool → ByteArray → Int → Int → Bool → Int → Int → (List Int) → Int → Int → Option (Int × Unit)) (_q79 : Unit → Option (Int × Unit)) (b0 : Int) (b1 : Bool) (b2 : ByteArray) (b3 : Int) (b4 : Int) (b5 : Bool) (b6 : Int) (b7 : Int) (b8 : (List Int)) (b9 : Int) (b10 : Int) : Option (Int × Unit) :=
  (bif (decide ((48 : Int) ≤ b7)) then
    (bif (decide (b7 ≤ (57 : Int))) then
      (bif (decide ((IntKind.u8.wrap (b7 - (48 : Int))) ≥ (IntKind.u8.wrap b0))) then
        none
      else
        (bif (decide (b6 ≥ b3)) then
          none
        else
          (bif (decide ((IntKind.u64.wrap ((IntKind.u64.wrap (b6 * (IntKind.u64.wrap b0))) + (IntKind.u64.wrap (IntKind.u8.wrap (b7 - (48 : Int)))))) < (IntKind.u64.wrap (b6 * (IntKind.u64.wrap b0))))) then
            q107 b4
          else
            (bif (decide ((IntKind.u64.wrap ((IntKind.u64.wrap (b6 * (IntKind.u64.wrap b0))) + (IntKind.u64.wrap (IntKind.u8.wrap (b7 - (48 : Int)))))) > b4)) then
              q107 b4
            else
              q6 b0 b1 b2 b3 b4 b5 (IntKind.u64.wrap ((IntKind.u64.wrap (b6 * (IntKind.u64.wrap b0))) + (IntKind.u64.wrap (IntKind.u8.wrap (b7 - (48 : Int)))))) b8 b9 (IntKind.i64.wrap (b10 + (1 : Int)))))))
    else
      q89 b0 b1 b2 b3 b4 b5 b6 b7 b8 b9 b10)
  else
    q89 b0 b1 b2 b3 b4 b5 b6 b7 b8 b9 b10)
def e117 (_k : Nat) (_q43 : ByteArray → Int → Int → Bool → ByteArray → Option (Int × Unit)) (_q15 : ByteArray → Int → Int → Bool → ByteArray → Option (Int × Unit)) (_q51 : ByteArray → Int → Int → Bool → ByteArray → Option (Int × Unit)) (_q49 : Unit → Option (Int × Unit)) (_q31 : ByteArray → Int → Bool → ByteArray → Option (Int × Unit)) (_q65 : ByteArray → Int → Int → Bool → ByteArray → Int → Option (Int × Unit)) (_q37 : ByteArray → Int → Bool → ByteArray → Option (Int × Unit)) (_q6 : Int → Bool → ByteArray → Int → Int → Bool → Int → (List Int) → Int → Int → Option (Int × Unit)) (_q21 : ByteArray → Int → Bool → ByteArray → Option (Int × Unit)) (_q85 : Int → Bool → ByteArray → Int → Int → Bool → Int → Int → (List Int) → Int → Int → Option (Int × Unit)) (_q117 : Int → Option (Int × Unit)) (_q107 : Int → Option (Int × Unit)) (_q89 : Int → Bool → ByteArray → Int → Int → Bool → Int → Int → (List Int) → Int → Int → Option (Int × Unit)) (_q79 : Unit → Option (Int × Unit)) (b0 : Int) : Option (Int × Unit) :=
  (some (b0, ()))
def e107 (_k : Nat) (_q43 : ByteArray → Int → Int → Bool → ByteArray → Option (Int × Unit)) (_q15 : ByteArray → Int → Int → Bool → ByteArray → Option (Int × Unit)) (_q51 : ByteArray → Int → Int → Bool → ByteArray → Option (Int × Unit)) (_q49 : Unit → Option (Int × Unit)) (_q31 : ByteArray → Int → Bool → ByteArray → Option (Int × Unit)) (_q65 : ByteArray → Int → Int → Bool → ByteArray → Int → Option (Int × Unit)) (_q37 : ByteArray → Int → Bool → ByteArray → Option (Int × Unit)) (_q6 : Int → Bool → ByteArray → Int → Int → Bool → Int → (List Int) → Int → Int → Option (Int × Unit)) (_q21 : ByteArray → Int → Bool → ByteArray → Option (Int × Unit)) (_q85 : Int → Bool → ByteArray → Int → Int → Bool → Int → Int → (List Int) → Int → Int → Option (Int × Unit)) (_q117 : Int → Option (Int × Unit)) (_q107 : Int → Option (Int × Unit)) (_q89 : Int → Bool → ByteArray → Int → Int → Bool → Int → Int → (List Int) → Int → Int → Option (Int × Unit)) (_q79 : Unit → Option (Int × Unit)) (_b0 : Int) : Option (Int × Unit) :=
  none
def e89 (k : Nat) (_q43 : ByteArray → Int → Int → Bool → ByteArray → Option (Int × Unit)) (_q15 : ByteArray → Int → Int → Bool → ByteArray → Option (Int × Unit)) (_q51 : ByteArray → Int → Int → Bool → ByteArray → Option (Int × Unit)) (_q49 : Unit → Option (Int × Unit)) (_q31 : ByteArray → Int → Bool → ByteArray → Option (Int × Unit)) (_q65 : ByteArray → Int → Int → Bool → ByteArray → Int → Option (Int × Unit)) (_q37 : ByteArray → Int → Bool → ByteArray → Option (Int × Unit)) (q6 : Int → Bool → ByteArray → Int → Int → Bool → Int → (List Int) → Int → Int → Option (Int × Unit)) (_q21 : ByteArray → Int → Bool → ByteArray → Option (Int × Unit)) (_q85 : Int → Bool → ByteArray → Int → Int → Bool → Int → Int → (List Int) → Int → Int → Option (Int × Unit)) (_q117 : Int → Option (Int × Unit)) (q107 : Int → Option (Int × Unit)) (_q89 : Int → Bool → ByteArray → Int → Int → Bool → Int → Int → (List Int) → Int → Int → Option (Int × Unit)) (q79 : Unit → Option (Int × Unit)) (b0 : Int) (b1 : Bool) (b2 : ByteArray) (b3 : Int) (b4 : Int) (b5 : Bool) (b6 : Int) (b7 : Int) (b8 : (List Int)) (b9 : Int) (b10 : Int) : Option (Int × Unit) :=
  (Option.bind (intconv_lower.f k b7) fun r5 =>
    (bif (decide ((97 : Int) ≤ r5)) then
      (Option.bind (intconv_lower.f k b7) fun r6 =>
        (bif (decide (r6 ≤ (122 : Int))) then
          (Option.bind (intconv_lower.f k b7) fun r7 =>
            (bif (decide ((IntKind.u8.wrap ((IntKind.u8.wrap (r7 - (97 : Int))) + (10 : Int))) ≥ (IntKind.u8.wrap b0))) then
              none
            else
              (bif (decide (b6 ≥ b3)) then
                none
              else
                (bif (decide ((IntKind.u64.wrap ((IntKind.u64.wrap (b6 * (IntKind.u64.wrap b0))) + (IntKind.u64.wrap (IntKind.u8.wrap ((IntKind.u8.wrap (r7 - (97 : Int))) + (10 : Int)))))) < (IntKind.u64.wrap (b6 * (IntKind.u64.wrap b0))))) then
                  q107 b4
                else
                  (bif (decide ((IntKind.u64.wrap ((IntKind.u64.wrap (b6 * (IntKind.u64.wrap b0))) + (IntKind.u64.wrap (IntKind.u8.wrap ((IntKind.u8.wrap (r7 - (97 : Int))) + (10 : Int)))))) > b4)) then
                    q107 b4
                  else
                    q6 b0 b1 b2 b3 b4 b5 (IntKind.u64.wrap ((IntKind.u64.wrap (b6 * (IntKind.u64.wrap b0))) + (IntKind.u64.wrap (IntKind.u8.wrap ((IntKind.u8.wrap (r7 - (97 : Int))) + (10 : Int)))))) b8 b9 (IntKind.i64.wrap (b10 + (1 : Int))))))))
        else
          q79 ()))
    else
      q79 ()))
def e79 (_k : Nat) (_q43 : ByteArray → Int → Int → Bool → ByteArray → Option (Int × Unit)) (_q15 : ByteArray → Int → Int → Bool → ByteArray → Option (Int × Unit)) (_q51 : ByteArray → Int → Int → Bool → ByteArray → Option (Int × Unit)) (_q49 : Unit → Option (Int × Unit)) (_q31 : ByteArray → Int → Bool → ByteArray → Option (Int × Unit)) (_q65 : ByteArray → Int → Int → Bool → ByteArray → Int → Option (Int × Unit)) (_q37 : ByteArray → Int → Bool → ByteArray → Option (Int × Unit)) (_q6 : Int → Bool → ByteArray → Int → Int → Bool → Int → (List Int) → Int → Int → Option (Int × Unit)) (_q21 : ByteArray → Int → Bool → ByteArray → Option (Int × Unit)) (_q85 : Int → Bool → ByteArray → Int → Int → Bool → Int → Int → (List Int) → Int → Int → Option (Int × Unit)) (_q117 : Int → Option (Int × Unit)) (_q107 : Int → Option (Int × Unit)) (_q89 : Int → Bool → ByteArray → Int → Int → Bool → Int → Int → (List Int) → Int → Int → Option (Int × Unit)) (_q79 : Unit → Option (Int × Unit)) (_ : Unit) : Option (Int × Unit) :=
  none
def e (_k : Nat) (q43 : ByteArray → Int → Int → Bool → ByteArray → Option (Int × Unit)) (q15 : ByteArray → Int → Int → Bool → ByteArray → Option (Int × Unit)) (_q51 : ByteArray → Int → Int → Bool → ByteArray → Option (Int × Unit)) (_q49 : Unit → Option (Int × Unit)) (_q31 : ByteArray → Int → Bool → ByteArray → Option (Int × Unit)) (_q65 : ByteArray → Int → Int → Bool → ByteArray → Int → Option (Int × Unit)) (_q37 : ByteArray → Int → Bool → ByteArray → Option (Int × Unit)) (_q6 : Int → Bool → ByteArray → Int → Int → Bool → Int → (List Int) → Int → Int → Option (Int × Unit)) (_q21 : ByteArray → Int → Bool → ByteArray → Option (Int × Unit)) (_q85 : Int → Bool → ByteArray → Int → Int → Bool → Int → Int → (List Int) → Int → Int → Option (Int × Unit)) (_q117 : Int → Option (Int × Unit)) (_q107 : Int → Option (Int × Unit)) (_q89 : Int → Bool → ByteArray → Int → Int → Bool → Int → Int → (List Int) → Int → Int → Option (Int × Unit)) (_q79 : Unit → Option (Int × Unit)) (a0 : ByteArray) (a1 : Int) (a2 : Int) : Option (Int × Unit) :=
  (bif (a0.toList == (ByteArray.mk #[]).toList) then
    none
  else
    (bif (decide ((2 : Int) ≤ a1)) then
      (bif (decide (a1 ≤ (36 : Int))) then
        q43 a0 a1 a2 (decide (a1 = (0 : Int))) a0
      else
        q15 a0 a1 a2 (decide (a1 = (0 : Int))) a0)
    else
      q15 a0 a1 a2 (decide (a1 = (0 : Int))) a0))
def pts : Nat → (ByteArray → Int → Int → Bool → ByteArray → Option (Int × Unit)) × (ByteArray → Int → Int → Bool → ByteArray → Option (Int × Unit)) × (ByteArray → Int → Int → Bool → ByteArray → Option (Int × Unit)) × (Unit → Option (Int × Unit)) × (ByteArray → Int → Bool → ByteArray → Option (Int × Unit)) × (ByteArray → Int → Int → Bool → ByteArray → Int → Option (Int × Unit)) × (ByteArray → Int → Bool → ByteArray → Option (Int × Unit)) × (Int → Bool → ByteArray → Int → Int → Bool → Int → (List Int) → Int → Int → Option (Int × Unit)) × (ByteArray → Int → Bool → ByteArray → Option (Int × Unit)) × (Int → Bool → ByteArray → Int → Int → Bool → Int → Int → (List Int) → Int → Int → Option (Int × Unit)) × (Int → Option (Int × Unit)) × (Int → Option (Int × Unit)) × (Int → Bool → ByteArray → Int → Int → Bool → Int → Int → (List Int) → Int → Int → Option (Int × Unit)) × (Unit → Option (Int × Unit))
  | 0 => (fun _ _ _ _ _ => none, fun _ _ _ _ _ => none, fun _ _ _ _ _ => none, fun _ => none, fun _ _ _ _ => none, fun _ _ _ _ _ _ => none, fun _ _ _ _ => none, fun _ _ _ _ _ _ _ _ _ _ => none, fun _ _ _ _ => none, fun _ _ _ _ _ _ _ _ _ _ _ => none, fun _ => none, fun _ => none, fun _ _ _ _ _ _ _ _ _ _ _ => none, fun _ => none)
  | k + 1 => (e43 k (pts k).1 (pts k).2.1 (pts k).2.2.1 (pts k).2.2.2.1 (pts k).2.2.2.2.1 (pts k).2.2.2.2.2.1 (pts k).2.2.2.2.2.2.1 (pts k).2.2.2.2.2.2.2.1 (pts k).2.2.2.2.2.2.2.2.1 (pts k).2.2.2.2.2.2.2.2.2.1 (pts k).2.2.2.2.2.2.2.2.2.2.1 (pts k).2.2.2.2.2.2.2.2.2.2.2.1 (pts k).2.2.2.2.2.2.2.2.2.2.2.2.1 (pts k).2.2.2.2.2.2.2.2.2.2.2.2.2, e15 k (pts k).1 (pts k).2.1 (pts k).2.2.1 (pts k).2.2.2.1 (pts k).2.2.2.2.1 (pts k).2.2.2.2.2.1 (pts k).2.2.2.2.2.2.1 (pts k).2.2.2.2.2.2.2.1 (pts k).2.2.2.2.2.2.2.2.1 (pts k).2.2.2.2.2.2.2.2.2.1 (pts k).2.2.2.2.2.2.2.2.2.2.1 (pts k).2.2.2.2.2.2.2.2.2.2.2.1 (pts k).2.2.2.2.2.2.2.2.2.2.2.2.1 (pts k).2.2.2.2.2.2.2.2.2.2.2.2.2, e51 k (pts k).1 (pts k).2.1 (pts k).2.2.1 (pts k).2.2.2.1 (pts k).2.2.2.2.1 (pts k).2.2.2.2.2.1 (pts k).2.2.2.2.2.2.1 (pts k).2.2.2.2.2.2.2.1 (pts k).2.2.2.2.2.2.2.2.1 (pts k).2.2.2.2.2.2.2.2.2.1 (pts k).2.2.2.2.2.2.2.2.2.2.1 (pts k).2.2.2.2.2.2.2.2.2.2.2.1 (pts k).2.2.2.2.2.2.2.2.2.2.2.2.1 (pts k).2.2.2.2.2.2.2.2.2.2.2.2.2, e49 k (pts k).1 (pts k).2.1 (pts k).2.2.1 (pts k).2.2.2.1 (pts k).2.2.2.2.1 (pts k).2.2.2.2.2.1 (pts k).2.2.2.2.2.2.1 (pts k).2.2.2.2.2.2.2.1 (pts k).2.2.2.2.2.2.2.2.1 (pts k).2.2.2.2.2.2.2.2.2.1 (pts k).2.2.2.2.2.2.2.2.2.2.1 (pts k).2.2.2.2.2.2.2.2.2.2.2.1 (pts k).2.2.2.2.2.2.2.2.2.2.2.2.1 (pts k).2.2.2.2.2.2.2.2.2.2.2.2.2, e31 k (pts k).1 (pts k).2.1 (pts k).2.2.1 (pts k).2.2.2.1 (pts k).2.2.2.2.1 (pts k).2.2.2.2.2.1 (pts k).2.2.2.2.2.2.1 (pts k).2.2.2.2.2.2.2.1 (pts k).2.2.2.2.2.2.2.2.1 (pts k).2.2.2.2.2.2.2.2.2.1 (pts k).2.2.2.2.2.2.2.2.2.2.1 (pts k).2.2.2.2.2.2.2.2.2.2.2.1 (pts k).2.2.2.2.2.2.2.2.2.2.2.2.1 (pts k).2.2.2.2.2.2.2.2.2.2.2.2.2, e65 k (pts k).1 (pts k).2.1 (pts k).2.2.1 (pts k).2.2.2.1 (pts k).2.2.2.2.1 (pts k).2.2.2.2.2.1 (pts k).2.2.2.2.2.2.1 (pts k).2.2.2.2.2.2.2.1 (pts k).2.2.2.2.2.2.2.2.1 (pts k).2.2.2.2.2.2.2.2.2.1 (pts k).2.2.2.2.2.2.2.2.2.2.1 (pts k).2.2.2.2.2.2.2.2.2.2.2.1 (pts k).2.2.2.2.2.2.2.2.2.2.2.2.1 (pts k).2.2.2.2.2.2.2.2.2.2.2.2.2, e37 k (pts k).1 (pts k).2.1 (pts k).2.2.1 (pts k).2.2.2.1 (pts k).2.2.2.2.1 (pts k).2.2.2.2.2.1 (pts k).2.2.2.2.2.2.1 (pts k).2.2.2.2.2.2.2.1 (pts k).2.2.2.2.2.2.2.2.1 (pts k).2.2.2.2.2.2.2.2.2.1 (pts k).2.2.2.2.2.2.2.2.2.2.1 (pts k).2.2.2.2.2.2.2.2.2.2.2.1 (pts k).2.2.2.2.2.2.2.2.2.2.2.2.1 (pts k).2.2.2.2.2.2.2.2.2.2.2.2.2, e6 k (pts k).1 (pts k).2.1 (pts k).2.2.1 (pts k).2.2.2.1 (pts k).2.2.2.2.1 (pts k).2.2.2.2.2.1 (pts k).2.2.2.2.2.2.1 (pts k).2.2.2.2.2.2.2.1 (pts k).2.2.2.2.2.2.2.2.1 (pts k).2.2.2.2.2.2.2.2.2.1 (pts k).2.2.2.2.2.2.2.2.2.2.1 (pts k).2.2.2.2.2.2.2.2.2.2.2.1 (pts k).2.2.2.2.2.2.2.2.2.2.2.2.1 (pts k).2.2.2.2.2.2.2.2.2.2.2.2.2, e21 k (pts k).1 (pts k).2.1 (pts k).2.2.1 (pts k).2.2.2.1 (pts k).2.2.2.2.1 (pts k).2.2.2.2.2.1 (pts k).2.2.2.2.2.2.1 (pts k).2.2.2.2.2.2.2.1 (pts k).2.2.2.2.2.2.2.2.1 (pts k).2.2.2.2.2.2.2.2.2.1 (pts k).2.2.2.2.2.2.2.2.2.2.1 (pts k).2.2.2.2.2.2.2.2.2.2.2.1 (pts k).2.2.2.2.2.2.2.2.2.2.2.2.1 (pts k).2.2.2.2.2.2.2.2.2.2.2.2.2, e85 k (pts k).1 (pts k).2.1 (pts k).2.2.1 (pts k).2.2.2.1 (pts k).2.2.2.2.1 (pts k).2.2.2.2.2.1 (pts k).2.2.2.2.2.2.1 (pts k).2.2.2.2.2.2.2.1 (pts k).2.2.2.2.2.2.2.2.1 (pts k).2.2.2.2.2.2.2.2.2.1 (pts k).2.2.2.2.2.2.2.2.2.2.1 (pts k).2.2.2.2.2.2.2.2.2.2.2.1 (pts k).2.2.2.2.2.2.2.2.2.2.2.2.1 (pts k).2.2.2.2.2.2.2.2.2.2.2.2.2, e117 k (pts k).1 (pts k).2.1 (pts k).2.2.1 (pts k).2.2.2.1 (pts k).2.2.2.2.1 (pts k).2.2.2.2.2.1 (pts k).2.2.2.2.2.2.1 (pts k).2.2.2.2.2.2.2.1 (pts k).2.2.2.2.2.2.2.2.1 (pts k).2.2.2.2.2.2.2.2.2.1 (pts k).2.2.2.2.2.2.2.2.2.2.1 (pts k).2.2.2.2.2.2.2.2.2.2.2.1 (pts k).2.2.2.2.2.2.2.2.2.2.2.2.1 (pts k).2.2.2.2.2.2.2.2.2.2.2.2.2, e107 k (pts k).1 (pts k).2.1 (pts k).2.2.1 (pts k).2.2.2.1 (pts k).2.2.2.2.1 (pts k).2.2.2.2.2.1 (pts k).2.2.2.2.2.2.1 (pts k).2.2.2.2.2.2.2.1 (pts k).2.2.2.2.2.2.2.2.1 (pts k).2.2.2.2.2.2.2.2.2.1 (pts k).2.2.2.2.2.2.2.2.2.2.1 (pts k).2.2.2.2.2.2.2.2.2.2.2.1 (pts k).2.2.2.2.2.2.2.2.2.2.2.2.1 (pts k).2.2.2.2.2.2.2.2.2.2.2.2.2, e89 k (pts k).1 (pts k).2.1 (pts k).2.2.1 (pts k).2.2.2.1 (pts k).2.2.2.2.1 (pts k).2.2.2.2.2.1 (pts k).2.2.2.2.2.2.1 (pts k).2.2.2.2.2.2.2.1 (pts k).2.2.2.2.2.2.2.2.1 (pts k).2.2.2.2.2.2.2.2.2.1 (pts k).2.2.2.2.2.2.2.2.2.2.1 (pts k).2.2.2.2.2.2.2.2.2.2.2.1 (pts k).2.2.2.2.2.2.2.2.2.2.2.2.1 (pts k).2.2.2.2.2.2.2.2.2.2.2.2.2, e79 k (pts k).1 (pts k).2.1 (pts k).2.2.1 (pts k).2.2.2.1 (pts k).2.2.2.2.1 (pts k).2.2.2.2.2.1 (pts k).2.2.2.2.2.2.1 (pts k).2.2.2.2.2.2.2.1 (pts k).2.2.2.2.2.2.2.2.1 (pts k).2.2.2.2.2.2.2.2.2.1 (pts k).2.2.2.2.2.2.2.2.2.2.1 (pts k).2.2.2.2.2.2.2.2.2.2.2.1 (pts k).2.2.2.2.2.2.2.2.2.2.2.2.1 (pts k).2.2.2.2.2.2.2.2.2.2.2.2.2)
def p43 (k : Nat) : ByteArray → Int → Int → Bool → ByteArray → Option (Int × Unit) := (pts k).1
def p15 (k : Nat) : ByteArray → Int → Int → Bool → ByteArray → Option (Int × Unit) := (pts k).2.1
def p51 (k : Nat) : ByteArray → Int → Int → Bool → ByteArray → Option (Int × Unit) := (pts k).2.2.1
def p49 (k : Nat) : Unit → Option (Int × Unit) := (pts k).2.2.2.1
def p31 (k : Nat) : ByteArray → Int → Bool → ByteArray → Option (Int × Unit) := (pts k).2.2.2.2.1
def p65 (k : Nat) : ByteArray → Int → Int → Bool → ByteArray → Int → Option (Int × Unit) := (pts k).2.2.2.2.2.1
def p37 (k : Nat) : ByteArray → Int → Bool → ByteArray → Option (Int × Unit) := (pts k).2.2.2.2.2.2.1
def p6 (k : Nat) : Int → Bool → ByteArray → Int → Int → Bool → Int → (List Int) → Int → Int → Option (Int × Unit) := (pts k).2.2.2.2.2.2.2.1
def p21 (k : Nat) : ByteArray → Int → Bool → ByteArray → Option (Int × Unit) := (pts k).2.2.2.2.2.2.2.2.1
def p85 (k : Nat) : Int → Bool → ByteArray → Int → Int → Bool → Int → Int → (List Int) → Int → Int → Option (Int × Unit) := (pts k).2.2.2.2.2.2.2.2.2.1
def p117 (k : Nat) : Int → Option (Int × Unit) := (pts k).2.2.2.2.2.2.2.2.2.2.1
def p107 (k : Nat) : Int → Option (Int × Unit) := (pts k).2.2.2.2.2.2.2.2.2.2.2.1
def p89 (k : Nat) : Int → Bool → ByteArray → Int → Int → Bool → Int → Int → (List Int) → Int → Int → Option (Int × Unit) := (pts k).2.2.2.2.2.2.2.2.2.2.2.2.1
def p79 (k : Nat) : Unit → Option (Int × Unit) := (pts k).2.2.2.2.2.2.2.2.2.2.2.2.2
theorem p43_succ (k : Nat) (x0 : ByteArray) (x1 : Int) (x2 : Int) (x3 : Bool) (x4 : ByteArray) : p43 (k + 1) x0 x1 x2 x3 x4 = e43 k (p43 k) (p15 k) (p51 k) (p49 k) (p31 k) (p65 k) (p37 k) (p6 k) (p21 k) (p85 k) (p117 k) (p107 k) (p89 k) (p79 k) x0 x1 x2 x3 x4 := rfl
theorem p15_succ (k : Nat) (x0 : ByteArray) (x1 : Int) (x2 : Int) (x3 : Bool) (x4 : ByteArray) : p15 (k + 1) x0 x1 x2 x3 x4 = e15 k (p43 k) (p15 k) (p51 k) (p49 k) (p31 k) (p65 k) (p37 k) (p6 k) (p21 k) (p85 k) (p117 k) (p107 k) (p89 k) (p79 k) x0 x1 x2 x3 x4 := rfl
theorem p51_succ (k : Nat) (x0 : ByteArray) (x1 : Int) (x2 : Int) (x3 : Bool) (x4 : ByteArray) : p51 (k + 1) x0 x1 x2 x3 x4 = e51 k (p43 k) (p15 k) (p51 k) (p49 k) (p31 k) (p65 k) (p37 k) (p6 k) (p21 k) (p85 k) (p117 k) (p107 k) (p89 k) (p79 k) x0 x1 x2 x3 x4 := rfl
theorem p49_succ (k : Nat) (x0 : Unit) : p49 (k + 1) x0 = e49 k (p43 k) (p15 k) (p51 k) (p49 k) (p31 k) (p65 k) (p37 k) (p6 k) (p21 k) (p85 k) (p117 k) (p107 k) (p89 k) (p79 k) x0 := rfl
theorem p31_succ (k : Nat) (x0 : ByteArray) (x1 : Int) (x2 : Bool) (x3 : ByteArray) : p31 (k + 1) x0 x1 x2 x3 = e31 k (p43 k) (p15 k) (p51 k) (p49 k) (p31 k) (p65 k) (p37 k) (p6 k) (p21 k) (p85 k) (p117 k) (p107 k) (p89 k) (p79 k) x0 x1 x2 x3 := rfl
theorem p65_succ (k : Nat) (x0 : ByteArray) (x1 : Int) (x2 : Int) (x3 : Bool) (x4 : ByteArray) (x5 : Int) : p65 (k + 1) x0 x1 x2 x3 x4 x5 = e65 k (p43 k) (p15 k) (p51 k) (p49 k) (p31 k) (p65 k) (p37 k) (p6 k) (p21 k) (p85 k) (p117 k) (p107 k) (p89 k) (p79 k) x0 x1 x2 x3 x4 x5 := rfl
theorem p37_succ (k : Nat) (x0 : ByteArray) (x1 : Int) (x2 : Bool) (x3 : ByteArray) : p37 (k + 1) x0 x1 x2 x3 = e37 k (p43 k) (p15 k) (p51 k) (p49 k) (p31 k) (p65 k) (p37 k) (p6 k) (p21 k) (p85 k) (p117 k) (p107 k) (p89 k) (p79 k) x0 x1 x2 x3 := rfl
theorem p6_succ (k : Nat) (x0 : Int) (x1 : Bool) (x2 : ByteArray) (x3 : Int) (x4 : Int) (x5 : Bool) (x6 : Int) (x7 : (List Int)) (x8 : Int) (x9 : Int) : p6 (k + 1) x0 x1 x2 x3 x4 x5 x6 x7 x8 x9 = e6 k (p43 k) (p15 k) (p51 k) (p49 k) (p31 k) (p65 k) (p37 k) (p6 k) (p21 k) (p85 k) (p117 k) (p107 k) (p89 k) (p79 k) x0 x1 x2 x3 x4 x5 x6 x7 x8 x9 := rfl
theorem p21_succ (k : Nat) (x0 : ByteArray) (x1 : Int) (x2 : Bool) (x3 : ByteArray) : p21 (k + 1) x0 x1 x2 x3 = e21 k (p43 k) (p15 k) (p51 k) (p49 k) (p31 k) (p65 k) (p37 k) (p6 k) (p21 k) (p85 k) (p117 k) (p107 k) (p89 k) (p79 k) x0 x1 x2 x3 := rfl
theorem p85_succ (k : Nat) (x0 : Int) (x1 : Bool) (x2 : ByteArray) (x3 : Int) (x4 : Int) (x5 : Bool) (x6 : Int) (x7 : Int) (x8 : (List Int)) (x9 : Int) (x10 : Int) : p85 (k + 1) x0 x1 x2 x3 x4 x5 x6 x7 x8 x9 x10 = e85 k (p43 k) (p15 k) (p51 k) (p49 k) (p31 k) (p65 k) (p37 k) (p6 k) (p21 k) (p85 k) (p117 k) (p107 k) (p89 k) (p79 k) x0 x1 x2 x3 x4 x5 x6 x7 x8 x9 x10 := rfl
theorem p117_succ (k : Nat) (x0 : Int) : p117 (k + 1) x0 = e117 k (p43 k) (p15 k) (p51 k) (p49 k) (p31 k) (p65 k) (p37 k) (p6 k) (p21 k) (p85 k) (p117 k) (p107 k) (p89 k) (p79 k) x0 := rfl
theorem p107_succ (k : Nat) (x0 : Int) : p107 (k + 1) x0 = e107 k (p43 k) (p15 k) (p51 k) (p49 k) (p31 k) (p65 k) (p37 k) (p6 k) (p21 k) (p85 k) (p117 k) (p107 k) (p89 k) (p79 k) x0 := rfl
theorem p89_succ (k : Nat) (x0 : Int) (x1 : Bool) (x2 : ByteArray) (x3 : Int) (x4 : Int) (x5 : Bool) (x6 : Int) (x7 : Int) (x8 : (List Int)) (x9 : Int) (x10 : Int) : p89 (k + 1) x0 x1 x2 x3 x4 x5 x6 x7 x8 x9 x10 = e89 k (p43 k) (p15 k) (p51 k) (p49 k) (p31 k) (p65 k) (p37 k) (p6 k) (p21 k) (p85 k) (p117 k) (p107 k) (p89 k) (p79 k) x0 x1 x2 x3 x4 x5 x6 x7 x8 x9 x10 := rfl
theorem p79_succ (k : Nat) (x0 : Unit) : p79 (k + 1) x0 = e79 k (p43 k) (p15 k) (p51 k) (p49 k) (p31 k) (p65 k) (p37 k) (p6 k) (p21 k) (p85 k) (p117 k) (p107 k) (p89 k) (p79 k) x0 := rfl
def f (k : Nat) (a0 : ByteArray) (a1 : Int) (a2 : Int) : Option (Int × Unit) := e k (p43 k) (p15 k) (p51 k) (p49 k) (p31 k) (p65 k) (p37 k) (p6 k) (p21 k) (p85 k) (p117 k) (p107 k) (p89 k) (p79 k) a0 a1 a2
end intconv_ParseUint

namespace intconv_ParseInt
def e21 (k : Nat) (_q21 : ByteArray → Int → Int → Bool → Option (Int × Unit)) (q33 : Int → Bool → Int → Option (Int × Unit)) (_q39 : Bool → Int → Int → Option (Int × Unit)) (_q43 : Bool → Int → Option (Int × Unit)) (_q49 : Int → Option (Int × Unit)) (b0 : ByteArray) (b1 : Int) (b2 : Int) (b3 : Bool) : Option (Int × Unit) :=
  (Option.bind (intconv_ParseUint.f k b0 b1 b2) fun r1 =>
    (bif (decide (b2 = (0 : Int))) then
      q33 (64 : Int) b3 r1.1
    else
      q33 b2 b3 r1.1))
def e33 (_k : Nat) (_q21 : ByteArray → Int → Int → Bool → Option (Int × Unit)) (_q33 : Int → Bool → Int → Option (Int × Unit)) (q39 : Bool → Int → Int → Option (Int × Unit)) (_q43 : Bool → Int → Option (Int × Unit)) (_q49 : Int → Option (Int × Unit)) (b0 : Int) (b1 : Bool) (b2 : Int) : Option (Int × Unit) :=
  (bif (decide ((IntKind.u64.wrap (IntKind.i64.wrap (b0 - (1 : Int)))) < 0)) then
    none
  else
    (bif (!b1) then
      (bif (decide (b2 ≥ (IntKind.u64.wrap ((1 : Int) * 2 ^ min (Int.toNat (IntKind.u64.wrap (IntKind.i64.wrap (b0 - (1 : Int))))) 64)))) then
        none
      else
        q39 b1 b2 (IntKind.u64.wrap ((1 : Int) * 2 ^ min (Int.toNat (IntKind.u64.wrap (IntKind.i64.wrap (b0 - (1 : Int))))) 64)))
    else
      q39 b1 b2 (IntKind.u64.wrap ((1 : Int) * 2 ^ min (Int.toNat (IntKind.u64.wrap (IntKind.i64.wrap (b0 - (1 : Int))))) 64))))
def e39 (_k : Nat) (_q21 : ByteArray → Int → Int → Bool → Option (Int × Unit)) (_q33 : Int → Bool → Int → Option (Int × Unit)) (_q39 : Bool → Int → Int → Option (Int × Unit)) (q43 : Bool → Int → Option (Int × Unit)) (_q49 : Int → Option (Int × Unit)) (b0 : Bool) (b1 : Int) (b2 : Int) : Option (Int × Unit) :=
  (bif b0 then
    (bif (decide (b1 > b2)) then
      none
    else
      q43 b0 b1)
  else
    q43 b0 b1)
def e43 (_k : Nat) (_q21 : ByteArray → Int → Int → Bool → Option (Int × Unit)) (_q33 : Int → Bool → Int → Option (Int × Unit)) (_q39 : Bool → Int → Int → Option (Int × Unit)) (_q43 : Bool → Int → Option (Int × Unit)) (q49 : Int → Option (Int × Unit)) (b0 : Bool) (b1 : Int) : Option (Int × Unit) :=
  (bif b0 then
    q49 (IntKind.i64.wrap (0 - (IntKind.i64.wrap b1)))
  else
    q49 (IntKind.i64.wrap b1))
def e49 (_k : Nat) (_q21 : ByteArray → Int → Int → Bool → Option (Int × Unit)) (_q33 : Int → Bool → Int → Option (Int × Unit)) (_q39 : Bool → Int → Int → Option (Int × Unit)) (_q43 : Bool → Int → Option (Int × Unit)) (_q49 : Int → Option (Int × Unit)) (b0 : Int) : Option (Int × Unit) :=
  (some (b0, ()))
def e (_k : Nat) (q21 : ByteArray → Int → Int → Bool → Option (Int × Unit)) (_q33 : Int → Bool → Int → Option (Int × Unit)) (_q39 : Bool → Int → Int → Option (Int × Unit)) (_q43 : Bool → Int → Option (Int × Unit)) (_q49 : Int → Option (Int × Unit)) (a0 : ByteArray) (a1 : Int) (a2 : Int) : Option (Int × Unit) :=
  (bif (a0.toList == (ByteArray.mk #[]).toList) then
    none
  else
    (bif (decide ((0 : Int) < (a0.size : Int))) then
      (bif (decide ((btI a0 (0 : Int)) = (43 : Int))) then
        (bif (decide (0 ≤ (1 : Int)) && decide ((1 : Int) ≤ (a0.size : Int)) && decide ((a0.size : Int) ≤ (a0.size : Int))) then
          q21 (a0.extract (Int.toNat (1 : Int)) (Int.toNat (a0.size : Int))) a1 a2 false
        else
          none)
      else
        (bif (decide ((btI a0 (0 : Int)) = (45 : Int))) then
          (bif (decide (0 ≤ (1 : Int)) && decide ((1 : Int) ≤ (a0.size : Int)) && decide ((a0.size : Int) ≤ (a0.size : Int))) then
            q21 (a0.extract (Int.toNat (1 : Int)) (Int.toNat (a0.size : Int))) a1 a2 true
          else
            none)
        else
          q21 a0 a1 a2 false))
    else
      none))
def pts : Nat → (ByteArray → Int → Int → Bool → Option (Int × Unit)) × (Int → Bool → Int → Option (Int × Unit)) × (Bool → Int → Int → Option (Int × Unit)) × (Bool → Int → Option (Int × Unit)) × (Int → Option (Int × Unit))
  | 0 => (fun _ _ _ _ => none, fun _ _ _ => none, fun _ _ _ => none, fun _ _ => none, fun _ => none)
  | k + 1 => (e21 k (pts k).1 (pts k).2.1 (pts k).2.2.1 (pts k).2.2.2.1 (pts k).2.2.2.2, e33 k (pts k).1 (pts k).2.1 (pts k).2.2.1 (pts k).2.2.2.1 (pts k).2.2.2.2, e39 k (pts k).1 (pts k).2.1 (pts k).2.2.1 (pts k).2.2.2.1 (pts k).2.2.2.2, e43 k (pts k).1 (pts k).2.1 (pts k).2.2.1 (pts k).2.2.2.1 (pts k).2.2.2.2, e49 k (pts k).1 (pts k).2.1 (pts k).2.2.1 (pts k).2.2.2.1 (pts k).2.2.2.2)
def p21 (k : Nat) : ByteArray → Int → Int → Bool → Option (Int × Unit) := (pts k).1
def p33 (k : Nat) : Int → Bool → Int → Option (Int × Unit) := (pts k).2.1
def p39 (k : Nat) : Bool → Int → Int → Option (Int × Unit) := (pts k).2.2.1
def p43 (k : Nat) : Bool → Int → Option (Int × Unit) := (pts k).2.2.2.1
def p49 (k : Nat) : Int → Option (Int × Unit) := (pts k).2.2.2.2
theorem p21_succ (k : Nat) (x0 : ByteArray) (x1 : Int) (x2 : Int) (x3 : Bool) : p21 (k + 1) x0 x1 x2 x3 = e21 k (p21 k) (p33 k) (p39 k) (p43 k) (p49 k) x0 x1 x2 x3 := rfl
theorem p33_succ (k : Nat) (x0 : Int) (x1 : Bool) (x2 : Int) : p33 (k + 1) x0 x1 x2 = e33 k (p21 k) (p33 k) (p39 k) (p43 k) (p49 k) x0 x1 x2 := rfl
theorem p39_succ (k : Nat) (x0 : Bool) (x1 : Int) (x2 : Int) : p39 (k + 1) x0 x1 x2 = e39 k (p21 k) (p33 k) (p39 k) (p43 k) (p49 k) x0 x1 x2 := rfl
theorem p43_succ (k : Nat) (x0 : Bool) (x1 : Int) : p43 (k + 1) x0 x1 = e43 k (p21 k) (p33 k) (p39 k) (p43 k) (p49 k) x0 x1 := rfl
theorem p49_succ (k : Nat) (x0 : Int) : p49 (k + 1) x0 = e49 k (p21 k) (p33 k) (p39 k) (p43 k) (p49 k) x0 := rfl
def f (k : Nat) (a0 : ByteArray) (a1 : Int) (a2 : Int) : Option (Int × Unit) := e k (p21 k) (p33 k) (p39 k) (p43 k) (p49 k) a0 a1 a2
end intconv_ParseInt

namespace intconv_Atoi
def e11 (_k : Nat) (_q11 : ByteArray → ByteArray → Option (Int × Unit)) (q0 : ByteArray → Int → (List Int) → Int → Int → Option (Int × Unit)) (_q41 : ByteArray → Option (Int × Unit)) (_q39 : Int → Option (Int × Unit)) (b0 : ByteArray) (b1 : ByteArray) : Option (Int × Unit) :=
  (bif (decide (0 ≤ (1 : Int)) && decide ((1 : Int) ≤ (b0.size : Int)) && decide ((b0.size : Int) ≤ (b0.size : Int))) then
    (bif (decide (((b0.extract (Int.toNat (1 : Int)) (Int.toNat (b0.size : Int))).size : Int) < (1 : Int))) then
      none
    else
      (bif (decide (((b0.extract (Int.toNat (1 : Int)) (Int.toNat (b0.size : Int))).size : Int) ≤ 9223372036854775807)) then
        q0 b1 (0 : Int) (toB (b0.extract (Int.toNat (1 : Int)) (Int.toNat (b0.size : Int)))) ((toB (b0.extract (Int.toNat (1 : Int)) (Int.toNat (b0.size : Int)))).length : Int) (0 : Int)
      else
        none))
  else
    none)
def e0 (_k : Nat) (_q11 : ByteArray → ByteArray → Option (Int × Unit)) (q0 : ByteArray → Int → (List Int) → Int → Int → Option (Int × Unit)) (_q41 : ByteArray → Option (Int × Unit)) (q39 : Int → Option (Int × Unit)) (b0 : ByteArray) (b1 : Int) (b2 : (List Int)) (b3 : Int) (b4 : Int) : Option (Int × Unit) :=
  (bif (decide (b4 < b3)) then
    (bif (decide (0 ≤ b4) && decide (b4 < (b2.length : Int))) then
      (bif (decide ((IntKind.u8.wrap ((nthD (0 : Int) b2 (Int.toNat b4)) - (48 : Int))) > (9 : Int))) then
        none
      else
        q0 b0 (IntKind.i64.wrap ((IntKind.i64.wrap (b1 * (10 : Int))) + (IntKind.i64.wrap (IntKind.u8.wrap ((nthD (0 : Int) b2 (Int.toNat b4)) - (48 : Int)))))) b2 b3 (IntKind.i64.wrap (b4 + (1 : Int))))
    else
      none)
  else
    (bif (decide ((0 : Int) < (b0.size : Int))) then
      (bif (decide ((btI b0 (0 : Int)) = (45 : Int))) then
        q39 (IntKind.i64.wrap (0 - b1))
      else
        q39 b1)
    else
      none))
def e41 (k : Nat) (_q11 : ByteArray → ByteArray → Option (Int × Unit)) (_q0 : ByteArray → Int → (List Int) → Int → Int → Option (Int × Unit)) (_q41 : ByteArray → Option (Int × Unit)) (_q39 : Int → Option (Int × Unit)) (b0 : ByteArray) : Option (Int × Unit) :=
  (Option.bind (intconv_ParseInt.f k b0 (10 : Int) (0 : Int)) fun r1 =>
    (some (r1.1, r1.2)))
def e39 (_k : Nat) (_q11 : ByteArray → ByteArray → Option (Int × Unit)) (_q0 : ByteArray → Int → (List Int) → Int → Int → Option (Int × Unit)) (_q41 : ByteArray → Option (Int × Unit)) (_q39 : Int → Option (Int × Unit)) (b0 : Int) : Option (Int × Unit) :=
  (some (b0, ()))
def e (_k : Nat) (q11 : ByteArray → ByteArray → Option (Int × Unit)) (q0 : ByteArray → Int → (List Int) → Int → Int → Option (Int × Unit)) (q41 : ByteArray → Option (Int × Unit)) (_q39 : Int → Option (Int × Unit)) (a0 : ByteArray) : Option (Int × Unit) :=
  (bif (decide ((0 : Int) < (a0.size : Int))) then
    (bif (decide ((a0.size : Int) < (19 : Int))) then
      (bif (decide ((0 : Int) < (a0.size : Int))) then
        (bif (decide ((btI a0 (0 : Int)) = (45 : Int))) then
          q11 a0 a0
        else
          (bif (decide ((0 : Int) < (a0.size : Int))) then
            (bif (decide ((btI a0 (0 : Int)) = (43 : Int))) then
              q11 a0 a0
            else
              (bif (decide ((a0.size : Int) ≤ 9223372036854775807)) then
                q0 a0 (0 : Int) (toB a0) ((toB a0).length : Int) (0 : Int)
              else
                none))
          else
            none))
      else
        none)
    else
      q41 a0)
  else
    q41 a0)
def pts : Nat → (ByteArray → ByteArray → Option (Int × Unit)) × (ByteArray → Int → (List Int) → Int → Int → Option (Int × Unit)) × (ByteArray → Option (Int × Unit)) × (Int → Option (Int × Unit))
  | 0 => (fun _ _ => none, fun _ _ _ _ _ => none, fun _ => none, fun _ => none)
  | k + 1 => (e11 k (pts k).1 (pts k).2.1 (pts k).2.2.1 (pts k).2.2.2, e0 k (pts k).1 (pts k).2.1 (pts k).2.2.1 (pts k).2.2.2, e41 k (pts k).1 (pts k).2.1 (pts k).2.2.1 (pts k).2.2.2, e39 k (pts k).1 (pts k).2.1 (pts k).2.2.1 (pts k).2.2.2)
def p11 (k : Nat) : ByteArray → ByteArray → Option (Int × Unit) := (pts k).1
def p0 (k : Nat) : ByteArray → Int → (List Int) → Int → Int → Option (Int × Unit) := (pts k).2.1
def p41 (k : Nat) : ByteArray → Option (Int × Unit) := (pts k).2.2.1
def p39 (k : Nat) : Int → Option (Int × Unit) := (pts k).2.2.2
theorem p11_succ (k : Nat) (x0 : ByteArray) (x1 : ByteArray) : p11 (k + 1) x0 x1 = e11 k (p11 k) (p0 k) (p41 k) (p39 k) x0 x1 := rfl
theorem p0_succ (k : Nat) (x0 : ByteArray) (x1 : Int) (x2 : (List Int)) (x3 : Int) (x4 : Int) : p0 (k + 1) x0 x1 x2 x3 x4 = e0 k (p11 k) (p0 k) (p41 k) (p39 k) x0 x1 x2 x3 x4 := rfl
theorem p41_succ (k : Nat) (x0 : ByteArray) : p41 (k + 1) x0 = e41 k (p11 k) (p0 k) (p41 k) (p39 k) x0 := rfl
theorem p39_succ (k : Nat) (x0 : Int) : p39 (k + 1) x0 = e39 k (p11 k) (p0 k) (p41 k) (p39 k) x0 := rfl
def f (k : Nat) (a0 : ByteArray) : Option (Int × Unit) := e k (p11 k) (p0 k) (p41 k) (p39 k) a0
end intconv_Atoi

namespace stringslite_Clone
def e (_k : Nat) (a0 : ByteArray) : Option ByteArray :=
  (bif (decide ((a0.size : Int) = (0 : Int))) then
    (some (ByteArray.mk #[]))
  else
    (bif (decide (0 ≤ (a0.size : Int)) && decide ((a0.size : Int) * 1 ≤ 281474976710656) && decide ((a0.size : Int) ≤ 9223372036854775807)) then
      none
    else
      none))
def f (k : Nat) (a0 : ByteArray) : Option ByteArray := e k a0
end stringslite_Clone

namespace intconv_small
def e (_k : Nat) (a0 : Int) : Option ByteArray :=
  (bif (decide (a0 < (10 : Int))) then
    (bif (decide (0 ≤ a0) && decide (a0 ≤ (IntKind.i64.wrap (a0 + (1 : Int)))) && decide ((IntKind.i64.wrap (a0 + (1 : Int))) ≤ (str_74e7e5bb9d.size : Int))) then
      (some (str_74e7e5bb9d.extract (Int.toNat a0) (Int.toNat (IntKind.i64.wrap (a0 + (1 : Int))))))
    else
      none)
  else
    (bif (decide (0 ≤ (IntKind.i64.wrap (a0 * (2 : Int)))) && decide ((IntKind.i64.wrap (a0 * (2 : Int))) ≤ (IntKind.i64.wrap ((IntKind.i64.wrap (a0 * (2 : Int))) + (2 : Int)))) && decide ((IntKind.i64.wrap ((IntKind.i64.wrap (a0 * (2 : Int))) + (2 : Int))) ≤ (str_bedfbc17df.size : Int))) then
      (some (str_bedfbc17df.extract (Int.toNat (IntKind.i64.wrap (a0 * (2 : Int)))) (Int.toNat (IntKind.i64.wrap ((IntKind.i64.wrap (a0 * (2 : Int))) + (2 : Int))))))
    else
      none))
def f (k : Nat) (a0 : Int) : Option ByteArray := e k a0
end intconv_small

namespace bits_Len64
def e9 (_k : Nat) (_q9 : Int → Int → Option Int) (q15 : Int → Int → Option Int) (_q21 : Int → Int → Option Int) (b0 : Int) (b1 : Int) : Option Int :=
  (bif (decide (b0 ≥ (65536 : Int))) then
    q15 (Int.fdiv b0 (2 ^ 16)) (IntKind.i64.wrap (b1 + (16 : Int)))
  else
    q15 b0 b1)
def e15 (_k : Nat) (_q9 : Int → Int → Option Int) (_q15 : Int → Int → Option Int) (q21 : Int → Int → Option Int) (b0 : Int) (b1 : Int) : Option Int :=
  (bif (decide (b0 ≥ (256 : Int))) then
    q21 (Int.fdiv b0 (2 ^ 8)) (IntKind.i64.wrap (b1 + (8 : Int)))
  else
    q21 b0 b1)
def e21 (_k : Nat) (_q9 : Int → Int → Option Int) (_q15 : Int → Int → Option Int) (_q21 : Int → Int → Option Int) (b0 : Int) (b1 : Int) : Option Int :=
  (bif (decide (0 ≤ (IntKind.u8.wrap b0)) && decide ((IntKind.u8.wrap b0) < (str_14a5d850c2.size : Int))) then
    (some (IntKind.i64.wrap (b1 + (IntKind.i64.wrap (btI str_14a5d850c2 (IntKind.u8.wrap b0))))))
  else
    none)
def e (_k : Nat) (q9 : Int → Int → Option Int) (_q15 : Int → Int → Option Int) (_q21 : Int → Int → Option Int) (a0 : Int) : Option Int :=
  (bif (decide (a0 ≥ (4294967296 : Int))) then
    q9 (Int.fdiv a0 (2 ^ 32)) (32 : Int)
  else
    q9 a0 (0 : Int))
def pts : Nat → (Int → Int → Option Int) × (Int → Int → Option Int) × (Int → Int → Option Int)
  | 0 => (fun _ _ => none, fun _ _ => none, fun _ _ => none)
  | k + 1 => (e9 k (pts k).1 (pts k).2.1 (pts k).2.2, e15 k (pts k).1 (pts k).2.1 (pts k).2.2, e21 k (pts k).1 (pts k).2.1 (pts k).2.2)
def p9 (k : Nat) : Int → Int → Option Int := (pts k).1
def p15 (k : Nat) : Int → Int → Option Int := (pts k).2.1
def p21 (k : Nat) : Int → Int → Option Int := (pts k).2.2
theorem p9_succ (k : Nat) (x0 : Int) (x1 : Int) : p9 (k + 1) x0 x1 = e9 k (p9 k) (p15 k) (p21 k) x0 x1 := rfl
theorem p15_succ (k : Nat) (x0 : Int) (x1 : Int) : p15 (k + 1) x0 x1 = e15 k (p9 k) (p15 k) (p21 k) x0 x1 := rfl
theorem p21_succ (k : Nat) (x0 : Int) (x1 : Int) : p21 (k + 1) x0 x1 = e21 k (p9 k) (p15 k) (p21 k) x0 x1 := rfl
def f (k : Nat) (a0 : Int) : Option Int := e k (p9 k) (p15 k) (p21 k) a0
end bits_Len64

namespace intconv_log10Pow2
def e (_k : Nat) (a0 : Int) : Option Int :=
  (some (Int.fdiv (IntKind.i64.wrap (a0 * (78913 : Int))) (2 ^ 18)))
def f (k : Nat) (a0 : Int) : Option Int := e k a0
end intconv_log10Pow2

namespace intconv_bool2_int_
def e (_k : Nat) (a0 : Bool) : Option Int :=
  (bif a0 then
    (some (1 : Int))
  else
    (some (0 : Int)))
def f (k : Nat) (a0 : Bool) : Option Int := e k a0
end intconv_bool2_int_

namespace intconv_isPowerOfTwo
def e (_k : Nat) (a0 : Int) : Option Bool :=
  (some (decide ((bitsI .and .i64 a0 (IntKind.i64.wrap (a0 - (1 : Int)))) = (0 : Int))))
def f (k : Nat) (a0 : Int) : Option Bool := e k a0
end intconv_isPowerOfTwo

namespace bits_TrailingZeros32
def e (_k : Nat) (a0 : Int) : Option Int :=
  (bif (decide (a0 = (0 : Int))) then
    (some (32 : Int))
  else
    none)
def f (k : Nat) (a0 : Int) : Option Int := e k a0
end bits_TrailingZeros32

namespace bits_TrailingZeros64
def e (_k : Nat) (a0 : Int) : Option Int :=
  (bif (decide (a0 = (0 : Int))) then
    (some (64 : Int))
  else
    none)
def f (k : Nat) (a0 : Int) : Option Int := e k a0
end bits_TrailingZeros64

namespace bits_TrailingZeros
def e (k : Nat) (a0 : Int) : Option Int :=
  (Option.bind (bits_TrailingZeros64.f k a0) fun r1 =>
    (some r1))
def f (k : Nat) (a0 : Int) : Option Int := e k a0
end bits_TrailingZeros

namespace intconv_FormatInt
def e9 (_k : Nat) (_q9 : Int → Option ByteArray) (_b0 : Int) : Option ByteArray :=
  none
def e (k : Nat) (q9 : Int → Option ByteArray) (a0 : Int) (a1 : Int) : Option ByteArray :=
  (bif (decide (a1 = (10 : Int))) then
    (bif (decide ((0 : Int) ≤ a0)) then
      (bif (decide (a0 < (100 : Int))) then
        (Option.bind (intconv_small.f k a0) fun r1 =>
          (some r1))
      else
        q9 a0)
    else
      q9 a0)
  else
    none)
def pts : Nat → (Int → Option ByteArray)
  | 0 => fun _ => none
  | k + 1 => e9 k (pts k)
def p9 (k : Nat) : Int → Option ByteArray := (pts k)
theorem p9_succ (k : Nat) (x0 : Int) : p9 (k + 1) x0 = e9 k (p9 k) x0 := rfl
def f (k : Nat) (a0 : Int) (a1 : Int) : Option ByteArray := e k (p9 k) a0 a1
end intconv_FormatInt

namespace intconv_Itoa
def e (k : Nat) (a0 : Int) : Option ByteArray :=
  (Option.bind (intconv_FormatInt.f k a0 (10 : Int)) fun r1 =>
    (some r1))
def f (k : Nat) (a0 : Int) : Option ByteArray := e k a0
end intconv_Itoa

namespace strconv_Itoa
def e (k : Nat) (a0 : Int) : Option ByteArray :=
  (Option.bind (intconv_Itoa.f k a0) fun r1 =>
    (some r1))
def f (k : Nat) (a0 : Int) : Option ByteArray := e k a0
end strconv_Itoa

namespace strconv_Atoi
def e (k : Nat) (a0 : ByteArray) : Option (Int × Unit) :=
  (Option.bind (intconv_Atoi.f k a0) fun r1 =>
    (some (r1.1, ())))
def f (k : Nat) (a0 : ByteArray) : Option (Int × Unit) := e k a0
end strconv_Atoi

namespace approx_exponent
def e9 (k : Nat) (_q9 : ByteArray → Int → Option (Int × Bool)) (q11 : ByteArray → Int → Option (Int × Bool)) (q17 : Unit → Option (Int × Bool)) (b0 : ByteArray) (b1 : Int) : Option (Int × Bool) :=
  (bif (decide (b1 < (0 : Int))) then
    q11 b0 b1
  else
    (Option.bind (strings_HasPrefix.f k b0 (ByteArray.mk #[43])) fun r2 =>
      (bif r2 then
        q11 b0 b1
      else
        (Option.bind (approx_digits.f k b0) fun r3 =>
          (bif (r3.1.toList == (ByteArray.mk #[]).toList) then
            q17 ()
          else
            (bif (!(r3.2.toList == (ByteArray.mk #[]).toList)) then
              q17 ()
            else
              (Option.bind (strings_TrimLeft.f k r3.1 (ByteArray.mk #[48])) fun r4 =>
                (bif (decide ((r4.size : Int) > (4 : Int))) then
                  (some ((0 : Int), false))
                else
                  (bif (decide ((((ByteArray.mk #[48]).size + r4.size : Nat) : Int) > IntKind.i64.max)) then
                    none
                  else
                    (Option.bind (strconv_Atoi.f k ((ByteArray.mk #[48]) ++ r4)) fun r5 =>
                      (some ((IntKind.i64.wrap (b1 * r5.1)), (decide (r5.1 ≤ (5000 : Int)))))))))))))))
def e11 (k : Nat) (_q9 : ByteArray → Int → Option (Int × Bool)) (_q11 : ByteArray → Int → Option (Int × Bool)) (q17 : Unit → Option (Int × Bool)) (b0 : ByteArray) (b1 : Int) : Option (Int × Bool) :=
  (bif (decide (0 ≤ (1 : Int)) && decide ((1 : Int) ≤ (b0.size : Int)) && decide ((b0.size : Int) ≤ (b0.size : Int))) then
    (Option.bind (approx_digits.f k (b0.extract (Int.toNat (1 : Int)) (Int.toNat (b0.size : Int)))) fun r6 =>
      (bif (r6.1.toList == (ByteArray.mk #[]).toList) then
        q17 ()
      else
        (bif (!(r6.2.toList == (ByteArray.mk #[]).toList)) then
          q17 ()
        else
          (Option.bind (strings_TrimLeft.f k r6.1 (ByteArray.mk #[48])) fun r7 =>
            (bif (decide ((r7.size : Int) > (4 : Int))) then
              (some ((0 : Int), false))
            else
              (bif (decide ((((ByteArray.mk #[48]).size + r7.size : Nat) : Int) > IntKind.i64.max)) then
                none
              else
                (Option.bind (strconv_Atoi.f k ((ByteArray.mk #[48]) ++ r7)) fun r8 =>
                  (some ((IntKind.i64.wrap (b1 * r8.1)), (decide (r8.1 ≤ (5000 : Int))))))))))))
  else
    none)
def e17 (_k : Nat) (_q9 : ByteArray → Int → Option (Int × Bool)) (_q11 : ByteArray → Int → Option (Int × Bool)) (_q17 : Unit → Option (Int × Bool)) (_ : Unit) : Option (Int × Bool) :=
  (some ((0 : Int), false))
def e (k : Nat) (q9 : ByteArray → Int → Option (Int × Bool)) (_q11 : ByteArray → Int → Option (Int × Bool)) (_q17 : Unit → Option (Int × Bool)) (a0 : ByteArray) : Option (Int × Bool) :=
  (Option.bind (strings_HasPrefix.f k a0 (ByteArray.mk #[45])) fun r1 =>
    (bif r1 then
      q9 a0 (-1 : Int)
    else
      q9 a0 (1 : Int)))
def pts : Nat → (ByteArray → Int → Option (Int × Bool)) × (ByteArray → Int → Option (Int × Bool)) × (Unit → Option (Int × Bool))
  | 0 => (fun _ _ => none, fun _ _ => none, fun _ => none)
  | k + 1 => (e9 k (pts k).1 (pts k).2.1 (pts k).2.2, e11 k (pts k).1 (pts k).2.1 (pts k).2.2, e17 k (pts k).1 (pts k).2.1 (pts k).2.2)
def p9 (k : Nat) : ByteArray → Int → Option (Int × Bool) := (pts k).1
def p11 (k : Nat) : ByteArray → Int → Option (Int × Bool) := (pts k).2.1
def p17 (k : Nat) : Unit → Option (Int × Bool) := (pts k).2.2
theorem p9_succ (k : Nat) (x0 : ByteArray) (x1 : Int) : p9 (k + 1) x0 x1 = e9 k (p9 k) (p11 k) (p17 k) x0 x1 := rfl
theorem p11_succ (k : Nat) (x0 : ByteArray) (x1 : Int) : p11 (k + 1) x0 x1 = e11 k (p9 k) (p11 k) (p17 k) x0 x1 := rfl
theorem p17_succ (k : Nat) (x0 : Unit) : p17 (k + 1) x0 = e17 k (p9 k) (p11 k) (p17 k) x0 := rfl
def f (k : Nat) (a0 : ByteArray) : Option (Int × Bool) := e k (p9 k) (p11 k) (p17 k) a0
end approx_exponent

namespace nat_trim
def e0 (_k : Nat) (q0 : (List Int) → Int → Option (List Int)) (q9 : (List Int) → Int → Option (List Int)) (b0 : (List Int)) (b1 : Int) : Option (List Int) :=
  (bif (decide (b1 > (0 : Int))) then
    (bif (decide (0 ≤ (IntKind.i64.wrap (b1 - (1 : Int)))) && decide ((IntKind.i64.wrap (b1 - (1 : Int))) < (b0.length : Int))) then
      (bif (decide ((nthD (0 : Int) b0 (Int.toNat (IntKind.i64.wrap (b1 - (1 : Int))))) = (0 : Int))) then
        q0 b0 (IntKind.i64.wrap (b1 - (1 : Int)))
      else
        q9 b0 b1)
    else
      none)
  else
    q9 b0 b1)
def e9 (_k : Nat) (_q0 : (List Int) → Int → Option (List Int)) (_q9 : (List Int) → Int → Option (List Int)) (b0 : (List Int)) (b1 : Int) : Option (List Int) :=
  (bif (decide (0 ≤ (0 : Int)) && decide ((0 : Int) ≤ b1) && decide (b1 ≤ (b0.length : Int))) then
    (some ((b0.take (Int.toNat b1)).drop (Int.toNat (0 : Int))))
  else
    none)
def e (_k : Nat) (q0 : (List Int) → Int → Option (List Int)) (_q9 : (List Int) → Int → Option (List Int)) (a0 : (List Int)) : Option (List Int) :=
  q0 a0 (a0.length : Int)
def pts : Nat → ((List Int) → Int → Option (List Int)) × ((List Int) → Int → Option (List Int))
  | 0 => (fun _ _ => none, fun _ _ => none)
  | k + 1 => (e0 k (pts k).1 (pts k).2, e9 k (pts k).1 (pts k).2)
def p0 (k : Nat) : (List Int) → Int → Option (List Int) := (pts k).1
def p9 (k : Nat) : (List Int) → Int → Option (List Int) := (pts k).2
theorem p0_succ (k : Nat) (x0 : (List Int)) (x1 : Int) : p0 (k + 1) x0 x1 = e0 k (p0 k) (p9 k) x0 x1 := rfl
theorem p9_succ (k : Nat) (x0 : (List Int)) (x1 : Int) : p9 (k + 1) x0 x1 = e9 k (p0 k) (p9 k) x0 x1 := rfl
def f (k : Nat) (a0 : (List Int)) : Option (List Int) := e k (p0 k) (p9 k) a0
end nat_trim

namespace nat_own
def e (k : Nat) (a0 : (List Int)) : Option (List Int) :=
  (Option.bind (nat_trim.f k a0) fun r1 =>
    (bif (decide ((r1.length : Int) = (0 : Int))) then
      (some ([] : List Int))
    else
      (bif (decide (0 ≤ (r1.length : Int)) && decide ((r1.length : Int) * 4 ≤ 281474976710656) && decide ((r1.length : Int) ≤ 9223372036854775807)) then
        (some (r1.take (List.replicate (Int.toNat (r1.length : Int)) (0 : Int)).length ++ (List.replicate (Int.toNat (r1.length : Int)) (0 : Int)).drop r1.length))
      else
        none)))
def f (k : Nat) (a0 : (List Int)) : Option (List Int) := e k a0
end nat_own

namespace nat_Parse
def e5 (_k : Nat) (_q5 : Unit → Option ((List Int) × Int)) (_q9 : Unit → Option ((List Int) × Int)) (_q11 : ByteArray → Int → Option ((List Int) × Int)) (_q0 : (List Int) → ByteArray → Int → Int → Int → Option ((List Int) × Int)) (_q23 : Unit → Option ((List Int) × Int)) (_q4 : (List Int) → ByteArray → Int → Int → Int → Int → Int → Int → Option ((List Int) × Int)) (_q45 : (List Int) → ByteArray → Int → Int → Int → Option ((List Int) × Int)) (_ : Unit) : Option ((List Int) × Int) :=
  (some (([] : List Int), (14 : Int)))
def e9 (_k : Nat) (_q5 : Unit → Option ((List Int) × Int)) (_q9 : Unit → Option ((List Int) × Int)) (_q11 : ByteArray → Int → Option ((List Int) × Int)) (_q0 : (List Int) → ByteArray → Int → Int → Int → Option ((List Int) × Int)) (_q23 : Unit → Option ((List Int) × Int)) (_q4 : (List Int) → ByteArray → Int → Int → Int → Int → Int → Int → Option ((List Int) × Int)) (_q45 : (List Int) → ByteArray → Int → Int → Int → Option ((List Int) × Int)) (_ : Unit) : Option ((List Int) × Int) :=
  (some (([] : List Int), (15 : Int)))
def e11 (_k : Nat) (_q5 : Unit → Option ((List Int) × Int)) (_q9 : Unit → Option ((List Int) × Int)) (_q11 : ByteArray → Int → Option ((List Int) × Int)) (q0 : (List Int) → ByteArray → Int → Int → Int → Option ((List Int) × Int)) (_q23 : Unit → Option ((List Int) × Int)) (_q4 : (List Int) → ByteArray → Int → Int → Int → Int → Int → Int → Option ((List Int) × Int)) (_q45 : (List Int) → ByteArray → Int → Int → Int → Option ((List Int) × Int)) (b0 : ByteArray) (b1 : Int) : Option ((List Int) × Int) :=
  q0 ([] : List Int) b0 b1 (b0.size : Int) (0 : Int)
def e0 (k : Nat) (_q5 : Unit → Option ((List Int) × Int)) (_q9 : Unit → Option ((List Int) × Int)) (_q11 : ByteArray → Int → Option ((List Int) × Int)) (_q0 : (List Int) → ByteArray → Int → Int → Int → Option ((List Int) × Int)) (q23 : Unit → Option ((List Int) × Int)) (q4 : (List Int) → ByteArray → Int → Int → Int → Int → Int → Int → Option ((List Int) × Int)) (_q45 : (List Int) → ByteArray → Int → Int → Int → Option ((List Int) × Int)) (b0 : (List Int)) (b1 : ByteArray) (b2 : Int) (b3 : Int) (b4 : Int) : Option ((List Int) × Int) :=
  (bif (decide (b4 < b3)) then
    (bif (decide (0 ≤ b4) && decide (b4 < (b1.size : Int))) then
      (bif (decide ((IntKind.i64.wrap ((IntKind.i64.wrap (btI b1 b4)) - (48 : Int))) < (0 : Int))) then
        q23 ()
      else
        (bif (decide ((IntKind.i64.wrap ((IntKind.i64.wrap (btI b1 b4)) - (48 : Int))) ≥ (55 : Int))) then
          q23 ()
        else
          (bif (decide (0 ≤ (IntKind.i64.wrap ((IntKind.i64.wrap (btI b1 b4)) - (48 : Int)))) && decide ((IntKind.i64.wrap ((IntKind.i64.wrap (btI b1 b4)) - (48 : Int))) < (tab_1.length : Int))) then
            (bif (decide ((nthD (0 : Int) tab_1 (Int.toNat (IntKind.i64.wrap ((IntKind.i64.wrap (btI b1 b4)) - (48 : Int))))) ≥ (IntKind.u32.wrap b2))) then
              q23 ()
            else
              (bif (decide (0 ≤ (IntKind.i64.wrap ((IntKind.i64.wrap (btI b1 b4)) - (48 : Int)))) && decide ((IntKind.i64.wrap ((IntKind.i64.wrap (btI b1 b4)) - (48 : Int))) < (tab_1.length : Int))) then
                q4 b0 b1 b2 (IntKind.u64.wrap (nthD (0 : Int) tab_1 (Int.toNat (IntKind.i64.wrap ((IntKind.i64.wrap (btI b1 b4)) - (48 : Int)))))) b3 b4 (b0.length : Int) (0 : Int)
              else
                none))
          else
            none)))
    else
      none)
  else
    (Option.bind (nat_own.f k b0) fun r1 =>
      (some (r1, (0 : Int)))))
def e23 (_k : Nat) (_q5 : Unit → Option ((List Int) × Int)) (_q9 : Unit → Option ((List Int) × Int)) (_q11 : ByteArray → Int → Option ((List Int) × Int)) (_q0 : (List Int) → ByteArray → Int → Int → Int → Option ((List Int) × Int)) (_q23 : Unit → Option ((List Int) × Int)) (_q4 : (List Int) → ByteArray → Int → Int → Int → Int → Int → Int → Option ((List Int) × Int)) (_q45 : (List Int) → ByteArray → Int → Int → Int → Option ((List Int) × Int)) (_ : Unit) : Option ((List Int) × Int) :=
  (some (([] : List Int), (15 : Int)))
def e4 (_k : Nat) (_q5 : Unit → Option ((List Int) × Int)) (_q9 : Unit → Option ((List Int) × Int)) (_q11 : ByteArray → Int → Option ((List Int) × Int)) (_q0 : (List Int) → ByteArray → Int → Int → Int → Option ((List Int) × Int)) (_q23 : Unit → Option ((List Int) × Int)) (q4 : (List Int) → ByteArray → Int → Int → Int → Int → Int → Int → Option ((List Int) × Int)) (q45 : (List Int) → ByteArray → Int → Int → Int → Option ((List Int) × Int)) (b0 : (List Int)) (b1 : ByteArray) (b2 : Int) (b3 : Int) (b4 : Int) (b5 : Int) (b6 : Int) (b7 : Int) : Option ((List Int) × Int) :=
  (bif (decide (b7 < b6)) then
    (bif (decide (0 ≤ b7) && decide (b7 < (b0.length : Int))) then
      (bif (decide (0 ≤ b7) && decide (b7 < (b0.length : Int))) then
        q4 (setN (IntKind.u32.wrap (IntKind.u64.wrap ((IntKind.u64.wrap ((IntKind.u64.wrap (nthD (0 : Int) b0 (Int.toNat b7))) * (IntKind.u64.wrap b2))) + b3))) b0 (Int.toNat b7)) b1 b2 (Int.fdiv (IntKind.u64.wrap ((IntKind.u64.wrap ((IntKind.u64.wrap (nthD (0 : Int) b0 (Int.toNat b7))) * (IntKind.u64.wrap b2))) + b3)) (2 ^ 32)) b4 b5 b6 (IntKind.i64.wrap (b7 + (1 : Int)))
      else
        none)
    else
      none)
  else
    (bif (decide (b3 > (0 : Int))) then
      (bif (Nat.ble ((b0.length + [(IntKind.u32.wrap b3)].length) * 4) 140737488355328 && Nat.ble (b0.length + [(IntKind.u32.wrap b3)].length) 9223372036854775807) then
        q45 (b0 ++ [(IntKind.u32.wrap b3)]) b1 b2 b4 b5
      else
        none)
    else
      q45 b0 b1 b2 b4 b5))
def e45 (_k : Nat) (_q5 : Unit → Option ((List Int) × Int)) (_q9 : Unit → Option ((List Int) × Int)) (_q11 : ByteArray → Int → Option ((List Int) × Int)) (q0 : (List Int) → ByteArray → Int → Int → Int → Option ((List Int) × Int)) (_q23 : Unit → Option ((List Int) × Int)) (_q4 : (List Int) → ByteArray → Int → Int → Int → Int → Int → Int → Option ((List Int) × Int)) (_q45 : (List Int) → ByteArray → Int → Int → Int → Option ((List Int) × Int)) (b0 : (List Int)) (b1 : ByteArray) (b2 : Int) (b3 : Int) (b4 : Int) : Option ((List Int) × Int) :=
  q0 b0 b1 b2 b3 (IntKind.i64.wrap (b4 + (1 : Int)))
def e (_k : Nat) (q5 : Unit → Option ((List Int) × Int)) (q9 : Unit → Option ((List Int) × Int)) (q11 : ByteArray → Int → Option ((List Int) × Int)) (_q0 : (List Int) → ByteArray → Int → Int → Int → Option ((List Int) × Int)) (_q23 : Unit → Option ((List Int) × Int)) (_q4 : (List Int) → ByteArray → Int → Int → Int → Int → Int → Int → Option ((List Int) × Int)) (_q45 : (List Int) → ByteArray → Int → Int → Int → Option ((List Int) × Int)) (a0 : ByteArray) (a1 : Int) : Option ((List Int) × Int) :=
  (bif (decide (a1 < (2 : Int))) then
    q5 ()
  else
    (bif (decide (a1 > (16 : Int))) then
      q5 ()
    else
      (bif (a0.toList == (ByteArray.mk #[]).toList) then
        q9 ()
      else
        (bif (decide ((a0.size : Int) > (1 : Int))) then
          (bif (decide ((0 : Int) < (a0.size : Int))) then
            (bif (decide ((btI a0 (0 : Int)) = (48 : Int))) then
              q9 ()
            else
              q11 a0 a1)
          else
            none)
        else
          q11 a0 a1))))
def pts : Nat → (Unit → Option ((List Int) × Int)) × (Unit → Option ((List Int) × Int)) × (ByteArray → Int → Option ((List Int) × Int)) × ((List Int) → ByteArray → Int → Int → Int → Option ((List Int) × Int)) × (Unit → Option ((List Int) × Int)) × ((List Int) → ByteArray → Int → Int → Int → Int → Int → Int → Option ((List Int) × Int)) × ((List Int) → ByteArray → Int → Int → Int → Option ((List Int) × Int))
  | 0 => (fun _ => none, fun _ => none, fun _ _ => none, fun _ _ _ _ _ => none, fun _ => none, fun _ _ _ _ _ _ _ _ => none, fun _ _ _ _ _ => none)
  | k + 1 => (e5 k (pts k).1 (pts k).2.1 (pts k).2.2.1 (pts k).2.2.2.1 (pts k).2.2.2.2.1 (pts k).2.2.2.2.2.1 (pts k).2.2.2.2.2.2, e9 k (pts k).1 (pts k).2.1 (pts k).2.2.1 (pts k).2.2.2.1 (pts k).2.2.2.2.1 (pts k).2.2.2.2.2.1 (pts k).2.2.2.2.2.2, e11 k (pts k).1 (pts k).2.1 (pts k).2.2.1 (pts k).2.2.2.1 (pts k).2.2.2.2.1 (pts k).2.2.2.2.2.1 (pts k).2.2.2.2.2.2, e0 k (pts k).1 (pts k).2.1 (pts k).2.2.1 (pts k).2.2.2.1 (pts k).2.2.2.2.1 (pts k).2.2.2.2.2.1 (pts k).2.2.2.2.2.2, e23 k (pts k).1 (pts k).2.1 (pts k).2.2.1 (pts k).2.2.2.1 (pts k).2.2.2.2.1 (pts k).2.2.2.2.2.1 (pts k).2.2.2.2.2.2, e4 k (pts k).1 (pts k).2.1 (pts k).2.2.1 (pts k).2.2.2.1 (pts k).2.2.2.2.1 (pts k).2.2.2.2.2.1 (pts k).2.2.2.2.2.2, e45 k (pts k).1 (pts k).2.1 (pts k).2.2.1 (pts k).2.2.2.1 (pts k).2.2.2.2.1 (pts k).2.2.2.2.2.1 (pts k).2.2.2.2.2.2)
def p5 (k : Nat) : Unit → Option ((List Int) × Int) := (pts k).1
def p9 (k : Nat) : Unit → Option ((List Int) × Int) := (pts k).2.1
def p11 (k : Nat) : ByteArray → Int → Option ((List Int) × Int) := (pts k).2.2.1
def p0 (k : Nat) : (List Int) → ByteArray → Int → Int → Int → Option ((List Int) × Int) := (pts k).2.2.2.1
def p23 (k : Nat) : Unit → Option ((List Int) × Int) := (pts k).2.2.2.2.1
def p4 (k : Nat) : (List Int) → ByteArray → Int → Int → Int → Int → Int → Int → Option ((List Int) × Int) := (pts k).2.2.2.2.2.1
def p45 (k : Nat) : (List Int) → ByteArray → Int → Int → Int → Option ((List Int) × Int) := (pts k).2.2.2.2.2.2
theorem p5_succ (k : Nat) (x0 : Unit) : p5 (k + 1) x0 = e5 k (p5 k) (p9 k) (p11 k) (p0 k) (p23 k) (p4 k) (p45 k) x0 := rfl
theorem p9_succ (k : Nat) (x0 : Unit) : p9 (k + 1) x0 = e9 k (p5 k) (p9 k) (p11 k) (p0 k) (p23 k) (p4 k) (p45 k) x0 := rfl
theorem p11_succ (k : Nat) (x0 : ByteArray) (x1 : Int) : p11 (k + 1) x0 x1 = e11 k (p5 k) (p9 k) (p11 k) (p0 k) (p23 k) (p4 k) (p45 k) x0 x1 := rfl
theorem p0_succ (k : Nat) (x0 : (List Int)) (x1 : ByteArray) (x2 : Int) (x3 : Int) (x4 : Int) : p0 (k + 1) x0 x1 x2 x3 x4 = e0 k (p5 k) (p9 k) (p11 k) (p0 k) (p23 k) (p4 k) (p45 k) x0 x1 x2 x3 x4 := rfl
theorem p23_succ (k : Nat) (x0 : Unit) : p23 (k + 1) x0 = e23 k (p5 k) (p9 k) (p11 k) (p0 k) (p23 k) (p4 k) (p45 k) x0 := rfl
theorem p4_succ (k : Nat) (x0 : (List Int)) (x1 : ByteArray) (x2 : Int) (x3 : Int) (x4 : Int) (x5 : Int) (x6 : Int) (x7 : Int) : p4 (k + 1) x0 x1 x2 x3 x4 x5 x6 x7 = e4 k (p5 k) (p9 k) (p11 k) (p0 k) (p23 k) (p4 k) (p45 k) x0 x1 x2 x3 x4 x5 x6 x7 := rfl
theorem p45_succ (k : Nat) (x0 : (List Int)) (x1 : ByteArray) (x2 : Int) (x3 : Int) (x4 : Int) : p45 (k + 1) x0 x1 x2 x3 x4 = e45 k (p5 k) (p9 k) (p11 k) (p0 k) (p23 k) (p4 k) (p45 k) x0 x1 x2 x3 x4 := rfl
def f (k : Nat) (a0 : ByteArray) (a1 : Int) : Option ((List Int) × Int) := e k (p5 k) (p9 k) (p11 k) (p0 k) (p23 k) (p4 k) (p45 k) a0 a1
end nat_Parse

namespace nat_Of
def e (k : Nat) (a0 : Int) : Option (List Int) :=
  (Option.bind (nat_own.f k [(IntKind.u32.wrap a0), (IntKind.u32.wrap (Int.fdiv a0 (2 ^ 32)))]) fun r1 =>
    (some r1))
def f (k : Nat) (a0 : Int) : Option (List Int) := e k a0
end nat_Of

namespace nat_Norm
def e (k : Nat) (a0 : (List Int)) : Option (List Int) :=
  (Option.bind (nat_own.f k a0) fun r1 =>
    (some r1))
def f (k : Nat) (a0 : (List Int)) : Option (List Int) := e k a0
end nat_Norm

namespace whole_signed
def e0 (_k : Nat) (q0 : (Bool × (List Int)) → (List Int) → Int → (List Int) → Int → Int → Option (Bool × (List Int))) (b0 : (Bool × (List Int))) (b1 : (List Int)) (b2 : Int) (b3 : (List Int)) (b4 : Int) (b5 : Int) : Option (Bool × (List Int)) :=
  (bif (decide (b5 < b4)) then
    (bif (decide (0 ≤ b5) && decide (b5 < (b3.length : Int))) then
      q0 b0 b1 (IntKind.i64.wrap (b2 * (nthD (0 : Int) b3 (Int.toNat b5)))) b3 b4 (IntKind.i64.wrap (b5 + (1 : Int)))
    else
      none)
  else
    (bif (decide (b2 < (0 : Int))) then
      (some ((decide ((b1.length : Int) > (0 : Int))), b1))
    else
      (some (false, b1))))
def e (k : Nat) (q0 : (Bool × (List Int)) → (List Int) → Int → (List Int) → Int → Int → Option (Bool × (List Int))) (a0 : (List Int)) (a1 : (List Int)) : Option (Bool × (List Int)) :=
  (Option.bind (nat_Norm.f k a0) fun r1 =>
    q0 (false, ([] : List Int)) r1 (1 : Int) a1 (a1.length : Int) (0 : Int))
def pts : Nat → ((Bool × (List Int)) → (List Int) → Int → (List Int) → Int → Int → Option (Bool × (List Int)))
  | 0 => fun _ _ _ _ _ _ => none
  | k + 1 => e0 k (pts k)
def p0 (k : Nat) : (Bool × (List Int)) → (List Int) → Int → (List Int) → Int → Int → Option (Bool × (List Int)) := (pts k)
theorem p0_succ (k : Nat) (x0 : (Bool × (List Int))) (x1 : (List Int)) (x2 : Int) (x3 : (List Int)) (x4 : Int) (x5 : Int) : p0 (k + 1) x0 x1 x2 x3 x4 x5 = e0 k (p0 k) x0 x1 x2 x3 x4 x5 := rfl
def f (k : Nat) (a0 : (List Int)) (a1 : (List Int)) : Option (Bool × (List Int)) := e k (p0 k) a0 a1
end whole_signed

namespace whole_Of
def e (k : Nat) (a0 : Int) : Option (Bool × (List Int)) :=
  (bif (decide (a0 < (0 : Int))) then
    (Option.bind (nat_Of.f k (IntKind.u64.wrap (0 - (IntKind.u64.wrap a0)))) fun r1 =>
      (Option.bind (whole_signed.f k r1 [(-1 : Int)]) fun r2 =>
        (some r2)))
  else
    (Option.bind (nat_Of.f k (IntKind.u64.wrap a0)) fun r3 =>
      (Option.bind (whole_signed.f k r3 ([] : List Int)) fun r4 =>
        (some r4))))
def f (k : Nat) (a0 : Int) : Option (Bool × (List Int)) := e k a0
end whole_Of

namespace whole_core
def e0 (_k : Nat) (q0 : (List Int) → Int → Option (List Int)) (q9 : (List Int) → Int → Option (List Int)) (b0 : (List Int)) (b1 : Int) : Option (List Int) :=
  (bif (decide (b1 > (0 : Int))) then
    (bif (decide (0 ≤ (IntKind.i64.wrap (b1 - (1 : Int)))) && decide ((IntKind.i64.wrap (b1 - (1 : Int))) < (b0.length : Int))) then
      (bif (decide ((nthD (0 : Int) b0 (Int.toNat (IntKind.i64.wrap (b1 - (1 : Int))))) = (0 : Int))) then
        q0 b0 (IntKind.i64.wrap (b1 - (1 : Int)))
      else
        q9 b0 b1)
    else
      none)
  else
    q9 b0 b1)
def e9 (_k : Nat) (_q0 : (List Int) → Int → Option (List Int)) (_q9 : (List Int) → Int → Option (List Int)) (b0 : (List Int)) (b1 : Int) : Option (List Int) :=
  (bif (decide (0 ≤ (0 : Int)) && decide ((0 : Int) ≤ b1) && decide (b1 ≤ b1) && decide (b1 ≤ (b0.length : Int))) then
    (some ((b0.take (Int.toNat b1)).drop (Int.toNat (0 : Int))))
  else
    none)
def e (_k : Nat) (q0 : (List Int) → Int → Option (List Int)) (_q9 : (List Int) → Int → Option (List Int)) (a0 : (List Int)) : Option (List Int) :=
  q0 a0 (a0.length : Int)
def pts : Nat → ((List Int) → Int → Option (List Int)) × ((List Int) → Int → Option (List Int))
  | 0 => (fun _ _ => none, fun _ _ => none)
  | k + 1 => (e0 k (pts k).1 (pts k).2, e9 k (pts k).1 (pts k).2)
def p0 (k : Nat) : (List Int) → Int → Option (List Int) := (pts k).1
def p9 (k : Nat) : (List Int) → Int → Option (List Int) := (pts k).2
theorem p0_succ (k : Nat) (x0 : (List Int)) (x1 : Int) : p0 (k + 1) x0 x1 = e0 k (p0 k) (p9 k) x0 x1 := rfl
theorem p9_succ (k : Nat) (x0 : (List Int)) (x1 : Int) : p9 (k + 1) x0 x1 = e9 k (p0 k) (p9 k) x0 x1 := rfl
def f (k : Nat) (a0 : (List Int)) : Option (List Int) := e k (p0 k) (p9 k) a0
end whole_core

namespace whole_Sign
def e (k : Nat) (a0 : (Bool × (List Int))) : Option Int :=
  (Option.bind (whole_core.f k a0.2) fun r1 =>
    (bif (decide ((r1.length : Int) = (0 : Int))) then
      (some (0 : Int))
    else
      (bif a0.1 then
        (some (-1 : Int))
      else
        (some (1 : Int)))))
def f (k : Nat) (a0 : (Bool × (List Int))) : Option Int := e k a0
end whole_Sign

namespace whole_Neg
def e (k : Nat) (a0 : (Bool × (List Int))) : Option (Bool × (List Int)) :=
  (Option.bind (whole_Sign.f k a0) fun r1 =>
    (Option.bind (whole_signed.f k a0.2 [(-1 : Int), r1]) fun r2 =>
      (some r2)))
def f (k : Nat) (a0 : (Bool × (List Int))) : Option (Bool × (List Int)) := e k a0
end whole_Neg

namespace nat_Cmp
def e0 (_k : Nat) (q0 : (List Int) → (List Int) → Int → Option Int) (b0 : (List Int)) (b1 : (List Int)) (b2 : Int) : Option Int :=
  (bif (decide (b2 ≥ (0 : Int))) then
    (bif (decide (0 ≤ b2) && decide (b2 < (b0.length : Int))) then
      (bif (decide (0 ≤ b2) && decide (b2 < (b1.length : Int))) then
        (bif (!decide ((nthD (0 : Int) b0 (Int.toNat b2)) = (nthD (0 : Int) b1 (Int.toNat b2)))) then
          (bif (decide (0 ≤ b2) && decide (b2 < (b0.length : Int))) then
            (bif (decide (0 ≤ b2) && decide (b2 < (b1.length : Int))) then
              (bif (decide ((nthD (0 : Int) b0 (Int.toNat b2)) < (nthD (0 : Int) b1 (Int.toNat b2)))) then
                (some (-1 : Int))
              else
                (some (1 : Int)))
            else
              none)
          else
            none)
        else
          q0 b0 b1 (IntKind.i64.wrap (b2 - (1 : Int))))
      else
        none)
    else
      none)
  else
    (some (0 : Int)))
def e (k : Nat) (q0 : (List Int) → (List Int) → Int → Option Int) (a0 : (List Int)) (a1 : (List Int)) : Option Int :=
  (Option.bind (nat_trim.f k a0) fun r1 =>
    (Option.bind (nat_trim.f k a1) fun r2 =>
      (bif (!decide ((r1.length : Int) = (r2.length : Int))) then
        (bif (decide ((r1.length : Int) < (r2.length : Int))) then
          (some (-1 : Int))
        else
          (some (1 : Int)))
      else
        q0 r1 r2 (IntKind.i64.wrap ((r1.length : Int) - (1 : Int))))))
def pts : Nat → ((List Int) → (List Int) → Int → Option Int)
  | 0 => fun _ _ _ => none
  | k + 1 => e0 k (pts k)
def p0 (k : Nat) : (List Int) → (List Int) → Int → Option Int := (pts k)
theorem p0_succ (k : Nat) (x0 : (List Int)) (x1 : (List Int)) (x2 : Int) : p0 (k + 1) x0 x1 x2 = e0 k (p0 k) x0 x1 x2 := rfl
def f (k : Nat) (a0 : (List Int)) (a1 : (List Int)) : Option Int := e k (p0 k) a0 a1
end nat_Cmp

namespace bits_Div32
def e7 (_k : Nat) (_q7 : Int → Int → Int → Option (Int × Int)) (b0 : Int) (b1 : Int) (b2 : Int) : Option (Int × Int) :=
  (bif (decide ((IntKind.u64.wrap b2) = 0)) then
    none
  else
    (bif (decide ((IntKind.u64.wrap b2) = 0)) then
      none
    else
      (some ((IntKind.u32.wrap (IntKind.u64.wrap (Int.tdiv (bitsI .or .u64 (IntKind.u64.wrap ((IntKind.u64.wrap b0) * 2 ^ 32)) (IntKind.u64.wrap b1)) (IntKind.u64.wrap b2)))), (IntKind.u32.wrap (Int.tmod (bitsI .or .u64 (IntKind.u64.wrap ((IntKind.u64.wrap b0) * 2 ^ 32)) (IntKind.u64.wrap b1)) (IntKind.u64.wrap b2)))))))
def e (_k : Nat) (q7 : Int → Int → Int → Option (Int × Int)) (a0 : Int) (a1 : Int) (a2 : Int) : Option (Int × Int) :=
  (bif (!decide (a2 = (0 : Int))) then
    (bif (decide (a2 ≤ a0)) then
      none
    else
      q7 a0 a1 a2)
  else
    q7 a0 a1 a2)
def pts : Nat → (Int → Int → Int → Option (Int × Int))
  | 0 => fun _ _ _ => none
  | k + 1 => e7 k (pts k)
def p7 (k : Nat) : Int → Int → Int → Option (Int × Int) := (pts k)
theorem p7_succ (k : Nat) (x0 : Int) (x1 : Int) (x2 : Int) : p7 (k + 1) x0 x1 x2 = e7 k (p7 k) x0 x1 x2 := rfl
def f (k : Nat) (a0 : Int) (a1 : Int) (a2 : Int) : Option (Int × Int) := e k (p7 k) a0 a1 a2
end bits_Div32

namespace nat_short
def e0 (k : Nat) (q0 : (List Int) → (List Int) → Int → Int → Int → Option ((List Int) × Int)) (b0 : (List Int)) (b1 : (List Int)) (b2 : Int) (b3 : Int) (b4 : Int) : Option ((List Int) × Int) :=
  (bif (decide (b4 ≥ (0 : Int))) then
    (bif (decide (0 ≤ b4) && decide (b4 < (b1.length : Int))) then
      (Option.bind (bits_Div32.f k b3 (nthD (0 : Int) b1 (Int.toNat b4)) b2) fun r1 =>
        (bif (decide (0 ≤ b4) && decide (b4 < (b0.length : Int))) then
          q0 (setN r1.1 b0 (Int.toNat b4)) b1 b2 r1.2 (IntKind.i64.wrap (b4 - (1 : Int)))
        else
          none))
    else
      none)
  else
    (some (b0, b3)))
def e (_k : Nat) (q0 : (List Int) → (List Int) → Int → Int → Int → Option ((List Int) × Int)) (a0 : (List Int)) (a1 : Int) : Option ((List Int) × Int) :=
  (bif (decide (0 ≤ (a0.length : Int)) && decide ((a0.length : Int) * 4 ≤ 281474976710656) && decide ((a0.length : Int) ≤ 9223372036854775807)) then
    q0 (List.replicate (Int.toNat (a0.length : Int)) (0 : Int)) a0 a1 (0 : Int) (IntKind.i64.wrap ((a0.length : Int) - (1 : Int)))
  else
    none)
def pts : Nat → ((List Int) → (List Int) → Int → Int → Int → Option ((List Int) × Int))
  | 0 => fun _ _ _ _ _ => none
  | k + 1 => e0 k (pts k)
def p0 (k : Nat) : (List Int) → (List Int) → Int → Int → Int → Option ((List Int) × Int) := (pts k)
theorem p0_succ (k : Nat) (x0 : (List Int)) (x1 : (List Int)) (x2 : Int) (x3 : Int) (x4 : Int) : p0 (k + 1) x0 x1 x2 x3 x4 = e0 k (p0 k) x0 x1 x2 x3 x4 := rfl
def f (k : Nat) (a0 : (List Int)) (a1 : Int) : Option ((List Int) × Int) := e k (p0 k) a0 a1
end nat_short

namespace bits_Len32
def e9 (_k : Nat) (_q9 : Int → Int → Option Int) (q15 : Int → Int → Option Int) (b0 : Int) (b1 : Int) : Option Int :=
  (bif (decide (b0 ≥ (256 : Int))) then
    q15 (Int.fdiv b0 (2 ^ 8)) (IntKind.i64.wrap (b1 + (8 : Int)))
  else
    q15 b0 b1)
def e15 (_k : Nat) (_q9 : Int → Int → Option Int) (_q15 : Int → Int → Option Int) (b0 : Int) (b1 : Int) : Option Int :=
  (bif (decide (0 ≤ (IntKind.u8.wrap b0)) && decide ((IntKind.u8.wrap b0) < (str_14a5d850c2.size : Int))) then
    (some (IntKind.i64.wrap (b1 + (IntKind.i64.wrap (btI str_14a5d850c2 (IntKind.u8.wrap b0))))))
  else
    none)
def e (_k : Nat) (q9 : Int → Int → Option Int) (_q15 : Int → Int → Option Int) (a0 : Int) : Option Int :=
  (bif (decide (a0 ≥ (65536 : Int))) then
    q9 (Int.fdiv a0 (2 ^ 16)) (16 : Int)
  else
    q9 a0 (0 : Int))
def pts : Nat → (Int → Int → Option Int) × (Int → Int → Option Int)
  | 0 => (fun _ _ => none, fun _ _ => none)
  | k + 1 => (e9 k (pts k).1 (pts k).2, e15 k (pts k).1 (pts k).2)
def p9 (k : Nat) : Int → Int → Option Int := (pts k).1
def p15 (k : Nat) : Int → Int → Option Int := (pts k).2
theorem p9_succ (k : Nat) (x0 : Int) (x1 : Int) : p9 (k + 1) x0 x1 = e9 k (p9 k) (p15 k) x0 x1 := rfl
theorem p15_succ (k : Nat) (x0 : Int) (x1 : Int) : p15 (k + 1) x0 x1 = e15 k (p9 k) (p15 k) x0 x1 := rfl
def f (k : Nat) (a0 : Int) : Option Int := e k (p9 k) (p15 k) a0
end bits_Len32

namespace bits_LeadingZeros32
def e (k : Nat) (a0 : Int) : Option Int :=
  (Option.bind (bits_Len32.f k a0) fun r1 =>
    (some (IntKind.i64.wrap ((32 : Int) - r1))))
def f (k : Nat) (a0 : Int) : Option Int := e k a0
end bits_LeadingZeros32

namespace nat_moved
def e0 (_k : Nat) (q0 : (List Int) → (List Int) → Int → Int → Int → Option (List Int)) (b0 : (List Int)) (b1 : (List Int)) (b2 : Int) (b3 : Int) (b4 : Int) : Option (List Int) :=
  (bif (decide (b4 < b3)) then
    (bif (decide (0 ≤ b4) && decide (b4 < (b0.length : Int))) then
      (bif (decide (0 ≤ b4) && decide (b4 < (b1.length : Int))) then
        (bif (decide (b2 < 0)) then
          none
        else
          (bif (decide (0 ≤ b4) && decide (b4 < (b0.length : Int))) then
            (bif (decide (0 ≤ b4) && decide (b4 < (b1.length : Int))) then
              (bif (decide ((IntKind.i64.wrap ((32 : Int) - b2)) < 0)) then
                none
              else
                (bif (decide (0 ≤ (IntKind.i64.wrap (b4 + (1 : Int)))) && decide ((IntKind.i64.wrap (b4 + (1 : Int))) < ((setN (bitsI .or .u32 (nthD (0 : Int) b0 (Int.toNat b4)) (IntKind.u32.wrap ((nthD (0 : Int) b1 (Int.toNat b4)) * 2 ^ min (Int.toNat b2) 32))) b0 (Int.toNat b4)).length : Int))) then
                  q0 (setN (IntKind.u32.wrap (Int.fdiv (IntKind.u64.wrap (nthD (0 : Int) b1 (Int.toNat b4))) (2 ^ min (Int.toNat (IntKind.i64.wrap ((32 : Int) - b2))) 64))) (setN (bitsI .or .u32 (nthD (0 : Int) b0 (Int.toNat b4)) (IntKind.u32.wrap ((nthD (0 : Int) b1 (Int.toNat b4)) * 2 ^ min (Int.toNat b2) 32))) b0 (Int.toNat b4)) (Int.toNat (IntKind.i64.wrap (b4 + (1 : Int))))) b1 b2 b3 (IntKind.i64.wrap (b4 + (1 : Int)))
                else
                  none))
            else
              none)
          else
            none))
      else
        none)
    else
      none)
  else
    (some b0))
def e (_k : Nat) (q0 : (List Int) → (List Int) → Int → Int → Int → Option (List Int)) (a0 : (List Int)) (a1 : Int) : Option (List Int) :=
  (bif (decide (0 ≤ (IntKind.i64.wrap ((a0.length : Int) + (1 : Int)))) && decide ((IntKind.i64.wrap ((a0.length : Int) + (1 : Int))) * 4 ≤ 281474976710656) && decide ((IntKind.i64.wrap ((a0.length : Int) + (1 : Int))) ≤ 9223372036854775807)) then
    q0 (List.replicate (Int.toNat (IntKind.i64.wrap ((a0.length : Int) + (1 : Int)))) (0 : Int)) a0 a1 (a0.length : Int) (0 : Int)
  else
    none)
def pts : Nat → ((List Int) → (List Int) → Int → Int → Int → Option (List Int))
  | 0 => fun _ _ _ _ _ => none
  | k + 1 => e0 k (pts k)
def p0 (k : Nat) : (List Int) → (List Int) → Int → Int → Int → Option (List Int) := (pts k)
theorem p0_succ (k : Nat) (x0 : (List Int)) (x1 : (List Int)) (x2 : Int) (x3 : Int) (x4 : Int) : p0 (k + 1) x0 x1 x2 x3 x4 = e0 k (p0 k) x0 x1 x2 x3 x4 := rfl
def f (k : Nat) (a0 : (List Int)) (a1 : Int) : Option (List Int) := e k (p0 k) a0 a1
end nat_moved

namespace bits_Sub32
def e (_k : Nat) (a0 : Int) (a1 : Int) (a2 : Int) : Option (Int × Int) :=
  (some ((IntKind.u32.wrap ((IntKind.u32.wrap (a0 - a1)) - a2)), (Int.fdiv (bitsI .or .u32 (bitsI .and .u32 (bitsI .xor .u32 IntKind.u32.max a0) a1) (bitsI .and .u32 (bitsI .xor .u32 IntKind.u32.max (bitsI .xor .u32 a0 a1)) (IntKind.u32.wrap ((IntKind.u32.wrap (a0 - a1)) - a2)))) (2 ^ 31))))
def f (k : Nat) (a0 : Int) (a1 : Int) (a2 : Int) : Option (Int × Int) := e k a0 a1 a2
end bits_Sub32

namespace bits_Add32
def e (_k : Nat) (a0 : Int) (a1 : Int) (a2 : Int) : Option (Int × Int) :=
  (some ((IntKind.u32.wrap (IntKind.u64.wrap ((IntKind.u64.wrap ((IntKind.u64.wrap a0) + (IntKind.u64.wrap a1))) + (IntKind.u64.wrap a2)))), (IntKind.u32.wrap (Int.fdiv (IntKind.u64.wrap ((IntKind.u64.wrap ((IntKind.u64.wrap a0) + (IntKind.u64.wrap a1))) + (IntKind.u64.wrap a2))) (2 ^ 32)))))
def f (k : Nat) (a0 : Int) (a1 : Int) (a2 : Int) : Option (Int × Int) := e k a0 a1 a2
end bits_Add32

namespace nat_digit
def e0 (_k : Nat) (_q0 : (List Int) → Nat → Nat → (List Int) → Int → Int → Int → Option ((List Int) × Int)) (q11 : (List Int) → Nat → Nat → (List Int) → Int → Int → Int → Option ((List Int) × Int)) (q4 : (List Int) → Nat → Nat → (List Int) → Int → Int → Int → Int → Int → Int → Option ((List Int) × Int)) (_q8 : (List Int) → Nat → Nat → (List Int) → Int → Int → Int → Int → Int → Option ((List Int) × Int)) (b0 : (List Int)) (b1 : Nat) (b2 : Nat) (b3 : (List Int)) (b4 : Int) (b5 : Int) (b6 : Int) : Option ((List Int) × Int) :=
  (bif (!decide ((Int.fdiv b5 (2 ^ 32)) = (0 : Int))) then
    q11 b0 b1 b2 b3 b4 b5 b6
  else
    (bif (decide (0 ≤ (IntKind.i64.wrap (b4 - (2 : Int)))) && decide ((IntKind.i64.wrap (b4 - (2 : Int))) < (b3.length : Int))) then
      (bif (decide (0 ≤ (IntKind.i64.wrap (b4 - (2 : Int)))) && decide ((IntKind.i64.wrap (b4 - (2 : Int))) < (b2 : Int))) then
        (bif (decide ((IntKind.u64.wrap (b5 * (IntKind.u64.wrap (nthD (0 : Int) b3 (Int.toNat (IntKind.i64.wrap (b4 - (2 : Int)))))))) > (bitsI .or .u64 (IntKind.u64.wrap (b6 * 2 ^ 32)) (IntKind.u64.wrap (nthD (0 : Int) b0 (b1 + Int.toNat (IntKind.i64.wrap (b4 - (2 : Int))))))))) then
          q11 b0 b1 b2 b3 b4 b5 b6
        else
          q4 b0 b1 b2 b3 b4 b5 (0 : Int) (0 : Int) b4 (0 : Int))
      else
        none)
    else
      none))
def e11 (_k : Nat) (q0 : (List Int) → Nat → Nat → (List Int) → Int → Int → Int → Option ((List Int) × Int)) (_q11 : (List Int) → Nat → Nat → (List Int) → Int → Int → Int → Option ((List Int) × Int)) (q4 : (List Int) → Nat → Nat → (List Int) → Int → Int → Int → Int → Int → Int → Option ((List Int) × Int)) (_q8 : (List Int) → Nat → Nat → (List Int) → Int → Int → Int → Int → Int → Option ((List Int) × Int)) (b0 : (List Int)) (b1 : Nat) (b2 : Nat) (b3 : (List Int)) (b4 : Int) (b5 : Int) (b6 : Int) : Option ((List Int) × Int) :=
  (bif (decide (0 ≤ (IntKind.i64.wrap (b4 - (1 : Int)))) && decide ((IntKind.i64.wrap (b4 - (1 : Int))) < (b3.length : Int))) then
    (bif (!decide ((Int.fdiv (IntKind.u64.wrap (b6 + (IntKind.u64.wrap (nthD (0 : Int) b3 (Int.toNat (IntKind.i64.wrap (b4 - (1 : Int)))))))) (2 ^ 32)) = (0 : Int))) then
      q4 b0 b1 b2 b3 b4 (IntKind.u64.wrap (b5 - (1 : Int))) (0 : Int) (0 : Int) b4 (0 : Int)
    else
      q0 b0 b1 b2 b3 b4 (IntKind.u64.wrap (b5 - (1 : Int))) (IntKind.u64.wrap (b6 + (IntKind.u64.wrap (nthD (0 : Int) b3 (Int.toNat (IntKind.i64.wrap (b4 - (1 : Int)))))))))
  else
    none)
def e4 (k : Nat) (_q0 : (List Int) → Nat → Nat → (List Int) → Int → Int → Int → Option ((List Int) × Int)) (_q11 : (List Int) → Nat → Nat → (List Int) → Int → Int → Int → Option ((List Int) × Int)) (q4 : (List Int) → Nat → Nat → (List Int) → Int → Int → Int → Int → Int → Int → Option ((List Int) × Int)) (q8 : (List Int) → Nat → Nat → (List Int) → Int → Int → Int → Int → Int → Option ((List Int) × Int)) (b0 : (List Int)) (b1 : Nat) (b2 : Nat) (b3 : (List Int)) (b4 : Int) (b5 : Int) (b6 : Int) (b7 : Int) (b8 : Int) (b9 : Int) : Option ((List Int) × Int) :=
  (bif (decide (b9 < b8)) then
    (bif (decide (0 ≤ b9) && decide (b9 < (b3.length : Int))) then
      (bif (decide (0 ≤ b9) && decide (b9 < (b2 : Int))) then
        (Option.bind (bits_Sub32.f k (nthD (0 : Int) b0 (b1 + Int.toNat b9)) (IntKind.u32.wrap (IntKind.u64.wrap ((IntKind.u64.wrap (b5 * (IntKind.u64.wrap (nthD (0 : Int) b3 (Int.toNat b9))))) + b7))) b6) fun r1 =>
          (bif (decide (0 ≤ b9) && decide (b9 < (b2 : Int))) then
            q4 (setN r1.1 b0 (b1 + Int.toNat b9)) b1 b2 b3 b4 b5 r1.2 (Int.fdiv (IntKind.u64.wrap ((IntKind.u64.wrap (b5 * (IntKind.u64.wrap (nthD (0 : Int) b3 (Int.toNat b9))))) + b7)) (2 ^ 32)) b8 (IntKind.i64.wrap (b9 + (1 : Int)))
          else
            none))
      else
        none)
    else
      none)
  else
    (bif (decide (0 ≤ b4) && decide (b4 < (b2 : Int))) then
      (Option.bind (bits_Sub32.f k (nthD (0 : Int) b0 (b1 + Int.toNat b4)) (IntKind.u32.wrap b7) b6) fun r2 =>
        (bif (decide (0 ≤ b4) && decide (b4 < (b2 : Int))) then
          (bif (decide (r2.2 = (1 : Int))) then
            q8 (setN r2.1 b0 (b1 + Int.toNat b4)) b1 b2 b3 b4 (IntKind.u64.wrap (b5 - (1 : Int))) (0 : Int) b4 (0 : Int)
          else
            (some ((setN r2.1 b0 (b1 + Int.toNat b4)), (IntKind.u32.wrap b5))))
        else
          none))
    else
      none))
def e8 (k : Nat) (_q0 : (List Int) → Nat → Nat → (List Int) → Int → Int → Int → Option ((List Int) × Int)) (_q11 : (List Int) → Nat → Nat → (List Int) → Int → Int → Int → Option ((List Int) × Int)) (_q4 : (List Int) → Nat → Nat → (List Int) → Int → Int → Int → Int → Int → Int → Option ((List Int) × Int)) (q8 : (List Int) → Nat → Nat → (List Int) → Int → Int → Int → Int → Int → Option ((List Int) × Int)) (b0 : (List Int)) (b1 : Nat) (b2 : Nat) (b3 : (List Int)) (b4 : Int) (b5 : Int) (b6 : Int) (b7 : Int) (b8 : Int) : Option ((List Int) × Int) :=
  (bif (decide (b8 < b7)) then
    (bif (decide (0 ≤ b8) && decide (b8 < (b2 : Int))) then
      (bif (decide (0 ≤ b8) && decide (b8 < (b3.length : Int))) then
        (Option.bind (bits_Add32.f k (nthD (0 : Int) b0 (b1 + Int.toNat b8)) (nthD (0 : Int) b3 (Int.toNat b8)) b6) fun r3 =>
          (bif (decide (0 ≤ b8) && decide (b8 < (b2 : Int))) then
            q8 (setN r3.1 b0 (b1 + Int.toNat b8)) b1 b2 b3 b4 b5 r3.2 b7 (IntKind.i64.wrap (b8 + (1 : Int)))
          else
            none))
      else
        none)
    else
      none)
  else
    (bif (decide (0 ≤ b4) && decide (b4 < (b2 : Int))) then
      (bif (decide (0 ≤ b4) && decide (b4 < (b2 : Int))) then
        (some ((setN (IntKind.u32.wrap ((nthD (0 : Int) b0 (b1 + Int.toNat b4)) + b6)) b0 (b1 + Int.toNat b4)), (IntKind.u32.wrap b5)))
      else
        none)
    else
      none))
def e (_k : Nat) (q0 : (List Int) → Nat → Nat → (List Int) → Int → Int → Int → Option ((List Int) × Int)) (_q11 : (List Int) → Nat → Nat → (List Int) → Int → Int → Int → Option ((List Int) × Int)) (_q4 : (List Int) → Nat → Nat → (List Int) → Int → Int → Int → Int → Int → Int → Option ((List Int) × Int)) (_q8 : (List Int) → Nat → Nat → (List Int) → Int → Int → Int → Int → Int → Option ((List Int) × Int)) (a0 : (List Int)) (a1 : Nat) (a2 : Nat) (a3 : (List Int)) : Option ((List Int) × Int) :=
  (bif (decide (0 ≤ (a3.length : Int)) && decide ((a3.length : Int) < (a2 : Int))) then
    (bif (decide (0 ≤ (IntKind.i64.wrap ((a3.length : Int) - (1 : Int)))) && decide ((IntKind.i64.wrap ((a3.length : Int) - (1 : Int))) < (a2 : Int))) then
      (bif (decide (0 ≤ (IntKind.i64.wrap ((a3.length : Int) - (1 : Int)))) && decide ((IntKind.i64.wrap ((a3.length : Int) - (1 : Int))) < (a3.length : Int))) then
        (bif (decide ((IntKind.u64.wrap (nthD (0 : Int) a3 (Int.toNat (IntKind.i64.wrap ((a3.length : Int) - (1 : Int)))))) = 0)) then
          none
        else
          (bif (decide (0 ≤ (IntKind.i64.wrap ((a3.length : Int) - (1 : Int)))) && decide ((IntKind.i64.wrap ((a3.length : Int) - (1 : Int))) < (a3.length : Int))) then
            (bif (decide ((IntKind.u64.wrap (nthD (0 : Int) a3 (Int.toNat (IntKind.i64.wrap ((a3.length : Int) - (1 : Int)))))) = 0)) then
              none
            else
              q0 a0 a1 a2 a3 (a3.length : Int) (IntKind.u64.wrap (Int.tdiv (bitsI .or .u64 (IntKind.u64.wrap ((IntKind.u64.wrap (nthD (0 : Int) a0 (a1 + Int.toNat (a3.length : Int)))) * 2 ^ 32)) (IntKind.u64.wrap (nthD (0 : Int) a0 (a1 + Int.toNat (IntKind.i64.wrap ((a3.length : Int) - (1 : Int))))))) (IntKind.u64.wrap (nthD (0 : Int) a3 (Int.toNat (IntKind.i64.wrap ((a3.length : Int) - (1 : Int)))))))) (Int.tmod (bitsI .or .u64 (IntKind.u64.wrap ((IntKind.u64.wrap (nthD (0 : Int) a0 (a1 + Int.toNat (a3.length : Int)))) * 2 ^ 32)) (IntKind.u64.wrap (nthD (0 : Int) a0 (a1 + Int.toNat (IntKind.i64.wrap ((a3.length : Int) - (1 : Int))))))) (IntKind.u64.wrap (nthD (0 : Int) a3 (Int.toNat (IntKind.i64.wrap ((a3.length : Int) - (1 : Int))))))))
          else
            none))
      else
        none)
    else
      none)
  else
    none)
def pts : Nat → ((List Int) → Nat → Nat → (List Int) → Int → Int → Int → Option ((List Int) × Int)) × ((List Int) → Nat → Nat → (List Int) → Int → Int → Int → Option ((List Int) × Int)) × ((List Int) → Nat → Nat → (List Int) → Int → Int → Int → Int → Int → Int → Option ((List Int) × Int)) × ((List Int) → Nat → Nat → (List Int) → Int → Int → Int → Int → Int → Option ((List Int) × Int))
  | 0 => (fun _ _ _ _ _ _ _ => none, fun _ _ _ _ _ _ _ => none, fun _ _ _ _ _ _ _ _ _ _ => none, fun _ _ _ _ _ _ _ _ _ => none)
  | k + 1 => (e0 k (pts k).1 (pts k).2.1 (pts k).2.2.1 (pts k).2.2.2, e11 k (pts k).1 (pts k).2.1 (pts k).2.2.1 (pts k).2.2.2, e4 k (pts k).1 (pts k).2.1 (pts k).2.2.1 (pts k).2.2.2, e8 k (pts k).1 (pts k).2.1 (pts k).2.2.1 (pts k).2.2.2)
def p0 (k : Nat) : (List Int) → Nat → Nat → (List Int) → Int → Int → Int → Option ((List Int) × Int) := (pts k).1
def p11 (k : Nat) : (List Int) → Nat → Nat → (List Int) → Int → Int → Int → Option ((List Int) × Int) := (pts k).2.1
def p4 (k : Nat) : (List Int) → Nat → Nat → (List Int) → Int → Int → Int → Int → Int → Int → Option ((List Int) × Int) := (pts k).2.2.1
def p8 (k : Nat) : (List Int) → Nat → Nat → (List Int) → Int → Int → Int → Int → Int → Option ((List Int) × Int) := (pts k).2.2.2
theorem p0_succ (k : Nat) (x0 : (List Int)) (x1 : Nat) (x2 : Nat) (x3 : (List Int)) (x4 : Int) (x5 : Int) (x6 : Int) : p0 (k + 1) x0 x1 x2 x3 x4 x5 x6 = e0 k (p0 k) (p11 k) (p4 k) (p8 k) x0 x1 x2 x3 x4 x5 x6 := rfl
theorem p11_succ (k : Nat) (x0 : (List Int)) (x1 : Nat) (x2 : Nat) (x3 : (List Int)) (x4 : Int) (x5 : Int) (x6 : Int) : p11 (k + 1) x0 x1 x2 x3 x4 x5 x6 = e11 k (p0 k) (p11 k) (p4 k) (p8 k) x0 x1 x2 x3 x4 x5 x6 := rfl
theorem p4_succ (k : Nat) (x0 : (List Int)) (x1 : Nat) (x2 : Nat) (x3 : (List Int)) (x4 : Int) (x5 : Int) (x6 : Int) (x7 : Int) (x8 : Int) (x9 : Int) : p4 (k + 1) x0 x1 x2 x3 x4 x5 x6 x7 x8 x9 = e4 k (p0 k) (p11 k) (p4 k) (p8 k) x0 x1 x2 x3 x4 x5 x6 x7 x8 x9 := rfl
theorem p8_succ (k : Nat) (x0 : (List Int)) (x1 : Nat) (x2 : Nat) (x3 : (List Int)) (x4 : Int) (x5 : Int) (x6 : Int) (x7 : Int) (x8 : Int) : p8 (k + 1) x0 x1 x2 x3 x4 x5 x6 x7 x8 = e8 k (p0 k) (p11 k) (p4 k) (p8 k) x0 x1 x2 x3 x4 x5 x6 x7 x8 := rfl
def f (k : Nat) (a0 : (List Int)) (a1 : Nat) (a2 : Nat) (a3 : (List Int)) : Option ((List Int) × Int) := e k (p0 k) (p11 k) (p4 k) (p8 k) a0 a1 a2 a3
end nat_digit

namespace nat_long
def e0 (k : Nat) (q0 : (List Int) → (List Int) → Int → (List Int) → Int → Int → Option ((List Int) × (List Int))) (q4 : (List Int) → (List Int) → (List Int) → Int → Int → Int → Option ((List Int) × (List Int))) (b0 : (List Int)) (b1 : (List Int)) (b2 : Int) (b3 : (List Int)) (b4 : Int) (b5 : Int) : Option ((List Int) × (List Int)) :=
  (bif (decide (b5 ≥ (0 : Int))) then
    (bif (decide (0 ≤ b5) && decide (b5 ≤ (IntKind.i64.wrap ((IntKind.i64.wrap (b5 + b4)) + (1 : Int)))) && decide ((IntKind.i64.wrap ((IntKind.i64.wrap (b5 + b4)) + (1 : Int))) ≤ (b0.length : Int))) then
      (bif (decide (b5 < (IntKind.i64.wrap ((IntKind.i64.wrap (b5 + b4)) + (1 : Int))))) then
        (Option.bind (nat_digit.f k b0 (Int.toNat b5) (Int.toNat ((IntKind.i64.wrap ((IntKind.i64.wrap (b5 + b4)) + (1 : Int))) - b5)) b3) fun r4 =>
          (bif (decide (0 ≤ b5) && decide (b5 < (b1.length : Int))) then
            q0 r4.1 (setN r4.2 b1 (Int.toNat b5)) b2 b3 b4 (IntKind.i64.wrap (b5 - (1 : Int)))
          else
            none))
      else
        none)
    else
      none)
  else
    (bif (decide (0 ≤ b4) && decide (b4 * 4 ≤ 281474976710656) && decide (b4 ≤ 9223372036854775807)) then
      q4 b0 b1 (List.replicate (Int.toNat b4) (0 : Int)) b2 b4 (0 : Int)
    else
      none))
def e4 (k : Nat) (_q0 : (List Int) → (List Int) → Int → (List Int) → Int → Int → Option ((List Int) × (List Int))) (q4 : (List Int) → (List Int) → (List Int) → Int → Int → Int → Option ((List Int) × (List Int))) (b0 : (List Int)) (b1 : (List Int)) (b2 : (List Int)) (b3 : Int) (b4 : Int) (b5 : Int) : Option ((List Int) × (List Int)) :=
  (bif (decide (b5 < b4)) then
    (bif (decide (0 ≤ b5) && decide (b5 < (b0.length : Int))) then
      (bif (decide (b3 < 0)) then
        none
      else
        (bif (decide (0 ≤ (IntKind.i64.wrap (b5 + (1 : Int)))) && decide ((IntKind.i64.wrap (b5 + (1 : Int))) < (b0.length : Int))) then
          (bif (decide ((IntKind.i64.wrap ((32 : Int) - b3)) < 0)) then
            none
          else
            (bif (decide (0 ≤ b5) && decide (b5 < (b2.length : Int))) then
              q4 b0 b1 (setN (bitsI .or .u32 (Int.fdiv (nthD (0 : Int) b0 (Int.toNat b5)) (2 ^ min (Int.toNat b3) 32)) (IntKind.u32.wrap (IntKind.u64.wrap ((IntKind.u64.wrap (nthD (0 : Int) b0 (Int.toNat (IntKind.i64.wrap (b5 + (1 : Int)))))) * 2 ^ min (Int.toNat (IntKind.i64.wrap ((32 : Int) - b3))) 64)))) b2 (Int.toNat b5)) b3 b4 (IntKind.i64.wrap (b5 + (1 : Int)))
            else
              none))
        else
          none))
    else
      none)
  else
    (Option.bind (nat_own.f k b1) fun r5 =>
      (Option.bind (nat_own.f k b2) fun r6 =>
        (some (r5, r6)))))
def e (k : Nat) (q0 : (List Int) → (List Int) → Int → (List Int) → Int → Int → Option ((List Int) × (List Int))) (_q4 : (List Int) → (List Int) → (List Int) → Int → Int → Int → Option ((List Int) × (List Int))) (a0 : (List Int)) (a1 : (List Int)) : Option ((List Int) × (List Int)) :=
  (bif (decide (0 ≤ (IntKind.i64.wrap ((a1.length : Int) - (1 : Int)))) && decide ((IntKind.i64.wrap ((a1.length : Int) - (1 : Int))) < (a1.length : Int))) then
    (Option.bind (bits_LeadingZeros32.f k (nthD (0 : Int) a1 (Int.toNat (IntKind.i64.wrap ((a1.length : Int) - (1 : Int)))))) fun r1 =>
      (Option.bind (nat_moved.f k a1 r1) fun r2 =>
        (bif (decide (0 ≤ (0 : Int)) && decide ((0 : Int) ≤ (a1.length : Int)) && decide ((a1.length : Int) ≤ (r2.length : Int))) then
          (Option.bind (nat_moved.f k a0 r1) fun r3 =>
            (bif (decide (0 ≤ (IntKind.i64.wrap ((r3.length : Int) - (((r2.take (Int.toNat (a1.length : Int))).drop (Int.toNat (0 : Int))).length : Int)))) && decide ((IntKind.i64.wrap ((r3.length : Int) - (((r2.take (Int.toNat (a1.length : Int))).drop (Int.toNat (0 : Int))).length : Int))) * 4 ≤ 281474976710656) && decide ((IntKind.i64.wrap ((r3.length : Int) - (((r2.take (Int.toNat (a1.length : Int))).drop (Int.toNat (0 : Int))).length : Int))) ≤ 9223372036854775807)) then
              q0 r3 (List.replicate (Int.toNat (IntKind.i64.wrap ((r3.length : Int) - (((r2.take (Int.toNat (a1.length : Int))).drop (Int.toNat (0 : Int))).length : Int)))) (0 : Int)) r1 ((r2.take (Int.toNat (a1.length : Int))).drop (Int.toNat (0 : Int))) (((r2.take (Int.toNat (a1.length : Int))).drop (Int.toNat (0 : Int))).length : Int) (IntKind.i64.wrap ((IntKind.i64.wrap ((r3.length : Int) - (((r2.take (Int.toNat (a1.length : Int))).drop (Int.toNat (0 : Int))).length : Int))) - (1 : Int)))
            else
              none))
        else
          none)))
  else
    none)
def pts : Nat → ((List Int) → (List Int) → Int → (List Int) → Int → Int → Option ((List Int) × (List Int))) × ((List Int) → (List Int) → (List Int) → Int → Int → Int → Option ((List Int) × (List Int)))
  | 0 => (fun _ _ _ _ _ _ => none, fun _ _ _ _ _ _ => none)
  | k + 1 => (e0 k (pts k).1 (pts k).2, e4 k (pts k).1 (pts k).2)
def p0 (k : Nat) : (List Int) → (List Int) → Int → (List Int) → Int → Int → Option ((List Int) × (List Int)) := (pts k).1
def p4 (k : Nat) : (List Int) → (List Int) → (List Int) → Int → Int → Int → Option ((List Int) × (List Int)) := (pts k).2
theorem p0_succ (k : Nat) (x0 : (List Int)) (x1 : (List Int)) (x2 : Int) (x3 : (List Int)) (x4 : Int) (x5 : Int) : p0 (k + 1) x0 x1 x2 x3 x4 x5 = e0 k (p0 k) (p4 k) x0 x1 x2 x3 x4 x5 := rfl
theorem p4_succ (k : Nat) (x0 : (List Int)) (x1 : (List Int)) (x2 : (List Int)) (x3 : Int) (x4 : Int) (x5 : Int) : p4 (k + 1) x0 x1 x2 x3 x4 x5 = e4 k (p0 k) (p4 k) x0 x1 x2 x3 x4 x5 := rfl
def f (k : Nat) (a0 : (List Int)) (a1 : (List Int)) : Option ((List Int) × (List Int)) := e k (p0 k) (p4 k) a0 a1
end nat_long

namespace nat_Div
def e (k : Nat) (a0 : (List Int)) (a1 : (List Int)) : Option ((List Int) × (List Int) × Int) :=
  (Option.bind (nat_trim.f k a0) fun r1 =>
    (Option.bind (nat_trim.f k a1) fun r2 =>
      (bif (decide ((r2.length : Int) = (0 : Int))) then
        (some (([] : List Int), ([] : List Int), (11 : Int)))
      else
        (Option.bind (nat_Cmp.f k r1 r2) fun r3 =>
          (bif (decide (r3 < (0 : Int))) then
            (Option.bind (nat_own.f k r1) fun r4 =>
              (some (([] : List Int), r4, (0 : Int))))
          else
            (bif (decide ((r2.length : Int) = (1 : Int))) then
              (bif (decide ((0 : Int) < (r2.length : Int))) then
                (Option.bind (nat_short.f k r1 (nthD (0 : Int) r2 0)) fun r5 =>
                  (Option.bind (nat_own.f k r5.1) fun r6 =>
                    (Option.bind (nat_own.f k [r5.2]) fun r7 =>
                      (some (r6, r7, (0 : Int))))))
              else
                none)
            else
              (Option.bind (nat_long.f k r1 r2) fun r8 =>
                (some (r8.1, r8.2, (0 : Int))))))))))
def f (k : Nat) (a0 : (List Int)) (a1 : (List Int)) : Option ((List Int) × (List Int) × Int) := e k a0 a1
end nat_Div

namespace nat_Gcd
def e0 (k : Nat) (q0 : (List Int) → (List Int) → Option (List Int)) (b0 : (List Int)) (b1 : (List Int)) : Option (List Int) :=
  (bif (decide ((b1.length : Int) > (0 : Int))) then
    (Option.bind (nat_Div.f k b0 b1) fun r3 =>
      q0 b1 r3.2.1)
  else
    (some b0))
def e (k : Nat) (q0 : (List Int) → (List Int) → Option (List Int)) (a0 : (List Int)) (a1 : (List Int)) : Option (List Int) :=
  (Option.bind (nat_own.f k a0) fun r1 =>
    (Option.bind (nat_own.f k a1) fun r2 =>
      q0 r1 r2))
def pts : Nat → ((List Int) → (List Int) → Option (List Int))
  | 0 => fun _ _ => none
  | k + 1 => e0 k (pts k)
def p0 (k : Nat) : (List Int) → (List Int) → Option (List Int) := (pts k)
theorem p0_succ (k : Nat) (x0 : (List Int)) (x1 : (List Int)) : p0 (k + 1) x0 x1 = e0 k (p0 k) x0 x1 := rfl
def f (k : Nat) (a0 : (List Int)) (a1 : (List Int)) : Option (List Int) := e k (p0 k) a0 a1
end nat_Gcd

namespace whole_Norm
def e (k : Nat) (a0 : (Bool × (List Int))) : Option (Bool × (List Int)) :=
  (Option.bind (whole_Sign.f k a0) fun r1 =>
    (Option.bind (whole_signed.f k a0.2 [r1]) fun r2 =>
      (some r2)))
def f (k : Nat) (a0 : (Bool × (List Int))) : Option (Bool × (List Int)) := e k a0
end whole_Norm

namespace ratio_made
def e (k : Nat) (a0 : (Bool × (List Int))) (a1 : (List Int)) : Option ((Bool × (List Int)) × (List Int)) :=
  (Option.bind (nat_Gcd.f k a0.2 a1) fun r1 =>
    (Option.bind (nat_Div.f k a0.2 r1) fun r2 =>
      (Option.bind (nat_Div.f k a1 r1) fun r3 =>
        (Option.bind (whole_Norm.f k (a0.1, r2.1)) fun r4 =>
          (some (r4, r3.1))))))
def f (k : Nat) (a0 : (Bool × (List Int))) (a1 : (List Int)) : Option ((Bool × (List Int)) × (List Int)) := e k a0 a1
end ratio_made

namespace ratio_Of
def e11 (k : Nat) (_q11 : (Bool × (List Int)) → (Bool × (List Int)) → ((Bool × (List Int)) × (List Int)) → Option (((Bool × (List Int)) × (List Int)) × Int)) (b0 : (Bool × (List Int))) (b1 : (Bool × (List Int))) (_b2 : ((Bool × (List Int)) × (List Int))) : Option (((Bool × (List Int)) × (List Int)) × Int) :=
  (Option.bind (ratio_made.f k b0 b1.2) fun r4 =>
    (some (r4, (0 : Int))))
def e (k : Nat) (q11 : (Bool × (List Int)) → (Bool × (List Int)) → ((Bool × (List Int)) × (List Int)) → Option (((Bool × (List Int)) × (List Int)) × Int)) (a0 : (Bool × (List Int))) (a1 : (Bool × (List Int))) : Option (((Bool × (List Int)) × (List Int)) × Int) :=
  (Option.bind (whole_Sign.f k a1) fun r1 =>
    (bif (decide (r1 = (0 : Int))) then
      (some (((false, ([] : List Int)), ([] : List Int)), (11 : Int)))
    else
      (Option.bind (whole_Sign.f k a1) fun r2 =>
        (bif (decide (r2 < (0 : Int))) then
          (Option.bind (whole_Neg.f k a0) fun r3 =>
            q11 r3 a1 ((false, ([] : List Int)), ([] : List Int)))
        else
          q11 a0 a1 ((false, ([] : List Int)), ([] : List Int))))))
def pts : Nat → ((Bool × (List Int)) → (Bool × (List Int)) → ((Bool × (List Int)) × (List Int)) → Option (((Bool × (List Int)) × (List Int)) × Int))
  | 0 => fun _ _ _ => none
  | k + 1 => e11 k (pts k)
def p11 (k : Nat) : (Bool × (List Int)) → (Bool × (List Int)) → ((Bool × (List Int)) × (List Int)) → Option (((Bool × (List Int)) × (List Int)) × Int) := (pts k)
theorem p11_succ (k : Nat) (x0 : (Bool × (List Int))) (x1 : (Bool × (List Int))) (x2 : ((Bool × (List Int)) × (List Int))) : p11 (k + 1) x0 x1 x2 = e11 k (p11 k) x0 x1 x2 := rfl
def f (k : Nat) (a0 : (Bool × (List Int))) (a1 : (Bool × (List Int))) : Option (((Bool × (List Int)) × (List Int)) × Int) := e k (p11 k) a0 a1
end ratio_Of

namespace approx_number
def e (k : Nat) (a0 : ByteArray) : Option ((Bool × (List Int)) × (List Int)) :=
  (Option.bind (strings_TrimLeft.f k a0 (ByteArray.mk #[48])) fun r1 =>
    (bif (r1.toList == (ByteArray.mk #[]).toList) then
      (some ((false, ([] : List Int)), ([] : List Int)))
    else
      (Option.bind (nat_Parse.f k r1 (10 : Int)) fun r2 =>
        (Option.bind (whole_Of.f k (1 : Int)) fun r3 =>
          (Option.bind (ratio_Of.f k (false, r2.1) r3) fun r4 =>
            (some r4.1))))))
def f (k : Nat) (a0 : ByteArray) : Option ((Bool × (List Int)) × (List Int)) := e k a0
end approx_number

namespace nat_Mul
def e0 (k : Nat) (_q0 : (List Int) → (List Int) → (List Int) → Int → Int → Option (List Int)) (q4 : (List Int) → (List Int) → (List Int) → Int → Int → Int → Int → Int → Int → Option (List Int)) (b0 : (List Int)) (b1 : (List Int)) (b2 : (List Int)) (b3 : Int) (b4 : Int) : Option (List Int) :=
  (bif (decide (b4 < b3)) then
    q4 b0 b1 b2 b4 (0 : Int) b3 b4 (b2.length : Int) (0 : Int)
  else
    (Option.bind (nat_own.f k b0) fun r3 =>
      (some r3)))
def e4 (_k : Nat) (q0 : (List Int) → (List Int) → (List Int) → Int → Int → Option (List Int)) (q4 : (List Int) → (List Int) → (List Int) → Int → Int → Int → Int → Int → Int → Option (List Int)) (b0 : (List Int)) (b1 : (List Int)) (b2 : (List Int)) (b3 : Int) (b4 : Int) (b5 : Int) (b6 : Int) (b7 : Int) (b8 : Int) : Option (List Int) :=
  (bif (decide (b8 < b7)) then
    (bif (decide (0 ≤ b3) && decide (b3 < (b1.length : Int))) then
      (bif (decide (0 ≤ b8) && decide (b8 < (b2.length : Int))) then
        (bif (decide (0 ≤ (IntKind.i64.wrap (b3 + b8))) && decide ((IntKind.i64.wrap (b3 + b8)) < (b0.length : Int))) then
          (bif (decide (0 ≤ (IntKind.i64.wrap (b3 + b8))) && decide ((IntKind.i64.wrap (b3 + b8)) < (b0.length : Int))) then
            q4 (setN (IntKind.u32.wrap (IntKind.u64.wrap ((IntKind.u64.wrap ((IntKind.u64.wrap ((IntKind.u64.wrap (nthD (0 : Int) b1 (Int.toNat b3))) * (IntKind.u64.wrap (nthD (0 : Int) b2 (Int.toNat b8))))) + (IntKind.u64.wrap (nthD (0 : Int) b0 (Int.toNat (IntKind.i64.wrap (b3 + b8))))))) + b4))) b0 (Int.toNat (IntKind.i64.wrap (b3 + b8)))) b1 b2 b3 (Int.fdiv (IntKind.u64.wrap ((IntKind.u64.wrap ((IntKind.u64.wrap ((IntKind.u64.wrap (nthD (0 : Int) b1 (Int.toNat b3))) * (IntKind.u64.wrap (nthD (0 : Int) b2 (Int.toNat b8))))) + (IntKind.u64.wrap (nthD (0 : Int) b0 (Int.toNat (IntKind.i64.wrap (b3 + b8))))))) + b4)) (2 ^ 32)) b5 b6 b7 (IntKind.i64.wrap (b8 + (1 : Int)))
          else
            none)
        else
          none)
      else
        none)
    else
      none)
  else
    (bif (decide (0 ≤ (IntKind.i64.wrap (b3 + (b2.length : Int)))) && decide ((IntKind.i64.wrap (b3 + (b2.length : Int))) < (b0.length : Int))) then
      q0 (setN (IntKind.u32.wrap b4) b0 (Int.toNat (IntKind.i64.wrap (b3 + (b2.length : Int))))) b1 b2 b5 (IntKind.i64.wrap (b6 + (1 : Int)))
    else
      none))
def e (k : Nat) (q0 : (List Int) → (List Int) → (List Int) → Int → Int → Option (List Int)) (_q4 : (List Int) → (List Int) → (List Int) → Int → Int → Int → Int → Int → Int → Option (List Int)) (a0 : (List Int)) (a1 : (List Int)) : Option (List Int) :=
  (Option.bind (nat_trim.f k a0) fun r1 =>
    (Option.bind (nat_trim.f k a1) fun r2 =>
      (bif (decide (0 ≤ (IntKind.i64.wrap ((r1.length : Int) + (r2.length : Int)))) && decide ((IntKind.i64.wrap ((r1.length : Int) + (r2.length : Int))) * 4 ≤ 281474976710656) && decide ((IntKind.i64.wrap ((r1.length : Int) + (r2.length : Int))) ≤ 9223372036854775807)) then
        q0 (List.replicate (Int.toNat (IntKind.i64.wrap ((r1.length : Int) + (r2.length : Int)))) (0 : Int)) r1 r2 (r1.length : Int) (0 : Int)
      else
        none)))
def pts : Nat → ((List Int) → (List Int) → (List Int) → Int → Int → Option (List Int)) × ((List Int) → (List Int) → (List Int) → Int → Int → Int → Int → Int → Int → Option (List Int))
  | 0 => (fun _ _ _ _ _ => none, fun _ _ _ _ _ _ _ _ _ => none)
  | k + 1 => (e0 k (pts k).1 (pts k).2, e4 k (pts k).1 (pts k).2)
def p0 (k : Nat) : (List Int) → (List Int) → (List Int) → Int → Int → Option (List Int) := (pts k).1
def p4 (k : Nat) : (List Int) → (List Int) → (List Int) → Int → Int → Int → Int → Int → Int → Option (List Int) := (pts k).2
theorem p0_succ (k : Nat) (x0 : (List Int)) (x1 : (List Int)) (x2 : (List Int)) (x3 : Int) (x4 : Int) : p0 (k + 1) x0 x1 x2 x3 x4 = e0 k (p0 k) (p4 k) x0 x1 x2 x3 x4 := rfl
theorem p4_succ (k : Nat) (x0 : (List Int)) (x1 : (List Int)) (x2 : (List Int)) (x3 : Int) (x4 : Int) (x5 : Int) (x6 : Int) (x7 : Int) (x8 : Int) : p4 (k + 1) x0 x1 x2 x3 x4 x5 x6 x7 x8 = e4 k (p0 k) (p4 k) x0 x1 x2 x3 x4 x5 x6 x7 x8 := rfl
def f (k : Nat) (a0 : (List Int)) (a1 : (List Int)) : Option (List Int) := e k (p0 k) (p4 k) a0 a1
end nat_Mul

namespace nat_Pow
def e5 (_k : Nat) (_q5 : Unit → Option ((List Int) × Int)) (_q0 : Int → (List Int) → (List Int) → Option ((List Int) × Int)) (_q19 : Int → (List Int) → (List Int) → Option ((List Int) × Int)) (_q13 : Int → (List Int) → (List Int) → Option ((List Int) × Int)) (_ : Unit) : Option ((List Int) × Int) :=
  (some (([] : List Int), (13 : Int)))
def e0 (k : Nat) (_q5 : Unit → Option ((List Int) × Int)) (_q0 : Int → (List Int) → (List Int) → Option ((List Int) × Int)) (q19 : Int → (List Int) → (List Int) → Option ((List Int) × Int)) (_q13 : Int → (List Int) → (List Int) → Option ((List Int) × Int)) (b0 : Int) (b1 : (List Int)) (b2 : (List Int)) : Option ((List Int) × Int) :=
  (bif (decide (b0 > (0 : Int))) then
    (bif (decide ((Int.tmod b0 (2 : Int)) = (1 : Int))) then
      (Option.bind (nat_Mul.f k b1 b2) fun r2 =>
        q19 b0 r2 b2)
    else
      q19 b0 b1 b2)
  else
    (some (b1, (0 : Int))))
def e19 (k : Nat) (_q5 : Unit → Option ((List Int) × Int)) (_q0 : Int → (List Int) → (List Int) → Option ((List Int) × Int)) (_q19 : Int → (List Int) → (List Int) → Option ((List Int) × Int)) (q13 : Int → (List Int) → (List Int) → Option ((List Int) × Int)) (b0 : Int) (b1 : (List Int)) (b2 : (List Int)) : Option ((List Int) × Int) :=
  (bif (decide (b0 > (1 : Int))) then
    (Option.bind (nat_Mul.f k b2 b2) fun r3 =>
      q13 b0 b1 r3)
  else
    q13 b0 b1 b2)
def e13 (_k : Nat) (_q5 : Unit → Option ((List Int) × Int)) (q0 : Int → (List Int) → (List Int) → Option ((List Int) × Int)) (_q19 : Int → (List Int) → (List Int) → Option ((List Int) × Int)) (_q13 : Int → (List Int) → (List Int) → Option ((List Int) × Int)) (b0 : Int) (b1 : (List Int)) (b2 : (List Int)) : Option ((List Int) × Int) :=
  q0 (IntKind.i64.wrap (Int.tdiv b0 (2 : Int))) b1 b2
def e (k : Nat) (q5 : Unit → Option ((List Int) × Int)) (q0 : Int → (List Int) → (List Int) → Option ((List Int) × Int)) (_q19 : Int → (List Int) → (List Int) → Option ((List Int) × Int)) (_q13 : Int → (List Int) → (List Int) → Option ((List Int) × Int)) (a0 : (List Int)) (a1 : Int) : Option ((List Int) × Int) :=
  (bif (decide (a1 < (0 : Int))) then
    q5 ()
  else
    (bif (decide (a1 > (4096 : Int))) then
      q5 ()
    else
      (Option.bind (nat_own.f k a0) fun r1 =>
        q0 a1 [(1 : Int)] r1)))
def pts : Nat → (Unit → Option ((List Int) × Int)) × (Int → (List Int) → (List Int) → Option ((List Int) × Int)) × (Int → (List Int) → (List Int) → Option ((List Int) × Int)) × (Int → (List Int) → (List Int) → Option ((List Int) × Int))
  | 0 => (fun _ => none, fun _ _ _ => none, fun _ _ _ => none, fun _ _ _ => none)
  | k + 1 => (e5 k (pts k).1 (pts k).2.1 (pts k).2.2.1 (pts k).2.2.2, e0 k (pts k).1 (pts k).2.1 (pts k).2.2.1 (pts k).2.2.2, e19 k (pts k).1 (pts k).2.1 (pts k).2.2.1 (pts k).2.2.2, e13 k (pts k).1 (pts k).2.1 (pts k).2.2.1 (pts k).2.2.2)
def p5 (k : Nat) : Unit → Option ((List Int) × Int) := (pts k).1
def p0 (k : Nat) : Int → (List Int) → (List Int) → Option ((List Int) × Int) := (pts k).2.1
def p19 (k : Nat) : Int → (List Int) → (List Int) → Option ((List Int) × Int) := (pts k).2.2.1
def p13 (k : Nat) : Int → (List Int) → (List Int) → Option ((List Int) × Int) := (pts k).2.2.2
theorem p5_succ (k : Nat) (x0 : Unit) : p5 (k + 1) x0 = e5 k (p5 k) (p0 k) (p19 k) (p13 k) x0 := rfl
theorem p0_succ (k : Nat) (x0 : Int) (x1 : (List Int)) (x2 : (List Int)) : p0 (k + 1) x0 x1 x2 = e0 k (p5 k) (p0 k) (p19 k) (p13 k) x0 x1 x2 := rfl
theorem p19_succ (k : Nat) (x0 : Int) (x1 : (List Int)) (x2 : (List Int)) : p19 (k + 1) x0 x1 x2 = e19 k (p5 k) (p0 k) (p19 k) (p13 k) x0 x1 x2 := rfl
theorem p13_succ (k : Nat) (x0 : Int) (x1 : (List Int)) (x2 : (List Int)) : p13 (k + 1) x0 x1 x2 = e13 k (p5 k) (p0 k) (p19 k) (p13 k) x0 x1 x2 := rfl
def f (k : Nat) (a0 : (List Int)) (a1 : Int) : Option ((List Int) × Int) := e k (p5 k) (p0 k) (p19 k) (p13 k) a0 a1
end nat_Pow

namespace nat_Bits
def e (k : Nat) (a0 : (List Int)) : Option Int :=
  (Option.bind (nat_trim.f k a0) fun r1 =>
    (bif (decide ((r1.length : Int) = (0 : Int))) then
      (some (0 : Int))
    else
      (bif (decide (0 ≤ (IntKind.i64.wrap ((r1.length : Int) - (1 : Int)))) && decide ((IntKind.i64.wrap ((r1.length : Int) - (1 : Int))) < (r1.length : Int))) then
        (Option.bind (bits_Len32.f k (nthD (0 : Int) r1 (Int.toNat (IntKind.i64.wrap ((r1.length : Int) - (1 : Int)))))) fun r2 =>
          (some (IntKind.i64.wrap ((IntKind.i64.wrap ((32 : Int) * (IntKind.i64.wrap ((r1.length : Int) - (1 : Int))))) + r2))))
      else
        none)))
def f (k : Nat) (a0 : (List Int)) : Option Int := e k a0
end nat_Bits

namespace ratio_Norm
def e (k : Nat) (a0 : ((Bool × (List Int)) × (List Int))) : Option ((Bool × (List Int)) × (List Int)) :=
  (Option.bind (nat_Bits.f k a0.2) fun r1 =>
    (bif (decide (r1 = (0 : Int))) then
      (some ((false, ([] : List Int)), [(1 : Int)]))
    else
      (Option.bind (ratio_made.f k a0.1 a0.2) fun r2 =>
        (some r2))))
def f (k : Nat) (a0 : ((Bool × (List Int)) × (List Int))) : Option ((Bool × (List Int)) × (List Int)) := e k a0
end ratio_Norm

namespace ratio_Inv
def e (k : Nat) (a0 : ((Bool × (List Int)) × (List Int))) : Option (((Bool × (List Int)) × (List Int)) × Int) :=
  (Option.bind (ratio_Norm.f k a0) fun r1 =>
    (Option.bind (ratio_Of.f k (false, r1.2) r1.1) fun r2 =>
      (some (r2.1, r2.2))))
def f (k : Nat) (a0 : ((Bool × (List Int)) × (List Int))) : Option (((Bool × (List Int)) × (List Int)) × Int) := e k a0
end ratio_Inv

namespace approx_ten
def e0 (k : Nat) (q0 : ((Bool × (List Int)) × (List Int)) → Int → (List Int) → Int → Option ((Bool × (List Int)) × (List Int))) (q21 : ((Bool × (List Int)) × (List Int)) → ((Bool × (List Int)) × (List Int)) → Option ((Bool × (List Int)) × (List Int))) (b0 : ((Bool × (List Int)) × (List Int))) (b1 : Int) (b2 : (List Int)) (b3 : Int) : Option ((Bool × (List Int)) × (List Int)) :=
  (bif (decide (b3 > (0 : Int))) then
    (Option.bind (nat_Of.f k (10 : Int)) fun r2 =>
      (Option.bind (nat_Pow.f k r2 (bif decide ((4096 : Int) < b3) then (4096 : Int) else b3)) fun r3 =>
        (Option.bind (nat_Mul.f k b2 r3.1) fun r4 =>
          q0 b0 b1 r4 (IntKind.i64.wrap (b3 - (4096 : Int))))))
  else
    (Option.bind (whole_Of.f k (1 : Int)) fun r5 =>
      (Option.bind (ratio_Of.f k (false, b2) r5) fun r6 =>
        (bif (decide (b1 < (0 : Int))) then
          (Option.bind (ratio_Inv.f k r6.1) fun r7 =>
            q21 b0 r7.1)
        else
          q21 b0 r6.1))))
def e21 (_k : Nat) (_q0 : ((Bool × (List Int)) × (List Int)) → Int → (List Int) → Int → Option ((Bool × (List Int)) × (List Int))) (_q21 : ((Bool × (List Int)) × (List Int)) → ((Bool × (List Int)) × (List Int)) → Option ((Bool × (List Int)) × (List Int))) (_b0 : ((Bool × (List Int)) × (List Int))) (b1 : ((Bool × (List Int)) × (List Int))) : Option ((Bool × (List Int)) × (List Int)) :=
  (some b1)
def e (k : Nat) (q0 : ((Bool × (List Int)) × (List Int)) → Int → (List Int) → Int → Option ((Bool × (List Int)) × (List Int))) (_q21 : ((Bool × (List Int)) × (List Int)) → ((Bool × (List Int)) × (List Int)) → Option ((Bool × (List Int)) × (List Int))) (a0 : Int) : Option ((Bool × (List Int)) × (List Int)) :=
  (Option.bind (nat_Of.f k (1 : Int)) fun r1 =>
    q0 ((false, ([] : List Int)), ([] : List Int)) a0 r1 (bif decide ((IntKind.i64.wrap (0 - a0)) > a0) then (IntKind.i64.wrap (0 - a0)) else a0))
def pts : Nat → (((Bool × (List Int)) × (List Int)) → Int → (List Int) → Int → Option ((Bool × (List Int)) × (List Int))) × (((Bool × (List Int)) × (List Int)) → ((Bool × (List Int)) × (List Int)) → Option ((Bool × (List Int)) × (List Int)))
  | 0 => (fun _ _ _ _ => none, fun _ _ => none)
  | k + 1 => (e0 k (pts k).1 (pts k).2, e21 k (pts k).1 (pts k).2)
def p0 (k : Nat) : ((Bool × (List Int)) × (List Int)) → Int → (List Int) → Int → Option ((Bool × (List Int)) × (List Int)) := (pts k).1
def p21 (k : Nat) : ((Bool × (List Int)) × (List Int)) → ((Bool × (List Int)) × (List Int)) → Option ((Bool × (List Int)) × (List Int)) := (pts k).2
theorem p0_succ (k : Nat) (x0 : ((Bool × (List Int)) × (List Int))) (x1 : Int) (x2 : (List Int)) (x3 : Int) : p0 (k + 1) x0 x1 x2 x3 = e0 k (p0 k) (p21 k) x0 x1 x2 x3 := rfl
theorem p21_succ (k : Nat) (x0 : ((Bool × (List Int)) × (List Int))) (x1 : ((Bool × (List Int)) × (List Int))) : p21 (k + 1) x0 x1 = e21 k (p0 k) (p21 k) x0 x1 := rfl
def f (k : Nat) (a0 : Int) : Option ((Bool × (List Int)) × (List Int)) := e k (p0 k) (p21 k) a0
end approx_ten

namespace whole_Mul
def e (k : Nat) (a0 : (Bool × (List Int))) (a1 : (Bool × (List Int))) : Option (Bool × (List Int)) :=
  (Option.bind (nat_Mul.f k a0.2 a1.2) fun r1 =>
    (Option.bind (whole_Sign.f k a0) fun r2 =>
      (Option.bind (whole_Sign.f k a1) fun r3 =>
        (Option.bind (whole_signed.f k r1 [r2, r3]) fun r4 =>
          (some r4)))))
def f (k : Nat) (a0 : (Bool × (List Int))) (a1 : (Bool × (List Int))) : Option (Bool × (List Int)) := e k a0 a1
end whole_Mul

namespace ratio_Mul
def e (k : Nat) (a0 : ((Bool × (List Int)) × (List Int))) (a1 : ((Bool × (List Int)) × (List Int))) : Option ((Bool × (List Int)) × (List Int)) :=
  (Option.bind (ratio_Norm.f k a0) fun r1 =>
    (Option.bind (ratio_Norm.f k a1) fun r2 =>
      (Option.bind (whole_Mul.f k r1.1 r2.1) fun r3 =>
        (Option.bind (nat_Mul.f k r1.2 r2.2) fun r4 =>
          (Option.bind (ratio_made.f k r3 r4) fun r5 =>
            (some r5))))))
def f (k : Nat) (a0 : ((Bool × (List Int)) × (List Int))) (a1 : ((Bool × (List Int)) × (List Int))) : Option ((Bool × (List Int)) × (List Int)) := e k a0 a1
end ratio_Mul

namespace approx_decimal
def e21 (k : Nat) (_q21 : ((Bool × (List Int)) × (List Int)) → ByteArray → ByteArray → ByteArray → Option (((Bool × (List Int)) × (List Int)) × Bool)) (q29 : ((Bool × (List Int)) × (List Int)) → ByteArray → ByteArray → ByteArray → Option (((Bool × (List Int)) × (List Int)) × Bool)) (b0 : ((Bool × (List Int)) × (List Int))) (b1 : ByteArray) (b2 : ByteArray) (b3 : ByteArray) : Option (((Bool × (List Int)) × (List Int)) × Bool) :=
  (bif (!(b2.toList == (ByteArray.mk #[]).toList)) then
    (bif (decide ((0 : Int) < (b2.size : Int))) then
      (bif (!decide ((btI b2 (0 : Int)) = (101 : Int))) then
        (bif (decide ((0 : Int) < (b2.size : Int))) then
          (bif (!decide ((btI b2 (0 : Int)) = (69 : Int))) then
            (some (((false, ([] : List Int)), ([] : List Int)), false))
          else
            q29 b0 b1 b2 b3)
        else
          none)
      else
        q29 b0 b1 b2 b3)
    else
      none)
  else
    (bif (decide (((b1.size + b3.size : Nat) : Int) > IntKind.i64.max)) then
      none
    else
      (Option.bind (approx_number.f k (b1 ++ b3)) fun r4 =>
        (Option.bind (approx_ten.f k (IntKind.i64.wrap ((0 : Int) - (b3.size : Int)))) fun r5 =>
          (Option.bind (ratio_Mul.f k r4 r5) fun r6 =>
            (some (r6, true)))))))
def e29 (k : Nat) (_q21 : ((Bool × (List Int)) × (List Int)) → ByteArray → ByteArray → ByteArray → Option (((Bool × (List Int)) × (List Int)) × Bool)) (_q29 : ((Bool × (List Int)) × (List Int)) → ByteArray → ByteArray → ByteArray → Option (((Bool × (List Int)) × (List Int)) × Bool)) (_b0 : ((Bool × (List Int)) × (List Int))) (b1 : ByteArray) (b2 : ByteArray) (b3 : ByteArray) : Option (((Bool × (List Int)) × (List Int)) × Bool) :=
  (bif (decide (0 ≤ (1 : Int)) && decide ((1 : Int) ≤ (b2.size : Int)) && decide ((b2.size : Int) ≤ (b2.size : Int))) then
    (Option.bind (approx_exponent.f k (b2.extract (Int.toNat (1 : Int)) (Int.toNat (b2.size : Int)))) fun r7 =>
      (bif (!r7.2) then
        (some (((false, ([] : List Int)), ([] : List Int)), false))
      else
        (bif (decide (((b1.size + b3.size : Nat) : Int) > IntKind.i64.max)) then
          none
        else
          (Option.bind (approx_number.f k (b1 ++ b3)) fun r8 =>
            (Option.bind (approx_ten.f k (IntKind.i64.wrap (r7.1 - (b3.size : Int)))) fun r9 =>
              (Option.bind (ratio_Mul.f k r8 r9) fun r10 =>
                (some (r10, true))))))))
  else
    none)
def e (k : Nat) (q21 : ((Bool × (List Int)) × (List Int)) → ByteArray → ByteArray → ByteArray → Option (((Bool × (List Int)) × (List Int)) × Bool)) (_q29 : ((Bool × (List Int)) × (List Int)) → ByteArray → ByteArray → ByteArray → Option (((Bool × (List Int)) × (List Int)) × Bool)) (a0 : ByteArray) : Option (((Bool × (List Int)) × (List Int)) × Bool) :=
  (Option.bind (approx_digits.f k a0) fun r1 =>
    (bif (r1.1.toList == (ByteArray.mk #[]).toList) then
      (some (((false, ([] : List Int)), ([] : List Int)), false))
    else
      (Option.bind (strings_CutPrefix.f k r1.2 (ByteArray.mk #[46])) fun r2 =>
        (bif r2.2 then
          (Option.bind (approx_digits.f k r2.1) fun r3 =>
            (bif (r3.1.toList == (ByteArray.mk #[]).toList) then
              (some (((false, ([] : List Int)), ([] : List Int)), false))
            else
              q21 ((false, ([] : List Int)), ([] : List Int)) r1.1 r3.2 r3.1))
        else
          q21 ((false, ([] : List Int)), ([] : List Int)) r1.1 r1.2 (ByteArray.mk #[])))))
def pts : Nat → (((Bool × (List Int)) × (List Int)) → ByteArray → ByteArray → ByteArray → Option (((Bool × (List Int)) × (List Int)) × Bool)) × (((Bool × (List Int)) × (List Int)) → ByteArray → ByteArray → ByteArray → Option (((Bool × (List Int)) × (List Int)) × Bool))
  | 0 => (fun _ _ _ _ => none, fun _ _ _ _ => none)
  | k + 1 => (e21 k (pts k).1 (pts k).2, e29 k (pts k).1 (pts k).2)
def p21 (k : Nat) : ((Bool × (List Int)) × (List Int)) → ByteArray → ByteArray → ByteArray → Option (((Bool × (List Int)) × (List Int)) × Bool) := (pts k).1
def p29 (k : Nat) : ((Bool × (List Int)) × (List Int)) → ByteArray → ByteArray → ByteArray → Option (((Bool × (List Int)) × (List Int)) × Bool) := (pts k).2
theorem p21_succ (k : Nat) (x0 : ((Bool × (List Int)) × (List Int))) (x1 : ByteArray) (x2 : ByteArray) (x3 : ByteArray) : p21 (k + 1) x0 x1 x2 x3 = e21 k (p21 k) (p29 k) x0 x1 x2 x3 := rfl
theorem p29_succ (k : Nat) (x0 : ((Bool × (List Int)) × (List Int))) (x1 : ByteArray) (x2 : ByteArray) (x3 : ByteArray) : p29 (k + 1) x0 x1 x2 x3 = e29 k (p21 k) (p29 k) x0 x1 x2 x3 := rfl
def f (k : Nat) (a0 : ByteArray) : Option (((Bool × (List Int)) × (List Int)) × Bool) := e k (p21 k) (p29 k) a0
end approx_decimal

namespace ratio_Sign
def e (k : Nat) (a0 : ((Bool × (List Int)) × (List Int))) : Option Int :=
  (Option.bind (ratio_Norm.f k a0) fun r1 =>
    (Option.bind (whole_Sign.f k r1.1) fun r2 =>
      (some r2)))
def f (k : Nat) (a0 : ((Bool × (List Int)) × (List Int))) : Option Int := e k a0
end ratio_Sign

namespace ratio_Neg
def e (k : Nat) (a0 : ((Bool × (List Int)) × (List Int))) : Option ((Bool × (List Int)) × (List Int)) :=
  (Option.bind (ratio_Norm.f k a0) fun r1 =>
    (Option.bind (whole_Neg.f k r1.1) fun r2 =>
      (some (r2, r1.2))))
def f (k : Nat) (a0 : ((Bool × (List Int)) × (List Int))) : Option ((Bool × (List Int)) × (List Int)) := e k a0
end ratio_Neg

namespace ratio_Abs
def e (k : Nat) (a0 : ((Bool × (List Int)) × (List Int))) : Option ((Bool × (List Int)) × (List Int)) :=
  (Option.bind (ratio_Sign.f k a0) fun r1 =>
    (bif (decide (r1 < (0 : Int))) then
      (Option.bind (ratio_Neg.f k a0) fun r2 =>
        (some r2))
    else
      (Option.bind (ratio_Norm.f k a0) fun r3 =>
        (some r3))))
def f (k : Nat) (a0 : ((Bool × (List Int)) × (List Int))) : Option ((Bool × (List Int)) × (List Int)) := e k a0
end ratio_Abs

namespace math_Float64bits
def f (_k : Nat) (a0 : Nat) : Option Int := some (a0 : Int)
end math_Float64bits

namespace nat_Shift
def e5 (_k : Nat) (_q5 : Unit → Option ((List Int) × Int)) (_q0 : (List Int) → (List Int) → Int → Int → Int → Option ((List Int) × Int)) (_q39 : (List Int) → (List Int) → Int → Int → Int → Option ((List Int) × Int)) (_ : Unit) : Option ((List Int) × Int) :=
  (some (([] : List Int), (12 : Int)))
def e0 (k : Nat) (_q5 : Unit → Option ((List Int) × Int)) (_q0 : (List Int) → (List Int) → Int → Int → Int → Option ((List Int) × Int)) (q39 : (List Int) → (List Int) → Int → Int → Int → Option ((List Int) × Int)) (b0 : (List Int)) (b1 : (List Int)) (b2 : Int) (b3 : Int) (b4 : Int) : Option ((List Int) × Int) :=
  (bif (decide (b4 < b3)) then
    (bif (decide (0 ≤ b4) && decide (b4 < (b1.length : Int))) then
      (bif (decide (b2 < 0)) then
        none
      else
        (bif (decide (0 ≤ b4) && decide (b4 < (b0.length : Int))) then
          (bif (decide ((IntKind.i64.wrap (b4 + (1 : Int))) < (b1.length : Int))) then
            (bif (decide (0 ≤ b4) && decide (b4 < ((setN (Int.fdiv (nthD (0 : Int) b1 (Int.toNat b4)) (2 ^ min (Int.toNat b2) 32)) b0 (Int.toNat b4)).length : Int))) then
              (bif (decide (0 ≤ (IntKind.i64.wrap (b4 + (1 : Int)))) && decide ((IntKind.i64.wrap (b4 + (1 : Int))) < (b1.length : Int))) then
                (bif (decide ((IntKind.i64.wrap ((32 : Int) - b2)) < 0)) then
                  none
                else
                  (bif (decide (0 ≤ b4) && decide (b4 < ((setN (Int.fdiv (nthD (0 : Int) b1 (Int.toNat b4)) (2 ^ min (Int.toNat b2) 32)) b0 (Int.toNat b4)).length : Int))) then
                    q39 (setN (bitsI .or .u32 (nthD (0 : Int) (setN (Int.fdiv (nthD (0 : Int) b1 (Int.toNat b4)) (2 ^ min (Int.toNat b2) 32)) b0 (Int.toNat b4)) (Int.toNat b4)) (IntKind.u32.wrap (IntKind.u64.wrap ((IntKind.u64.wrap (nthD (0 : Int) b1 (Int.toNat (IntKind.i64.wrap (b4 + (1 : Int)))))) * 2 ^ min (Int.toNat (IntKind.i64.wrap ((32 : Int) - b2))) 64)))) (setN (Int.fdiv (nthD (0 : Int) b1 (Int.toNat b4)) (2 ^ min (Int.toNat b2) 32)) b0 (Int.toNat b4)) (Int.toNat b4)) b1 b2 b3 b4
                  else
                    none))
              else
                none)
            else
              none)
          else
            q39 (setN (Int.fdiv (nthD (0 : Int) b1 (Int.toNat b4)) (2 ^ min (Int.toNat b2) 32)) b0 (Int.toNat b4)) b1 b2 b3 b4)
        else
          none))
    else
      none)
  else
    (Option.bind (nat_own.f k b0) fun r4 =>
      (some (r4, (0 : Int)))))
def e39 (_k : Nat) (_q5 : Unit → Option ((List Int) × Int)) (q0 : (List Int) → (List Int) → Int → Int → Int → Option ((List Int) × Int)) (_q39 : (List Int) → (List Int) → Int → Int → Int → Option ((List Int) × Int)) (b0 : (List Int)) (b1 : (List Int)) (b2 : Int) (b3 : Int) (b4 : Int) : Option ((List Int) × Int) :=
  q0 b0 b1 b2 b3 (IntKind.i64.wrap (b4 + (1 : Int)))
def e (k : Nat) (q5 : Unit → Option ((List Int) × Int)) (q0 : (List Int) → (List Int) → Int → Int → Int → Option ((List Int) × Int)) (_q39 : (List Int) → (List Int) → Int → Int → Int → Option ((List Int) × Int)) (a0 : (List Int)) (a1 : Int) : Option ((List Int) × Int) :=
  (bif (decide (a1 < (-1048576 : Int))) then
    q5 ()
  else
    (bif (decide (a1 > (1048576 : Int))) then
      q5 ()
    else
      (Option.bind (nat_trim.f k a0) fun r1 =>
        (bif (decide (a1 ≥ (0 : Int))) then
          (bif (decide (0 ≤ (IntKind.i64.wrap ((IntKind.i64.wrap ((IntKind.i64.wrap (Int.tdiv a1 (32 : Int))) + (r1.length : Int))) + (1 : Int)))) && decide ((IntKind.i64.wrap ((IntKind.i64.wrap ((IntKind.i64.wrap (Int.tdiv a1 (32 : Int))) + (r1.length : Int))) + (1 : Int))) * 4 ≤ 281474976710656) && decide ((IntKind.i64.wrap ((IntKind.i64.wrap ((IntKind.i64.wrap (Int.tdiv a1 (32 : Int))) + (r1.length : Int))) + (1 : Int))) ≤ 9223372036854775807)) then
            (bif (decide (0 ≤ (IntKind.i64.wrap (Int.tdiv a1 (32 : Int)))) && decide ((IntKind.i64.wrap (Int.tdiv a1 (32 : Int))) ≤ ((List.replicate (Int.toNat (IntKind.i64.wrap ((IntKind.i64.wrap ((IntKind.i64.wrap (Int.tdiv a1 (32 : Int))) + (r1.length : Int))) + (1 : Int)))) (0 : Int)).length : Int)) && decide (((List.replicate (Int.toNat (IntKind.i64.wrap ((IntKind.i64.wrap ((IntKind.i64.wrap (Int.tdiv a1 (32 : Int))) + (r1.length : Int))) + (1 : Int)))) (0 : Int)).length : Int) ≤ ((List.replicate (Int.toNat (IntKind.i64.wrap ((IntKind.i64.wrap ((IntKind.i64.wrap (Int.tdiv a1 (32 : Int))) + (r1.length : Int))) + (1 : Int)))) (0 : Int)).length : Int))) then
              (bif (decide ((IntKind.i64.wrap (Int.tdiv a1 (32 : Int))) < ((List.replicate (Int.toNat (IntKind.i64.wrap ((IntKind.i64.wrap ((IntKind.i64.wrap (Int.tdiv a1 (32 : Int))) + (r1.length : Int))) + (1 : Int)))) (0 : Int)).length : Int))) then
                (Option.bind (nat_moved.f k r1 (Int.tmod a1 (32 : Int))) fun r2 =>
                  (Option.bind (nat_own.f k ((List.replicate (Int.toNat (IntKind.i64.wrap ((IntKind.i64.wrap ((IntKind.i64.wrap (Int.tdiv a1 (32 : Int))) + (r1.length : Int))) + (1 : Int)))) (0 : Int)).take (Int.toNat (IntKind.i64.wrap (Int.tdiv a1 (32 : Int)))) ++ (r2.take (Int.toNat (((List.replicate (Int.toNat (IntKind.i64.wrap ((IntKind.i64.wrap ((IntKind.i64.wrap (Int.tdiv a1 (32 : Int))) + (r1.length : Int))) + (1 : Int)))) (0 : Int)).length : Int) - (IntKind.i64.wrap (Int.tdiv a1 (32 : Int))))) ++ (List.replicate (Int.toNat (IntKind.i64.wrap ((IntKind.i64.wrap ((IntKind.i64.wrap (Int.tdiv a1 (32 : Int))) + (r1.length : Int))) + (1 : Int)))) (0 : Int)).drop ((Int.toNat (IntKind.i64.wrap (Int.tdiv a1 (32 : Int)))) + min r2.length (Int.toNat (((List.replicate (Int.toNat (IntKind.i64.wrap ((IntKind.i64.wrap ((IntKind.i64.wrap (Int.tdiv a1 (32 : Int))) + (r1.length : Int))) + (1 : Int)))) (0 : Int)).length : Int) - (IntKind.i64.wrap (Int.tdiv a1 (32 : Int))))))))) fun r3 =>
                    (some (r3, (0 : Int)))))
              else
                none)
            else
              none)
          else
            none)
        else
          (bif (decide ((IntKind.i64.wrap (Int.tdiv (IntKind.i64.wrap (0 - a1)) (32 : Int))) ≥ (r1.length : Int))) then
            (some (([] : List Int), (0 : Int)))
          else
            (bif (decide (0 ≤ (IntKind.i64.wrap (Int.tdiv (IntKind.i64.wrap (0 - a1)) (32 : Int)))) && decide ((IntKind.i64.wrap (Int.tdiv (IntKind.i64.wrap (0 - a1)) (32 : Int))) ≤ (r1.length : Int)) && decide ((r1.length : Int) ≤ (r1.length : Int))) then
              (bif (decide (0 ≤ (((r1.take (Int.toNat (r1.length : Int))).drop (Int.toNat (IntKind.i64.wrap (Int.tdiv (IntKind.i64.wrap (0 - a1)) (32 : Int))))).length : Int)) && decide ((((r1.take (Int.toNat (r1.length : Int))).drop (Int.toNat (IntKind.i64.wrap (Int.tdiv (IntKind.i64.wrap (0 - a1)) (32 : Int))))).length : Int) * 4 ≤ 281474976710656) && decide ((((r1.take (Int.toNat (r1.length : Int))).drop (Int.toNat (IntKind.i64.wrap (Int.tdiv (IntKind.i64.wrap (0 - a1)) (32 : Int))))).length : Int) ≤ 9223372036854775807)) then
                q0 (List.replicate (Int.toNat (((r1.take (Int.toNat (r1.length : Int))).drop (Int.toNat (IntKind.i64.wrap (Int.tdiv (IntKind.i64.wrap (0 - a1)) (32 : Int))))).length : Int)) (0 : Int)) ((r1.take (Int.toNat (r1.length : Int))).drop (Int.toNat (IntKind.i64.wrap (Int.tdiv (IntKind.i64.wrap (0 - a1)) (32 : Int))))) (Int.tmod (IntKind.i64.wrap (0 - a1)) (32 : Int)) (((r1.take (Int.toNat (r1.length : Int))).drop (Int.toNat (IntKind.i64.wrap (Int.tdiv (IntKind.i64.wrap (0 - a1)) (32 : Int))))).length : Int) (0 : Int)
              else
                none)
            else
              none))))))
def pts : Nat → (Unit → Option ((List Int) × Int)) × ((List Int) → (List Int) → Int → Int → Int → Option ((List Int) × Int)) × ((List Int) → (List Int) → Int → Int → Int → Option ((List Int) × Int))
  | 0 => (fun _ => none, fun _ _ _ _ _ => none, fun _ _ _ _ _ => none)
  | k + 1 => (e5 k (pts k).1 (pts k).2.1 (pts k).2.2, e0 k (pts k).1 (pts k).2.1 (pts k).2.2, e39 k (pts k).1 (pts k).2.1 (pts k).2.2)
def p5 (k : Nat) : Unit → Option ((List Int) × Int) := (pts k).1
def p0 (k : Nat) : (List Int) → (List Int) → Int → Int → Int → Option ((List Int) × Int) := (pts k).2.1
def p39 (k : Nat) : (List Int) → (List Int) → Int → Int → Int → Option ((List Int) × Int) := (pts k).2.2
theorem p5_succ (k : Nat) (x0 : Unit) : p5 (k + 1) x0 = e5 k (p5 k) (p0 k) (p39 k) x0 := rfl
theorem p0_succ (k : Nat) (x0 : (List Int)) (x1 : (List Int)) (x2 : Int) (x3 : Int) (x4 : Int) : p0 (k + 1) x0 x1 x2 x3 x4 = e0 k (p5 k) (p0 k) (p39 k) x0 x1 x2 x3 x4 := rfl
theorem p39_succ (k : Nat) (x0 : (List Int)) (x1 : (List Int)) (x2 : Int) (x3 : Int) (x4 : Int) : p39 (k + 1) x0 x1 x2 x3 x4 = e39 k (p5 k) (p0 k) (p39 k) x0 x1 x2 x3 x4 := rfl
def f (k : Nat) (a0 : (List Int)) (a1 : Int) : Option ((List Int) × Int) := e k (p5 k) (p0 k) (p39 k) a0 a1
end nat_Shift

namespace approx_cut
def e9 (k : Nat) (_q9 : (List Int) → (List Int) → Option ((List Int) × (List Int) × (List Int))) (b0 : (List Int)) (b1 : (List Int)) : Option ((List Int) × (List Int) × (List Int)) :=
  (Option.bind (nat_Div.f k b0 b1) fun r3 =>
    (some (r3.1, r3.2.1, b1)))
def e (k : Nat) (q9 : (List Int) → (List Int) → Option ((List Int) × (List Int) × (List Int))) (a0 : (List Int)) (a1 : (List Int)) (a2 : Int) : Option ((List Int) × (List Int) × (List Int)) :=
  (bif (decide (a2 < (0 : Int))) then
    (Option.bind (nat_Shift.f k a0 (IntKind.i64.wrap (0 - a2))) fun r1 =>
      q9 r1.1 a1)
  else
    (Option.bind (nat_Shift.f k a1 a2) fun r2 =>
      q9 a0 r2.1))
def pts : Nat → ((List Int) → (List Int) → Option ((List Int) × (List Int) × (List Int)))
  | 0 => fun _ _ => none
  | k + 1 => e9 k (pts k)
def p9 (k : Nat) : (List Int) → (List Int) → Option ((List Int) × (List Int) × (List Int)) := (pts k)
theorem p9_succ (k : Nat) (x0 : (List Int)) (x1 : (List Int)) : p9 (k + 1) x0 x1 = e9 k (p9 k) x0 x1 := rfl
def f (k : Nat) (a0 : (List Int)) (a1 : (List Int)) (a2 : Int) : Option ((List Int) × (List Int) × (List Int)) := e k (p9 k) a0 a1 a2
end approx_cut

namespace nat_Small
def e0 (_k : Nat) (q0 : (List Int) → Int → Int → Int → Option (Int × Bool)) (b0 : (List Int)) (b1 : Int) (b2 : Int) (b3 : Int) : Option (Int × Bool) :=
  (bif (decide (b3 < b2)) then
    (bif (decide (0 ≤ b3) && decide (b3 < (b0.length : Int))) then
      (bif (decide ((IntKind.i64.wrap ((32 : Int) * b3)) < 0)) then
        none
      else
        q0 b0 (bitsI .or .u64 b1 (IntKind.u64.wrap ((IntKind.u64.wrap (nthD (0 : Int) b0 (Int.toNat b3))) * 2 ^ min (Int.toNat (IntKind.i64.wrap ((32 : Int) * b3))) 64))) b2 (IntKind.i64.wrap (b3 + (1 : Int))))
    else
      none)
  else
    (some (b1, true)))
def e (k : Nat) (q0 : (List Int) → Int → Int → Int → Option (Int × Bool)) (a0 : (List Int)) : Option (Int × Bool) :=
  (Option.bind (nat_trim.f k a0) fun r1 =>
    (bif (decide ((r1.length : Int) > (2 : Int))) then
      (some ((0 : Int), false))
    else
      q0 r1 (0 : Int) (r1.length : Int) (0 : Int)))
def pts : Nat → ((List Int) → Int → Int → Int → Option (Int × Bool))
  | 0 => fun _ _ _ _ => none
  | k + 1 => e0 k (pts k)
def p0 (k : Nat) : (List Int) → Int → Int → Int → Option (Int × Bool) := (pts k)
theorem p0_succ (k : Nat) (x0 : (List Int)) (x1 : Int) (x2 : Int) (x3 : Int) : p0 (k + 1) x0 x1 x2 x3 = e0 k (p0 k) x0 x1 x2 x3 := rfl
def f (k : Nat) (a0 : (List Int)) : Option (Int × Bool) := e k (p0 k) a0
end nat_Small

namespace nat_Add
def e7 (_k : Nat) (_q7 : (List Int) → (List Int) → Option (List Int)) (q0 : (List Int) → (List Int) → (List Int) → Int → Int → Int → Option (List Int)) (_q23 : (List Int) → (List Int) → (List Int) → Int → Int → Int → Int → Int → Option (List Int)) (b0 : (List Int)) (b1 : (List Int)) : Option (List Int) :=
  (bif (decide (0 ≤ (IntKind.i64.wrap ((b0.length : Int) + (1 : Int)))) && decide ((IntKind.i64.wrap ((b0.length : Int) + (1 : Int))) * 4 ≤ 281474976710656) && decide ((IntKind.i64.wrap ((b0.length : Int) + (1 : Int))) ≤ 9223372036854775807)) then
    q0 (List.replicate (Int.toNat (IntKind.i64.wrap ((b0.length : Int) + (1 : Int)))) (0 : Int)) b0 b1 (0 : Int) (b0.length : Int) (0 : Int)
  else
    none)
def e0 (k : Nat) (_q7 : (List Int) → (List Int) → Option (List Int)) (_q0 : (List Int) → (List Int) → (List Int) → Int → Int → Int → Option (List Int)) (q23 : (List Int) → (List Int) → (List Int) → Int → Int → Int → Int → Int → Option (List Int)) (b0 : (List Int)) (b1 : (List Int)) (b2 : (List Int)) (b3 : Int) (b4 : Int) (b5 : Int) : Option (List Int) :=
  (bif (decide (b5 < b4)) then
    (bif (decide (b5 < (b2.length : Int))) then
      (bif (decide (0 ≤ b5) && decide (b5 < (b2.length : Int))) then
        q23 b0 b1 b2 b3 b5 (nthD (0 : Int) b2 (Int.toNat b5)) b4 b5
      else
        none)
    else
      q23 b0 b1 b2 b3 b5 (0 : Int) b4 b5)
  else
    (bif (decide (0 ≤ (b1.length : Int)) && decide ((b1.length : Int) < (b0.length : Int))) then
      (Option.bind (nat_own.f k (setN b3 b0 (Int.toNat (b1.length : Int)))) fun r1 =>
        (some r1))
    else
      none))
def e23 (k : Nat) (_q7 : (List Int) → (List Int) → Option (List Int)) (q0 : (List Int) → (List Int) → (List Int) → Int → Int → Int → Option (List Int)) (_q23 : (List Int) → (List Int) → (List Int) → Int → Int → Int → Int → Int → Option (List Int)) (b0 : (List Int)) (b1 : (List Int)) (b2 : (List Int)) (b3 : Int) (b4 : Int) (b5 : Int) (b6 : Int) (b7 : Int) : Option (List Int) :=
  (bif (decide (0 ≤ b4) && decide (b4 < (b1.length : Int))) then
    (Option.bind (bits_Add32.f k (nthD (0 : Int) b1 (Int.toNat b4)) b5 b3) fun r2 =>
      (bif (decide (0 ≤ b4) && decide (b4 < (b0.length : Int))) then
        q0 (setN r2.1 b0 (Int.toNat b4)) b1 b2 r2.2 b6 (IntKind.i64.wrap (b7 + (1 : Int)))
      else
        none))
  else
    none)
def e (_k : Nat) (q7 : (List Int) → (List Int) → Option (List Int)) (_q0 : (List Int) → (List Int) → (List Int) → Int → Int → Int → Option (List Int)) (_q23 : (List Int) → (List Int) → (List Int) → Int → Int → Int → Int → Int → Option (List Int)) (a0 : (List Int)) (a1 : (List Int)) : Option (List Int) :=
  (bif (decide ((a0.length : Int) < (a1.length : Int))) then
    q7 a1 a0
  else
    q7 a0 a1)
def pts : Nat → ((List Int) → (List Int) → Option (List Int)) × ((List Int) → (List Int) → (List Int) → Int → Int → Int → Option (List Int)) × ((List Int) → (List Int) → (List Int) → Int → Int → Int → Int → Int → Option (List Int))
  | 0 => (fun _ _ => none, fun _ _ _ _ _ _ => none, fun _ _ _ _ _ _ _ _ => none)
  | k + 1 => (e7 k (pts k).1 (pts k).2.1 (pts k).2.2, e0 k (pts k).1 (pts k).2.1 (pts k).2.2, e23 k (pts k).1 (pts k).2.1 (pts k).2.2)
def p7 (k : Nat) : (List Int) → (List Int) → Option (List Int) := (pts k).1
def p0 (k : Nat) : (List Int) → (List Int) → (List Int) → Int → Int → Int → Option (List Int) := (pts k).2.1
def p23 (k : Nat) : (List Int) → (List Int) → (List Int) → Int → Int → Int → Int → Int → Option (List Int) := (pts k).2.2
theorem p7_succ (k : Nat) (x0 : (List Int)) (x1 : (List Int)) : p7 (k + 1) x0 x1 = e7 k (p7 k) (p0 k) (p23 k) x0 x1 := rfl
theorem p0_succ (k : Nat) (x0 : (List Int)) (x1 : (List Int)) (x2 : (List Int)) (x3 : Int) (x4 : Int) (x5 : Int) : p0 (k + 1) x0 x1 x2 x3 x4 x5 = e0 k (p7 k) (p0 k) (p23 k) x0 x1 x2 x3 x4 x5 := rfl
theorem p23_succ (k : Nat) (x0 : (List Int)) (x1 : (List Int)) (x2 : (List Int)) (x3 : Int) (x4 : Int) (x5 : Int) (x6 : Int) (x7 : Int) : p23 (k + 1) x0 x1 x2 x3 x4 x5 x6 x7 = e23 k (p7 k) (p0 k) (p23 k) x0 x1 x2 x3 x4 x5 x6 x7 := rfl
def f (k : Nat) (a0 : (List Int)) (a1 : (List Int)) : Option (List Int) := e k (p7 k) (p0 k) (p23 k) a0 a1
end nat_Add

namespace approx_rounded
def e29 (k : Nat) (_q29 : Int → (List Int) → (List Int) → (List Int) → Option (Int × Int)) (q41 : (List Int) → (List Int) → Int → Option (Int × Int)) (b0 : Int) (b1 : (List Int)) (b2 : (List Int)) (b3 : (List Int)) : Option (Int × Int) :=
  (bif (decide (b0 > (971 : Int))) then
    (Option.bind (math_Float64bits.f k (9218868437227405311 : Nat)) fun r8 =>
      (some (r8, (2 : Int))))
  else
    (Option.bind (nat_Small.f k b1) fun r9 =>
      (bif (decide (r9.1 ≥ (4503599627370496 : Int))) then
        q41 b2 b3 (IntKind.u64.wrap ((IntKind.u64.wrap (r9.1 - (4503599627370496 : Int))) + (IntKind.u64.wrap ((IntKind.u64.wrap (IntKind.i64.wrap ((IntKind.i64.wrap (b0 - (-1074 : Int))) + (1 : Int)))) * 2 ^ 52))))
      else
        q41 b2 b3 r9.1)))
def e41 (k : Nat) (_q29 : Int → (List Int) → (List Int) → (List Int) → Option (Int × Int)) (_q41 : (List Int) → (List Int) → Int → Option (Int × Int)) (b0 : (List Int)) (b1 : (List Int)) (b2 : Int) : Option (Int × Int) :=
  (bif (decide ((b0.length : Int) = (0 : Int))) then
    (some (b2, (-1 : Int)))
  else
    (Option.bind (nat_Add.f k b0 b0) fun r10 =>
      (Option.bind (nat_Cmp.f k r10 b1) fun r11 =>
        (some (b2, (IntKind.i64.wrap ((1 : Int) + r11)))))))
def e (k : Nat) (q29 : Int → (List Int) → (List Int) → (List Int) → Option (Int × Int)) (_q41 : (List Int) → (List Int) → Int → Option (Int × Int)) (a0 : ((Bool × (List Int)) × (List Int))) : Option (Int × Int) :=
  (Option.bind (ratio_Sign.f k a0) fun r1 =>
    (bif (decide (r1 = (0 : Int))) then
      (some ((0 : Int), (-1 : Int)))
    else
      (Option.bind (nat_Bits.f k a0.1.2) fun r2 =>
        (Option.bind (nat_Bits.f k a0.2) fun r3 =>
          (bif (decide ((IntKind.i64.wrap (r2 - r3)) > (1075 : Int))) then
            (Option.bind (math_Float64bits.f k (9218868437227405311 : Nat)) fun r4 =>
              (some (r4, (2 : Int))))
          else
            (bif (decide ((IntKind.i64.wrap (r2 - r3)) < (-1126 : Int))) then
              (some ((0 : Int), (0 : Int)))
            else
              (Option.bind (approx_cut.f k a0.1.2 a0.2 (bif decide ((-1074 : Int) > (IntKind.i64.wrap ((IntKind.i64.wrap ((IntKind.i64.wrap (r2 - r3)) - (52 : Int))) - (1 : Int)))) then (-1074 : Int) else (IntKind.i64.wrap ((IntKind.i64.wrap ((IntKind.i64.wrap (r2 - r3)) - (52 : Int))) - (1 : Int))))) fun r5 =>
                (Option.bind (nat_Bits.f k r5.1) fun r6 =>
                  (bif (decide (r6 > (53 : Int))) then
                    (Option.bind (approx_cut.f k a0.1.2 a0.2 (IntKind.i64.wrap ((bif decide ((-1074 : Int) > (IntKind.i64.wrap ((IntKind.i64.wrap ((IntKind.i64.wrap (r2 - r3)) - (52 : Int))) - (1 : Int)))) then (-1074 : Int) else (IntKind.i64.wrap ((IntKind.i64.wrap ((IntKind.i64.wrap (r2 - r3)) - (52 : Int))) - (1 : Int)))) + (1 : Int)))) fun r7 =>
                      q29 (IntKind.i64.wrap ((bif decide ((-1074 : Int) > (IntKind.i64.wrap ((IntKind.i64.wrap ((IntKind.i64.wrap (r2 - r3)) - (52 : Int))) - (1 : Int)))) then (-1074 : Int) else (IntKind.i64.wrap ((IntKind.i64.wrap ((IntKind.i64.wrap (r2 - r3)) - (52 : Int))) - (1 : Int)))) + (1 : Int))) r7.1 r7.2.1 r7.2.2)
                  else
                    q29 (bif decide ((-1074 : Int) > (IntKind.i64.wrap ((IntKind.i64.wrap ((IntKind.i64.wrap (r2 - r3)) - (52 : Int))) - (1 : Int)))) then (-1074 : Int) else (IntKind.i64.wrap ((IntKind.i64.wrap ((IntKind.i64.wrap (r2 - r3)) - (52 : Int))) - (1 : Int)))) r5.1 r5.2.1 r5.2.2)))))))))
def pts : Nat → (Int → (List Int) → (List Int) → (List Int) → Option (Int × Int)) × ((List Int) → (List Int) → Int → Option (Int × Int))
  | 0 => (fun _ _ _ _ => none, fun _ _ _ => none)
  | k + 1 => (e29 k (pts k).1 (pts k).2, e41 k (pts k).1 (pts k).2)
def p29 (k : Nat) : Int → (List Int) → (List Int) → (List Int) → Option (Int × Int) := (pts k).1
def p41 (k : Nat) : (List Int) → (List Int) → Int → Option (Int × Int) := (pts k).2
theorem p29_succ (k : Nat) (x0 : Int) (x1 : (List Int)) (x2 : (List Int)) (x3 : (List Int)) : p29 (k + 1) x0 x1 x2 x3 = e29 k (p29 k) (p41 k) x0 x1 x2 x3 := rfl
theorem p41_succ (k : Nat) (x0 : (List Int)) (x1 : (List Int)) (x2 : Int) : p41 (k + 1) x0 x1 x2 = e41 k (p29 k) (p41 k) x0 x1 x2 := rfl
def f (k : Nat) (a0 : ((Bool × (List Int)) × (List Int))) : Option (Int × Int) := e k (p29 k) (p41 k) a0
end approx_rounded

namespace math_Float64frombits
def f (_k : Nat) (a0 : Int) : Option Nat := some a0.toNat
end math_Float64frombits

namespace approx_float
def e7 (k : Nat) (_q7 : Int → Option Nat) (b0 : Int) : Option Nat :=
  (Option.bind (math_Float64frombits.f k b0) fun r1 =>
    (some r1))
def e (_k : Nat) (q7 : Int → Option Nat) (a0 : Int) (a1 : Int) : Option Nat :=
  (bif (decide (a1 < (0 : Int))) then
    q7 (bitsI .or .u64 a0 (9223372036854775808 : Int))
  else
    q7 a0)
def pts : Nat → (Int → Option Nat)
  | 0 => fun _ => none
  | k + 1 => e7 k (pts k)
def p7 (k : Nat) : Int → Option Nat := (pts k)
theorem p7_succ (k : Nat) (x0 : Int) : p7 (k + 1) x0 = e7 k (p7 k) x0 := rfl
def f (k : Nat) (a0 : Int) (a1 : Int) : Option Nat := e k (p7 k) a0 a1
end approx_float

namespace approx_Nearest
def e7 (_k : Nat) (_q7 : ((Bool × (List Int)) × (List Int)) → Int → Option Nat) (q9 : ((Bool × (List Int)) × (List Int)) → Int → Option Nat) (b0 : ((Bool × (List Int)) × (List Int))) (b1 : Int) : Option Nat :=
  q9 b0 (IntKind.u64.wrap (b1 + (1 : Int)))
def e9 (k : Nat) (_q7 : ((Bool × (List Int)) × (List Int)) → Int → Option Nat) (_q9 : ((Bool × (List Int)) × (List Int)) → Int → Option Nat) (b0 : ((Bool × (List Int)) × (List Int))) (b1 : Int) : Option Nat :=
  (Option.bind (ratio_Sign.f k b0) fun r3 =>
    (Option.bind (approx_float.f k b1 r3) fun r4 =>
      (some r4)))
def e (k : Nat) (q7 : ((Bool × (List Int)) × (List Int)) → Int → Option Nat) (q9 : ((Bool × (List Int)) × (List Int)) → Int → Option Nat) (a0 : ((Bool × (List Int)) × (List Int))) : Option Nat :=
  (Option.bind (ratio_Abs.f k a0) fun r1 =>
    (Option.bind (approx_rounded.f k r1) fun r2 =>
      (bif (decide (r2.2 = (2 : Int))) then
        q7 a0 r2.1
      else
        (bif (decide (r2.2 = (1 : Int))) then
          (bif (decide ((bitsI .and .u64 r2.1 (1 : Int)) = (1 : Int))) then
            q7 a0 r2.1
          else
            q9 a0 r2.1)
        else
          q9 a0 r2.1))))
def pts : Nat → (((Bool × (List Int)) × (List Int)) → Int → Option Nat) × (((Bool × (List Int)) × (List Int)) → Int → Option Nat)
  | 0 => (fun _ _ => none, fun _ _ => none)
  | k + 1 => (e7 k (pts k).1 (pts k).2, e9 k (pts k).1 (pts k).2)
def p7 (k : Nat) : ((Bool × (List Int)) × (List Int)) → Int → Option Nat := (pts k).1
def p9 (k : Nat) : ((Bool × (List Int)) × (List Int)) → Int → Option Nat := (pts k).2
theorem p7_succ (k : Nat) (x0 : ((Bool × (List Int)) × (List Int))) (x1 : Int) : p7 (k + 1) x0 x1 = e7 k (p7 k) (p9 k) x0 x1 := rfl
theorem p9_succ (k : Nat) (x0 : ((Bool × (List Int)) × (List Int))) (x1 : Int) : p9 (k + 1) x0 x1 = e9 k (p7 k) (p9 k) x0 x1 := rfl
def f (k : Nat) (a0 : ((Bool × (List Int)) × (List Int))) : Option Nat := e k (p7 k) (p9 k) a0
end approx_Nearest

namespace approx_Read
def e (k : Nat) (a0 : ByteArray) : Option (Nat × Int) :=
  (bif (decide ((a0.size : Int) > (1000 : Int))) then
    (some ((0 : Nat), (3 : Int)))
  else
    (Option.bind (strings_CutPrefix.f k a0 (ByteArray.mk #[45])) fun r1 =>
      (Option.bind (approx_decimal.f k r1.1) fun r2 =>
        (bif (!r2.2) then
          (some ((0 : Nat), (42 : Int)))
        else
          (bif r1.2 then
            (Option.bind (approx_Nearest.f k r2.1) fun r3 =>
              (some ((fNeg r3), (0 : Int))))
          else
            (Option.bind (approx_Nearest.f k r2.1) fun r4 =>
              (some (r4, (0 : Int)))))))))
def f (k : Nat) (a0 : ByteArray) : Option (Nat × Int) := e k a0
end approx_Read

namespace ref04_digitsAt
def e0 (_k : Nat) (q0 : ByteArray → Int → Option Int) (q7 : Int → Option Int) (b0 : ByteArray) (b1 : Int) : Option Int :=
  (bif (decide (b1 < (b0.size : Int))) then
    (bif (decide (0 ≤ b1) && decide (b1 < (b0.size : Int))) then
      (bif (decide ((btI b0 b1) ≥ (48 : Int))) then
        (bif (decide (0 ≤ b1) && decide (b1 < (b0.size : Int))) then
          (bif (decide ((btI b0 b1) ≤ (57 : Int))) then
            q0 b0 (IntKind.i64.wrap (b1 + (1 : Int)))
          else
            q7 b1)
        else
          none)
      else
        q7 b1)
    else
      none)
  else
    q7 b1)
def e7 (_k : Nat) (_q0 : ByteArray → Int → Option Int) (_q7 : Int → Option Int) (b0 : Int) : Option Int :=
  (some b0)
def e (_k : Nat) (q0 : ByteArray → Int → Option Int) (_q7 : Int → Option Int) (a0 : ByteArray) (a1 : Int) : Option Int :=
  q0 a0 a1
def pts : Nat → (ByteArray → Int → Option Int) × (Int → Option Int)
  | 0 => (fun _ _ => none, fun _ => none)
  | k + 1 => (e0 k (pts k).1 (pts k).2, e7 k (pts k).1 (pts k).2)
def p0 (k : Nat) : ByteArray → Int → Option Int := (pts k).1
def p7 (k : Nat) : Int → Option Int := (pts k).2
theorem p0_succ (k : Nat) (x0 : ByteArray) (x1 : Int) : p0 (k + 1) x0 x1 = e0 k (p0 k) (p7 k) x0 x1 := rfl
theorem p7_succ (k : Nat) (x0 : Int) : p7 (k + 1) x0 = e7 k (p0 k) (p7 k) x0 := rfl
def f (k : Nat) (a0 : ByteArray) (a1 : Int) : Option Int := e k (p0 k) (p7 k) a0 a1
end ref04_digitsAt

namespace ref01_digit
def e0 (_k : Nat) (q0 : Int → Int → Int → Option Int) (b0 : Int) (b1 : Int) (b2 : Int) : Option Int :=
  (bif (decide (b2 < b1)) then
    (bif (decide (0 ≤ b2) && decide (b2 < (str_9f9f5111f7.size : Int))) then
      (bif (decide ((btI str_9f9f5111f7 b2) = b0)) then
        (some b2)
      else
        q0 b0 b1 (IntKind.i64.wrap (b2 + (1 : Int))))
    else
      none)
  else
    (some (-1 : Int)))
def e (_k : Nat) (q0 : Int → Int → Int → Option Int) (a0 : Int) (a1 : Int) : Option Int :=
  q0 a0 a1 (0 : Int)
def pts : Nat → (Int → Int → Int → Option Int)
  | 0 => fun _ _ _ => none
  | k + 1 => e0 k (pts k)
def p0 (k : Nat) : Int → Int → Int → Option Int := (pts k)
theorem p0_succ (k : Nat) (x0 : Int) (x1 : Int) (x2 : Int) : p0 (k + 1) x0 x1 x2 = e0 k (p0 k) x0 x1 x2 := rfl
def f (k : Nat) (a0 : Int) (a1 : Int) : Option Int := e k (p0 k) a0 a1
end ref01_digit

namespace ref01_Norm
def e0 (_k : Nat) (q0 : (List Int) → Int → Option (List Int)) (q9 : (List Int) → Int → Option (List Int)) (_q4 : (List Int) → (List Int) → Int → Int → Option (List Int)) (b0 : (List Int)) (b1 : Int) : Option (List Int) :=
  (bif (decide (b1 > (0 : Int))) then
    (bif (decide (0 ≤ (IntKind.i64.wrap (b1 - (1 : Int)))) && decide ((IntKind.i64.wrap (b1 - (1 : Int))) < (b0.length : Int))) then
      (bif (decide ((nthD (0 : Int) b0 (Int.toNat (IntKind.i64.wrap (b1 - (1 : Int))))) = (0 : Int))) then
        q0 b0 (IntKind.i64.wrap (b1 - (1 : Int)))
      else
        q9 b0 b1)
    else
      none)
  else
    q9 b0 b1)
def e9 (_k : Nat) (_q0 : (List Int) → Int → Option (List Int)) (_q9 : (List Int) → Int → Option (List Int)) (q4 : (List Int) → (List Int) → Int → Int → Option (List Int)) (b0 : (List Int)) (b1 : Int) : Option (List Int) :=
  (bif (decide (0 ≤ b1) && decide (b1 * 4 ≤ 281474976710656) && decide (b1 ≤ 9223372036854775807)) then
    q4 (List.replicate (Int.toNat b1) (0 : Int)) b0 b1 (0 : Int)
  else
    none)
def e4 (_k : Nat) (_q0 : (List Int) → Int → Option (List Int)) (_q9 : (List Int) → Int → Option (List Int)) (q4 : (List Int) → (List Int) → Int → Int → Option (List Int)) (b0 : (List Int)) (b1 : (List Int)) (b2 : Int) (b3 : Int) : Option (List Int) :=
  (bif (decide (b3 < b2)) then
    (bif (decide (0 ≤ b3) && decide (b3 < (b1.length : Int))) then
      (bif (decide (0 ≤ b3) && decide (b3 < (b0.length : Int))) then
        q4 (setN (nthD (0 : Int) b1 (Int.toNat b3)) b0 (Int.toNat b3)) b1 b2 (IntKind.i64.wrap (b3 + (1 : Int)))
      else
        none)
    else
      none)
  else
    (some b0))
def e (_k : Nat) (q0 : (List Int) → Int → Option (List Int)) (_q9 : (List Int) → Int → Option (List Int)) (_q4 : (List Int) → (List Int) → Int → Int → Option (List Int)) (a0 : (List Int)) : Option (List Int) :=
  q0 a0 (a0.length : Int)
def pts : Nat → ((List Int) → Int → Option (List Int)) × ((List Int) → Int → Option (List Int)) × ((List Int) → (List Int) → Int → Int → Option (List Int))
  | 0 => (fun _ _ => none, fun _ _ => none, fun _ _ _ _ => none)
  | k + 1 => (e0 k (pts k).1 (pts k).2.1 (pts k).2.2, e9 k (pts k).1 (pts k).2.1 (pts k).2.2, e4 k (pts k).1 (pts k).2.1 (pts k).2.2)
def p0 (k : Nat) : (List Int) → Int → Option (List Int) := (pts k).1
def p9 (k : Nat) : (List Int) → Int → Option (List Int) := (pts k).2.1
def p4 (k : Nat) : (List Int) → (List Int) → Int → Int → Option (List Int) := (pts k).2.2
theorem p0_succ (k : Nat) (x0 : (List Int)) (x1 : Int) : p0 (k + 1) x0 x1 = e0 k (p0 k) (p9 k) (p4 k) x0 x1 := rfl
theorem p9_succ (k : Nat) (x0 : (List Int)) (x1 : Int) : p9 (k + 1) x0 x1 = e9 k (p0 k) (p9 k) (p4 k) x0 x1 := rfl
theorem p4_succ (k : Nat) (x0 : (List Int)) (x1 : (List Int)) (x2 : Int) (x3 : Int) : p4 (k + 1) x0 x1 x2 x3 = e4 k (p0 k) (p9 k) (p4 k) x0 x1 x2 x3 := rfl
def f (k : Nat) (a0 : (List Int)) : Option (List Int) := e k (p0 k) (p9 k) (p4 k) a0
end ref01_Norm

namespace ref01_Mul
def e0 (k : Nat) (_q0 : (List Int) → (List Int) → (List Int) → Int → Option (List Int)) (q4 : (List Int) → (List Int) → (List Int) → Int → Int → Int → Option (List Int)) (b0 : (List Int)) (b1 : (List Int)) (b2 : (List Int)) (b3 : Int) : Option (List Int) :=
  (bif (decide (b3 < (b1.length : Int))) then
    q4 b0 b1 b2 b3 (0 : Int) (0 : Int)
  else
    (Option.bind (ref01_Norm.f k b0) fun r1 =>
      (some r1)))
def e4 (_k : Nat) (q0 : (List Int) → (List Int) → (List Int) → Int → Option (List Int)) (q4 : (List Int) → (List Int) → (List Int) → Int → Int → Int → Option (List Int)) (b0 : (List Int)) (b1 : (List Int)) (b2 : (List Int)) (b3 : Int) (b4 : Int) (b5 : Int) : Option (List Int) :=
  (bif (decide (b5 < (b2.length : Int))) then
    (bif (decide (0 ≤ b3) && decide (b3 < (b1.length : Int))) then
      (bif (decide (0 ≤ b5) && decide (b5 < (b2.length : Int))) then
        (bif (decide (0 ≤ (IntKind.i64.wrap (b3 + b5))) && decide ((IntKind.i64.wrap (b3 + b5)) < (b0.length : Int))) then
          (bif (decide (0 ≤ (IntKind.i64.wrap (b3 + b5))) && decide ((IntKind.i64.wrap (b3 + b5)) < (b0.length : Int))) then
            q4 (setN (IntKind.u32.wrap (IntKind.u64.wrap ((IntKind.u64.wrap ((IntKind.u64.wrap ((IntKind.u64.wrap (nthD (0 : Int) b1 (Int.toNat b3))) * (IntKind.u64.wrap (nthD (0 : Int) b2 (Int.toNat b5))))) + (IntKind.u64.wrap (nthD (0 : Int) b0 (Int.toNat (IntKind.i64.wrap (b3 + b5))))))) + b4))) b0 (Int.toNat (IntKind.i64.wrap (b3 + b5)))) b1 b2 b3 (Int.fdiv (IntKind.u64.wrap ((IntKind.u64.wrap ((IntKind.u64.wrap ((IntKind.u64.wrap (nthD (0 : Int) b1 (Int.toNat b3))) * (IntKind.u64.wrap (nthD (0 : Int) b2 (Int.toNat b5))))) + (IntKind.u64.wrap (nthD (0 : Int) b0 (Int.toNat (IntKind.i64.wrap (b3 + b5))))))) + b4)) (2 ^ 32)) (IntKind.i64.wrap (b5 + (1 : Int)))
          else
            none)
        else
          none)
      else
        none)
    else
      none)
  else
    (bif (decide (0 ≤ (IntKind.i64.wrap (b3 + (b2.length : Int)))) && decide ((IntKind.i64.wrap (b3 + (b2.length : Int))) < (b0.length : Int))) then
      q0 (setN (IntKind.u32.wrap b4) b0 (Int.toNat (IntKind.i64.wrap (b3 + (b2.length : Int))))) b1 b2 (IntKind.i64.wrap (b3 + (1 : Int)))
    else
      none))
def e (_k : Nat) (q0 : (List Int) → (List Int) → (List Int) → Int → Option (List Int)) (_q4 : (List Int) → (List Int) → (List Int) → Int → Int → Int → Option (List Int)) (a0 : (List Int)) (a1 : (List Int)) : Option (List Int) :=
  (bif (decide (0 ≤ (IntKind.i64.wrap ((a0.length : Int) + (a1.length : Int)))) && decide ((IntKind.i64.wrap ((a0.length : Int) + (a1.length : Int))) * 4 ≤ 281474976710656) && decide ((IntKind.i64.wrap ((a0.length : Int) + (a1.length : Int))) ≤ 9223372036854775807)) then
    q0 (List.replicate (Int.toNat (IntKind.i64.wrap ((a0.length : Int) + (a1.length : Int)))) (0 : Int)) a0 a1 (0 : Int)
  else
    none)
def pts : Nat → ((List Int) → (List Int) → (List Int) → Int → Option (List Int)) × ((List Int) → (List Int) → (List Int) → Int → Int → Int → Option (List Int))
  | 0 => (fun _ _ _ _ => none, fun _ _ _ _ _ _ => none)
  | k + 1 => (e0 k (pts k).1 (pts k).2, e4 k (pts k).1 (pts k).2)
def p0 (k : Nat) : (List Int) → (List Int) → (List Int) → Int → Option (List Int) := (pts k).1
def p4 (k : Nat) : (List Int) → (List Int) → (List Int) → Int → Int → Int → Option (List Int) := (pts k).2
theorem p0_succ (k : Nat) (x0 : (List Int)) (x1 : (List Int)) (x2 : (List Int)) (x3 : Int) : p0 (k + 1) x0 x1 x2 x3 = e0 k (p0 k) (p4 k) x0 x1 x2 x3 := rfl
theorem p4_succ (k : Nat) (x0 : (List Int)) (x1 : (List Int)) (x2 : (List Int)) (x3 : Int) (x4 : Int) (x5 : Int) : p4 (k + 1) x0 x1 x2 x3 x4 x5 = e4 k (p0 k) (p4 k) x0 x1 x2 x3 x4 x5 := rfl
def f (k : Nat) (a0 : (List Int)) (a1 : (List Int)) : Option (List Int) := e k (p0 k) (p4 k) a0 a1
end ref01_Mul

namespace ref01_at
def e (_k : Nat) (a0 : (List Int)) (a1 : Int) : Option Int :=
  (bif (decide (a1 ≥ (a0.length : Int))) then
    (some (0 : Int))
  else
    (bif (decide (0 ≤ a1) && decide (a1 < (a0.length : Int))) then
      (some (IntKind.u64.wrap (nthD (0 : Int) a0 (Int.toNat a1))))
    else
      none))
def f (k : Nat) (a0 : (List Int)) (a1 : Int) : Option Int := e k a0 a1
end ref01_at

namespace ref01_Add
def e9 (_k : Nat) (_q9 : (List Int) → (List Int) → Int → Option (List Int)) (q0 : (List Int) → (List Int) → (List Int) → Int → Int → Int → Option (List Int)) (b0 : (List Int)) (b1 : (List Int)) (b2 : Int) : Option (List Int) :=
  (bif (decide (0 ≤ (IntKind.i64.wrap (b2 + (1 : Int)))) && decide ((IntKind.i64.wrap (b2 + (1 : Int))) * 4 ≤ 281474976710656) && decide ((IntKind.i64.wrap (b2 + (1 : Int))) ≤ 9223372036854775807)) then
    q0 (List.replicate (Int.toNat (IntKind.i64.wrap (b2 + (1 : Int)))) (0 : Int)) b0 b1 b2 (0 : Int) (0 : Int)
  else
    none)
def e0 (k : Nat) (_q9 : (List Int) → (List Int) → Int → Option (List Int)) (q0 : (List Int) → (List Int) → (List Int) → Int → Int → Int → Option (List Int)) (b0 : (List Int)) (b1 : (List Int)) (b2 : (List Int)) (b3 : Int) (b4 : Int) (b5 : Int) : Option (List Int) :=
  (bif (decide (b5 ≤ b3)) then
    (Option.bind (ref01_at.f k b1 b5) fun r1 =>
      (Option.bind (ref01_at.f k b2 b5) fun r2 =>
        (bif (decide (0 ≤ b5) && decide (b5 < (b0.length : Int))) then
          q0 (setN (IntKind.u32.wrap (IntKind.u64.wrap ((IntKind.u64.wrap (r1 + r2)) + b4))) b0 (Int.toNat b5)) b1 b2 b3 (Int.fdiv (IntKind.u64.wrap ((IntKind.u64.wrap (r1 + r2)) + b4)) (2 ^ 32)) (IntKind.i64.wrap (b5 + (1 : Int)))
        else
          none)))
  else
    (Option.bind (ref01_Norm.f k b0) fun r3 =>
      (some r3)))
def e (_k : Nat) (q9 : (List Int) → (List Int) → Int → Option (List Int)) (_q0 : (List Int) → (List Int) → (List Int) → Int → Int → Int → Option (List Int)) (a0 : (List Int)) (a1 : (List Int)) : Option (List Int) :=
  (bif (decide ((a1.length : Int) > (a0.length : Int))) then
    q9 a0 a1 (a1.length : Int)
  else
    q9 a0 a1 (a0.length : Int))
def pts : Nat → ((List Int) → (List Int) → Int → Option (List Int)) × ((List Int) → (List Int) → (List Int) → Int → Int → Int → Option (List Int))
  | 0 => (fun _ _ _ => none, fun _ _ _ _ _ _ => none)
  | k + 1 => (e9 k (pts k).1 (pts k).2, e0 k (pts k).1 (pts k).2)
def p9 (k : Nat) : (List Int) → (List Int) → Int → Option (List Int) := (pts k).1
def p0 (k : Nat) : (List Int) → (List Int) → (List Int) → Int → Int → Int → Option (List Int) := (pts k).2
theorem p9_succ (k : Nat) (x0 : (List Int)) (x1 : (List Int)) (x2 : Int) : p9 (k + 1) x0 x1 x2 = e9 k (p9 k) (p0 k) x0 x1 x2 := rfl
theorem p0_succ (k : Nat) (x0 : (List Int)) (x1 : (List Int)) (x2 : (List Int)) (x3 : Int) (x4 : Int) (x5 : Int) : p0 (k + 1) x0 x1 x2 x3 x4 x5 = e0 k (p9 k) (p0 k) x0 x1 x2 x3 x4 x5 := rfl
def f (k : Nat) (a0 : (List Int)) (a1 : (List Int)) : Option (List Int) := e k (p9 k) (p0 k) a0 a1
end ref01_Add

namespace ref01_Parse
def e5 (_k : Nat) (_q5 : Unit → Option ((List Int) × Int)) (_q9 : Unit → Option ((List Int) × Int)) (_q11 : ByteArray → Int → Option ((List Int) × Int)) (_q0 : ByteArray → Int → (List Int) → Int → Option ((List Int) × Int)) (_ : Unit) : Option ((List Int) × Int) :=
  (some (([] : List Int), (14 : Int)))
def e9 (_k : Nat) (_q5 : Unit → Option ((List Int) × Int)) (_q9 : Unit → Option ((List Int) × Int)) (_q11 : ByteArray → Int → Option ((List Int) × Int)) (_q0 : ByteArray → Int → (List Int) → Int → Option ((List Int) × Int)) (_ : Unit) : Option ((List Int) × Int) :=
  (some (([] : List Int), (15 : Int)))
def e11 (_k : Nat) (_q5 : Unit → Option ((List Int) × Int)) (_q9 : Unit → Option ((List Int) × Int)) (_q11 : ByteArray → Int → Option ((List Int) × Int)) (q0 : ByteArray → Int → (List Int) → Int → Option ((List Int) × Int)) (b0 : ByteArray) (b1 : Int) : Option ((List Int) × Int) :=
  q0 b0 b1 ([] : List Int) (0 : Int)
def e0 (k : Nat) (_q5 : Unit → Option ((List Int) × Int)) (_q9 : Unit → Option ((List Int) × Int)) (_q11 : ByteArray → Int → Option ((List Int) × Int)) (q0 : ByteArray → Int → (List Int) → Int → Option ((List Int) × Int)) (b0 : ByteArray) (b1 : Int) (b2 : (List Int)) (b3 : Int) : Option ((List Int) × Int) :=
  (bif (decide (b3 < (b0.size : Int))) then
    (bif (decide (0 ≤ b3) && decide (b3 < (b0.size : Int))) then
      (Option.bind (ref01_digit.f k (btI b0 b3) b1) fun r1 =>
        (bif (decide (r1 < (0 : Int))) then
          (some (([] : List Int), (15 : Int)))
        else
          (Option.bind (ref01_Mul.f k b2 [(IntKind.u32.wrap b1)]) fun r2 =>
            (Option.bind (ref01_Add.f k r2 [(IntKind.u32.wrap r1)]) fun r3 =>
              q0 b0 b1 r3 (IntKind.i64.wrap (b3 + (1 : Int)))))))
    else
      none)
  else
    (some (b2, (0 : Int))))
def e (_k : Nat) (q5 : Unit → Option ((List Int) × Int)) (q9 : Unit → Option ((List Int) × Int)) (q11 : ByteArray → Int → Option ((List Int) × Int)) (_q0 : ByteArray → Int → (List Int) → Int → Option ((List Int) × Int)) (a0 : ByteArray) (a1 : Int) : Option ((List Int) × Int) :=
  (bif (decide (a1 < (2 : Int))) then
    q5 ()
  else
    (bif (decide (a1 > (16 : Int))) then
      q5 ()
    else
      (bif (decide ((a0.size : Int) = (0 : Int))) then
        q9 ()
      else
        (bif (decide ((a0.size : Int) > (1 : Int))) then
          (bif (decide ((0 : Int) < (a0.size : Int))) then
            (bif (decide ((btI a0 (0 : Int)) = (48 : Int))) then
              q9 ()
            else
              q11 a0 a1)
          else
            none)
        else
          q11 a0 a1))))
def pts : Nat → (Unit → Option ((List Int) × Int)) × (Unit → Option ((List Int) × Int)) × (ByteArray → Int → Option ((List Int) × Int)) × (ByteArray → Int → (List Int) → Int → Option ((List Int) × Int))
  | 0 => (fun _ => none, fun _ => none, fun _ _ => none, fun _ _ _ _ => none)
  | k + 1 => (e5 k (pts k).1 (pts k).2.1 (pts k).2.2.1 (pts k).2.2.2, e9 k (pts k).1 (pts k).2.1 (pts k).2.2.1 (pts k).2.2.2, e11 k (pts k).1 (pts k).2.1 (pts k).2.2.1 (pts k).2.2.2, e0 k (pts k).1 (pts k).2.1 (pts k).2.2.1 (pts k).2.2.2)
def p5 (k : Nat) : Unit → Option ((List Int) × Int) := (pts k).1
def p9 (k : Nat) : Unit → Option ((List Int) × Int) := (pts k).2.1
def p11 (k : Nat) : ByteArray → Int → Option ((List Int) × Int) := (pts k).2.2.1
def p0 (k : Nat) : ByteArray → Int → (List Int) → Int → Option ((List Int) × Int) := (pts k).2.2.2
theorem p5_succ (k : Nat) (x0 : Unit) : p5 (k + 1) x0 = e5 k (p5 k) (p9 k) (p11 k) (p0 k) x0 := rfl
theorem p9_succ (k : Nat) (x0 : Unit) : p9 (k + 1) x0 = e9 k (p5 k) (p9 k) (p11 k) (p0 k) x0 := rfl
theorem p11_succ (k : Nat) (x0 : ByteArray) (x1 : Int) : p11 (k + 1) x0 x1 = e11 k (p5 k) (p9 k) (p11 k) (p0 k) x0 x1 := rfl
theorem p0_succ (k : Nat) (x0 : ByteArray) (x1 : Int) (x2 : (List Int)) (x3 : Int) : p0 (k + 1) x0 x1 x2 x3 = e0 k (p5 k) (p9 k) (p11 k) (p0 k) x0 x1 x2 x3 := rfl
def f (k : Nat) (a0 : ByteArray) (a1 : Int) : Option ((List Int) × Int) := e k (p5 k) (p9 k) (p11 k) (p0 k) a0 a1
end ref01_Parse

namespace ref04_natural
def e0 (_k : Nat) (q0 : ByteArray → Int → Option (List Int)) (q9 : ByteArray → Int → Option (List Int)) (b0 : ByteArray) (b1 : Int) : Option (List Int) :=
  (bif (decide ((IntKind.i64.wrap (b1 + (1 : Int))) < (b0.size : Int))) then
    (bif (decide (0 ≤ b1) && decide (b1 < (b0.size : Int))) then
      (bif (decide ((btI b0 b1) = (48 : Int))) then
        q0 b0 (IntKind.i64.wrap (b1 + (1 : Int)))
      else
        q9 b0 b1)
    else
      none)
  else
    q9 b0 b1)
def e9 (k : Nat) (_q0 : ByteArray → Int → Option (List Int)) (_q9 : ByteArray → Int → Option (List Int)) (b0 : ByteArray) (b1 : Int) : Option (List Int) :=
  (bif (decide (0 ≤ b1) && decide (b1 ≤ (b0.size : Int)) && decide ((b0.size : Int) ≤ (b0.size : Int))) then
    (Option.bind (ref01_Parse.f k (b0.extract (Int.toNat b1) (Int.toNat (b0.size : Int))) (10 : Int)) fun r1 =>
      (some r1.1))
  else
    none)
def e (_k : Nat) (q0 : ByteArray → Int → Option (List Int)) (_q9 : ByteArray → Int → Option (List Int)) (a0 : ByteArray) : Option (List Int) :=
  q0 a0 (0 : Int)
def pts : Nat → (ByteArray → Int → Option (List Int)) × (ByteArray → Int → Option (List Int))
  | 0 => (fun _ _ => none, fun _ _ => none)
  | k + 1 => (e0 k (pts k).1 (pts k).2, e9 k (pts k).1 (pts k).2)
def p0 (k : Nat) : ByteArray → Int → Option (List Int) := (pts k).1
def p9 (k : Nat) : ByteArray → Int → Option (List Int) := (pts k).2
theorem p0_succ (k : Nat) (x0 : ByteArray) (x1 : Int) : p0 (k + 1) x0 x1 = e0 k (p0 k) (p9 k) x0 x1 := rfl
theorem p9_succ (k : Nat) (x0 : ByteArray) (x1 : Int) : p9 (k + 1) x0 x1 = e9 k (p0 k) (p9 k) x0 x1 := rfl
def f (k : Nat) (a0 : ByteArray) : Option (List Int) := e k (p0 k) (p9 k) a0
end ref04_natural

namespace ref01_Small
def e0 (_k : Nat) (q0 : (List Int) → Int → Int → Option (Int × Bool)) (b0 : (List Int)) (b1 : Int) (b2 : Int) : Option (Int × Bool) :=
  (bif (decide (b2 ≥ (0 : Int))) then
    (bif (decide (0 ≤ b2) && decide (b2 < (b0.length : Int))) then
      q0 b0 (bitsI .or .u64 (IntKind.u64.wrap (b1 * 2 ^ 32)) (IntKind.u64.wrap (nthD (0 : Int) b0 (Int.toNat b2)))) (IntKind.i64.wrap (b2 - (1 : Int)))
    else
      none)
  else
    (some (b1, true)))
def e (k : Nat) (q0 : (List Int) → Int → Int → Option (Int × Bool)) (a0 : (List Int)) : Option (Int × Bool) :=
  (Option.bind (ref01_Norm.f k a0) fun r1 =>
    (bif (decide ((r1.length : Int) > (2 : Int))) then
      (some ((0 : Int), false))
    else
      q0 r1 (0 : Int) (IntKind.i64.wrap ((r1.length : Int) - (1 : Int)))))
def pts : Nat → ((List Int) → Int → Int → Option (Int × Bool))
  | 0 => fun _ _ _ => none
  | k + 1 => e0 k (pts k)
def p0 (k : Nat) : (List Int) → Int → Int → Option (Int × Bool) := (pts k)
theorem p0_succ (k : Nat) (x0 : (List Int)) (x1 : Int) (x2 : Int) : p0 (k + 1) x0 x1 x2 = e0 k (p0 k) x0 x1 x2 := rfl
def f (k : Nat) (a0 : (List Int)) : Option (Int × Bool) := e k (p0 k) a0
end ref01_Small

namespace ref01_Pow
def e5 (_k : Nat) (_q5 : Unit → Option ((List Int) × Int)) (_q0 : (List Int) → Int → (List Int) → Int → Option ((List Int) × Int)) (_q13 : (List Int) → Int → (List Int) → Int → Option ((List Int) × Int)) (_ : Unit) : Option ((List Int) × Int) :=
  (some (([] : List Int), (13 : Int)))
def e0 (k : Nat) (_q5 : Unit → Option ((List Int) × Int)) (_q0 : (List Int) → Int → (List Int) → Int → Option ((List Int) × Int)) (q13 : (List Int) → Int → (List Int) → Int → Option ((List Int) × Int)) (b0 : (List Int)) (b1 : Int) (b2 : (List Int)) (b3 : Int) : Option ((List Int) × Int) :=
  (bif (decide (b3 ≥ (0 : Int))) then
    (Option.bind (ref01_Mul.f k b2 b2) fun r1 =>
      (bif (decide ((IntKind.u64.wrap b3) < 0)) then
        none
      else
        (bif (decide ((bitsI .and .i64 (Int.fdiv b1 (2 ^ min (Int.toNat (IntKind.u64.wrap b3)) 64)) (1 : Int)) = (1 : Int))) then
          (Option.bind (ref01_Mul.f k r1 b0) fun r2 =>
            q13 b0 b1 r2 b3)
        else
          q13 b0 b1 r1 b3)))
  else
    (Option.bind (ref01_Norm.f k b2) fun r3 =>
      (some (r3, (0 : Int)))))
def e13 (_k : Nat) (_q5 : Unit → Option ((List Int) × Int)) (q0 : (List Int) → Int → (List Int) → Int → Option ((List Int) × Int)) (_q13 : (List Int) → Int → (List Int) → Int → Option ((List Int) × Int)) (b0 : (List Int)) (b1 : Int) (b2 : (List Int)) (b3 : Int) : Option ((List Int) × Int) :=
  q0 b0 b1 b2 (IntKind.i64.wrap (b3 - (1 : Int)))
def e (_k : Nat) (q5 : Unit → Option ((List Int) × Int)) (q0 : (List Int) → Int → (List Int) → Int → Option ((List Int) × Int)) (_q13 : (List Int) → Int → (List Int) → Int → Option ((List Int) × Int)) (a0 : (List Int)) (a1 : Int) : Option ((List Int) × Int) :=
  (bif (decide (a1 < (0 : Int))) then
    q5 ()
  else
    (bif (decide (a1 > (4096 : Int))) then
      q5 ()
    else
      q0 a0 a1 [(1 : Int)] (12 : Int)))
def pts : Nat → (Unit → Option ((List Int) × Int)) × ((List Int) → Int → (List Int) → Int → Option ((List Int) × Int)) × ((List Int) → Int → (List Int) → Int → Option ((List Int) × Int))
  | 0 => (fun _ => none, fun _ _ _ _ => none, fun _ _ _ _ => none)
  | k + 1 => (e5 k (pts k).1 (pts k).2.1 (pts k).2.2, e0 k (pts k).1 (pts k).2.1 (pts k).2.2, e13 k (pts k).1 (pts k).2.1 (pts k).2.2)
def p5 (k : Nat) : Unit → Option ((List Int) × Int) := (pts k).1
def p0 (k : Nat) : (List Int) → Int → (List Int) → Int → Option ((List Int) × Int) := (pts k).2.1
def p13 (k : Nat) : (List Int) → Int → (List Int) → Int → Option ((List Int) × Int) := (pts k).2.2
theorem p5_succ (k : Nat) (x0 : Unit) : p5 (k + 1) x0 = e5 k (p5 k) (p0 k) (p13 k) x0 := rfl
theorem p0_succ (k : Nat) (x0 : (List Int)) (x1 : Int) (x2 : (List Int)) (x3 : Int) : p0 (k + 1) x0 x1 x2 x3 = e0 k (p5 k) (p0 k) (p13 k) x0 x1 x2 x3 := rfl
theorem p13_succ (k : Nat) (x0 : (List Int)) (x1 : Int) (x2 : (List Int)) (x3 : Int) : p13 (k + 1) x0 x1 x2 x3 = e13 k (p5 k) (p0 k) (p13 k) x0 x1 x2 x3 := rfl
def f (k : Nat) (a0 : (List Int)) (a1 : Int) : Option ((List Int) × Int) := e k (p5 k) (p0 k) (p13 k) a0 a1
end ref01_Pow

namespace ref04_ten
def e0 (_k : Nat) (_q0 : Int → (List Int) → Option (List Int)) (q13 : Int → (List Int) → Int → Option (List Int)) (b0 : Int) (b1 : (List Int)) : Option (List Int) :=
  (bif (decide (b0 > (0 : Int))) then
    (bif (decide (b0 > (1000 : Int))) then
      q13 b0 b1 (1000 : Int)
    else
      q13 b0 b1 b0)
  else
    (some b1))
def e13 (k : Nat) (q0 : Int → (List Int) → Option (List Int)) (_q13 : Int → (List Int) → Int → Option (List Int)) (b0 : Int) (b1 : (List Int)) (b2 : Int) : Option (List Int) :=
  (Option.bind (ref01_Pow.f k [(10 : Int)] b2) fun r1 =>
    (Option.bind (ref01_Mul.f k b1 r1.1) fun r2 =>
      q0 (IntKind.i64.wrap (b0 - b2)) r2))
def e (_k : Nat) (q0 : Int → (List Int) → Option (List Int)) (_q13 : Int → (List Int) → Int → Option (List Int)) (a0 : Int) : Option (List Int) :=
  q0 a0 [(1 : Int)]
def pts : Nat → (Int → (List Int) → Option (List Int)) × (Int → (List Int) → Int → Option (List Int))
  | 0 => (fun _ _ => none, fun _ _ _ => none)
  | k + 1 => (e0 k (pts k).1 (pts k).2, e13 k (pts k).1 (pts k).2)
def p0 (k : Nat) : Int → (List Int) → Option (List Int) := (pts k).1
def p13 (k : Nat) : Int → (List Int) → Int → Option (List Int) := (pts k).2
theorem p0_succ (k : Nat) (x0 : Int) (x1 : (List Int)) : p0 (k + 1) x0 x1 = e0 k (p0 k) (p13 k) x0 x1 := rfl
theorem p13_succ (k : Nat) (x0 : Int) (x1 : (List Int)) (x2 : Int) : p13 (k + 1) x0 x1 x2 = e13 k (p0 k) (p13 k) x0 x1 x2 := rfl
def f (k : Nat) (a0 : Int) : Option (List Int) := e k (p0 k) (p13 k) a0
end ref04_ten

namespace ref04_tens
def e (k : Nat) (a0 : Int) : Option ((Bool × (List Int)) × (List Int)) :=
  (bif (decide (a0 < (0 : Int))) then
    (Option.bind (ref04_ten.f k (IntKind.i64.wrap ((0 : Int) - a0))) fun r1 =>
      (some ((false, [(1 : Int)]), r1)))
  else
    (Option.bind (ref04_ten.f k a0) fun r2 =>
      (some ((false, r2), [(1 : Int)]))))
def f (k : Nat) (a0 : Int) : Option ((Bool × (List Int)) × (List Int)) := e k a0
end ref04_tens

namespace ref04_timesTen
def e (k : Nat) (a0 : (List Int)) (a1 : Int) : Option ((Bool × (List Int)) × (List Int)) :=
  (Option.bind (ref04_tens.f k a1) fun r1 =>
    (Option.bind (ref01_Mul.f k a0 r1.1.2) fun r2 =>
      (some ((false, r2), r1.2))))
def f (k : Nat) (a0 : (List Int)) (a1 : Int) : Option ((Bool × (List Int)) × (List Int)) := e k a0 a1
end ref04_timesTen

namespace ref04_decimal
def e9 (k : Nat) (_q9 : ((Bool × (List Int)) × (List Int)) → ByteArray → Int → Option (((Bool × (List Int)) × (List Int)) × Bool × Bool)) (q33 : ((Bool × (List Int)) × (List Int)) → ByteArray → Int → Int → ByteArray → Int → Option (((Bool × (List Int)) × (List Int)) × Bool × Bool)) (_q35 : ((Bool × (List Int)) × (List Int)) → ByteArray → Int → Int → ByteArray → Int → Option (((Bool × (List Int)) × (List Int)) × Bool × Bool)) (_q63 : ((Bool × (List Int)) × (List Int)) → ByteArray → Int → Int → ByteArray → Int → Option (((Bool × (List Int)) × (List Int)) × Bool × Bool)) (_q39 : ((Bool × (List Int)) × (List Int)) → ByteArray → Int → Int → ByteArray → Int → Bool → Option (((Bool × (List Int)) × (List Int)) × Bool × Bool)) (_q41 : ((Bool × (List Int)) × (List Int)) → ByteArray → Int → Int → ByteArray → Int → Bool → Option (((Bool × (List Int)) × (List Int)) × Bool × Bool)) (_q43 : ((Bool × (List Int)) × (List Int)) → ByteArray → Int → Int → ByteArray → Int → Bool → Option (((Bool × (List Int)) × (List Int)) × Bool × Bool)) (_q53 : ((Bool × (List Int)) × (List Int)) → Option (((Bool × (List Int)) × (List Int)) × Bool × Bool)) (_q61 : ((Bool × (List Int)) × (List Int)) → ByteArray → Int → ByteArray → Int → Int → Option (((Bool × (List Int)) × (List Int)) × Bool × Bool)) (b0 : ((Bool × (List Int)) × (List Int))) (b1 : ByteArray) (b2 : Int) : Option (((Bool × (List Int)) × (List Int)) × Bool × Bool) :=
  (Option.bind (ref04_digitsAt.f k b1 b2) fun r1 =>
    (bif (decide (0 ≤ b2) && decide (b2 ≤ r1) && decide (r1 ≤ (b1.size : Int))) then
      (bif (decide (r1 = b2)) then
        (some (((false, ([] : List Int)), ([] : List Int)), false, false))
      else
        (bif (decide (r1 < (b1.size : Int))) then
          (bif (decide (0 ≤ r1) && decide (r1 < (b1.size : Int))) then
            (bif (decide ((btI b1 r1) = (46 : Int))) then
              (Option.bind (ref04_digitsAt.f k b1 (IntKind.i64.wrap (r1 + (1 : Int)))) fun r2 =>
                (bif (decide (r2 = (IntKind.i64.wrap (r1 + (1 : Int))))) then
                  (some (((false, ([] : List Int)), ([] : List Int)), false, false))
                else
                  (bif (decide (0 ≤ (IntKind.i64.wrap (r1 + (1 : Int)))) && decide ((IntKind.i64.wrap (r1 + (1 : Int))) ≤ r2) && decide (r2 ≤ (b1.size : Int))) then
                    (bif (decide ((((b1.extract (Int.toNat b2) (Int.toNat r1)).size + (b1.extract (Int.toNat (IntKind.i64.wrap (r1 + (1 : Int)))) (Int.toNat r2)).size : Nat) : Int) > IntKind.i64.max)) then
                      none
                    else
                      q33 b0 b1 b2 r2 ((b1.extract (Int.toNat b2) (Int.toNat r1)) ++ (b1.extract (Int.toNat (IntKind.i64.wrap (r1 + (1 : Int)))) (Int.toNat r2))) (IntKind.i64.wrap ((0 : Int) - (IntKind.i64.wrap ((IntKind.i64.wrap (r2 - r1)) - (1 : Int))))))
                  else
                    none)))
            else
              q33 b0 b1 b2 r1 (b1.extract (Int.toNat b2) (Int.toNat r1)) (0 : Int))
          else
            none)
        else
          q33 b0 b1 b2 r1 (b1.extract (Int.toNat b2) (Int.toNat r1)) (0 : Int)))
    else
      none))
def e33 (_k : Nat) (_q9 : ((Bool × (List Int)) × (List Int)) → ByteArray → Int → Option (((Bool × (List Int)) × (List Int)) × Bool × Bool)) (_q33 : ((Bool × (List Int)) × (List Int)) → ByteArray → Int → Int → ByteArray → Int → Option (((Bool × (List Int)) × (List Int)) × Bool × Bool)) (q35 : ((Bool × (List Int)) × (List Int)) → ByteArray → Int → Int → ByteArray → Int → Option (((Bool × (List Int)) × (List Int)) × Bool × Bool)) (q63 : ((Bool × (List Int)) × (List Int)) → ByteArray → Int → Int → ByteArray → Int → Option (((Bool × (List Int)) × (List Int)) × Bool × Bool)) (_q39 : ((Bool × (List Int)) × (List Int)) → ByteArray → Int → Int → ByteArray → Int → Bool → Option (((Bool × (List Int)) × (List Int)) × Bool × Bool)) (_q41 : ((Bool × (List Int)) × (List Int)) → ByteArray → Int → Int → ByteArray → Int → Bool → Option (((Bool × (List Int)) × (List Int)) × Bool × Bool)) (_q43 : ((Bool × (List Int)) × (List Int)) → ByteArray → Int → Int → ByteArray → Int → Bool → Option (((Bool × (List Int)) × (List Int)) × Bool × Bool)) (_q53 : ((Bool × (List Int)) × (List Int)) → Option (((Bool × (List Int)) × (List Int)) × Bool × Bool)) (_q61 : ((Bool × (List Int)) × (List Int)) → ByteArray → Int → ByteArray → Int → Int → Option (((Bool × (List Int)) × (List Int)) × Bool × Bool)) (b0 : ((Bool × (List Int)) × (List Int))) (b1 : ByteArray) (b2 : Int) (b3 : Int) (b4 : ByteArray) (b5 : Int) : Option (((Bool × (List Int)) × (List Int)) × Bool × Bool) :=
  (bif (decide (b3 < (b1.size : Int))) then
    (bif (decide (0 ≤ b3) && decide (b3 < (b1.size : Int))) then
      (bif (decide ((btI b1 b3) = (101 : Int))) then
        q35 b0 b1 b2 b3 b4 b5
      else
        (bif (decide (0 ≤ b3) && decide (b3 < (b1.size : Int))) then
          (bif (decide ((btI b1 b3) = (69 : Int))) then
            q35 b0 b1 b2 b3 b4 b5
          else
            q63 b0 b1 b2 b3 b4 b5)
        else
          none))
    else
      none)
  else
    q63 b0 b1 b2 b3 b4 b5)
def e35 (_k : Nat) (_q9 : ((Bool × (List Int)) × (List Int)) → ByteArray → Int → Option (((Bool × (List Int)) × (List Int)) × Bool × Bool)) (_q33 : ((Bool × (List Int)) × (List Int)) → ByteArray → Int → Int → ByteArray → Int → Option (((Bool × (List Int)) × (List Int)) × Bool × Bool)) (_q35 : ((Bool × (List Int)) × (List Int)) → ByteArray → Int → Int → ByteArray → Int → Option (((Bool × (List Int)) × (List Int)) × Bool × Bool)) (_q63 : ((Bool × (List Int)) × (List Int)) → ByteArray → Int → Int → ByteArray → Int → Option (((Bool × (List Int)) × (List Int)) × Bool × Bool)) (q39 : ((Bool × (List Int)) × (List Int)) → ByteArray → Int → Int → ByteArray → Int → Bool → Option (((Bool × (List Int)) × (List Int)) × Bool × Bool)) (_q41 : ((Bool × (List Int)) × (List Int)) → ByteArray → Int → Int → ByteArray → Int → Bool → Option (((Bool × (List Int)) × (List Int)) × Bool × Bool)) (_q43 : ((Bool × (List Int)) × (List Int)) → ByteArray → Int → Int → ByteArray → Int → Bool → Option (((Bool × (List Int)) × (List Int)) × Bool × Bool)) (_q53 : ((Bool × (List Int)) × (List Int)) → Option (((Bool × (List Int)) × (List Int)) × Bool × Bool)) (_q61 : ((Bool × (List Int)) × (List Int)) → ByteArray → Int → ByteArray → Int → Int → Option (((Bool × (List Int)) × (List Int)) × Bool × Bool)) (b0 : ((Bool × (List Int)) × (List Int))) (b1 : ByteArray) (b2 : Int) (b3 : Int) (b4 : ByteArray) (b5 : Int) : Option (((Bool × (List Int)) × (List Int)) × Bool × Bool) :=
  (bif (decide ((IntKind.i64.wrap (b3 + (1 : Int))) < (b1.size : Int))) then
    (bif (decide (0 ≤ (IntKind.i64.wrap (b3 + (1 : Int)))) && decide ((IntKind.i64.wrap (b3 + (1 : Int))) < (b1.size : Int))) then
      q39 b0 b1 b2 (IntKind.i64.wrap (b3 + (1 : Int))) b4 b5 (decide ((btI b1 (IntKind.i64.wrap (b3 + (1 : Int)))) = (45 : Int)))
    else
      none)
  else
    q39 b0 b1 b2 (IntKind.i64.wrap (b3 + (1 : Int))) b4 b5 false)
def e63 (k : Nat) (_q9 : ((Bool × (List Int)) × (List Int)) → ByteArray → Int → Option (((Bool × (List Int)) × (List Int)) × Bool × Bool)) (_q33 : ((Bool × (List Int)) × (List Int)) → ByteArray → Int → Int → ByteArray → Int → Option (((Bool × (List Int)) × (List Int)) × Bool × Bool)) (_q35 : ((Bool × (List Int)) × (List Int)) → ByteArray → Int → Int → ByteArray → Int → Option (((Bool × (List Int)) × (List Int)) × Bool × Bool)) (_q63 : ((Bool × (List Int)) × (List Int)) → ByteArray → Int → Int → ByteArray → Int → Option (((Bool × (List Int)) × (List Int)) × Bool × Bool)) (_q39 : ((Bool × (List Int)) × (List Int)) → ByteArray → Int → Int → ByteArray → Int → Bool → Option (((Bool × (List Int)) × (List Int)) × Bool × Bool)) (_q41 : ((Bool × (List Int)) × (List Int)) → ByteArray → Int → Int → ByteArray → Int → Bool → Option (((Bool × (List Int)) × (List Int)) × Bool × Bool)) (_q43 : ((Bool × (List Int)) × (List Int)) → ByteArray → Int → Int → ByteArray → Int → Bool → Option (((Bool × (List Int)) × (List Int)) × Bool × Bool)) (_q53 : ((Bool × (List Int)) × (List Int)) → Option (((Bool × (List Int)) × (List Int)) × Bool × Bool)) (_q61 : ((Bool × (List Int)) × (List Int)) → ByteArray → Int → ByteArray → Int → Int → Option (((Bool × (List Int)) × (List Int)) × Bool × Bool)) (_b0 : ((Bool × (List Int)) × (List Int))) (b1 : ByteArray) (b2 : Int) (b3 : Int) (b4 : ByteArray) (b5 : Int) : Option (((Bool × (List Int)) × (List Int)) × Bool × Bool) :=
  (bif (!decide (b3 = (b1.size : Int))) then
    (some (((false, ([] : List Int)), ([] : List Int)), false, false))
  else
    (Option.bind (ref04_natural.f k b4) fun r3 =>
      (Option.bind (ref04_timesTen.f k r3 b5) fun r4 =>
        (some (r4, (decide (b2 = (1 : Int))), true)))))
def e39 (_k : Nat) (_q9 : ((Bool × (List Int)) × (List Int)) → ByteArray → Int → Option (((Bool × (List Int)) × (List Int)) × Bool × Bool)) (_q33 : ((Bool × (List Int)) × (List Int)) → ByteArray → Int → Int → ByteArray → Int → Option (((Bool × (List Int)) × (List Int)) × Bool × Bool)) (_q35 : ((Bool × (List Int)) × (List Int)) → ByteArray → Int → Int → ByteArray → Int → Option (((Bool × (List Int)) × (List Int)) × Bool × Bool)) (_q63 : ((Bool × (List Int)) × (List Int)) → ByteArray → Int → Int → ByteArray → Int → Option (((Bool × (List Int)) × (List Int)) × Bool × Bool)) (_q39 : ((Bool × (List Int)) × (List Int)) → ByteArray → Int → Int → ByteArray → Int → Bool → Option (((Bool × (List Int)) × (List Int)) × Bool × Bool)) (q41 : ((Bool × (List Int)) × (List Int)) → ByteArray → Int → Int → ByteArray → Int → Bool → Option (((Bool × (List Int)) × (List Int)) × Bool × Bool)) (q43 : ((Bool × (List Int)) × (List Int)) → ByteArray → Int → Int → ByteArray → Int → Bool → Option (((Bool × (List Int)) × (List Int)) × Bool × Bool)) (_q53 : ((Bool × (List Int)) × (List Int)) → Option (((Bool × (List Int)) × (List Int)) × Bool × Bool)) (_q61 : ((Bool × (List Int)) × (List Int)) → ByteArray → Int → ByteArray → Int → Int → Option (((Bool × (List Int)) × (List Int)) × Bool × Bool)) (b0 : ((Bool × (List Int)) × (List Int))) (b1 : ByteArray) (b2 : Int) (b3 : Int) (b4 : ByteArray) (b5 : Int) (b6 : Bool) : Option (((Bool × (List Int)) × (List Int)) × Bool × Bool) :=
  (bif (decide (b3 < (b1.size : Int))) then
    (bif (decide (0 ≤ b3) && decide (b3 < (b1.size : Int))) then
      (bif (decide ((btI b1 b3) = (45 : Int))) then
        q41 b0 b1 b2 b3 b4 b5 b6
      else
        (bif (decide (0 ≤ b3) && decide (b3 < (b1.size : Int))) then
          (bif (decide ((btI b1 b3) = (43 : Int))) then
            q41 b0 b1 b2 b3 b4 b5 b6
          else
            q43 b0 b1 b2 b3 b4 b5 b6)
        else
          none))
    else
      none)
  else
    q43 b0 b1 b2 b3 b4 b5 b6)
def e41 (_k : Nat) (_q9 : ((Bool × (List Int)) × (List Int)) → ByteArray → Int → Option (((Bool × (List Int)) × (List Int)) × Bool × Bool)) (_q33 : ((Bool × (List Int)) × (List Int)) → ByteArray → Int → Int → ByteArray → Int → Option (((Bool × (List Int)) × (List Int)) × Bool × Bool)) (_q35 : ((Bool × (List Int)) × (List Int)) → ByteArray → Int → Int → ByteArray → Int → Option (((Bool × (List Int)) × (List Int)) × Bool × Bool)) (_q63 : ((Bool × (List Int)) × (List Int)) → ByteArray → Int → Int → ByteArray → Int → Option (((Bool × (List Int)) × (List Int)) × Bool × Bool)) (_q39 : ((Bool × (List Int)) × (List Int)) → ByteArray → Int → Int → ByteArray → Int → Bool → Option (((Bool × (List Int)) × (List Int)) × Bool × Bool)) (_q41 : ((Bool × (List Int)) × (List Int)) → ByteArray → Int → Int → ByteArray → Int → Bool → Option (((Bool × (List Int)) × (List Int)) × Bool × Bool)) (q43 : ((Bool × (List Int)) × (List Int)) → ByteArray → Int → Int → ByteArray → Int → Bool → Option (((Bool × (List Int)) × (List Int)) × Bool × Bool)) (_q53 : ((Bool × (List Int)) × (List Int)) → Option (((Bool × (List Int)) × (List Int)) × Bool × Bool)) (_q61 : ((Bool × (List Int)) × (List Int)) → ByteArray → Int → ByteArray → Int → Int → Option (((Bool × (List Int)) × (List Int)) × Bool × Bool)) (b0 : ((Bool × (List Int)) × (List Int))) (b1 : ByteArray) (b2 : Int) (b3 : Int) (b4 : ByteArray) (b5 : Int) (b6 : Bool) : Option (((Bool × (List Int)) × (List Int)) × Bool × Bool) :=
  q43 b0 b1 b2 (IntKind.i64.wrap (b3 + (1 : Int))) b4 b5 b6
def e43 (k : Nat) (_q9 : ((Bool × (List Int)) × (List Int)) → ByteArray → Int → Option (((Bool × (List Int)) × (List Int)) × Bool × Bool)) (_q33 : ((Bool × (List Int)) × (List Int)) → ByteArray → Int → Int → ByteArray → Int → Option (((Bool × (List Int)) × (List Int)) × Bool × Bool)) (_q35 : ((Bool × (List Int)) × (List Int)) → ByteArray → Int → Int → ByteArray → Int → Option (((Bool × (List Int)) × (List Int)) × Bool × Bool)) (_q63 : ((Bool × (List Int)) × (List Int)) → ByteArray → Int → Int → ByteArray → Int → Option (((Bool × (List Int)) × (List Int)) × Bool × Bool)) (_q39 : ((Bool × (List Int)) × (List Int)) → ByteArray → Int → Int → ByteArray → Int → Bool → Option (((Bool × (List Int)) × (List Int)) × Bool × Bool)) (_q41 : ((Bool × (List Int)) × (List Int)) → ByteArray → Int → Int → ByteArray → Int → Bool → Option (((Bool × (List Int)) × (List Int)) × Bool × Bool)) (_q43 : ((Bool × (List Int)) × (List Int)) → ByteArray → Int → Int → ByteArray → Int → Bool → Option (((Bool × (List Int)) × (List Int)) × Bool × Bool)) (q53 : ((Bool × (List Int)) × (List Int)) → Option (((Bool × (List Int)) × (List Int)) × Bool × Bool)) (q61 : ((Bool × (List Int)) × (List Int)) → ByteArray → Int → ByteArray → Int → Int → Option (((Bool × (List Int)) × (List Int)) × Bool × Bool)) (b0 : ((Bool × (List Int)) × (List Int))) (b1 : ByteArray) (b2 : Int) (b3 : Int) (b4 : ByteArray) (b5 : Int) (b6 : Bool) : Option (((Bool × (List Int)) × (List Int)) × Bool × Bool) :=
  (Option.bind (ref04_digitsAt.f k b1 b3) fun r5 =>
    (bif (decide (r5 = b3)) then
      (some (((false, ([] : List Int)), ([] : List Int)), false, false))
    else
      (bif (decide (0 ≤ b3) && decide (b3 ≤ r5) && decide (r5 ≤ (b1.size : Int))) then
        (Option.bind (ref04_natural.f k (b1.extract (Int.toNat b3) (Int.toNat r5))) fun r6 =>
          (Option.bind (ref01_Small.f k r6) fun r7 =>
            (bif (!r7.2) then
              q53 b0
            else
              (bif (decide (r7.1 > (5000 : Int))) then
                q53 b0
              else
                (bif b6 then
                  q61 b0 b1 b2 b4 (IntKind.i64.wrap (b5 - (IntKind.i64.wrap r7.1))) r5
                else
                  q61 b0 b1 b2 b4 (IntKind.i64.wrap (b5 + (IntKind.i64.wrap r7.1))) r5)))))
      else
        none)))
def e53 (_k : Nat) (_q9 : ((Bool × (List Int)) × (List Int)) → ByteArray → Int → Option (((Bool × (List Int)) × (List Int)) × Bool × Bool)) (_q33 : ((Bool × (List Int)) × (List Int)) → ByteArray → Int → Int → ByteArray → Int → Option (((Bool × (List Int)) × (List Int)) × Bool × Bool)) (_q35 : ((Bool × (List Int)) × (List Int)) → ByteArray → Int → Int → ByteArray → Int → Option (((Bool × (List Int)) × (List Int)) × Bool × Bool)) (_q63 : ((Bool × (List Int)) × (List Int)) → ByteArray → Int → Int → ByteArray → Int → Option (((Bool × (List Int)) × (List Int)) × Bool × Bool)) (_q39 : ((Bool × (List Int)) × (List Int)) → ByteArray → Int → Int → ByteArray → Int → Bool → Option (((Bool × (List Int)) × (List Int)) × Bool × Bool)) (_q41 : ((Bool × (List Int)) × (List Int)) → ByteArray → Int → Int → ByteArray → Int → Bool → Option (((Bool × (List Int)) × (List Int)) × Bool × Bool)) (_q43 : ((Bool × (List Int)) × (List Int)) → ByteArray → Int → Int → ByteArray → Int → Bool → Option (((Bool × (List Int)) × (List Int)) × Bool × Bool)) (_q53 : ((Bool × (List Int)) × (List Int)) → Option (((Bool × (List Int)) × (List Int)) × Bool × Bool)) (_q61 : ((Bool × (List Int)) × (List Int)) → ByteArray → Int → ByteArray → Int → Int → Option (((Bool × (List Int)) × (List Int)) × Bool × Bool)) (_b0 : ((Bool × (List Int)) × (List Int))) : Option (((Bool × (List Int)) × (List Int)) × Bool × Bool) :=
  (some (((false, ([] : List Int)), ([] : List Int)), false, false))
def e61 (_k : Nat) (_q9 : ((Bool × (List Int)) × (List Int)) → ByteArray → Int → Option (((Bool × (List Int)) × (List Int)) × Bool × Bool)) (_q33 : ((Bool × (List Int)) × (List Int)) → ByteArray → Int → Int → ByteArray → Int → Option (((Bool × (List Int)) × (List Int)) × Bool × Bool)) (_q35 : ((Bool × (List Int)) × (List Int)) → ByteArray → Int → Int → ByteArray → Int → Option (((Bool × (List Int)) × (List Int)) × Bool × Bool)) (q63 : ((Bool × (List Int)) × (List Int)) → ByteArray → Int → Int → ByteArray → Int → Option (((Bool × (List Int)) × (List Int)) × Bool × Bool)) (_q39 : ((Bool × (List Int)) × (List Int)) → ByteArray → Int → Int → ByteArray → Int → Bool → Option (((Bool × (List Int)) × (List Int)) × Bool × Bool)) (_q41 : ((Bool × (List Int)) × (List Int)) → ByteArray → Int → Int → ByteArray → Int → Bool → Option (((Bool × (List Int)) × (List Int)) × Bool × Bool)) (_q43 : ((Bool × (List Int)) × (List Int)) → ByteArray → Int → Int → ByteArray → Int → Bool → Option (((Bool × (List Int)) × (List Int)) × Bool × Bool)) (_q53 : ((Bool × (List Int)) × (List Int)) → Option (((Bool × (List Int)) × (List Int)) × Bool × Bool)) (_q61 : ((Bool × (List Int)) × (List Int)) → ByteArray → Int → ByteArray → Int → Int → Option (((Bool × (List Int)) × (List Int)) × Bool × Bool)) (b0 : ((Bool × (List Int)) × (List Int))) (b1 : ByteArray) (b2 : Int) (b3 : ByteArray) (b4 : Int) (b5 : Int) : Option (((Bool × (List Int)) × (List Int)) × Bool × Bool) :=
  q63 b0 b1 b2 b5 b3 b4
def e (_k : Nat) (q9 : ((Bool × (List Int)) × (List Int)) → ByteArray → Int → Option (((Bool × (List Int)) × (List Int)) × Bool × Bool)) (_q33 : ((Bool × (List Int)) × (List Int)) → ByteArray → Int → Int → ByteArray → Int → Option (((Bool × (List Int)) × (List Int)) × Bool × Bool)) (_q35 : ((Bool × (List Int)) × (List Int)) → ByteArray → Int → Int → ByteArray → Int → Option (((Bool × (List Int)) × (List Int)) × Bool × Bool)) (_q63 : ((Bool × (List Int)) × (List Int)) → ByteArray → Int → Int → ByteArray → Int → Option (((Bool × (List Int)) × (List Int)) × Bool × Bool)) (_q39 : ((Bool × (List Int)) × (List Int)) → ByteArray → Int → Int → ByteArray → Int → Bool → Option (((Bool × (List Int)) × (List Int)) × Bool × Bool)) (_q41 : ((Bool × (List Int)) × (List Int)) → ByteArray → Int → Int → ByteArray → Int → Bool → Option (((Bool × (List Int)) × (List Int)) × Bool × Bool)) (_q43 : ((Bool × (List Int)) × (List Int)) → ByteArray → Int → Int → ByteArray → Int → Bool → Option (((Bool × (List Int)) × (List Int)) × Bool × Bool)) (_q53 : ((Bool × (List Int)) × (List Int)) → Option (((Bool × (List Int)) × (List Int)) × Bool × Bool)) (_q61 : ((Bool × (List Int)) × (List Int)) → ByteArray → Int → ByteArray → Int → Int → Option (((Bool × (List Int)) × (List Int)) × Bool × Bool)) (a0 : ByteArray) : Option (((Bool × (List Int)) × (List Int)) × Bool × Bool) :=
  (bif (decide ((a0.size : Int) > (0 : Int))) then
    (bif (decide ((0 : Int) < (a0.size : Int))) then
      (bif (decide ((btI a0 (0 : Int)) = (45 : Int))) then
        q9 ((false, ([] : List Int)), ([] : List Int)) a0 (1 : Int)
      else
        q9 ((false, ([] : List Int)), ([] : List Int)) a0 (0 : Int))
    else
      none)
  else
    q9 ((false, ([] : List Int)), ([] : List Int)) a0 (0 : Int))
def pts : Nat → (((Bool × (List Int)) × (List Int)) → ByteArray → Int → Option (((Bool × (List Int)) × (List Int)) × Bool × Bool)) × (((Bool × (List Int)) × (List Int)) → ByteArray → Int → Int → ByteArray → Int → Option (((Bool × (List Int)) × (List Int)) × Bool × Bool)) × (((Bool × (List Int)) × (List Int)) → ByteArray → Int → Int → ByteArray → Int → Option (((Bool × (List Int)) × (List Int)) × Bool × Bool)) × (((Bool × (List Int)) × (List Int)) → ByteArray → Int → Int → ByteArray → Int → Option (((Bool × (List Int)) × (List Int)) × Bool × Bool)) × (((Bool × (List Int)) × (List Int)) → ByteArray → Int → Int → ByteArray → Int → Bool → Option (((Bool × (List Int)) × (List Int)) × Bool × Bool)) × (((Bool × (List Int)) × (List Int)) → ByteArray → Int → Int → ByteArray → Int → Bool → Option (((Bool × (List Int)) × (List Int)) × Bool × Bool)) × (((Bool × (List Int)) × (List Int)) → ByteArray → Int → Int → ByteArray → Int → Bool → Option (((Bool × (List Int)) × (List Int)) × Bool × Bool)) × (((Bool × (List Int)) × (List Int)) → Option (((Bool × (List Int)) × (List Int)) × Bool × Bool)) × (((Bool × (List Int)) × (List Int)) → ByteArray → Int → ByteArray → Int → Int → Option (((Bool × (List Int)) × (List Int)) × Bool × Bool))
  | 0 => (fun _ _ _ => none, fun _ _ _ _ _ _ => none, fun _ _ _ _ _ _ => none, fun _ _ _ _ _ _ => none, fun _ _ _ _ _ _ _ => none, fun _ _ _ _ _ _ _ => none, fun _ _ _ _ _ _ _ => none, fun _ => none, fun _ _ _ _ _ _ => none)
  | k + 1 => (e9 k (pts k).1 (pts k).2.1 (pts k).2.2.1 (pts k).2.2.2.1 (pts k).2.2.2.2.1 (pts k).2.2.2.2.2.1 (pts k).2.2.2.2.2.2.1 (pts k).2.2.2.2.2.2.2.1 (pts k).2.2.2.2.2.2.2.2, e33 k (pts k).1 (pts k).2.1 (pts k).2.2.1 (pts k).2.2.2.1 (pts k).2.2.2.2.1 (pts k).2.2.2.2.2.1 (pts k).2.2.2.2.2.2.1 (pts k).2.2.2.2.2.2.2.1 (pts k).2.2.2.2.2.2.2.2, e35 k (pts k).1 (pts k).2.1 (pts k).2.2.1 (pts k).2.2.2.1 (pts k).2.2.2.2.1 (pts k).2.2.2.2.2.1 (pts k).2.2.2.2.2.2.1 (pts k).2.2.2.2.2.2.2.1 (pts k).2.2.2.2.2.2.2.2, e63 k (pts k).1 (pts k).2.1 (pts k).2.2.1 (pts k).2.2.2.1 (pts k).2.2.2.2.1 (pts k).2.2.2.2.2.1 (pts k).2.2.2.2.2.2.1 (pts k).2.2.2.2.2.2.2.1 (pts k).2.2.2.2.2.2.2.2, e39 k (pts k).1 (pts k).2.1 (pts k).2.2.1 (pts k).2.2.2.1 (pts k).2.2.2.2.1 (pts k).2.2.2.2.2.1 (pts k).2.2.2.2.2.2.1 (pts k).2.2.2.2.2.2.2.1 (pts k).2.2.2.2.2.2.2.2, e41 k (pts k).1 (pts k).2.1 (pts k).2.2.1 (pts k).2.2.2.1 (pts k).2.2.2.2.1 (pts k).2.2.2.2.2.1 (pts k).2.2.2.2.2.2.1 (pts k).2.2.2.2.2.2.2.1 (pts k).2.2.2.2.2.2.2.2, e43 k (pts k).1 (pts k).2.1 (pts k).2.2.1 (pts k).2.2.2.1 (pts k).2.2.2.2.1 (pts k).2.2.2.2.2.1 (pts k).2.2.2.2.2.2.1 (pts k).2.2.2.2.2.2.2.1 (pts k).2.2.2.2.2.2.2.2, e53 k (pts k).1 (pts k).2.1 (pts k).2.2.1 (pts k).2.2.2.1 (pts k).2.2.2.2.1 (pts k).2.2.2.2.2.1 (pts k).2.2.2.2.2.2.1 (pts k).2.2.2.2.2.2.2.1 (pts k).2.2.2.2.2.2.2.2, e61 k (pts k).1 (pts k).2.1 (pts k).2.2.1 (pts k).2.2.2.1 (pts k).2.2.2.2.1 (pts k).2.2.2.2.2.1 (pts k).2.2.2.2.2.2.1 (pts k).2.2.2.2.2.2.2.1 (pts k).2.2.2.2.2.2.2.2)
def p9 (k : Nat) : ((Bool × (List Int)) × (List Int)) → ByteArray → Int → Option (((Bool × (List Int)) × (List Int)) × Bool × Bool) := (pts k).1
def p33 (k : Nat) : ((Bool × (List Int)) × (List Int)) → ByteArray → Int → Int → ByteArray → Int → Option (((Bool × (List Int)) × (List Int)) × Bool × Bool) := (pts k).2.1
def p35 (k : Nat) : ((Bool × (List Int)) × (List Int)) → ByteArray → Int → Int → ByteArray → Int → Option (((Bool × (List Int)) × (List Int)) × Bool × Bool) := (pts k).2.2.1
def p63 (k : Nat) : ((Bool × (List Int)) × (List Int)) → ByteArray → Int → Int → ByteArray → Int → Option (((Bool × (List Int)) × (List Int)) × Bool × Bool) := (pts k).2.2.2.1
def p39 (k : Nat) : ((Bool × (List Int)) × (List Int)) → ByteArray → Int → Int → ByteArray → Int → Bool → Option (((Bool × (List Int)) × (List Int)) × Bool × Bool) := (pts k).2.2.2.2.1
def p41 (k : Nat) : ((Bool × (List Int)) × (List Int)) → ByteArray → Int → Int → ByteArray → Int → Bool → Option (((Bool × (List Int)) × (List Int)) × Bool × Bool) := (pts k).2.2.2.2.2.1
def p43 (k : Nat) : ((Bool × (List Int)) × (List Int)) → ByteArray → Int → Int → ByteArray → Int → Bool → Option (((Bool × (List Int)) × (List Int)) × Bool × Bool) := (pts k).2.2.2.2.2.2.1
def p53 (k : Nat) : ((Bool × (List Int)) × (List Int)) → Option (((Bool × (List Int)) × (List Int)) × Bool × Bool) := (pts k).2.2.2.2.2.2.2.1
def p61 (k : Nat) : ((Bool × (List Int)) × (List Int)) → ByteArray → Int → ByteArray → Int → Int → Option (((Bool × (List Int)) × (List Int)) × Bool × Bool) := (pts k).2.2.2.2.2.2.2.2
theorem p9_succ (k : Nat) (x0 : ((Bool × (List Int)) × (List Int))) (x1 : ByteArray) (x2 : Int) : p9 (k + 1) x0 x1 x2 = e9 k (p9 k) (p33 k) (p35 k) (p63 k) (p39 k) (p41 k) (p43 k) (p53 k) (p61 k) x0 x1 x2 := rfl
theorem p33_succ (k : Nat) (x0 : ((Bool × (List Int)) × (List Int))) (x1 : ByteArray) (x2 : Int) (x3 : Int) (x4 : ByteArray) (x5 : Int) : p33 (k + 1) x0 x1 x2 x3 x4 x5 = e33 k (p9 k) (p33 k) (p35 k) (p63 k) (p39 k) (p41 k) (p43 k) (p53 k) (p61 k) x0 x1 x2 x3 x4 x5 := rfl
theorem p35_succ (k : Nat) (x0 : ((Bool × (List Int)) × (List Int))) (x1 : ByteArray) (x2 : Int) (x3 : Int) (x4 : ByteArray) (x5 : Int) : p35 (k + 1) x0 x1 x2 x3 x4 x5 = e35 k (p9 k) (p33 k) (p35 k) (p63 k) (p39 k) (p41 k) (p43 k) (p53 k) (p61 k) x0 x1 x2 x3 x4 x5 := rfl
theorem p63_succ (k : Nat) (x0 : ((Bool × (List Int)) × (List Int))) (x1 : ByteArray) (x2 : Int) (x3 : Int) (x4 : ByteArray) (x5 : Int) : p63 (k + 1) x0 x1 x2 x3 x4 x5 = e63 k (p9 k) (p33 k) (p35 k) (p63 k) (p39 k) (p41 k) (p43 k) (p53 k) (p61 k) x0 x1 x2 x3 x4 x5 := rfl
theorem p39_succ (k : Nat) (x0 : ((Bool × (List Int)) × (List Int))) (x1 : ByteArray) (x2 : Int) (x3 : Int) (x4 : ByteArray) (x5 : Int) (x6 : Bool) : p39 (k + 1) x0 x1 x2 x3 x4 x5 x6 = e39 k (p9 k) (p33 k) (p35 k) (p63 k) (p39 k) (p41 k) (p43 k) (p53 k) (p61 k) x0 x1 x2 x3 x4 x5 x6 := rfl
theorem p41_succ (k : Nat) (x0 : ((Bool × (List Int)) × (List Int))) (x1 : ByteArray) (x2 : Int) (x3 : Int) (x4 : ByteArray) (x5 : Int) (x6 : Bool) : p41 (k + 1) x0 x1 x2 x3 x4 x5 x6 = e41 k (p9 k) (p33 k) (p35 k) (p63 k) (p39 k) (p41 k) (p43 k) (p53 k) (p61 k) x0 x1 x2 x3 x4 x5 x6 := rfl
theorem p43_succ (k : Nat) (x0 : ((Bool × (List Int)) × (List Int))) (x1 : ByteArray) (x2 : Int) (x3 : Int) (x4 : ByteArray) (x5 : Int) (x6 : Bool) : p43 (k + 1) x0 x1 x2 x3 x4 x5 x6 = e43 k (p9 k) (p33 k) (p35 k) (p63 k) (p39 k) (p41 k) (p43 k) (p53 k) (p61 k) x0 x1 x2 x3 x4 x5 x6 := rfl
theorem p53_succ (k : Nat) (x0 : ((Bool × (List Int)) × (List Int))) : p53 (k + 1) x0 = e53 k (p9 k) (p33 k) (p35 k) (p63 k) (p39 k) (p41 k) (p43 k) (p53 k) (p61 k) x0 := rfl
theorem p61_succ (k : Nat) (x0 : ((Bool × (List Int)) × (List Int))) (x1 : ByteArray) (x2 : Int) (x3 : ByteArray) (x4 : Int) (x5 : Int) : p61 (k + 1) x0 x1 x2 x3 x4 x5 = e61 k (p9 k) (p33 k) (p35 k) (p63 k) (p39 k) (p41 k) (p43 k) (p53 k) (p61 k) x0 x1 x2 x3 x4 x5 := rfl
def f (k : Nat) (a0 : ByteArray) : Option (((Bool × (List Int)) × (List Int)) × Bool × Bool) := e k (p9 k) (p33 k) (p35 k) (p63 k) (p39 k) (p41 k) (p43 k) (p53 k) (p61 k) a0
end ref04_decimal

namespace ref01_Bit
def e (_k : Nat) (a0 : (List Int)) (a1 : Int) : Option Bool :=
  (bif (decide (a1 ≥ (0 : Int))) then
    (bif (decide ((IntKind.i64.wrap (Int.tdiv a1 (32 : Int))) < (a0.length : Int))) then
      (bif (decide (0 ≤ (IntKind.i64.wrap (Int.tdiv a1 (32 : Int)))) && decide ((IntKind.i64.wrap (Int.tdiv a1 (32 : Int))) < (a0.length : Int))) then
        (bif (decide ((IntKind.u64.wrap (Int.tmod a1 (32 : Int))) < 0)) then
          none
        else
          (some (decide ((bitsI .and .u32 (Int.fdiv (nthD (0 : Int) a0 (Int.toNat (IntKind.i64.wrap (Int.tdiv a1 (32 : Int))))) (2 ^ min (Int.toNat (IntKind.u64.wrap (Int.tmod a1 (32 : Int)))) 32)) (1 : Int)) = (1 : Int)))))
      else
        none)
    else
      (some false))
  else
    (some false))
def f (k : Nat) (a0 : (List Int)) (a1 : Int) : Option Bool := e k a0 a1
end ref01_Bit

namespace ref01_Bits
def e0 (k : Nat) (q0 : (List Int) → Int → Option Int) (b0 : (List Int)) (b1 : Int) : Option Int :=
  (bif (decide (b1 ≥ (0 : Int))) then
    (Option.bind (ref01_Bit.f k b0 b1) fun r1 =>
      (bif r1 then
        (some (IntKind.i64.wrap (b1 + (1 : Int))))
      else
        q0 b0 (IntKind.i64.wrap (b1 - (1 : Int)))))
  else
    (some (0 : Int)))
def e (_k : Nat) (q0 : (List Int) → Int → Option Int) (a0 : (List Int)) : Option Int :=
  q0 a0 (IntKind.i64.wrap ((IntKind.i64.wrap ((32 : Int) * (a0.length : Int))) - (1 : Int)))
def pts : Nat → ((List Int) → Int → Option Int)
  | 0 => fun _ _ => none
  | k + 1 => e0 k (pts k)
def p0 (k : Nat) : (List Int) → Int → Option Int := (pts k)
theorem p0_succ (k : Nat) (x0 : (List Int)) (x1 : Int) : p0 (k + 1) x0 x1 = e0 k (p0 k) x0 x1 := rfl
def f (k : Nat) (a0 : (List Int)) : Option Int := e k (p0 k) a0
end ref01_Bits

namespace ref04_amount
def e9 (_k : Nat) (_q9 : ((Bool × (List Int)) × (List Int)) → ((Bool × (List Int)) × (List Int)) → Option (((Bool × (List Int)) × (List Int)) × Int)) (_b0 : ((Bool × (List Int)) × (List Int))) (b1 : ((Bool × (List Int)) × (List Int))) : Option (((Bool × (List Int)) × (List Int)) × Int) :=
  (some (b1, (0 : Int)))
def e (k : Nat) (q9 : ((Bool × (List Int)) × (List Int)) → ((Bool × (List Int)) × (List Int)) → Option (((Bool × (List Int)) × (List Int)) × Int)) (a0 : ((Bool × (List Int)) × (List Int))) : Option (((Bool × (List Int)) × (List Int)) × Int) :=
  (bif a0.1.1 then
    (Option.bind (ref01_Bits.f k a0.1.2) fun r1 =>
      (bif (decide (r1 > (0 : Int))) then
        (Option.bind (ref01_Bits.f k a0.2) fun r2 =>
          (bif (decide (r2 > (0 : Int))) then
            (some (((false, a0.1.2), a0.2), (9223372036854775808 : Int)))
          else
            q9 ((false, ([] : List Int)), ([] : List Int)) ((false, a0.1.2), a0.2)))
      else
        q9 ((false, ([] : List Int)), ([] : List Int)) ((false, a0.1.2), a0.2)))
  else
    q9 ((false, ([] : List Int)), ([] : List Int)) ((false, a0.1.2), a0.2))
def pts : Nat → (((Bool × (List Int)) × (List Int)) → ((Bool × (List Int)) × (List Int)) → Option (((Bool × (List Int)) × (List Int)) × Int))
  | 0 => fun _ _ => none
  | k + 1 => e9 k (pts k)
def p9 (k : Nat) : ((Bool × (List Int)) × (List Int)) → ((Bool × (List Int)) × (List Int)) → Option (((Bool × (List Int)) × (List Int)) × Int) := (pts k)
theorem p9_succ (k : Nat) (x0 : ((Bool × (List Int)) × (List Int))) (x1 : ((Bool × (List Int)) × (List Int))) : p9 (k + 1) x0 x1 = e9 k (p9 k) x0 x1 := rfl
def f (k : Nat) (a0 : ((Bool × (List Int)) × (List Int))) : Option (((Bool × (List Int)) × (List Int)) × Int) := e k (p9 k) a0
end ref04_amount

namespace ref01_Of
def e (k : Nat) (a0 : Int) : Option (List Int) :=
  (Option.bind (ref01_Norm.f k [(IntKind.u32.wrap a0), (IntKind.u32.wrap (Int.fdiv a0 (2 ^ 32)))]) fun r1 =>
    (some r1))
def f (k : Nat) (a0 : Int) : Option (List Int) := e k a0
end ref01_Of

namespace ref01_Shift
def e5 (_k : Nat) (_q5 : Unit → Option ((List Int) × Int)) (_q17 : (List Int) → Int → Int → Option ((List Int) × Int)) (_q29 : (List Int) → (List Int) → Int → Int → Int → Option ((List Int) × Int)) (_q0 : (List Int) → (List Int) → Int → Int → Int → Int → Option ((List Int) × Int)) (_q41 : (List Int) → (List Int) → Int → Int → Int → Int → Int → Option ((List Int) × Int)) (_q33 : (List Int) → (List Int) → Int → Int → Int → Int → Option ((List Int) × Int)) (_ : Unit) : Option ((List Int) × Int) :=
  (some (([] : List Int), (12 : Int)))
def e17 (_k : Nat) (_q5 : Unit → Option ((List Int) × Int)) (_q17 : (List Int) → Int → Int → Option ((List Int) × Int)) (q29 : (List Int) → (List Int) → Int → Int → Int → Option ((List Int) × Int)) (_q0 : (List Int) → (List Int) → Int → Int → Int → Int → Option ((List Int) × Int)) (_q41 : (List Int) → (List Int) → Int → Int → Int → Int → Int → Option ((List Int) × Int)) (_q33 : (List Int) → (List Int) → Int → Int → Int → Int → Option ((List Int) × Int)) (b0 : (List Int)) (b1 : Int) (b2 : Int) : Option ((List Int) × Int) :=
  (bif (decide (0 ≤ b2) && decide (b2 * 4 ≤ 281474976710656) && decide (b2 ≤ 9223372036854775807)) then
    (bif (decide ((Int.tmod b1 (32 : Int)) < (0 : Int))) then
      q29 (List.replicate (Int.toNat b2) (0 : Int)) b0 b2 (IntKind.i64.wrap ((IntKind.i64.wrap (Int.tdiv b1 (32 : Int))) - (1 : Int))) (IntKind.i64.wrap ((Int.tmod b1 (32 : Int)) + (32 : Int)))
    else
      q29 (List.replicate (Int.toNat b2) (0 : Int)) b0 b2 (IntKind.i64.wrap (Int.tdiv b1 (32 : Int))) (Int.tmod b1 (32 : Int)))
  else
    none)
def e29 (_k : Nat) (_q5 : Unit → Option ((List Int) × Int)) (_q17 : (List Int) → Int → Int → Option ((List Int) × Int)) (_q29 : (List Int) → (List Int) → Int → Int → Int → Option ((List Int) × Int)) (q0 : (List Int) → (List Int) → Int → Int → Int → Int → Option ((List Int) × Int)) (_q41 : (List Int) → (List Int) → Int → Int → Int → Int → Int → Option ((List Int) × Int)) (_q33 : (List Int) → (List Int) → Int → Int → Int → Int → Option ((List Int) × Int)) (b0 : (List Int)) (b1 : (List Int)) (b2 : Int) (b3 : Int) (b4 : Int) : Option ((List Int) × Int) :=
  q0 b0 b1 b2 b3 b4 (0 : Int)
def e0 (k : Nat) (_q5 : Unit → Option ((List Int) × Int)) (_q17 : (List Int) → Int → Int → Option ((List Int) × Int)) (_q29 : (List Int) → (List Int) → Int → Int → Int → Option ((List Int) × Int)) (_q0 : (List Int) → (List Int) → Int → Int → Int → Int → Option ((List Int) × Int)) (q41 : (List Int) → (List Int) → Int → Int → Int → Int → Int → Option ((List Int) × Int)) (_q33 : (List Int) → (List Int) → Int → Int → Int → Int → Option ((List Int) × Int)) (b0 : (List Int)) (b1 : (List Int)) (b2 : Int) (b3 : Int) (b4 : Int) (b5 : Int) : Option ((List Int) × Int) :=
  (bif (decide (b5 < (b1.length : Int))) then
    (bif (decide (0 ≤ b5) && decide (b5 < (b1.length : Int))) then
      (bif (decide ((IntKind.u64.wrap b4) < 0)) then
        none
      else
        (bif (decide ((IntKind.i64.wrap (b5 + b3)) ≥ (0 : Int))) then
          (bif (decide ((IntKind.i64.wrap (b5 + b3)) < b2)) then
            (bif (decide (0 ≤ (IntKind.i64.wrap (b5 + b3))) && decide ((IntKind.i64.wrap (b5 + b3)) < (b0.length : Int))) then
              (bif (decide (0 ≤ (IntKind.i64.wrap (b5 + b3))) && decide ((IntKind.i64.wrap (b5 + b3)) < (b0.length : Int))) then
                q41 (setN (bitsI .or .u32 (nthD (0 : Int) b0 (Int.toNat (IntKind.i64.wrap (b5 + b3)))) (IntKind.u32.wrap (IntKind.u64.wrap ((IntKind.u64.wrap (nthD (0 : Int) b1 (Int.toNat b5))) * 2 ^ min (Int.toNat (IntKind.u64.wrap b4)) 64)))) b0 (Int.toNat (IntKind.i64.wrap (b5 + b3)))) b1 b2 b3 b4 b5 (IntKind.u64.wrap ((IntKind.u64.wrap (nthD (0 : Int) b1 (Int.toNat b5))) * 2 ^ min (Int.toNat (IntKind.u64.wrap b4)) 64))
              else
                none)
            else
              none)
          else
            q41 b0 b1 b2 b3 b4 b5 (IntKind.u64.wrap ((IntKind.u64.wrap (nthD (0 : Int) b1 (Int.toNat b5))) * 2 ^ min (Int.toNat (IntKind.u64.wrap b4)) 64)))
        else
          q41 b0 b1 b2 b3 b4 b5 (IntKind.u64.wrap ((IntKind.u64.wrap (nthD (0 : Int) b1 (Int.toNat b5))) * 2 ^ min (Int.toNat (IntKind.u64.wrap b4)) 64))))
    else
      none)
  else
    (Option.bind (ref01_Norm.f k b0) fun r2 =>
      (some (r2, (0 : Int)))))
def e41 (_k : Nat) (_q5 : Unit → Option ((List Int) × Int)) (_q17 : (List Int) → Int → Int → Option ((List Int) × Int)) (_q29 : (List Int) → (List Int) → Int → Int → Int → Option ((List Int) × Int)) (_q0 : (List Int) → (List Int) → Int → Int → Int → Int → Option ((List Int) × Int)) (_q41 : (List Int) → (List Int) → Int → Int → Int → Int → Int → Option ((List Int) × Int)) (q33 : (List Int) → (List Int) → Int → Int → Int → Int → Option ((List Int) × Int)) (b0 : (List Int)) (b1 : (List Int)) (b2 : Int) (b3 : Int) (b4 : Int) (b5 : Int) (b6 : Int) : Option ((List Int) × Int) :=
  (bif (decide ((IntKind.i64.wrap ((IntKind.i64.wrap (b5 + b3)) + (1 : Int))) ≥ (0 : Int))) then
    (bif (decide ((IntKind.i64.wrap ((IntKind.i64.wrap (b5 + b3)) + (1 : Int))) < b2)) then
      (bif (decide (0 ≤ (IntKind.i64.wrap ((IntKind.i64.wrap (b5 + b3)) + (1 : Int)))) && decide ((IntKind.i64.wrap ((IntKind.i64.wrap (b5 + b3)) + (1 : Int))) < (b0.length : Int))) then
        (bif (decide (0 ≤ (IntKind.i64.wrap ((IntKind.i64.wrap (b5 + b3)) + (1 : Int)))) && decide ((IntKind.i64.wrap ((IntKind.i64.wrap (b5 + b3)) + (1 : Int))) < (b0.length : Int))) then
          q33 (setN (bitsI .or .u32 (nthD (0 : Int) b0 (Int.toNat (IntKind.i64.wrap ((IntKind.i64.wrap (b5 + b3)) + (1 : Int))))) (IntKind.u32.wrap (Int.fdiv b6 (2 ^ 32)))) b0 (Int.toNat (IntKind.i64.wrap ((IntKind.i64.wrap (b5 + b3)) + (1 : Int))))) b1 b2 b3 b4 b5
        else
          none)
      else
        none)
    else
      q33 b0 b1 b2 b3 b4 b5)
  else
    q33 b0 b1 b2 b3 b4 b5)
def e33 (_k : Nat) (_q5 : Unit → Option ((List Int) × Int)) (_q17 : (List Int) → Int → Int → Option ((List Int) × Int)) (_q29 : (List Int) → (List Int) → Int → Int → Int → Option ((List Int) × Int)) (q0 : (List Int) → (List Int) → Int → Int → Int → Int → Option ((List Int) × Int)) (_q41 : (List Int) → (List Int) → Int → Int → Int → Int → Int → Option ((List Int) × Int)) (_q33 : (List Int) → (List Int) → Int → Int → Int → Int → Option ((List Int) × Int)) (b0 : (List Int)) (b1 : (List Int)) (b2 : Int) (b3 : Int) (b4 : Int) (b5 : Int) : Option ((List Int) × Int) :=
  q0 b0 b1 b2 b3 b4 (IntKind.i64.wrap (b5 + (1 : Int)))
def e (k : Nat) (q5 : Unit → Option ((List Int) × Int)) (q17 : (List Int) → Int → Int → Option ((List Int) × Int)) (_q29 : (List Int) → (List Int) → Int → Int → Int → Option ((List Int) × Int)) (_q0 : (List Int) → (List Int) → Int → Int → Int → Int → Option ((List Int) × Int)) (_q41 : (List Int) → (List Int) → Int → Int → Int → Int → Int → Option ((List Int) × Int)) (_q33 : (List Int) → (List Int) → Int → Int → Int → Int → Option ((List Int) × Int)) (a0 : (List Int)) (a1 : Int) : Option ((List Int) × Int) :=
  (bif (decide (a1 < (-1048576 : Int))) then
    q5 ()
  else
    (bif (decide (a1 > (1048576 : Int))) then
      q5 ()
    else
      (Option.bind (ref01_Norm.f k a0) fun r1 =>
        (bif (decide ((r1.length : Int) = (0 : Int))) then
          (some (([] : List Int), (0 : Int)))
        else
          (bif (decide (a1 > (0 : Int))) then
            q17 a0 a1 (IntKind.i64.wrap ((a0.length : Int) + (IntKind.i64.wrap ((IntKind.i64.wrap (Int.tdiv a1 (32 : Int))) + (1 : Int)))))
          else
            q17 a0 a1 (a0.length : Int))))))
def pts : Nat → (Unit → Option ((List Int) × Int)) × ((List Int) → Int → Int → Option ((List Int) × Int)) × ((List Int) → (List Int) → Int → Int → Int → Option ((List Int) × Int)) × ((List Int) → (List Int) → Int → Int → Int → Int → Option ((List Int) × Int)) × ((List Int) → (List Int) → Int → Int → Int → Int → Int → Option ((List Int) × Int)) × ((List Int) → (List Int) → Int → Int → Int → Int → Option ((List Int) × Int))
  | 0 => (fun _ => none, fun _ _ _ => none, fun _ _ _ _ _ => none, fun _ _ _ _ _ _ => none, fun _ _ _ _ _ _ _ => none, fun _ _ _ _ _ _ => none)
  | k + 1 => (e5 k (pts k).1 (pts k).2.1 (pts k).2.2.1 (pts k).2.2.2.1 (pts k).2.2.2.2.1 (pts k).2.2.2.2.2, e17 k (pts k).1 (pts k).2.1 (pts k).2.2.1 (pts k).2.2.2.1 (pts k).2.2.2.2.1 (pts k).2.2.2.2.2, e29 k (pts k).1 (pts k).2.1 (pts k).2.2.1 (pts k).2.2.2.1 (pts k).2.2.2.2.1 (pts k).2.2.2.2.2, e0 k (pts k).1 (pts k).2.1 (pts k).2.2.1 (pts k).2.2.2.1 (pts k).2.2.2.2.1 (pts k).2.2.2.2.2, e41 k (pts k).1 (pts k).2.1 (pts k).2.2.1 (pts k).2.2.2.1 (pts k).2.2.2.2.1 (pts k).2.2.2.2.2, e33 k (pts k).1 (pts k).2.1 (pts k).2.2.1 (pts k).2.2.2.1 (pts k).2.2.2.2.1 (pts k).2.2.2.2.2)
def p5 (k : Nat) : Unit → Option ((List Int) × Int) := (pts k).1
def p17 (k : Nat) : (List Int) → Int → Int → Option ((List Int) × Int) := (pts k).2.1
def p29 (k : Nat) : (List Int) → (List Int) → Int → Int → Int → Option ((List Int) × Int) := (pts k).2.2.1
def p0 (k : Nat) : (List Int) → (List Int) → Int → Int → Int → Int → Option ((List Int) × Int) := (pts k).2.2.2.1
def p41 (k : Nat) : (List Int) → (List Int) → Int → Int → Int → Int → Int → Option ((List Int) × Int) := (pts k).2.2.2.2.1
def p33 (k : Nat) : (List Int) → (List Int) → Int → Int → Int → Int → Option ((List Int) × Int) := (pts k).2.2.2.2.2
theorem p5_succ (k : Nat) (x0 : Unit) : p5 (k + 1) x0 = e5 k (p5 k) (p17 k) (p29 k) (p0 k) (p41 k) (p33 k) x0 := rfl
theorem p17_succ (k : Nat) (x0 : (List Int)) (x1 : Int) (x2 : Int) : p17 (k + 1) x0 x1 x2 = e17 k (p5 k) (p17 k) (p29 k) (p0 k) (p41 k) (p33 k) x0 x1 x2 := rfl
theorem p29_succ (k : Nat) (x0 : (List Int)) (x1 : (List Int)) (x2 : Int) (x3 : Int) (x4 : Int) : p29 (k + 1) x0 x1 x2 x3 x4 = e29 k (p5 k) (p17 k) (p29 k) (p0 k) (p41 k) (p33 k) x0 x1 x2 x3 x4 := rfl
theorem p0_succ (k : Nat) (x0 : (List Int)) (x1 : (List Int)) (x2 : Int) (x3 : Int) (x4 : Int) (x5 : Int) : p0 (k + 1) x0 x1 x2 x3 x4 x5 = e0 k (p5 k) (p17 k) (p29 k) (p0 k) (p41 k) (p33 k) x0 x1 x2 x3 x4 x5 := rfl
theorem p41_succ (k : Nat) (x0 : (List Int)) (x1 : (List Int)) (x2 : Int) (x3 : Int) (x4 : Int) (x5 : Int) (x6 : Int) : p41 (k + 1) x0 x1 x2 x3 x4 x5 x6 = e41 k (p5 k) (p17 k) (p29 k) (p0 k) (p41 k) (p33 k) x0 x1 x2 x3 x4 x5 x6 := rfl
theorem p33_succ (k : Nat) (x0 : (List Int)) (x1 : (List Int)) (x2 : Int) (x3 : Int) (x4 : Int) (x5 : Int) : p33 (k + 1) x0 x1 x2 x3 x4 x5 = e33 k (p5 k) (p17 k) (p29 k) (p0 k) (p41 k) (p33 k) x0 x1 x2 x3 x4 x5 := rfl
def f (k : Nat) (a0 : (List Int)) (a1 : Int) : Option ((List Int) × Int) := e k (p5 k) (p17 k) (p29 k) (p0 k) (p41 k) (p33 k) a0 a1
end ref01_Shift

namespace ref01_Cmp
def e9 (_k : Nat) (_q9 : (List Int) → (List Int) → Int → Option Int) (q0 : (List Int) → (List Int) → Int → Option Int) (b0 : (List Int)) (b1 : (List Int)) (b2 : Int) : Option Int :=
  q0 b0 b1 (IntKind.i64.wrap (b2 - (1 : Int)))
def e0 (k : Nat) (_q9 : (List Int) → (List Int) → Int → Option Int) (q0 : (List Int) → (List Int) → Int → Option Int) (b0 : (List Int)) (b1 : (List Int)) (b2 : Int) : Option Int :=
  (bif (decide (b2 ≥ (0 : Int))) then
    (Option.bind (ref01_at.f k b0 b2) fun r1 =>
      (Option.bind (ref01_at.f k b1 b2) fun r2 =>
        (bif (decide (r1 < r2)) then
          (some (-1 : Int))
        else
          (Option.bind (ref01_at.f k b0 b2) fun r3 =>
            (Option.bind (ref01_at.f k b1 b2) fun r4 =>
              (bif (decide (r3 > r4)) then
                (some (1 : Int))
              else
                q0 b0 b1 (IntKind.i64.wrap (b2 - (1 : Int)))))))))
  else
    (some (0 : Int)))
def e (_k : Nat) (q9 : (List Int) → (List Int) → Int → Option Int) (_q0 : (List Int) → (List Int) → Int → Option Int) (a0 : (List Int)) (a1 : (List Int)) : Option Int :=
  (bif (decide ((a1.length : Int) > (a0.length : Int))) then
    q9 a0 a1 (a1.length : Int)
  else
    q9 a0 a1 (a0.length : Int))
def pts : Nat → ((List Int) → (List Int) → Int → Option Int) × ((List Int) → (List Int) → Int → Option Int)
  | 0 => (fun _ _ _ => none, fun _ _ _ => none)
  | k + 1 => (e9 k (pts k).1 (pts k).2, e0 k (pts k).1 (pts k).2)
def p9 (k : Nat) : (List Int) → (List Int) → Int → Option Int := (pts k).1
def p0 (k : Nat) : (List Int) → (List Int) → Int → Option Int := (pts k).2
theorem p9_succ (k : Nat) (x0 : (List Int)) (x1 : (List Int)) (x2 : Int) : p9 (k + 1) x0 x1 x2 = e9 k (p9 k) (p0 k) x0 x1 x2 := rfl
theorem p0_succ (k : Nat) (x0 : (List Int)) (x1 : (List Int)) (x2 : Int) : p0 (k + 1) x0 x1 x2 = e0 k (p9 k) (p0 k) x0 x1 x2 := rfl
def f (k : Nat) (a0 : (List Int)) (a1 : (List Int)) : Option Int := e k (p9 k) (p0 k) a0 a1
end ref01_Cmp

namespace ref04_against
def e13 (k : Nat) (_q13 : (List Int) → (List Int) → Option Int) (b0 : (List Int)) (b1 : (List Int)) : Option Int :=
  (Option.bind (ref01_Cmp.f k b0 b1) fun r4 =>
    (some r4))
def e (k : Nat) (q13 : (List Int) → (List Int) → Option Int) (a0 : ((Bool × (List Int)) × (List Int))) (a1 : (List Int)) (a2 : Int) : Option Int :=
  (Option.bind (ref01_Mul.f k a1 a0.2) fun r1 =>
    (bif (decide (a2 < (0 : Int))) then
      (Option.bind (ref01_Shift.f k a0.1.2 (IntKind.i64.wrap ((0 : Int) - a2))) fun r2 =>
        q13 r2.1 r1)
    else
      (Option.bind (ref01_Shift.f k r1 a2) fun r3 =>
        q13 a0.1.2 r3.1)))
def pts : Nat → ((List Int) → (List Int) → Option Int)
  | 0 => fun _ _ => none
  | k + 1 => e13 k (pts k)
def p13 (k : Nat) : (List Int) → (List Int) → Option Int := (pts k)
theorem p13_succ (k : Nat) (x0 : (List Int)) (x1 : (List Int)) : p13 (k + 1) x0 x1 = e13 k (p13 k) x0 x1 := rfl
def f (k : Nat) (a0 : ((Bool × (List Int)) × (List Int))) (a1 : (List Int)) (a2 : Int) : Option Int := e k (p13 k) a0 a1 a2
end ref04_against

namespace ref01_twice
def e11 (_k : Nat) (_q11 : (List Int) → (List Int) → Int → Option (List Int)) (q0 : (List Int) → (List Int) → Int → Int → Option (List Int)) (b0 : (List Int)) (b1 : (List Int)) (b2 : Int) : Option (List Int) :=
  q0 b0 b1 b2 (0 : Int)
def e0 (k : Nat) (_q11 : (List Int) → (List Int) → Int → Option (List Int)) (q0 : (List Int) → (List Int) → Int → Int → Option (List Int)) (b0 : (List Int)) (b1 : (List Int)) (b2 : Int) (b3 : Int) : Option (List Int) :=
  (bif (decide (b3 < (b1.length : Int))) then
    (bif (decide (0 ≤ b3) && decide (b3 < (b1.length : Int))) then
      (bif (decide (0 ≤ b3) && decide (b3 < (b0.length : Int))) then
        (bif (decide (0 ≤ b3) && decide (b3 < (b1.length : Int))) then
          q0 (setN (bitsI .or .u32 (IntKind.u32.wrap ((nthD (0 : Int) b1 (Int.toNat b3)) * 2 ^ 1)) b2) b0 (Int.toNat b3)) b1 (Int.fdiv (nthD (0 : Int) b1 (Int.toNat b3)) (2 ^ 31)) (IntKind.i64.wrap (b3 + (1 : Int)))
        else
          none)
      else
        none)
    else
      none)
  else
    (bif (decide (0 ≤ (b1.length : Int)) && decide ((b1.length : Int) < (b0.length : Int))) then
      (Option.bind (ref01_Norm.f k (setN b2 b0 (Int.toNat (b1.length : Int)))) fun r1 =>
        (some r1))
    else
      none))
def e (_k : Nat) (q11 : (List Int) → (List Int) → Int → Option (List Int)) (_q0 : (List Int) → (List Int) → Int → Int → Option (List Int)) (a0 : (List Int)) (a1 : Bool) : Option (List Int) :=
  (bif (decide (0 ≤ (IntKind.i64.wrap ((a0.length : Int) + (1 : Int)))) && decide ((IntKind.i64.wrap ((a0.length : Int) + (1 : Int))) * 4 ≤ 281474976710656) && decide ((IntKind.i64.wrap ((a0.length : Int) + (1 : Int))) ≤ 9223372036854775807)) then
    (bif a1 then
      q11 (List.replicate (Int.toNat (IntKind.i64.wrap ((a0.length : Int) + (1 : Int)))) (0 : Int)) a0 (1 : Int)
    else
      q11 (List.replicate (Int.toNat (IntKind.i64.wrap ((a0.length : Int) + (1 : Int)))) (0 : Int)) a0 (0 : Int))
  else
    none)
def pts : Nat → ((List Int) → (List Int) → Int → Option (List Int)) × ((List Int) → (List Int) → Int → Int → Option (List Int))
  | 0 => (fun _ _ _ => none, fun _ _ _ _ => none)
  | k + 1 => (e11 k (pts k).1 (pts k).2, e0 k (pts k).1 (pts k).2)
def p11 (k : Nat) : (List Int) → (List Int) → Int → Option (List Int) := (pts k).1
def p0 (k : Nat) : (List Int) → (List Int) → Int → Int → Option (List Int) := (pts k).2
theorem p11_succ (k : Nat) (x0 : (List Int)) (x1 : (List Int)) (x2 : Int) : p11 (k + 1) x0 x1 x2 = e11 k (p11 k) (p0 k) x0 x1 x2 := rfl
theorem p0_succ (k : Nat) (x0 : (List Int)) (x1 : (List Int)) (x2 : Int) (x3 : Int) : p0 (k + 1) x0 x1 x2 x3 = e0 k (p11 k) (p0 k) x0 x1 x2 x3 := rfl
def f (k : Nat) (a0 : (List Int)) (a1 : Bool) : Option (List Int) := e k (p11 k) (p0 k) a0 a1
end ref01_twice

namespace ref01_Sub
def e0 (k : Nat) (q0 : (List Int) → (List Int) → (List Int) → Int → Int → Option ((List Int) × Int)) (b0 : (List Int)) (b1 : (List Int)) (b2 : (List Int)) (b3 : Int) (b4 : Int) : Option ((List Int) × Int) :=
  (bif (decide (b4 < (b1.length : Int))) then
    (Option.bind (ref01_at.f k b1 b4) fun r2 =>
      (Option.bind (ref01_at.f k b2 b4) fun r3 =>
        (bif (decide (0 ≤ b4) && decide (b4 < (b0.length : Int))) then
          q0 (setN (IntKind.u32.wrap (IntKind.u64.wrap ((IntKind.u64.wrap (r2 - r3)) - b3))) b0 (Int.toNat b4)) b1 b2 (Int.fdiv (IntKind.u64.wrap ((IntKind.u64.wrap (r2 - r3)) - b3)) (2 ^ 63)) (IntKind.i64.wrap (b4 + (1 : Int)))
        else
          none)))
  else
    (Option.bind (ref01_Norm.f k b0) fun r4 =>
      (some (r4, (0 : Int)))))
def e (k : Nat) (q0 : (List Int) → (List Int) → (List Int) → Int → Int → Option ((List Int) × Int)) (a0 : (List Int)) (a1 : (List Int)) : Option ((List Int) × Int) :=
  (Option.bind (ref01_Cmp.f k a0 a1) fun r1 =>
    (bif (decide (r1 < (0 : Int))) then
      (some (([] : List Int), (10 : Int)))
    else
      (bif (decide (0 ≤ (a0.length : Int)) && decide ((a0.length : Int) * 4 ≤ 281474976710656) && decide ((a0.length : Int) ≤ 9223372036854775807)) then
        q0 (List.replicate (Int.toNat (a0.length : Int)) (0 : Int)) a0 a1 (0 : Int) (0 : Int)
      else
        none)))
def pts : Nat → ((List Int) → (List Int) → (List Int) → Int → Int → Option ((List Int) × Int))
  | 0 => fun _ _ _ _ _ => none
  | k + 1 => e0 k (pts k)
def p0 (k : Nat) : (List Int) → (List Int) → (List Int) → Int → Int → Option ((List Int) × Int) := (pts k)
theorem p0_succ (k : Nat) (x0 : (List Int)) (x1 : (List Int)) (x2 : (List Int)) (x3 : Int) (x4 : Int) : p0 (k + 1) x0 x1 x2 x3 x4 = e0 k (p0 k) x0 x1 x2 x3 x4 := rfl
def f (k : Nat) (a0 : (List Int)) (a1 : (List Int)) : Option ((List Int) × Int) := e k (p0 k) a0 a1
end ref01_Sub

namespace ref01_Div
def e19 (k : Nat) (_q19 : (List Int) → (List Int) → (List Int) → Int → Option ((List Int) × (List Int) × Int)) (q0 : (List Int) → (List Int) → (List Int) → (List Int) → Int → Option ((List Int) × (List Int) × Int)) (_q25 : (List Int) → (List Int) → (List Int) → (List Int) → Int → Option ((List Int) × (List Int) × Int)) (b0 : (List Int)) (b1 : (List Int)) (b2 : (List Int)) (b3 : Int) : Option ((List Int) × (List Int) × Int) :=
  (bif (decide (0 ≤ (IntKind.i64.wrap ((b1.length : Int) - b3))) && decide ((IntKind.i64.wrap ((b1.length : Int) - b3)) ≤ (b1.length : Int)) && decide ((b1.length : Int) ≤ (b1.length : Int))) then
    (Option.bind (ref01_Norm.f k ((b1.take (Int.toNat (b1.length : Int))).drop (Int.toNat (IntKind.i64.wrap ((b1.length : Int) - b3))))) fun r3 =>
      q0 b0 b1 b2 r3 (IntKind.i64.wrap ((IntKind.i64.wrap ((32 : Int) * (IntKind.i64.wrap ((b1.length : Int) - b3)))) - (1 : Int))))
  else
    none)
def e0 (k : Nat) (_q19 : (List Int) → (List Int) → (List Int) → Int → Option ((List Int) × (List Int) × Int)) (_q0 : (List Int) → (List Int) → (List Int) → (List Int) → Int → Option ((List Int) × (List Int) × Int)) (q25 : (List Int) → (List Int) → (List Int) → (List Int) → Int → Option ((List Int) × (List Int) × Int)) (b0 : (List Int)) (b1 : (List Int)) (b2 : (List Int)) (b3 : (List Int)) (b4 : Int) : Option ((List Int) × (List Int) × Int) :=
  (bif (decide (b4 ≥ (0 : Int))) then
    (Option.bind (ref01_Bit.f k b1 b4) fun r4 =>
      (Option.bind (ref01_twice.f k b3 r4) fun r5 =>
        (Option.bind (ref01_Cmp.f k r5 b2) fun r6 =>
          (bif (decide (r6 ≥ (0 : Int))) then
            (Option.bind (ref01_Sub.f k r5 b2) fun r7 =>
              (bif (decide (0 ≤ (IntKind.i64.wrap (Int.tdiv b4 (32 : Int)))) && decide ((IntKind.i64.wrap (Int.tdiv b4 (32 : Int))) < (b0.length : Int))) then
                (bif (decide ((IntKind.u64.wrap (Int.tmod b4 (32 : Int))) < 0)) then
                  none
                else
                  (bif (decide (0 ≤ (IntKind.i64.wrap (Int.tdiv b4 (32 : Int)))) && decide ((IntKind.i64.wrap (Int.tdiv b4 (32 : Int))) < (b0.length : Int))) then
                    q25 (setN (bitsI .or .u32 (nthD (0 : Int) b0 (Int.toNat (IntKind.i64.wrap (Int.tdiv b4 (32 : Int))))) (IntKind.u32.wrap ((1 : Int) * 2 ^ min (Int.toNat (IntKind.u64.wrap (Int.tmod b4 (32 : Int)))) 32))) b0 (Int.toNat (IntKind.i64.wrap (Int.tdiv b4 (32 : Int))))) b1 b2 r7.1 b4
                  else
                    none))
              else
                none))
          else
            q25 b0 b1 b2 r5 b4))))
  else
    (Option.bind (ref01_Norm.f k b0) fun r8 =>
      (some (r8, b3, (0 : Int)))))
def e25 (_k : Nat) (_q19 : (List Int) → (List Int) → (List Int) → Int → Option ((List Int) × (List Int) × Int)) (q0 : (List Int) → (List Int) → (List Int) → (List Int) → Int → Option ((List Int) × (List Int) × Int)) (_q25 : (List Int) → (List Int) → (List Int) → (List Int) → Int → Option ((List Int) × (List Int) × Int)) (b0 : (List Int)) (b1 : (List Int)) (b2 : (List Int)) (b3 : (List Int)) (b4 : Int) : Option ((List Int) × (List Int) × Int) :=
  q0 b0 b1 b2 b3 (IntKind.i64.wrap (b4 - (1 : Int)))
def e (k : Nat) (q19 : (List Int) → (List Int) → (List Int) → Int → Option ((List Int) × (List Int) × Int)) (_q0 : (List Int) → (List Int) → (List Int) → (List Int) → Int → Option ((List Int) × (List Int) × Int)) (_q25 : (List Int) → (List Int) → (List Int) → (List Int) → Int → Option ((List Int) × (List Int) × Int)) (a0 : (List Int)) (a1 : (List Int)) : Option ((List Int) × (List Int) × Int) :=
  (Option.bind (ref01_Norm.f k a1) fun r1 =>
    (bif (decide ((r1.length : Int) = (0 : Int))) then
      (some (([] : List Int), ([] : List Int), (11 : Int)))
    else
      (Option.bind (ref01_Norm.f k a0) fun r2 =>
        (bif (decide (0 ≤ (r2.length : Int)) && decide ((r2.length : Int) * 4 ≤ 281474976710656) && decide ((r2.length : Int) ≤ 9223372036854775807)) then
          (bif (decide ((IntKind.i64.wrap ((r1.length : Int) - (1 : Int))) > (r2.length : Int))) then
            q19 (List.replicate (Int.toNat (r2.length : Int)) (0 : Int)) r2 r1 (r2.length : Int)
          else
            q19 (List.replicate (Int.toNat (r2.length : Int)) (0 : Int)) r2 r1 (IntKind.i64.wrap ((r1.length : Int) - (1 : Int))))
        else
          none))))
def pts : Nat → ((List Int) → (List Int) → (List Int) → Int → Option ((List Int) × (List Int) × Int)) × ((List Int) → (List Int) → (List Int) → (List Int) → Int → Option ((List Int) × (List Int) × Int)) × ((List Int) → (List Int) → (List Int) → (List Int) → Int → Option ((List Int) × (List Int) × Int))
  | 0 => (fun _ _ _ _ => none, fun _ _ _ _ _ => none, fun _ _ _ _ _ => none)
  | k + 1 => (e19 k (pts k).1 (pts k).2.1 (pts k).2.2, e0 k (pts k).1 (pts k).2.1 (pts k).2.2, e25 k (pts k).1 (pts k).2.1 (pts k).2.2)
def p19 (k : Nat) : (List Int) → (List Int) → (List Int) → Int → Option ((List Int) × (List Int) × Int) := (pts k).1
def p0 (k : Nat) : (List Int) → (List Int) → (List Int) → (List Int) → Int → Option ((List Int) × (List Int) × Int) := (pts k).2.1
def p25 (k : Nat) : (List Int) → (List Int) → (List Int) → (List Int) → Int → Option ((List Int) × (List Int) × Int) := (pts k).2.2
theorem p19_succ (k : Nat) (x0 : (List Int)) (x1 : (List Int)) (x2 : (List Int)) (x3 : Int) : p19 (k + 1) x0 x1 x2 x3 = e19 k (p19 k) (p0 k) (p25 k) x0 x1 x2 x3 := rfl
theorem p0_succ (k : Nat) (x0 : (List Int)) (x1 : (List Int)) (x2 : (List Int)) (x3 : (List Int)) (x4 : Int) : p0 (k + 1) x0 x1 x2 x3 x4 = e0 k (p19 k) (p0 k) (p25 k) x0 x1 x2 x3 x4 := rfl
theorem p25_succ (k : Nat) (x0 : (List Int)) (x1 : (List Int)) (x2 : (List Int)) (x3 : (List Int)) (x4 : Int) : p25 (k + 1) x0 x1 x2 x3 x4 = e25 k (p19 k) (p0 k) (p25 k) x0 x1 x2 x3 x4 := rfl
def f (k : Nat) (a0 : (List Int)) (a1 : (List Int)) : Option ((List Int) × (List Int) × Int) := e k (p19 k) (p0 k) (p25 k) a0 a1
end ref01_Div

namespace ref04_quotient
def e13 (k : Nat) (_q13 : (List Int) → (List Int) → Option ((List Int) × Bool)) (b0 : (List Int)) (b1 : (List Int)) : Option ((List Int) × Bool) :=
  (Option.bind (ref01_Div.f k b0 b1) fun r3 =>
    (Option.bind (ref01_Bits.f k r3.2.1) fun r4 =>
      (some (r3.1, (decide (r4 = (0 : Int)))))))
def e (k : Nat) (q13 : (List Int) → (List Int) → Option ((List Int) × Bool)) (a0 : ((Bool × (List Int)) × (List Int))) (a1 : Int) : Option ((List Int) × Bool) :=
  (bif (decide (a1 < (0 : Int))) then
    (Option.bind (ref01_Shift.f k a0.1.2 (IntKind.i64.wrap ((0 : Int) - a1))) fun r1 =>
      q13 r1.1 a0.2)
  else
    (Option.bind (ref01_Shift.f k a0.2 a1) fun r2 =>
      q13 a0.1.2 r2.1))
def pts : Nat → ((List Int) → (List Int) → Option ((List Int) × Bool))
  | 0 => fun _ _ => none
  | k + 1 => e13 k (pts k)
def p13 (k : Nat) : (List Int) → (List Int) → Option ((List Int) × Bool) := (pts k)
theorem p13_succ (k : Nat) (x0 : (List Int)) (x1 : (List Int)) : p13 (k + 1) x0 x1 = e13 k (p13 k) x0 x1 := rfl
def f (k : Nat) (a0 : ((Bool × (List Int)) × (List Int))) (a1 : Int) : Option ((List Int) × Bool) := e k (p13 k) a0 a1
end ref04_quotient

namespace ref04_below
def e5 (_k : Nat) (_q5 : Unit → Option (Int × Bool)) (_q23 : ((Bool × (List Int)) × (List Int)) → Int → Option (Int × Bool)) (_q0 : ((Bool × (List Int)) × (List Int)) → Int → (List Int) → Bool → Option (Int × Bool)) (_ : Unit) : Option (Int × Bool) :=
  (some ((0 : Int), true))
def e23 (k : Nat) (_q5 : Unit → Option (Int × Bool)) (_q23 : ((Bool × (List Int)) × (List Int)) → Int → Option (Int × Bool)) (q0 : ((Bool × (List Int)) × (List Int)) → Int → (List Int) → Bool → Option (Int × Bool)) (b0 : ((Bool × (List Int)) × (List Int))) (b1 : Int) : Option (Int × Bool) :=
  (Option.bind (ref04_quotient.f k b0 b1) fun r5 =>
    q0 b0 b1 r5.1 r5.2)
def e0 (k : Nat) (_q5 : Unit → Option (Int × Bool)) (_q23 : ((Bool × (List Int)) × (List Int)) → Int → Option (Int × Bool)) (q0 : ((Bool × (List Int)) × (List Int)) → Int → (List Int) → Bool → Option (Int × Bool)) (b0 : ((Bool × (List Int)) × (List Int))) (b1 : Int) (b2 : (List Int)) (b3 : Bool) : Option (Int × Bool) :=
  (Option.bind (ref01_Bits.f k b2) fun r6 =>
    (bif (decide (r6 > (53 : Int))) then
      (Option.bind (ref04_quotient.f k b0 (IntKind.i64.wrap (b1 + (1 : Int)))) fun r7 =>
        q0 b0 (IntKind.i64.wrap (b1 + (1 : Int))) r7.1 r7.2)
    else
      (bif (decide (b1 > (971 : Int))) then
        (some ((9218868437227405311 : Int), false))
      else
        (Option.bind (ref01_Small.f k b2) fun r8 =>
          (bif (decide (r8.1 < (4503599627370496 : Int))) then
            (some (r8.1, b3))
          else
            (some ((IntKind.u64.wrap ((IntKind.u64.wrap ((IntKind.u64.wrap ((IntKind.u64.wrap (IntKind.i64.wrap (b1 + (1075 : Int)))) * 2 ^ 52)) + r8.1)) - (4503599627370496 : Int))), b3)))))))
def e (k : Nat) (q5 : Unit → Option (Int × Bool)) (q23 : ((Bool × (List Int)) × (List Int)) → Int → Option (Int × Bool)) (_q0 : ((Bool × (List Int)) × (List Int)) → Int → (List Int) → Bool → Option (Int × Bool)) (a0 : ((Bool × (List Int)) × (List Int))) : Option (Int × Bool) :=
  (Option.bind (ref01_Bits.f k a0.1.2) fun r1 =>
    (bif (decide (r1 = (0 : Int))) then
      q5 ()
    else
      (Option.bind (ref01_Bits.f k a0.2) fun r2 =>
        (bif (decide (r2 = (0 : Int))) then
          q5 ()
        else
          (Option.bind (ref01_Bits.f k a0.1.2) fun r3 =>
            (Option.bind (ref01_Bits.f k a0.2) fun r4 =>
              (bif (decide ((IntKind.i64.wrap (r3 - r4)) > (1030 : Int))) then
                (some ((9218868437227405311 : Int), false))
              else
                (bif (decide ((IntKind.i64.wrap (r3 - r4)) < (-1100 : Int))) then
                  (some ((0 : Int), false))
                else
                  (bif (decide ((IntKind.i64.wrap ((IntKind.i64.wrap (r3 - r4)) - (54 : Int))) < (-1074 : Int))) then
                    q23 a0 (-1074 : Int)
                  else
                    q23 a0 (IntKind.i64.wrap ((IntKind.i64.wrap (r3 - r4)) - (54 : Int))))))))))))
def pts : Nat → (Unit → Option (Int × Bool)) × (((Bool × (List Int)) × (List Int)) → Int → Option (Int × Bool)) × (((Bool × (List Int)) × (List Int)) → Int → (List Int) → Bool → Option (Int × Bool))
  | 0 => (fun _ => none, fun _ _ => none, fun _ _ _ _ => none)
  | k + 1 => (e5 k (pts k).1 (pts k).2.1 (pts k).2.2, e23 k (pts k).1 (pts k).2.1 (pts k).2.2, e0 k (pts k).1 (pts k).2.1 (pts k).2.2)
def p5 (k : Nat) : Unit → Option (Int × Bool) := (pts k).1
def p23 (k : Nat) : ((Bool × (List Int)) × (List Int)) → Int → Option (Int × Bool) := (pts k).2.1
def p0 (k : Nat) : ((Bool × (List Int)) × (List Int)) → Int → (List Int) → Bool → Option (Int × Bool) := (pts k).2.2
theorem p5_succ (k : Nat) (x0 : Unit) : p5 (k + 1) x0 = e5 k (p5 k) (p23 k) (p0 k) x0 := rfl
theorem p23_succ (k : Nat) (x0 : ((Bool × (List Int)) × (List Int))) (x1 : Int) : p23 (k + 1) x0 x1 = e23 k (p5 k) (p23 k) (p0 k) x0 x1 := rfl
theorem p0_succ (k : Nat) (x0 : ((Bool × (List Int)) × (List Int))) (x1 : Int) (x2 : (List Int)) (x3 : Bool) : p0 (k + 1) x0 x1 x2 x3 = e0 k (p5 k) (p23 k) (p0 k) x0 x1 x2 x3 := rfl
def f (k : Nat) (a0 : ((Bool × (List Int)) × (List Int))) : Option (Int × Bool) := e k (p5 k) (p23 k) (p0 k) a0
end ref04_below

namespace ref04_parts
def e (_k : Nat) (a0 : Int) : Option (Int × Int) :=
  (bif (decide ((IntKind.i64.wrap (Int.fdiv a0 (2 ^ 52))) = (0 : Int))) then
    (some ((bitsI .and .u64 a0 (4503599627370495 : Int)), (-1074 : Int)))
  else
    (some ((IntKind.u64.wrap ((bitsI .and .u64 a0 (4503599627370495 : Int)) + (4503599627370496 : Int))), (IntKind.i64.wrap ((IntKind.i64.wrap (Int.fdiv a0 (2 ^ 52))) - (1075 : Int))))))
def f (k : Nat) (a0 : Int) : Option (Int × Int) := e k a0
end ref04_parts

namespace ref04_NearestBits
def e17 (_k : Nat) (_q17 : Int → Int → Option Int) (_q27 : Int → Int → Option Int) (_q29 : Int → Int → Option Int) (b0 : Int) (b1 : Int) : Option Int :=
  (some (bitsI .or .u64 b0 b1))
def e27 (_k : Nat) (_q17 : Int → Int → Option Int) (_q27 : Int → Int → Option Int) (q29 : Int → Int → Option Int) (b0 : Int) (b1 : Int) : Option Int :=
  q29 b0 (IntKind.u64.wrap (b1 + (1 : Int)))
def e29 (_k : Nat) (_q17 : Int → Int → Option Int) (_q27 : Int → Int → Option Int) (_q29 : Int → Int → Option Int) (b0 : Int) (b1 : Int) : Option Int :=
  (some (bitsI .or .u64 b0 b1))
def e (k : Nat) (q17 : Int → Int → Option Int) (q27 : Int → Int → Option Int) (q29 : Int → Int → Option Int) (a0 : ((Bool × (List Int)) × (List Int))) : Option Int :=
  (Option.bind (ref04_amount.f k a0) fun r1 =>
    (Option.bind (ref01_Bits.f k r1.1.2) fun r2 =>
      (bif (decide (r2 = (0 : Int))) then
        (some (0 : Int))
      else
        (Option.bind (ref01_Of.f k (18014398509481983 : Int)) fun r3 =>
          (Option.bind (ref04_against.f k r1.1 r3 (970 : Int)) fun r4 =>
            (bif (decide (r4 ≥ (0 : Int))) then
              (some (bitsI .or .u64 r1.2 (9218868437227405312 : Int)))
            else
              (Option.bind (ref04_below.f k r1.1) fun r5 =>
                (bif r5.2 then
                  q17 r1.2 r5.1
                else
                  (bif (decide (r5.1 = (9218868437227405311 : Int))) then
                    q17 r1.2 r5.1
                  else
                    (Option.bind (ref04_parts.f k r5.1) fun r6 =>
                      (Option.bind (ref04_parts.f k (IntKind.u64.wrap (r5.1 + (1 : Int)))) fun r7 =>
                        (bif (decide ((IntKind.u64.wrap (IntKind.i64.wrap (r7.2 - r6.2))) < 0)) then
                          none
                        else
                          (Option.bind (ref01_Of.f k (IntKind.u64.wrap (r6.1 + (IntKind.u64.wrap (r7.1 * 2 ^ min (Int.toNat (IntKind.u64.wrap (IntKind.i64.wrap (r7.2 - r6.2)))) 64))))) fun r8 =>
                            (Option.bind (ref04_against.f k r1.1 r8 (IntKind.i64.wrap (r6.2 - (1 : Int)))) fun r9 =>
                              (bif (decide (r9 > (0 : Int))) then
                                q27 r1.2 r5.1
                              else
                                (bif (decide (r9 = (0 : Int))) then
                                  (bif (decide ((Int.tmod r5.1 (2 : Int)) = (1 : Int))) then
                                    q27 r1.2 r5.1
                                  else
                                    q29 r1.2 r5.1)
                                else
                                  q29 r1.2 r5.1))))))))))))))))
def pts : Nat → (Int → Int → Option Int) × (Int → Int → Option Int) × (Int → Int → Option Int)
  | 0 => (fun _ _ => none, fun _ _ => none, fun _ _ => none)
  | k + 1 => (e17 k (pts k).1 (pts k).2.1 (pts k).2.2, e27 k (pts k).1 (pts k).2.1 (pts k).2.2, e29 k (pts k).1 (pts k).2.1 (pts k).2.2)
def p17 (k : Nat) : Int → Int → Option Int := (pts k).1
def p27 (k : Nat) : Int → Int → Option Int := (pts k).2.1
def p29 (k : Nat) : Int → Int → Option Int := (pts k).2.2
theorem p17_succ (k : Nat) (x0 : Int) (x1 : Int) : p17 (k + 1) x0 x1 = e17 k (p17 k) (p27 k) (p29 k) x0 x1 := rfl
theorem p27_succ (k : Nat) (x0 : Int) (x1 : Int) : p27 (k + 1) x0 x1 = e27 k (p17 k) (p27 k) (p29 k) x0 x1 := rfl
theorem p29_succ (k : Nat) (x0 : Int) (x1 : Int) : p29 (k + 1) x0 x1 = e29 k (p17 k) (p27 k) (p29 k) x0 x1 := rfl
def f (k : Nat) (a0 : ((Bool × (List Int)) × (List Int))) : Option Int := e k (p17 k) (p27 k) (p29 k) a0
end ref04_NearestBits

namespace ref04_Read
def e19 (k : Nat) (_q19 : Int → Option (Nat × Int)) (b0 : Int) : Option (Nat × Int) :=
  (Option.bind (math_Float64frombits.f k b0) fun r3 =>
    (some (r3, (0 : Int))))
def e (k : Nat) (q19 : Int → Option (Nat × Int)) (a0 : ByteArray) : Option (Nat × Int) :=
  (bif (decide ((a0.size : Int) > (1000 : Int))) then
    (some ((0 : Nat), (3 : Int)))
  else
    (Option.bind (ref04_decimal.f k a0) fun r1 =>
      (bif (!r1.2.2) then
        (some ((0 : Nat), (42 : Int)))
      else
        (Option.bind (ref04_NearestBits.f k r1.1) fun r2 =>
          (bif r1.2.1 then
            q19 (bitsI .or .u64 r2 (9223372036854775808 : Int))
          else
            q19 r2)))))
def pts : Nat → (Int → Option (Nat × Int))
  | 0 => fun _ => none
  | k + 1 => e19 k (pts k)
def p19 (k : Nat) : Int → Option (Nat × Int) := (pts k)
theorem p19_succ (k : Nat) (x0 : Int) : p19 (k + 1) x0 = e19 k (p19 k) x0 := rfl
def f (k : Nat) (a0 : ByteArray) : Option (Nat × Int) := e k (p19 k) a0
end ref04_Read

namespace law04_same
def e (k : Nat) (a0 : Nat) (a1 : Nat) : Option Bool :=
  (Option.bind (math_Float64bits.f k a0) fun r1 =>
    (Option.bind (math_Float64bits.f k a1) fun r2 =>
      (some (decide (r1 = r2)))))
def f (k : Nat) (a0 : Nat) (a1 : Nat) : Option Bool := e k a0 a1
end law04_same

namespace law04_ApproxReads
def e (k : Nat) (a0 : ByteArray) : Option Bool :=
  (Option.bind (approx_Read.f k a0) fun r1 =>
    (Option.bind (ref04_Read.f k a0) fun r2 =>
      (bif (decide (r1.2 = r2.2)) then
        (Option.bind (law04_same.f k r1.1 r2.1) fun r3 =>
          (some r3))
      else
        (some false))))
def f (k : Nat) (a0 : ByteArray) : Option Bool := e k a0
end law04_ApproxReads
end Go.FK
