/- Plain functions, printed by fgen.py: what the loaded functions come to. -/
import Derived.Test.YtlcdndoddcklfaaF2
import Derived.Test.YtlcdndoddcklfaaSym
namespace Go.FK
/-- ??????????????.?/ -/
def str_f2394d253c : ByteArray := (ByteArray.mk #[126, 33, 64, 36, 37, 94, 38, 42, 95, 45, 43, 61, 60, 62, 46, 63, 47])
/-- BINARY -/
def str_4c77b56b7c : ByteArray := (ByteArray.mk #[66, 73, 78, 65, 82, 89])
/-- DECIMAL -/
def str_d252bb1fdb : ByteArray := (ByteArray.mk #[68, 69, 67, 73, 77, 65, 76])
/-- exists -/
def str_ad5aabc97d : ByteArray := (ByteArray.mk #[101, 120, 105, 115, 116, 115])
/-- forall -/
def str_efc9e45486 : ByteArray := (ByteArray.mk #[102, 111, 114, 97, 108, 108])
/-- HEXADECIMAL -/
def str_04a99b7228 : ByteArray := (ByteArray.mk #[72, 69, 88, 65, 68, 69, 67, 73, 77, 65, 76])
/-- match -/
def str_4945a70fa7 : ByteArray := (ByteArray.mk #[109, 97, 116, 99, 104])
/-- NUMERAL -/
def str_1615e11da1 : ByteArray := (ByteArray.mk #[78, 85, 77, 69, 82, 65, 76])
/-- STRING -/
def str_e5089e403c : ByteArray := (ByteArray.mk #[83, 84, 82, 73, 78, 71])
namespace tokens_digit
def e (_k : Nat) (a0 : Int) : Option Bool :=
  (bif (decide (a0 ≥ (48 : Int))) then
    (some (decide (a0 ≤ (57 : Int))))
  else
    (some false))
def f (k : Nat) (a0 : Int) : Option Bool := e k a0
end tokens_digit

namespace tokens_letter
def e (_k : Nat) (a0 : Int) : Option Bool :=
  (bif (decide ((bitsI .or .u8 a0 (32 : Int)) ≥ (97 : Int))) then
    (some (decide ((bitsI .or .u8 a0 (32 : Int)) ≤ (122 : Int))))
  else
    (some false))
def f (k : Nat) (a0 : Int) : Option Bool := e k a0
end tokens_letter

namespace bytealg_IndexByteString
def f (_k : Nat) (a0 : ByteArray) (a1 : Int) : Option Int := some (Go.Lib.indexByte a0.data.toList a1.toNat.toUInt8)
end bytealg_IndexByteString

namespace stringslite_IndexByte
def e (k : Nat) (a0 : ByteArray) (a1 : Int) : Option Int :=
  (Option.bind (bytealg_IndexByteString.f k a0 a1) fun r1 =>
    (some r1))
def f (k : Nat) (a0 : ByteArray) (a1 : Int) : Option Int := e k a0 a1
end stringslite_IndexByte

namespace strings_IndexByte
def e (k : Nat) (a0 : ByteArray) (a1 : Int) : Option Int :=
  (Option.bind (stringslite_IndexByte.f k a0 a1) fun r1 =>
    (some r1))
def f (k : Nat) (a0 : ByteArray) (a1 : Int) : Option Int := e k a0 a1
end strings_IndexByte

namespace tokens_sign
def e (k : Nat) (a0 : Int) : Option Bool :=
  (Option.bind (tokens_letter.f k a0) fun r1 =>
    (bif r1 then
      (some true)
    else
      (Option.bind (tokens_digit.f k a0) fun r2 =>
        (bif r2 then
          (some true)
        else
          (Option.bind (strings_IndexByte.f k str_f2394d253c a0) fun r3 =>
            (some (decide (r3 ≥ (0 : Int)))))))))
def f (k : Nat) (a0 : Int) : Option Bool := e k a0
end tokens_sign

namespace tokens_Plain
def e5 (_k : Nat) (_q5 : Unit → Option Bool) (_q0 : ByteArray → Int → Int → Option Bool) (_ : Unit) : Option Bool :=
  (some false)
def e0 (k : Nat) (_q5 : Unit → Option Bool) (q0 : ByteArray → Int → Int → Option Bool) (b0 : ByteArray) (b1 : Int) (b2 : Int) : Option Bool :=
  (bif (decide (b2 < b1)) then
    (bif (decide (0 ≤ b2) && decide (b2 < (b0.size : Int))) then
      (Option.bind (tokens_sign.f k (btI b0 b2)) fun r2 =>
        (bif (!r2) then
          (some false)
        else
          q0 b0 b1 (IntKind.i64.wrap (b2 + (1 : Int)))))
    else
      none)
  else
    (some true))
def e (k : Nat) (q5 : Unit → Option Bool) (q0 : ByteArray → Int → Int → Option Bool) (a0 : ByteArray) : Option Bool :=
  (bif (a0.toList == (ByteArray.mk #[]).toList) then
    q5 ()
  else
    (bif (decide ((0 : Int) < (a0.size : Int))) then
      (Option.bind (tokens_digit.f k (btI a0 (0 : Int))) fun r1 =>
        (bif r1 then
          q5 ()
        else
          q0 a0 (a0.size : Int) (0 : Int)))
    else
      none))
def pts : Nat → (Unit → Option Bool) × (ByteArray → Int → Int → Option Bool)
  | 0 => (fun _ => none, fun _ _ _ => none)
  | k + 1 => (e5 k (pts k).1 (pts k).2, e0 k (pts k).1 (pts k).2)
def p5 (k : Nat) : Unit → Option Bool := (pts k).1
def p0 (k : Nat) : ByteArray → Int → Int → Option Bool := (pts k).2
theorem p5_succ (k : Nat) (x0 : Unit) : p5 (k + 1) x0 = e5 k (p5 k) (p0 k) x0 := rfl
theorem p0_succ (k : Nat) (x0 : ByteArray) (x1 : Int) (x2 : Int) : p0 (k + 1) x0 x1 x2 = e0 k (p5 k) (p0 k) x0 x1 x2 := rfl
def f (k : Nat) (a0 : ByteArray) : Option Bool := e k (p5 k) (p0 k) a0
end tokens_Plain

namespace tokens_quotable
def e (_k : Nat) (a0 : Int) : Option Bool :=
  (bif (decide (a0 ≥ (128 : Int))) then
    (some true)
  else
    (bif (decide (a0 ≥ (32 : Int))) then
      (bif (decide (a0 < (127 : Int))) then
        (some true)
      else
        (bif (decide (a0 = (9 : Int))) then
          (some true)
        else
          (bif (decide (a0 = (10 : Int))) then
            (some true)
          else
            (some (decide (a0 = (13 : Int)))))))
    else
      (bif (decide (a0 = (9 : Int))) then
        (some true)
      else
        (bif (decide (a0 = (10 : Int))) then
          (some true)
        else
          (some (decide (a0 = (13 : Int))))))))
def f (k : Nat) (a0 : Int) : Option Bool := e k a0
end tokens_quotable

namespace tokens_Symbol
def f (k : Nat) (a0 : ByteArray) : Option (ByteArray × Int) := symF (tokens_Plain.f k a0) a0
end tokens_Symbol

namespace ref12_letter
def e (_k : Nat) (a0 : Int) : Option Bool :=
  (bif (decide (a0 ≥ (97 : Int))) then
    (bif (decide (a0 ≤ (122 : Int))) then
      (some true)
    else
      (bif (decide (a0 ≥ (65 : Int))) then
        (some (decide (a0 ≤ (90 : Int))))
      else
        (some false)))
  else
    (bif (decide (a0 ≥ (65 : Int))) then
      (some (decide (a0 ≤ (90 : Int))))
    else
      (some false)))
def f (k : Nat) (a0 : Int) : Option Bool := e k a0
end ref12_letter

namespace ref12_digit
def e (_k : Nat) (a0 : Int) : Option Bool :=
  (bif (decide (a0 ≥ (48 : Int))) then
    (some (decide (a0 ≤ (57 : Int))))
  else
    (some false))
def f (k : Nat) (a0 : Int) : Option Bool := e k a0
end ref12_digit

namespace ref12_within
def e0 (_k : Nat) (q0 : Int → ByteArray → Int → Option Bool) (b0 : Int) (b1 : ByteArray) (b2 : Int) : Option Bool :=
  (bif (decide (b2 < (b1.size : Int))) then
    (bif (decide (0 ≤ b2) && decide (b2 < (b1.size : Int))) then
      (bif (decide ((btI b1 b2) = b0)) then
        (some true)
      else
        q0 b0 b1 (IntKind.i64.wrap (b2 + (1 : Int))))
    else
      none)
  else
    (some false))
def e (_k : Nat) (q0 : Int → ByteArray → Int → Option Bool) (a0 : Int) (a1 : ByteArray) : Option Bool :=
  q0 a0 a1 (0 : Int)
def pts : Nat → (Int → ByteArray → Int → Option Bool)
  | 0 => fun _ _ _ => none
  | k + 1 => e0 k (pts k)
def p0 (k : Nat) : Int → ByteArray → Int → Option Bool := (pts k)
theorem p0_succ (k : Nat) (x0 : Int) (x1 : ByteArray) (x2 : Int) : p0 (k + 1) x0 x1 x2 = e0 k (p0 k) x0 x1 x2 := rfl
def f (k : Nat) (a0 : Int) (a1 : ByteArray) : Option Bool := e k (p0 k) a0 a1
end ref12_within

namespace ref12_symbolByte
def e (k : Nat) (a0 : Int) : Option Bool :=
  (Option.bind (ref12_letter.f k a0) fun r1 =>
    (bif r1 then
      (some true)
    else
      (Option.bind (ref12_digit.f k a0) fun r2 =>
        (bif r2 then
          (some true)
        else
          (Option.bind (ref12_within.f k a0 str_f2394d253c) fun r3 =>
            (some r3))))))
def f (k : Nat) (a0 : Int) : Option Bool := e k a0
end ref12_symbolByte

namespace ref12_Plain
def e0 (k : Nat) (q0 : ByteArray → Int → Option Bool) (b0 : ByteArray) (b1 : Int) : Option Bool :=
  (bif (decide (b1 < (b0.size : Int))) then
    (bif (decide (0 ≤ b1) && decide (b1 < (b0.size : Int))) then
      (Option.bind (ref12_symbolByte.f k (btI b0 b1)) fun r1 =>
        (bif (!r1) then
          (some false)
        else
          q0 b0 (IntKind.i64.wrap (b1 + (1 : Int)))))
    else
      none)
  else
    (bif (decide ((b0.size : Int) > (0 : Int))) then
      (bif (decide ((0 : Int) < (b0.size : Int))) then
        (Option.bind (ref12_digit.f k (btI b0 (0 : Int))) fun r2 =>
          (some (!r2)))
      else
        none)
    else
      (some false)))
def e (_k : Nat) (q0 : ByteArray → Int → Option Bool) (a0 : ByteArray) : Option Bool :=
  q0 a0 (0 : Int)
def pts : Nat → (ByteArray → Int → Option Bool)
  | 0 => fun _ _ => none
  | k + 1 => e0 k (pts k)
def p0 (k : Nat) : ByteArray → Int → Option Bool := (pts k)
theorem p0_succ (k : Nat) (x0 : ByteArray) (x1 : Int) : p0 (k + 1) x0 x1 = e0 k (p0 k) x0 x1 := rfl
def f (k : Nat) (a0 : ByteArray) : Option Bool := e k (p0 k) a0
end ref12_Plain

namespace ref12_blank
def e (_k : Nat) (a0 : Int) : Option Bool :=
  (bif (decide (a0 = (9 : Int))) then
    (some true)
  else
    (bif (decide (a0 = (10 : Int))) then
      (some true)
    else
      (bif (decide (a0 = (13 : Int))) then
        (some true)
      else
        (some (decide (a0 = (32 : Int)))))))
def f (k : Nat) (a0 : Int) : Option Bool := e k a0
end ref12_blank

namespace ref12_quotable
def e (k : Nat) (a0 : Int) : Option Bool :=
  (Option.bind (ref12_blank.f k a0) fun r1 =>
    (bif r1 then
      (some true)
    else
      (bif (decide (a0 > (32 : Int))) then
        (bif (decide (a0 < (127 : Int))) then
          (some true)
        else
          (some (decide (a0 ≥ (128 : Int)))))
      else
        (some (decide (a0 ≥ (128 : Int)))))))
def f (k : Nat) (a0 : Int) : Option Bool := e k a0
end ref12_quotable

namespace ref12_Symbol
def e0 (k : Nat) (q0 : ByteArray → Int → Option (ByteArray × Int)) (q17 : Unit → Option (ByteArray × Int)) (b0 : ByteArray) (b1 : Int) : Option (ByteArray × Int) :=
  (bif (decide (b1 < (b0.size : Int))) then
    (bif (decide (0 ≤ b1) && decide (b1 < (b0.size : Int))) then
      (Option.bind (ref12_quotable.f k (btI b0 b1)) fun r2 =>
        (bif (!r2) then
          q17 ()
        else
          (bif (decide ((btI b0 b1) = (124 : Int))) then
            q17 ()
          else
            (bif (decide ((btI b0 b1) = (92 : Int))) then
              q17 ()
            else
              q0 b0 (IntKind.i64.wrap (b1 + (1 : Int)))))))
    else
      none)
  else
    (bif (decide ((((ByteArray.mk #[124]).size + b0.size : Nat) : Int) > IntKind.i64.max)) then
      none
    else
      (bif (decide (((((ByteArray.mk #[124]) ++ b0).size + (ByteArray.mk #[124]).size : Nat) : Int) > IntKind.i64.max)) then
        none
      else
        (some ((((ByteArray.mk #[124]) ++ b0) ++ (ByteArray.mk #[124])), (0 : Int))))))
def e17 (_k : Nat) (_q0 : ByteArray → Int → Option (ByteArray × Int)) (_q17 : Unit → Option (ByteArray × Int)) (_ : Unit) : Option (ByteArray × Int) :=
  (some ((ByteArray.mk #[]), (122 : Int)))
def e (k : Nat) (q0 : ByteArray → Int → Option (ByteArray × Int)) (_q17 : Unit → Option (ByteArray × Int)) (a0 : ByteArray) : Option (ByteArray × Int) :=
  (Option.bind (ref12_Plain.f k a0) fun r1 =>
    (bif r1 then
      (some (a0, (0 : Int)))
    else
      q0 a0 (0 : Int)))
def pts : Nat → (ByteArray → Int → Option (ByteArray × Int)) × (Unit → Option (ByteArray × Int))
  | 0 => (fun _ _ => none, fun _ => none)
  | k + 1 => (e0 k (pts k).1 (pts k).2, e17 k (pts k).1 (pts k).2)
def p0 (k : Nat) : ByteArray → Int → Option (ByteArray × Int) := (pts k).1
def p17 (k : Nat) : Unit → Option (ByteArray × Int) := (pts k).2
theorem p0_succ (k : Nat) (x0 : ByteArray) (x1 : Int) : p0 (k + 1) x0 x1 = e0 k (p0 k) (p17 k) x0 x1 := rfl
theorem p17_succ (k : Nat) (x0 : Unit) : p17 (k + 1) x0 = e17 k (p0 k) (p17 k) x0 := rfl
def f (k : Nat) (a0 : ByteArray) : Option (ByteArray × Int) := e k (p0 k) (p17 k) a0
end ref12_Symbol

namespace tokens_Reserved
def e31 (_k : Nat) (_q31 : Unit → Option Bool) (_q33 : Unit → Option Bool) (_ : Unit) : Option Bool :=
  (some true)
def e33 (_k : Nat) (_q31 : Unit → Option Bool) (_q33 : Unit → Option Bool) (_ : Unit) : Option Bool :=
  (some false)
def e (_k : Nat) (q31 : Unit → Option Bool) (q33 : Unit → Option Bool) (a0 : ByteArray) : Option Bool :=
  (bif (a0.toList == (ByteArray.mk #[33]).toList) then
    (bif (a0.toList == (ByteArray.mk #[33]).toList) then
      q31 ()
    else
      q33 ())
  else
    (bif (a0.toList == (ByteArray.mk #[95]).toList) then
      (bif (a0.toList == (ByteArray.mk #[95]).toList) then
        q31 ()
      else
        q33 ())
    else
      (bif (a0.toList == (ByteArray.mk #[97, 115]).toList) then
        (bif (a0.toList == (ByteArray.mk #[97, 115]).toList) then
          q31 ()
        else
          q33 ())
      else
        (bif (a0.toList == str_4c77b56b7c.toList) then
          (bif (a0.toList == str_4c77b56b7c.toList) then
            q31 ()
          else
            q33 ())
        else
          (bif (a0.toList == str_d252bb1fdb.toList) then
            (bif (a0.toList == str_d252bb1fdb.toList) then
              q31 ()
            else
              q33 ())
          else
            (bif (a0.toList == str_ad5aabc97d.toList) then
              (bif (a0.toList == str_ad5aabc97d.toList) then
                q31 ()
              else
                q33 ())
            else
              (bif (a0.toList == str_efc9e45486.toList) then
                (bif (a0.toList == str_efc9e45486.toList) then
                  q31 ()
                else
                  q33 ())
              else
                (bif (a0.toList == str_04a99b7228.toList) then
                  (bif (a0.toList == str_04a99b7228.toList) then
                    q31 ()
                  else
                    q33 ())
                else
                  (bif (a0.toList == (ByteArray.mk #[108, 101, 116]).toList) then
                    (bif (a0.toList == (ByteArray.mk #[108, 101, 116]).toList) then
                      q31 ()
                    else
                      q33 ())
                  else
                    (bif (a0.toList == str_4945a70fa7.toList) then
                      (bif (a0.toList == str_4945a70fa7.toList) then
                        q31 ()
                      else
                        q33 ())
                    else
                      (bif (a0.toList == str_1615e11da1.toList) then
                        (bif (a0.toList == str_1615e11da1.toList) then
                          q31 ()
                        else
                          q33 ())
                      else
                        (bif (a0.toList == (ByteArray.mk #[112, 97, 114]).toList) then
                          (bif (a0.toList == (ByteArray.mk #[112, 97, 114]).toList) then
                            q31 ()
                          else
                            q33 ())
                        else
                          (bif (a0.toList == str_e5089e403c.toList) then
                            q31 ()
                          else
                            q33 ())))))))))))))
def pts : Nat → (Unit → Option Bool) × (Unit → Option Bool)
  | 0 => (fun _ => none, fun _ => none)
  | k + 1 => (e31 k (pts k).1 (pts k).2, e33 k (pts k).1 (pts k).2)
def p31 (k : Nat) : Unit → Option Bool := (pts k).1
def p33 (k : Nat) : Unit → Option Bool := (pts k).2
theorem p31_succ (k : Nat) (x0 : Unit) : p31 (k + 1) x0 = e31 k (p31 k) (p33 k) x0 := rfl
theorem p33_succ (k : Nat) (x0 : Unit) : p33 (k + 1) x0 = e33 k (p31 k) (p33 k) x0 := rfl
def f (k : Nat) (a0 : ByteArray) : Option Bool := e k (p31 k) (p33 k) a0
end tokens_Reserved

namespace ref12_Reserved
def e31 (_k : Nat) (_q31 : Unit → Option Bool) (_q33 : Unit → Option Bool) (_ : Unit) : Option Bool :=
  (some true)
def e33 (_k : Nat) (_q31 : Unit → Option Bool) (_q33 : Unit → Option Bool) (_ : Unit) : Option Bool :=
  (some false)
def e (_k : Nat) (q31 : Unit → Option Bool) (q33 : Unit → Option Bool) (a0 : ByteArray) : Option Bool :=
  (bif (a0.toList == (ByteArray.mk #[33]).toList) then
    (bif (a0.toList == (ByteArray.mk #[33]).toList) then
      q31 ()
    else
      q33 ())
  else
    (bif (a0.toList == (ByteArray.mk #[95]).toList) then
      (bif (a0.toList == (ByteArray.mk #[95]).toList) then
        q31 ()
      else
        q33 ())
    else
      (bif (a0.toList == (ByteArray.mk #[97, 115]).toList) then
        (bif (a0.toList == (ByteArray.mk #[97, 115]).toList) then
          q31 ()
        else
          q33 ())
      else
        (bif (a0.toList == str_4c77b56b7c.toList) then
          (bif (a0.toList == str_4c77b56b7c.toList) then
            q31 ()
          else
            q33 ())
        else
          (bif (a0.toList == str_d252bb1fdb.toList) then
            (bif (a0.toList == str_d252bb1fdb.toList) then
              q31 ()
            else
              q33 ())
          else
            (bif (a0.toList == str_ad5aabc97d.toList) then
              (bif (a0.toList == str_ad5aabc97d.toList) then
                q31 ()
              else
                q33 ())
            else
              (bif (a0.toList == str_efc9e45486.toList) then
                (bif (a0.toList == str_efc9e45486.toList) then
                  q31 ()
                else
                  q33 ())
              else
                (bif (a0.toList == str_04a99b7228.toList) then
                  (bif (a0.toList == str_04a99b7228.toList) then
                    q31 ()
                  else
                    q33 ())
                else
                  (bif (a0.toList == (ByteArray.mk #[108, 101, 116]).toList) then
                    (bif (a0.toList == (ByteArray.mk #[108, 101, 116]).toList) then
                      q31 ()
                    else
                      q33 ())
                  else
                    (bif (a0.toList == str_4945a70fa7.toList) then
                      (bif (a0.toList == str_4945a70fa7.toList) then
                        q31 ()
                      else
                        q33 ())
                    else
                      (bif (a0.toList == str_1615e11da1.toList) then
                        (bif (a0.toList == str_1615e11da1.toList) then
                          q31 ()
                        else
                          q33 ())
                      else
                        (bif (a0.toList == (ByteArray.mk #[112, 97, 114]).toList) then
                          (bif (a0.toList == (ByteArray.mk #[112, 97, 114]).toList) then
                            q31 ()
                          else
                            q33 ())
                        else
                          (bif (a0.toList == str_e5089e403c.toList) then
                            q31 ()
                          else
                            q33 ())))))))))))))
def pts : Nat → (Unit → Option Bool) × (Unit → Option Bool)
  | 0 => (fun _ => none, fun _ => none)
  | k + 1 => (e31 k (pts k).1 (pts k).2, e33 k (pts k).1 (pts k).2)
def p31 (k : Nat) : Unit → Option Bool := (pts k).1
def p33 (k : Nat) : Unit → Option Bool := (pts k).2
theorem p31_succ (k : Nat) (x0 : Unit) : p31 (k + 1) x0 = e31 k (p31 k) (p33 k) x0 := rfl
theorem p33_succ (k : Nat) (x0 : Unit) : p33 (k + 1) x0 = e33 k (p31 k) (p33 k) x0 := rfl
def f (k : Nat) (a0 : ByteArray) : Option Bool := e k (p31 k) (p33 k) a0
end ref12_Reserved

namespace law12_TokensNames
def e (k : Nat) (a0 : ByteArray) : Option Bool :=
  (Option.bind (tokens_Symbol.f k a0) fun r1 =>
    (Option.bind (ref12_Symbol.f k a0) fun r2 =>
      (bif (r1.1.toList == r2.1.toList) then
        (bif (decide (r1.2 = r2.2)) then
          (Option.bind (tokens_Plain.f k a0) fun r3 =>
            (Option.bind (ref12_Plain.f k a0) fun r4 =>
              (bif (r3 == r4) then
                (Option.bind (tokens_Reserved.f k a0) fun r5 =>
                  (Option.bind (ref12_Reserved.f k a0) fun r6 =>
                    (some (r5 == r6))))
              else
                (some false))))
        else
          (some false))
      else
        (some false))))
def f (k : Nat) (a0 : ByteArray) : Option Bool := e k a0
end law12_TokensNames
end Go.FK
