/- Plain functions, printed by fgen.py: what the loaded functions come to. -/
import Derived.Test.YtijooefmaecigaaDoorF4
import Derived.Lib.Replace
namespace Go.FK
/-- ??????????????.?/ -/
def str_f2394d253c : ByteArray := (ByteArray.mk #[126, 33, 64, 36, 37, 94, 38, 42, 95, 45, 43, 61, 60, 62, 46, 63, 47])
abbrev LX : Type := List Int
abbrev ZX : Type := Bool × List Int
abbrev RX : Type := (Bool × List Int) × List Int

namespace tokens_begin
def e (_k : Nat) (_ : Unit) : Option (Int × ByteArray × Int × Int × Int × Int) :=
 (some ((0 : Int), (ByteArray.mk #[]), (0 : Int), (0 : Int), (1 : Int), (1 : Int)))
def f (k : Nat) (a0 : Unit) : Option (Int × ByteArray × Int × Int × Int × Int) := e k a0
end tokens_begin

namespace tokens_New
def e (k : Nat) (_ : Unit) : Option (List (Int × ByteArray × Bool × (Int × ByteArray × Int × Int × Int × Int) × Int)) :=
 (Option.bind (tokens_begin.f k ()) fun r1 =>
  (some [((1 : Int), (ByteArray.mk #[]), false, r1, (0 : Int))]))
def f (k : Nat) (a0 : Unit) : Option (List (Int × ByteArray × Bool × (Int × ByteArray × Int × Int × Int × Int) × Int)) := e k a0
end tokens_New

namespace tokens_Scanner_answers
def e5 (_k : Nat) (_q5 : (Int × ByteArray × Bool × (Int × ByteArray × Int × Int × Int × Int) × Int) → Option ((Int × ByteArray × Bool × (Int × ByteArray × Int × Int × Int × Int) × Int) × Int × Bool)) (b0 : (Int × ByteArray × Bool × (Int × ByteArray × Int × Int × Int × Int) × Int)) : Option ((Int × ByteArray × Bool × (Int × ByteArray × Int × Int × Int × Int) × Int) × Int × Bool) :=
 (some (b0, (1 : Int), true))
def e (_k : Nat) (q5 : (Int × ByteArray × Bool × (Int × ByteArray × Int × Int × Int × Int) × Int) → Option ((Int × ByteArray × Bool × (Int × ByteArray × Int × Int × Int × Int) × Int) × Int × Bool)) (a0 : (Int × ByteArray × Bool × (Int × ByteArray × Int × Int × Int × Int) × Int)) : Option ((Int × ByteArray × Bool × (Int × ByteArray × Int × Int × Int × Int) × Int) × Int × Bool) :=
 (bif (decide (a0.1 = (0 : Int))) then
  q5 a0
 else
  (bif (decide (a0.1 = (2 : Int))) then
   q5 a0
  else
   (bif (decide (a0.1 = (3 : Int))) then
    (some (a0, a0.2.2.2.2, true))
   else
    (some (a0, (0 : Int), false)))))
def pts : Nat → ((Int × ByteArray × Bool × (Int × ByteArray × Int × Int × Int × Int) × Int) → Option ((Int × ByteArray × Bool × (Int × ByteArray × Int × Int × Int × Int) × Int) × Int × Bool))
 | 0 => fun _ => none
 | k + 1 => e5 k (pts k)
def p5 (k : Nat) : (Int × ByteArray × Bool × (Int × ByteArray × Int × Int × Int × Int) × Int) → Option ((Int × ByteArray × Bool × (Int × ByteArray × Int × Int × Int × Int) × Int) × Int × Bool) := (pts k)
def f (k : Nat) (a0 : (Int × ByteArray × Bool × (Int × ByteArray × Int × Int × Int × Int) × Int)) : Option ((Int × ByteArray × Bool × (Int × ByteArray × Int × Int × Int × Int) × Int) × Int × Bool) := e k (p5 k) a0
end tokens_Scanner_answers

namespace tokens_blank
def e (_k : Nat) (a0 : Int) : Option Bool :=
 (bif (decide (a0 = (9 : Int))) then
  (some true)
 else
  (bif (decide (a0 = (10 : Int))) then
   (some true)
  else
   (bif (decide (a0 = (13 : Int))) then
    (some true)
   else
    (some (decide (a0 = (32 : Int)))))))
def f (k : Nat) (a0 : Int) : Option Bool := e k a0
end tokens_blank

namespace tokens_Scanner_pass
abbrev Q0 : Type := (Int × ByteArray × Bool × (Int × ByteArray × Int × Int × Int × Int) × Int) → Int → Int → Int → Option (Int × ByteArray × Bool × (Int × ByteArray × Int × Int × Int × Int) × Int)
def e0 (_k : Nat) (_q0 q15 : Q0) (b0 : (Int × ByteArray × Bool × (Int × ByteArray × Int × Int × Int × Int) × Int)) (b1 b2 b3 : Int) : Option (Int × ByteArray × Bool × (Int × ByteArray × Int × Int × Int × Int) × Int) :=
 (bif (decide (b3 < b2)) then
  (bif (decide (0 ≤ b3) && decide (b3 < (b0.2.1.size : Int))) then
   (bif (decide ((btI b0.2.1 b3) = (10 : Int))) then
    q15 (b0.1, b0.2.1, b0.2.2.1, (b0.2.2.2.1.1, b0.2.2.2.1.2.1, b0.2.2.2.1.2.2.1, b0.2.2.2.1.2.2.2.1, (IntKind.i64.wrap (b0.2.2.2.1.2.2.2.2.1 + (1 : Int))), (1 : Int)), b0.2.2.2.2) b1 b2 b3
   else
    q15 (b0.1, b0.2.1, b0.2.2.1, (b0.2.2.2.1.1, b0.2.2.2.1.2.1, b0.2.2.2.1.2.2.1, b0.2.2.2.1.2.2.2.1, b0.2.2.2.1.2.2.2.2.1, (IntKind.i64.wrap (b0.2.2.2.1.2.2.2.2.2 + (1 : Int)))), b0.2.2.2.2) b1 b2 b3)
  else
   none)
 else
  (bif (decide (0 ≤ b1) && decide (b1 ≤ (b0.2.1.size : Int)) && decide ((b0.2.1.size : Int) ≤ (b0.2.1.size : Int))) then
   (some (b0.1, (b0.2.1.extract (Int.toNat b1) (Int.toNat (b0.2.1.size : Int))), b0.2.2.1, (b0.2.2.2.1.1, b0.2.2.2.1.2.1, (IntKind.i64.wrap (b0.2.2.2.1.2.2.1 + b1)), (IntKind.i64.wrap (b0.2.2.2.1.2.2.1 + b1)), b0.2.2.2.1.2.2.2.2.1, b0.2.2.2.1.2.2.2.2.2), b0.2.2.2.2))
  else
   none))
def e15 (_k : Nat) (q0 _q15 : Q0) (b0 : (Int × ByteArray × Bool × (Int × ByteArray × Int × Int × Int × Int) × Int)) (b1 b2 b3 : Int) : Option (Int × ByteArray × Bool × (Int × ByteArray × Int × Int × Int × Int) × Int) :=
 q0 b0 b1 b2 (IntKind.i64.wrap (b3 + (1 : Int)))
def e (_k : Nat) (q0 _q15 : Q0) (a0 : (Int × ByteArray × Bool × (Int × ByteArray × Int × Int × Int × Int) × Int)) (a1 : Int) : Option (Int × ByteArray × Bool × (Int × ByteArray × Int × Int × Int × Int) × Int) :=
 q0 a0 a1 a1 (0 : Int)
def pts : Nat → (Q0) × (Q0)
 | 0 => (fun _ _ _ _ => none, fun _ _ _ _ => none)
 | k + 1 => (e0 k (pts k).1 (pts k).2, e15 k (pts k).1 (pts k).2)
def p0 (k : Nat) : Q0 := (pts k).1
def p15 (k : Nat) : Q0 := (pts k).2
theorem p0_succ (k : Nat) (x0 : (Int × ByteArray × Bool × (Int × ByteArray × Int × Int × Int × Int) × Int)) (x1 x2 x3 : Int) : p0 (k + 1) x0 x1 x2 x3 = e0 k (p0 k) (p15 k) x0 x1 x2 x3 := rfl
theorem p15_succ (k : Nat) (x0 : (Int × ByteArray × Bool × (Int × ByteArray × Int × Int × Int × Int) × Int)) (x1 x2 x3 : Int) : p15 (k + 1) x0 x1 x2 x3 = e15 k (p0 k) (p15 k) x0 x1 x2 x3 := rfl
def f (k : Nat) (a0 : (Int × ByteArray × Bool × (Int × ByteArray × Int × Int × Int × Int) × Int)) (a1 : Int) : Option (Int × ByteArray × Bool × (Int × ByteArray × Int × Int × Int × Int) × Int) := e k (p0 k) (p15 k) a0 a1
end tokens_Scanner_pass

namespace tokens_Scanner_skip
abbrev Q0 : Type := (Int × ByteArray × Bool × (Int × ByteArray × Int × Int × Int × Int) × Int) → Option (Int × ByteArray × Bool × (Int × ByteArray × Int × Int × Int × Int) × Int)
abbrev Q1 : Type := (Int × ByteArray × Bool × (Int × ByteArray × Int × Int × Int × Int) × Int) → Int → Option (Int × ByteArray × Bool × (Int × ByteArray × Int × Int × Int × Int) × Int)
def e0 (_k : Nat) (_q0 q17 : Q0) (q7 : Q1) (b0 : (Int × ByteArray × Bool × (Int × ByteArray × Int × Int × Int × Int) × Int)) : Option (Int × ByteArray × Bool × (Int × ByteArray × Int × Int × Int × Int) × Int) :=
 (bif (!(b0.2.1.toList == (ByteArray.mk #[]).toList)) then
  (bif (decide ((0 : Int) < (b0.2.1.size : Int))) then
   (bif b0.2.2.1 then
    (bif (!decide ((btI b0.2.1 (0 : Int)) = (10 : Int))) then
     (bif (!decide ((btI b0.2.1 (0 : Int)) = (13 : Int))) then
      q17 b0
     else
      q7 b0 (btI b0.2.1 (0 : Int)))
    else
     q7 b0 (btI b0.2.1 (0 : Int)))
   else
    q7 b0 (btI b0.2.1 (0 : Int)))
  else
   none)
 else
  (some b0))
def e17 (k : Nat) (q0 _q17 : Q0) (_q7 : Q1) (b0 : (Int × ByteArray × Bool × (Int × ByteArray × Int × Int × Int × Int) × Int)) : Option (Int × ByteArray × Bool × (Int × ByteArray × Int × Int × Int × Int) × Int) :=
 (Option.bind (tokens_Scanner_pass.f k b0 (1 : Int)) fun r1 =>
  q0 r1)
def e7 (k : Nat) (q0 q17 : Q0) (_q7 : Q1) (b0 : (Int × ByteArray × Bool × (Int × ByteArray × Int × Int × Int × Int) × Int)) (b1 : Int) : Option (Int × ByteArray × Bool × (Int × ByteArray × Int × Int × Int × Int) × Int) :=
 (bif b0.2.2.1 then
  q0 (b0.1, b0.2.1, false, b0.2.2.2.1, b0.2.2.2.2)
 else
  (bif (decide (b1 = (59 : Int))) then
   q17 (b0.1, b0.2.1, true, b0.2.2.2.1, b0.2.2.2.2)
  else
   (Option.bind (tokens_blank.f k b1) fun r2 =>
    (bif (!r2) then
     (some b0)
    else
     q17 b0))))
def e (_k : Nat) (q0 _q17 : Q0) (_q7 : Q1) (a0 : (Int × ByteArray × Bool × (Int × ByteArray × Int × Int × Int × Int) × Int)) : Option (Int × ByteArray × Bool × (Int × ByteArray × Int × Int × Int × Int) × Int) :=
 q0 a0
def pts : Nat → (Q0) × (Q0) × (Q1)
 | 0 => (fun _ => none, fun _ => none, fun _ _ => none)
 | k + 1 => (e0 k (pts k).1 (pts k).2.1 (pts k).2.2, e17 k (pts k).1 (pts k).2.1 (pts k).2.2, e7 k (pts k).1 (pts k).2.1 (pts k).2.2)
def p0 (k : Nat) : Q0 := (pts k).1
def p17 (k : Nat) : Q0 := (pts k).2.1
def p7 (k : Nat) : Q1 := (pts k).2.2
theorem p0_succ (k : Nat) (x0 : (Int × ByteArray × Bool × (Int × ByteArray × Int × Int × Int × Int) × Int)) : p0 (k + 1) x0 = e0 k (p0 k) (p17 k) (p7 k) x0 := rfl
theorem p17_succ (k : Nat) (x0 : (Int × ByteArray × Bool × (Int × ByteArray × Int × Int × Int × Int) × Int)) : p17 (k + 1) x0 = e17 k (p0 k) (p17 k) (p7 k) x0 := rfl
theorem p7_succ (k : Nat) (x0 : (Int × ByteArray × Bool × (Int × ByteArray × Int × Int × Int × Int) × Int)) (x1 : Int) : p7 (k + 1) x0 x1 = e7 k (p0 k) (p17 k) (p7 k) x0 x1 := rfl
def f (k : Nat) (a0 : (Int × ByteArray × Bool × (Int × ByteArray × Int × Int × Int × Int) × Int)) : Option (Int × ByteArray × Bool × (Int × ByteArray × Int × Int × Int × Int) × Int) := e k (p0 k) (p17 k) (p7 k) a0
end tokens_Scanner_skip

namespace tokens_quotable
def e (_k : Nat) (a0 : Int) : Option Bool :=
 (bif (decide (a0 ≥ (128 : Int))) then
  (some true)
 else
  (bif (decide (a0 ≥ (32 : Int))) then
   (bif (decide (a0 < (127 : Int))) then
    (some true)
   else
    (bif (decide (a0 = (9 : Int))) then
     (some true)
    else
     (bif (decide (a0 = (10 : Int))) then
      (some true)
     else
      (some (decide (a0 = (13 : Int)))))))
  else
   (bif (decide (a0 = (9 : Int))) then
    (some true)
   else
    (bif (decide (a0 = (10 : Int))) then
     (some true)
    else
     (some (decide (a0 = (13 : Int))))))))
def f (k : Nat) (a0 : Int) : Option Bool := e k a0
end tokens_quotable

namespace tokens_bad
def e (_k : Nat) (a0 : Int) : Option (Int × Int × ByteArray × Bool × Int) :=
 (some ((0 : Int), a0, (ByteArray.mk #[]), false, (120 : Int)))
def f (k : Nat) (a0 : Int) : Option (Int × Int × ByteArray × Bool × Int) := e k a0
end tokens_bad

namespace tokens_bars
abbrev Q0 : Type := (Int × Int × ByteArray × Bool × Int) → (ByteArray × Nat) → ByteArray → Option (Int × Int × ByteArray × Bool × Int)
abbrev Q1 : Type := (Int × Int × ByteArray × Bool × Int) → Int → Option (Int × Int × ByteArray × Bool × Int)
def e0 (k : Nat) (q0 : Q0) (q15 : Q1) (b0 : (Int × Int × ByteArray × Bool × Int)) (b1 : (ByteArray × Nat)) (b2 : ByteArray) : Option (Int × Int × ByteArray × Bool × Int) :=
 (bif (Nat.blt b1.2 b1.1.size) then
  (bif (decide (((Utf8.decode b1.1 b1.2).1 : Int) = (124 : Int))) then
   (bif (decide (0 ≤ (1 : Int)) && decide ((1 : Int) ≤ (IntKind.i64.wrap (((b1.2 : Nat) : Int) + (1 : Int)))) && decide ((IntKind.i64.wrap (((b1.2 : Nat) : Int) + (1 : Int))) ≤ (b2.size : Int))) then
    (some ((3 : Int), (IntKind.i64.wrap (((b1.2 : Nat) : Int) + (2 : Int))), (b2.extract (Int.toNat (1 : Int)) (Int.toNat (IntKind.i64.wrap (((b1.2 : Nat) : Int) + (1 : Int))))), false, (0 : Int)))
   else
    none)
  else
   (bif (decide (((Utf8.decode b1.1 b1.2).1 : Int) = (92 : Int))) then
    q15 b0 ((b1.2 : Nat) : Int)
   else
    (Option.bind (tokens_quotable.f k ((Utf8.decode b1.1 b1.2).1 : Int)) fun r1 =>
     (bif (!r1) then
      q15 b0 ((b1.2 : Nat) : Int)
     else
      q0 b0 (b1.1, (b1.2 + (Utf8.decode b1.1 b1.2).2)) b2))))
 else
  (some ((0 : Int), (0 : Int), (ByteArray.mk #[]), true, (121 : Int))))
def e15 (k : Nat) (_q0 : Q0) (_q15 : Q1) (_b0 : (Int × Int × ByteArray × Bool × Int)) (b1 : Int) : Option (Int × Int × ByteArray × Bool × Int) :=
 (Option.bind (tokens_bad.f k (IntKind.i64.wrap (b1 + (1 : Int)))) fun r2 =>
  (some r2))
def e (_k : Nat) (q0 : Q0) (_q15 : Q1) (a0 : ByteArray) : Option (Int × Int × ByteArray × Bool × Int) :=
 (bif (decide (0 ≤ (1 : Int)) && decide ((1 : Int) ≤ (a0.size : Int)) && decide ((a0.size : Int) ≤ (a0.size : Int))) then
  q0 ((0 : Int), (0 : Int), (ByteArray.mk #[]), false, (0 : Int)) ((a0.extract (Int.toNat (1 : Int)) (Int.toNat (a0.size : Int))), (0 : Nat)) a0
 else
  none)
def pts : Nat → (Q0) × (Q1)
 | 0 => (fun _ _ _ => none, fun _ _ => none)
 | k + 1 => (e0 k (pts k).1 (pts k).2, e15 k (pts k).1 (pts k).2)
def p0 (k : Nat) : Q0 := (pts k).1
def p15 (k : Nat) : Q1 := (pts k).2
theorem p0_succ (k : Nat) (x0 : (Int × Int × ByteArray × Bool × Int)) (x1 : (ByteArray × Nat)) (x2 : ByteArray) : p0 (k + 1) x0 x1 x2 = e0 k (p0 k) (p15 k) x0 x1 x2 := rfl
theorem p15_succ (k : Nat) (x0 : (Int × Int × ByteArray × Bool × Int)) (x1 : Int) : p15 (k + 1) x0 x1 = e15 k (p0 k) (p15 k) x0 x1 := rfl
def f (k : Nat) (a0 : ByteArray) : Option (Int × Int × ByteArray × Bool × Int) := e k (p0 k) (p15 k) a0
end tokens_bars

namespace bytealg_IndexByteString
def f (_k : Nat) (a0 : ByteArray) (a1 : Int) : Option Int := some (Go.Lib.indexByte a0.data.toList a1.toNat.toUInt8)
end bytealg_IndexByteString

namespace stringslite_IndexByte
def e (k : Nat) (a0 : ByteArray) (a1 : Int) : Option Int :=
 (Option.bind (bytealg_IndexByteString.f k a0 a1) fun r1 =>
  (some r1))
def f (k : Nat) (a0 : ByteArray) (a1 : Int) : Option Int := e k a0 a1
end stringslite_IndexByte

namespace strings_ReplaceAll
def f (_k : Nat) (a0 a1 a2 : ByteArray) : Option ByteArray := bif decide (a0.size < 4294967281) && decide (1 ≤ a1.size) && decide (a2.size ≤ 2) then some ⟨(Go.Lib.replaceAll a0.data.toList a1.data.toList a2.data.toList).toArray⟩ else none
end strings_ReplaceAll

namespace tokens_text
abbrev Q0 : Type := (Int × Int × ByteArray × Bool × Int) → ByteArray → Bool → Int → Option (Int × Int × ByteArray × Bool × Int)
abbrev Q1 : Type := (Int × Int × ByteArray × Bool × Int) → (ByteArray × Nat) → ByteArray → Bool → Int → Option (Int × Int × ByteArray × Bool × Int)
abbrev Q2 : Type := (Int × Int × ByteArray × Bool × Int) → Option (Int × Int × ByteArray × Bool × Int)
abbrev Q3 : Type := (Int × Int × ByteArray × Bool × Int) → ByteArray → Int → Option (Int × Int × ByteArray × Bool × Int)
def e0 (_k : Nat) (_q0 : Q0) (q4 : Q1) (_q19 : Q0) (_q21 : Q2) (_q27 : Q0) (_q29 : Q3) (b0 : (Int × Int × ByteArray × Bool × Int)) (b1 : ByteArray) (b2 : Bool) (b3 : Int) : Option (Int × Int × ByteArray × Bool × Int) :=
 (bif (decide (0 ≤ b3) && decide (b3 ≤ (b1.size : Int)) && decide ((b1.size : Int) ≤ (b1.size : Int))) then
  q4 b0 ((b1.extract (Int.toNat b3) (Int.toNat (b1.size : Int))), (0 : Nat)) b1 b2 b3
 else
  none)
def e4 (k : Nat) (_q0 : Q0) (q4 : Q1) (q19 : Q0) (_q21 : Q2) (_q27 : Q0) (_q29 : Q3) (b0 : (Int × Int × ByteArray × Bool × Int)) (b1 : (ByteArray × Nat)) (b2 : ByteArray) (b3 : Bool) (b4 : Int) : Option (Int × Int × ByteArray × Bool × Int) :=
 (bif (Nat.blt b1.2 b1.1.size) then
  (bif (decide (((Utf8.decode b1.1 b1.2).1 : Int) = (34 : Int))) then
   q19 b0 b2 b3 (IntKind.i64.wrap (b4 + ((b1.2 : Nat) : Int)))
  else
   (Option.bind (tokens_quotable.f k ((Utf8.decode b1.1 b1.2).1 : Int)) fun r1 =>
    (bif (!r1) then
     (Option.bind (tokens_bad.f k (IntKind.i64.wrap (b4 + ((b1.2 : Nat) : Int)))) fun r2 =>
      (some r2))
    else
     q4 b0 (b1.1, (b1.2 + (Utf8.decode b1.1 b1.2).2)) b2 b3 b4)))
 else
  q19 b0 b2 b3 b4)
def e19 (_k : Nat) (_q0 : Q0) (_q4 : Q1) (_q19 : Q0) (q21 : Q2) (q27 : Q0) (_q29 : Q3) (b0 : (Int × Int × ByteArray × Bool × Int)) (b1 : ByteArray) (b2 : Bool) (b3 : Int) : Option (Int × Int × ByteArray × Bool × Int) :=
 (bif (decide (b3 = (b1.size : Int))) then
  q21 b0
 else
  (bif (decide (0 ≤ b3) && decide (b3 < (b1.size : Int))) then
   (bif (!decide ((btI b1 b3) = (34 : Int))) then
    q21 b0
   else
    (bif (decide (b3 = (0 : Int))) then
     q21 b0
    else
     (bif (decide ((IntKind.i64.wrap (b3 + (1 : Int))) = (b1.size : Int))) then
      (bif (!b2) then
       (some ((0 : Int), (0 : Int), (ByteArray.mk #[]), true, (121 : Int)))
      else
       q27 b0 b1 b2 b3)
     else
      q27 b0 b1 b2 b3)))
  else
   none))
def e21 (_k : Nat) (_q0 : Q0) (_q4 : Q1) (_q19 : Q0) (_q21 : Q2) (_q27 : Q0) (_q29 : Q3) (_b0 : (Int × Int × ByteArray × Bool × Int)) : Option (Int × Int × ByteArray × Bool × Int) :=
 (some ((0 : Int), (0 : Int), (ByteArray.mk #[]), true, (121 : Int)))
def e27 (_k : Nat) (q0 : Q0) (_q4 : Q1) (_q19 : Q0) (_q21 : Q2) (_q27 : Q0) (q29 : Q3) (b0 : (Int × Int × ByteArray × Bool × Int)) (b1 : ByteArray) (b2 : Bool) (b3 : Int) : Option (Int × Int × ByteArray × Bool × Int) :=
 (bif (decide ((IntKind.i64.wrap (b3 + (1 : Int))) = (b1.size : Int))) then
  q29 b0 b1 b3
 else
  (bif (decide (0 ≤ (IntKind.i64.wrap (b3 + (1 : Int)))) && decide ((IntKind.i64.wrap (b3 + (1 : Int))) < (b1.size : Int))) then
   (bif (!decide ((btI b1 (IntKind.i64.wrap (b3 + (1 : Int)))) = (34 : Int))) then
    q29 b0 b1 b3
   else
    (bif (decide ((IntKind.i64.wrap (b3 + (2 : Int))) = (b1.size : Int))) then
     (some ((0 : Int), (0 : Int), (ByteArray.mk #[]), true, (121 : Int)))
    else
     q0 b0 b1 b2 (IntKind.i64.wrap (b3 + (2 : Int)))))
  else
   none))
def e29 (k : Nat) (_q0 : Q0) (_q4 : Q1) (_q19 : Q0) (_q21 : Q2) (_q27 : Q0) (_q29 : Q3) (_b0 : (Int × Int × ByteArray × Bool × Int)) (b1 : ByteArray) (b2 : Int) : Option (Int × Int × ByteArray × Bool × Int) :=
 (bif (decide (0 ≤ (1 : Int)) && decide ((1 : Int) ≤ b2) && decide (b2 ≤ (b1.size : Int))) then
  (Option.bind (strings_ReplaceAll.f k (b1.extract (Int.toNat (1 : Int)) (Int.toNat b2)) (ByteArray.mk #[34, 34]) (ByteArray.mk #[34])) fun r3 =>
   (some ((9 : Int), (IntKind.i64.wrap (b2 + (1 : Int))), r3, false, (0 : Int))))
 else
  none)
def e (_k : Nat) (q0 : Q0) (_q4 : Q1) (_q19 : Q0) (_q21 : Q2) (_q27 : Q0) (_q29 : Q3) (a0 : ByteArray) (a1 : Bool) : Option (Int × Int × ByteArray × Bool × Int) :=
 q0 ((0 : Int), (0 : Int), (ByteArray.mk #[]), false, (0 : Int)) a0 a1 (1 : Int)
def pts : Nat → (Q0) × (Q1) × (Q0) × (Q2) × (Q0) × (Q3)
 | 0 => (fun _ _ _ _ => none, fun _ _ _ _ _ => none, fun _ _ _ _ => none, fun _ => none, fun _ _ _ _ => none, fun _ _ _ => none)
 | k + 1 => (e0 k (pts k).1 (pts k).2.1 (pts k).2.2.1 (pts k).2.2.2.1 (pts k).2.2.2.2.1 (pts k).2.2.2.2.2, e4 k (pts k).1 (pts k).2.1 (pts k).2.2.1 (pts k).2.2.2.1 (pts k).2.2.2.2.1 (pts k).2.2.2.2.2, e19 k (pts k).1 (pts k).2.1 (pts k).2.2.1 (pts k).2.2.2.1 (pts k).2.2.2.2.1 (pts k).2.2.2.2.2, e21 k (pts k).1 (pts k).2.1 (pts k).2.2.1 (pts k).2.2.2.1 (pts k).2.2.2.2.1 (pts k).2.2.2.2.2, e27 k (pts k).1 (pts k).2.1 (pts k).2.2.1 (pts k).2.2.2.1 (pts k).2.2.2.2.1 (pts k).2.2.2.2.2, e29 k (pts k).1 (pts k).2.1 (pts k).2.2.1 (pts k).2.2.2.1 (pts k).2.2.2.2.1 (pts k).2.2.2.2.2)
def p0 (k : Nat) : Q0 := (pts k).1
def p4 (k : Nat) : Q1 := (pts k).2.1
def p19 (k : Nat) : Q0 := (pts k).2.2.1
def p21 (k : Nat) : Q2 := (pts k).2.2.2.1
def p27 (k : Nat) : Q0 := (pts k).2.2.2.2.1
def p29 (k : Nat) : Q3 := (pts k).2.2.2.2.2
theorem p0_succ (k : Nat) (x0 : (Int × Int × ByteArray × Bool × Int)) (x1 : ByteArray) (x2 : Bool) (x3 : Int) : p0 (k + 1) x0 x1 x2 x3 = e0 k (p0 k) (p4 k) (p19 k) (p21 k) (p27 k) (p29 k) x0 x1 x2 x3 := rfl
theorem p4_succ (k : Nat) (x0 : (Int × Int × ByteArray × Bool × Int)) (x1 : (ByteArray × Nat)) (x2 : ByteArray) (x3 : Bool) (x4 : Int) : p4 (k + 1) x0 x1 x2 x3 x4 = e4 k (p0 k) (p4 k) (p19 k) (p21 k) (p27 k) (p29 k) x0 x1 x2 x3 x4 := rfl
theorem p19_succ (k : Nat) (x0 : (Int × Int × ByteArray × Bool × Int)) (x1 : ByteArray) (x2 : Bool) (x3 : Int) : p19 (k + 1) x0 x1 x2 x3 = e19 k (p0 k) (p4 k) (p19 k) (p21 k) (p27 k) (p29 k) x0 x1 x2 x3 := rfl
theorem p21_succ (k : Nat) (x0 : (Int × Int × ByteArray × Bool × Int)) : p21 (k + 1) x0 = e21 k (p0 k) (p4 k) (p19 k) (p21 k) (p27 k) (p29 k) x0 := rfl
theorem p27_succ (k : Nat) (x0 : (Int × Int × ByteArray × Bool × Int)) (x1 : ByteArray) (x2 : Bool) (x3 : Int) : p27 (k + 1) x0 x1 x2 x3 = e27 k (p0 k) (p4 k) (p19 k) (p21 k) (p27 k) (p29 k) x0 x1 x2 x3 := rfl
theorem p29_succ (k : Nat) (x0 : (Int × Int × ByteArray × Bool × Int)) (x1 : ByteArray) (x2 : Int) : p29 (k + 1) x0 x1 x2 = e29 k (p0 k) (p4 k) (p19 k) (p21 k) (p27 k) (p29 k) x0 x1 x2 := rfl
def f (k : Nat) (a0 : ByteArray) (a1 : Bool) : Option (Int × Int × ByteArray × Bool × Int) := e k (p0 k) (p4 k) (p19 k) (p21 k) (p27 k) (p29 k) a0 a1
end tokens_text

namespace tokens_digit
def e (_k : Nat) (a0 : Int) : Option Bool :=
 (bif (decide (a0 ≥ (48 : Int))) then
  (some (decide (a0 ≤ (57 : Int))))
 else
  (some false))
def f (k : Nat) (a0 : Int) : Option Bool := e k a0
end tokens_digit

namespace tokens_hex
def e (k : Nat) (a0 : Int) : Option Bool :=
 (Option.bind (tokens_digit.f k a0) fun r1 =>
  (bif r1 then
   (some true)
  else
   (bif (decide ((bitsI .or .u8 a0 (32 : Int)) ≥ (97 : Int))) then
    (some (decide ((bitsI .or .u8 a0 (32 : Int)) ≤ (102 : Int))))
   else
    (some false))))
def f (k : Nat) (a0 : Int) : Option Bool := e k a0
end tokens_hex

namespace tokens_two
def e (_k : Nat) (a0 : Int) : Option Bool :=
 (bif (decide (a0 = (48 : Int))) then
  (some true)
 else
  (some (decide (a0 = (49 : Int)))))
def f (k : Nat) (a0 : Int) : Option Bool := e k a0
end tokens_two

namespace tokens_letter
def e (_k : Nat) (a0 : Int) : Option Bool :=
 (bif (decide ((bitsI .or .u8 a0 (32 : Int)) ≥ (97 : Int))) then
  (some (decide ((bitsI .or .u8 a0 (32 : Int)) ≤ (122 : Int))))
 else
  (some false))
def f (k : Nat) (a0 : Int) : Option Bool := e k a0
end tokens_letter

namespace strings_IndexByte
def e (k : Nat) (a0 : ByteArray) (a1 : Int) : Option Int :=
 (Option.bind (stringslite_IndexByte.f k a0 a1) fun r1 =>
  (some r1))
def f (k : Nat) (a0 : ByteArray) (a1 : Int) : Option Int := e k a0 a1
end strings_IndexByte

namespace tokens_sign
def e (k : Nat) (a0 : Int) : Option Bool :=
 (Option.bind (tokens_letter.f k a0) fun r1 =>
  (bif r1 then
   (some true)
  else
   (Option.bind (tokens_digit.f k a0) fun r2 =>
    (bif r2 then
     (some true)
    else
     (Option.bind (strings_IndexByte.f k str_f2394d253c a0) fun r3 =>
      (some (decide (r3 ≥ (0 : Int)))))))))
def f (k : Nat) (a0 : Int) : Option Bool := e k a0
end tokens_sign

namespace tokens_ends
abbrev Q0 : Type := (Int × Int × ByteArray × Bool × Int) → ByteArray → Int → Int → Int → Option (Int × Int × ByteArray × Bool × Int)
def e7 (k : Nat) (_q7 q11 : Q0) (b0 : (Int × Int × ByteArray × Bool × Int)) (b1 : ByteArray) (b2 b3 b4 : Int) : Option (Int × Int × ByteArray × Bool × Int) :=
 (bif (decide (b4 < (b1.size : Int))) then
  (bif (decide (0 ≤ b4) && decide (b4 < (b1.size : Int))) then
   (Option.bind (tokens_sign.f k (btI b1 b4)) fun r1 =>
    (bif r1 then
     (Option.bind (tokens_bad.f k (0 : Int)) fun r2 =>
      (some r2))
    else
     q11 b0 b1 b2 b3 b4))
  else
   none)
 else
  q11 b0 b1 b2 b3 b4)
def e11 (_k : Nat) (_q7 _q11 : Q0) (_b0 : (Int × Int × ByteArray × Bool × Int)) (b1 : ByteArray) (b2 b3 b4 : Int) : Option (Int × Int × ByteArray × Bool × Int) :=
 (bif (decide (0 ≤ b3) && decide (b3 ≤ b4) && decide (b4 ≤ (b1.size : Int))) then
  (some (b2, b4, (b1.extract (Int.toNat b3) (Int.toNat b4)), false, (0 : Int)))
 else
  none)
def e (_k : Nat) (q7 _q11 : Q0) (a0 : ByteArray) (a1 : Bool) (a2 a3 a4 : Int) : Option (Int × Int × ByteArray × Bool × Int) :=
 (bif (decide (a4 = (a0.size : Int))) then
  (bif (!a1) then
   (some ((0 : Int), (0 : Int), (ByteArray.mk #[]), true, (0 : Int)))
  else
   q7 ((0 : Int), (0 : Int), (ByteArray.mk #[]), false, (0 : Int)) a0 a2 a3 a4)
 else
  q7 ((0 : Int), (0 : Int), (ByteArray.mk #[]), false, (0 : Int)) a0 a2 a3 a4)
def pts : Nat → (Q0) × (Q0)
 | 0 => (fun _ _ _ _ _ => none, fun _ _ _ _ _ => none)
 | k + 1 => (e7 k (pts k).1 (pts k).2, e11 k (pts k).1 (pts k).2)
def p7 (k : Nat) : Q0 := (pts k).1
def p11 (k : Nat) : Q0 := (pts k).2
theorem p7_succ (k : Nat) (x0 : (Int × Int × ByteArray × Bool × Int)) (x1 : ByteArray) (x2 x3 x4 : Int) : p7 (k + 1) x0 x1 x2 x3 x4 = e7 k (p7 k) (p11 k) x0 x1 x2 x3 x4 := rfl
theorem p11_succ (k : Nat) (x0 : (Int × Int × ByteArray × Bool × Int)) (x1 : ByteArray) (x2 x3 x4 : Int) : p11 (k + 1) x0 x1 x2 x3 x4 = e11 k (p7 k) (p11 k) x0 x1 x2 x3 x4 := rfl
def f (k : Nat) (a0 : ByteArray) (a1 : Bool) (a2 a3 a4 : Int) : Option (Int × Int × ByteArray × Bool × Int) := e k (p7 k) (p11 k) a0 a1 a2 a3 a4
end tokens_ends

namespace tokens_run_hex
abbrev Q0 : Type := ByteArray → Int → Option Int
abbrev Q1 : Type := Int → Option Int
def e0 (k : Nat) (q0 : Q0) (q9 : Q1) (b0 : ByteArray) (b1 : Int) : Option Int :=
 (bif (decide (b1 < (b0.size : Int))) then
  (bif (decide (0 ≤ b1) && decide (b1 < (b0.size : Int))) then
   (Option.bind (tokens_hex.f k (btI b0 b1)) fun r1 =>
    (bif r1 then
     q0 b0 (IntKind.i64.wrap (b1 + (1 : Int)))
    else
     q9 b1))
  else
   none)
 else
  q9 b1)
def e9 (_k : Nat) (_q0 : Q0) (_q9 : Q1) (b0 : Int) : Option Int :=
 (some b0)
def e (_k : Nat) (q0 : Q0) (_q9 : Q1) (a0 : ByteArray) (_a1 : Unit) : Option Int :=
 q0 a0 (0 : Int)
def pts : Nat → (Q0) × (Q1)
 | 0 => (fun _ _ => none, fun _ => none)
 | k + 1 => (e0 k (pts k).1 (pts k).2, e9 k (pts k).1 (pts k).2)
def p0 (k : Nat) : Q0 := (pts k).1
def p9 (k : Nat) : Q1 := (pts k).2
def f (k : Nat) (a0 : ByteArray) (a1 : Unit) : Option Int := e k (p0 k) (p9 k) a0 a1
end tokens_run_hex

namespace tokens_run_two
abbrev Q0 : Type := ByteArray → Int → Option Int
abbrev Q1 : Type := Int → Option Int
def e0 (k : Nat) (q0 : Q0) (q9 : Q1) (b0 : ByteArray) (b1 : Int) : Option Int :=
 (bif (decide (b1 < (b0.size : Int))) then
  (bif (decide (0 ≤ b1) && decide (b1 < (b0.size : Int))) then
   (Option.bind (tokens_two.f k (btI b0 b1)) fun r1 =>
    (bif r1 then
     q0 b0 (IntKind.i64.wrap (b1 + (1 : Int)))
    else
     q9 b1))
  else
   none)
 else
  q9 b1)
def e9 (_k : Nat) (_q0 : Q0) (_q9 : Q1) (b0 : Int) : Option Int :=
 (some b0)
def e (_k : Nat) (q0 : Q0) (_q9 : Q1) (a0 : ByteArray) (_a1 : Unit) : Option Int :=
 q0 a0 (0 : Int)
def pts : Nat → (Q0) × (Q1)
 | 0 => (fun _ _ => none, fun _ => none)
 | k + 1 => (e0 k (pts k).1 (pts k).2, e9 k (pts k).1 (pts k).2)
def p0 (k : Nat) : Q0 := (pts k).1
def p9 (k : Nat) : Q1 := (pts k).2
def f (k : Nat) (a0 : ByteArray) (a1 : Unit) : Option Int := e k (p0 k) (p9 k) a0 a1
end tokens_run_two

namespace tokens_sharp
abbrev Q0 : Type := (Int × Int × ByteArray × Bool × Int) → ByteArray → Bool → Int → Int → Option (Int × Int × ByteArray × Bool × Int)
abbrev Q1 : Type := (Int × Int × ByteArray × Bool × Int) → Option (Int × Int × ByteArray × Bool × Int)
def e25 (k : Nat) (_q25 : Q0) (q31 : Q1) (b0 : (Int × Int × ByteArray × Bool × Int)) (b1 : ByteArray) (b2 : Bool) (b3 b4 : Int) : Option (Int × Int × ByteArray × Bool × Int) :=
 (bif (decide (b4 = (0 : Int))) then
  (bif (decide ((b1.size : Int) = (2 : Int))) then
   (bif (!b2) then
    (some ((0 : Int), (0 : Int), (ByteArray.mk #[]), true, (0 : Int)))
   else
    q31 b0)
  else
   q31 b0)
 else
  (Option.bind (tokens_ends.f k b1 b2 b3 (2 : Int) (IntKind.i64.wrap ((2 : Int) + b4))) fun r5 =>
   (some r5)))
def e31 (k : Nat) (_q25 : Q0) (_q31 : Q1) (_b0 : (Int × Int × ByteArray × Bool × Int)) : Option (Int × Int × ByteArray × Bool × Int) :=
 (Option.bind (tokens_bad.f k (0 : Int)) fun r6 =>
  (some r6))
def e (k : Nat) (q25 : Q0) (_q31 : Q1) (a0 : ByteArray) (a1 : Bool) : Option (Int × Int × ByteArray × Bool × Int) :=
 (bif (decide ((a0.size : Int) = (1 : Int))) then
  (bif a1 then
   (Option.bind (tokens_bad.f k (0 : Int)) fun r1 =>
    (some r1))
  else
   (some ((0 : Int), (0 : Int), (ByteArray.mk #[]), true, (0 : Int))))
 else
  (bif (decide ((1 : Int) < (a0.size : Int))) then
   (bif (decide ((btI a0 (1 : Int)) = (120 : Int))) then
    (bif (decide (0 ≤ (2 : Int)) && decide ((2 : Int) ≤ (a0.size : Int)) && decide ((a0.size : Int) ≤ (a0.size : Int))) then
     (Option.bind (tokens_run_hex.f k (a0.extract (Int.toNat (2 : Int)) (Int.toNat (a0.size : Int))) ()) fun r2 =>
      q25 ((0 : Int), (0 : Int), (ByteArray.mk #[]), false, (0 : Int)) a0 a1 (7 : Int) r2)
    else
     none)
   else
    (bif (decide ((btI a0 (1 : Int)) = (98 : Int))) then
     (bif (decide (0 ≤ (2 : Int)) && decide ((2 : Int) ≤ (a0.size : Int)) && decide ((a0.size : Int) ≤ (a0.size : Int))) then
      (Option.bind (tokens_run_two.f k (a0.extract (Int.toNat (2 : Int)) (Int.toNat (a0.size : Int))) ()) fun r3 =>
       q25 ((0 : Int), (0 : Int), (ByteArray.mk #[]), false, (0 : Int)) a0 a1 (8 : Int) r3)
     else
      none)
    else
     (Option.bind (tokens_bad.f k (0 : Int)) fun r4 =>
      (some r4))))
  else
   none))
def pts : Nat → (Q0) × (Q1)
 | 0 => (fun _ _ _ _ _ => none, fun _ => none)
 | k + 1 => (e25 k (pts k).1 (pts k).2, e31 k (pts k).1 (pts k).2)
def p25 (k : Nat) : Q0 := (pts k).1
def p31 (k : Nat) : Q1 := (pts k).2
theorem p25_succ (k : Nat) (x0 : (Int × Int × ByteArray × Bool × Int)) (x1 : ByteArray) (x2 : Bool) (x3 x4 : Int) : p25 (k + 1) x0 x1 x2 x3 x4 = e25 k (p25 k) (p31 k) x0 x1 x2 x3 x4 := rfl
theorem p31_succ (k : Nat) (x0 : (Int × Int × ByteArray × Bool × Int)) : p31 (k + 1) x0 = e31 k (p25 k) (p31 k) x0 := rfl
def f (k : Nat) (a0 : ByteArray) (a1 : Bool) : Option (Int × Int × ByteArray × Bool × Int) := e k (p25 k) (p31 k) a0 a1
end tokens_sharp

namespace tokens_run_sign
abbrev Q0 : Type := ByteArray → Int → Option Int
abbrev Q1 : Type := Int → Option Int
def e0 (k : Nat) (q0 : Q0) (q9 : Q1) (b0 : ByteArray) (b1 : Int) : Option Int :=
 (bif (decide (b1 < (b0.size : Int))) then
  (bif (decide (0 ≤ b1) && decide (b1 < (b0.size : Int))) then
   (Option.bind (tokens_sign.f k (btI b0 b1)) fun r1 =>
    (bif r1 then
     q0 b0 (IntKind.i64.wrap (b1 + (1 : Int)))
    else
     q9 b1))
  else
   none)
 else
  q9 b1)
def e9 (_k : Nat) (_q0 : Q0) (_q9 : Q1) (b0 : Int) : Option Int :=
 (some b0)
def e (_k : Nat) (q0 : Q0) (_q9 : Q1) (a0 : ByteArray) (_a1 : Unit) : Option Int :=
 q0 a0 (0 : Int)
def pts : Nat → (Q0) × (Q1)
 | 0 => (fun _ _ => none, fun _ => none)
 | k + 1 => (e0 k (pts k).1 (pts k).2, e9 k (pts k).1 (pts k).2)
def p0 (k : Nat) : Q0 := (pts k).1
def p9 (k : Nat) : Q1 := (pts k).2
def f (k : Nat) (a0 : ByteArray) (a1 : Unit) : Option Int := e k (p0 k) (p9 k) a0 a1
end tokens_run_sign

namespace tokens_word
abbrev Q0 : Type := (Int × Int × ByteArray × Bool × Int) → ByteArray → Bool → Int → Int → Int → Option (Int × Int × ByteArray × Bool × Int)
abbrev Q1 : Type := (Int × Int × ByteArray × Bool × Int) → ByteArray → Int → Int → Int → Option (Int × Int × ByteArray × Bool × Int)
def e9 (_k : Nat) (_q9 : Q0) (q13 : Q1) (b0 : (Int × Int × ByteArray × Bool × Int)) (b1 : ByteArray) (b2 : Bool) (b3 b4 b5 : Int) : Option (Int × Int × ByteArray × Bool × Int) :=
 (bif (decide (b5 = (b1.size : Int))) then
  (bif (!b2) then
   (some ((0 : Int), (0 : Int), (ByteArray.mk #[]), true, (0 : Int)))
  else
   q13 b0 b1 b3 b4 b5)
 else
  q13 b0 b1 b3 b4 b5)
def e13 (k : Nat) (_q9 : Q0) (_q13 : Q1) (_b0 : (Int × Int × ByteArray × Bool × Int)) (b1 : ByteArray) (b2 b3 b4 : Int) : Option (Int × Int × ByteArray × Bool × Int) :=
 (bif (decide (b4 = b3)) then
  (Option.bind (tokens_bad.f k (0 : Int)) fun r4 =>
   (some r4))
 else
  (bif (decide (0 ≤ b3) && decide (b3 ≤ b4) && decide (b4 ≤ (b1.size : Int))) then
   (some (b2, b4, (b1.extract (Int.toNat b3) (Int.toNat b4)), false, (0 : Int)))
  else
   none))
def e (k : Nat) (q9 : Q0) (_q13 : Q1) (a0 : ByteArray) (a1 : Bool) (a2 a3 : Int) : Option (Int × Int × ByteArray × Bool × Int) :=
 (bif (decide (0 ≤ a3) && decide (a3 ≤ (a0.size : Int)) && decide ((a0.size : Int) ≤ (a0.size : Int))) then
  (Option.bind (tokens_run_sign.f k (a0.extract (Int.toNat a3) (Int.toNat (a0.size : Int))) ()) fun r1 =>
   (bif (decide ((IntKind.i64.wrap (a3 + r1)) > a3)) then
    (bif (decide (0 ≤ a3) && decide (a3 < (a0.size : Int))) then
     (Option.bind (tokens_digit.f k (btI a0 a3)) fun r2 =>
      (bif r2 then
       (Option.bind (tokens_bad.f k (0 : Int)) fun r3 =>
        (some r3))
      else
       q9 ((0 : Int), (0 : Int), (ByteArray.mk #[]), false, (0 : Int)) a0 a1 a2 a3 (IntKind.i64.wrap (a3 + r1))))
    else
     none)
   else
    q9 ((0 : Int), (0 : Int), (ByteArray.mk #[]), false, (0 : Int)) a0 a1 a2 a3 (IntKind.i64.wrap (a3 + r1))))
 else
  none)
def pts : Nat → (Q0) × (Q1)
 | 0 => (fun _ _ _ _ _ _ => none, fun _ _ _ _ _ => none)
 | k + 1 => (e9 k (pts k).1 (pts k).2, e13 k (pts k).1 (pts k).2)
def p9 (k : Nat) : Q0 := (pts k).1
def p13 (k : Nat) : Q1 := (pts k).2
theorem p9_succ (k : Nat) (x0 : (Int × Int × ByteArray × Bool × Int)) (x1 : ByteArray) (x2 : Bool) (x3 x4 x5 : Int) : p9 (k + 1) x0 x1 x2 x3 x4 x5 = e9 k (p9 k) (p13 k) x0 x1 x2 x3 x4 x5 := rfl
theorem p13_succ (k : Nat) (x0 : (Int × Int × ByteArray × Bool × Int)) (x1 : ByteArray) (x2 x3 x4 : Int) : p13 (k + 1) x0 x1 x2 x3 x4 = e13 k (p9 k) (p13 k) x0 x1 x2 x3 x4 := rfl
def f (k : Nat) (a0 : ByteArray) (a1 : Bool) (a2 a3 : Int) : Option (Int × Int × ByteArray × Bool × Int) := e k (p9 k) (p13 k) a0 a1 a2 a3
end tokens_word

namespace tokens_run_digit
abbrev Q0 : Type := ByteArray → Int → Option Int
abbrev Q1 : Type := Int → Option Int
def e0 (k : Nat) (q0 : Q0) (q9 : Q1) (b0 : ByteArray) (b1 : Int) : Option Int :=
 (bif (decide (b1 < (b0.size : Int))) then
  (bif (decide (0 ≤ b1) && decide (b1 < (b0.size : Int))) then
   (Option.bind (tokens_digit.f k (btI b0 b1)) fun r1 =>
    (bif r1 then
     q0 b0 (IntKind.i64.wrap (b1 + (1 : Int)))
    else
     q9 b1))
  else
   none)
 else
  q9 b1)
def e9 (_k : Nat) (_q0 : Q0) (_q9 : Q1) (b0 : Int) : Option Int :=
 (some b0)
def e (_k : Nat) (q0 : Q0) (_q9 : Q1) (a0 : ByteArray) (_a1 : Unit) : Option Int :=
 q0 a0 (0 : Int)
def pts : Nat → (Q0) × (Q1)
 | 0 => (fun _ _ => none, fun _ => none)
 | k + 1 => (e0 k (pts k).1 (pts k).2, e9 k (pts k).1 (pts k).2)
def p0 (k : Nat) : Q0 := (pts k).1
def p9 (k : Nat) : Q1 := (pts k).2
def f (k : Nat) (a0 : ByteArray) (a1 : Unit) : Option Int := e k (p0 k) (p9 k) a0 a1
end tokens_run_digit

namespace tokens_number
abbrev Q0 : Type := (Int × Int × ByteArray × Bool × Int) → ByteArray → Bool → Int → Option (Int × Int × ByteArray × Bool × Int)
abbrev Q1 : Type := (Int × Int × ByteArray × Bool × Int) → Option (Int × Int × ByteArray × Bool × Int)
def e9 (k : Nat) (_q9 q11 : Q0) (q21 : Q1) (b0 : (Int × Int × ByteArray × Bool × Int)) (b1 : ByteArray) (b2 : Bool) (b3 : Int) : Option (Int × Int × ByteArray × Bool × Int) :=
 (bif (decide (b3 = (b1.size : Int))) then
  q11 b0 b1 b2 b3
 else
  (bif (decide (0 ≤ b3) && decide (b3 < (b1.size : Int))) then
   (bif (!decide ((btI b1 b3) = (46 : Int))) then
    q11 b0 b1 b2 b3
   else
    (bif (decide (0 ≤ (IntKind.i64.wrap (b3 + (1 : Int)))) && decide ((IntKind.i64.wrap (b3 + (1 : Int))) ≤ (b1.size : Int)) && decide ((b1.size : Int) ≤ (b1.size : Int))) then
     (Option.bind (tokens_run_digit.f k (b1.extract (Int.toNat (IntKind.i64.wrap (b3 + (1 : Int)))) (Int.toNat (b1.size : Int))) ()) fun r3 =>
      (bif (decide (r3 = (0 : Int))) then
       (bif (decide ((IntKind.i64.wrap (b3 + (1 : Int))) = (b1.size : Int))) then
        (bif (!b2) then
         (some ((0 : Int), (0 : Int), (ByteArray.mk #[]), true, (0 : Int)))
        else
         q21 b0)
       else
        q21 b0)
      else
       (Option.bind (tokens_ends.f k b1 b2 (6 : Int) (0 : Int) (IntKind.i64.wrap ((IntKind.i64.wrap (b3 + (1 : Int))) + r3))) fun r4 =>
        (some r4))))
    else
     none))
  else
   none))
def e11 (k : Nat) (_q9 _q11 : Q0) (_q21 : Q1) (_b0 : (Int × Int × ByteArray × Bool × Int)) (b1 : ByteArray) (b2 : Bool) (b3 : Int) : Option (Int × Int × ByteArray × Bool × Int) :=
 (Option.bind (tokens_ends.f k b1 b2 (5 : Int) (0 : Int) b3) fun r5 =>
  (some r5))
def e21 (k : Nat) (_q9 _q11 : Q0) (_q21 : Q1) (_b0 : (Int × Int × ByteArray × Bool × Int)) : Option (Int × Int × ByteArray × Bool × Int) :=
 (Option.bind (tokens_bad.f k (0 : Int)) fun r6 =>
  (some r6))
def e (k : Nat) (q9 _q11 : Q0) (_q21 : Q1) (a0 : ByteArray) (a1 : Bool) : Option (Int × Int × ByteArray × Bool × Int) :=
 (Option.bind (tokens_run_digit.f k a0 ()) fun r1 =>
  (bif (decide (r1 > (1 : Int))) then
   (bif (decide ((0 : Int) < (a0.size : Int))) then
    (bif (decide ((btI a0 (0 : Int)) = (48 : Int))) then
     (Option.bind (tokens_bad.f k (0 : Int)) fun r2 =>
      (some r2))
    else
     q9 ((0 : Int), (0 : Int), (ByteArray.mk #[]), false, (0 : Int)) a0 a1 r1)
   else
    none)
  else
   q9 ((0 : Int), (0 : Int), (ByteArray.mk #[]), false, (0 : Int)) a0 a1 r1))
def pts : Nat → (Q0) × (Q0) × (Q1)
 | 0 => (fun _ _ _ _ => none, fun _ _ _ _ => none, fun _ => none)
 | k + 1 => (e9 k (pts k).1 (pts k).2.1 (pts k).2.2, e11 k (pts k).1 (pts k).2.1 (pts k).2.2, e21 k (pts k).1 (pts k).2.1 (pts k).2.2)
def p9 (k : Nat) : Q0 := (pts k).1
def p11 (k : Nat) : Q0 := (pts k).2.1
def p21 (k : Nat) : Q1 := (pts k).2.2
theorem p9_succ (k : Nat) (x0 : (Int × Int × ByteArray × Bool × Int)) (x1 : ByteArray) (x2 : Bool) (x3 : Int) : p9 (k + 1) x0 x1 x2 x3 = e9 k (p9 k) (p11 k) (p21 k) x0 x1 x2 x3 := rfl
theorem p11_succ (k : Nat) (x0 : (Int × Int × ByteArray × Bool × Int)) (x1 : ByteArray) (x2 : Bool) (x3 : Int) : p11 (k + 1) x0 x1 x2 x3 = e11 k (p9 k) (p11 k) (p21 k) x0 x1 x2 x3 := rfl
theorem p21_succ (k : Nat) (x0 : (Int × Int × ByteArray × Bool × Int)) : p21 (k + 1) x0 = e21 k (p9 k) (p11 k) (p21 k) x0 := rfl
def f (k : Nat) (a0 : ByteArray) (a1 : Bool) : Option (Int × Int × ByteArray × Bool × Int) := e k (p9 k) (p11 k) (p21 k) a0 a1
end tokens_number

namespace tokens_front
def e (k : Nat) (a0 : ByteArray) (a1 : Bool) : Option (Int × Int × ByteArray × Bool × Int) :=
 (bif (decide ((0 : Int) < (a0.size : Int))) then
  (bif (decide ((btI a0 (0 : Int)) = (40 : Int))) then
   (some ((1 : Int), (1 : Int), (ByteArray.mk #[40]), false, (0 : Int)))
  else
   (bif (decide ((btI a0 (0 : Int)) = (41 : Int))) then
    (some ((2 : Int), (1 : Int), (ByteArray.mk #[41]), false, (0 : Int)))
   else
    (bif (decide ((btI a0 (0 : Int)) = (124 : Int))) then
     (Option.bind (tokens_bars.f k a0) fun r1 =>
      (some r1))
    else
     (bif (decide ((btI a0 (0 : Int)) = (34 : Int))) then
      (Option.bind (tokens_text.f k a0 a1) fun r2 =>
       (some r2))
     else
      (bif (decide ((btI a0 (0 : Int)) = (35 : Int))) then
       (Option.bind (tokens_sharp.f k a0 a1) fun r3 =>
        (some r3))
      else
       (bif (decide ((btI a0 (0 : Int)) = (58 : Int))) then
        (Option.bind (tokens_word.f k a0 a1 (4 : Int) (1 : Int)) fun r4 =>
         (some r4))
       else
        (Option.bind (tokens_digit.f k (btI a0 (0 : Int))) fun r5 =>
         (bif r5 then
          (Option.bind (tokens_number.f k a0 a1) fun r6 =>
           (some r6))
         else
          (Option.bind (tokens_sign.f k (btI a0 (0 : Int))) fun r7 =>
           (bif r7 then
            (Option.bind (tokens_word.f k a0 a1 (3 : Int) (0 : Int)) fun r8 =>
             (some r8))
           else
            (Option.bind (tokens_bad.f k (0 : Int)) fun r9 =>
             (some r9))))))))))))
 else
  none)
def f (k : Nat) (a0 : ByteArray) (a1 : Bool) : Option (Int × Int × ByteArray × Bool × Int) := e k a0 a1
end tokens_front

namespace stringslite_Clone
def f (_k : Nat) (a0 : ByteArray) : Option ByteArray := bif decide (a0.size ≤ 281474976710656) then some a0 else none
end stringslite_Clone

namespace strings_Clone
def e (k : Nat) (a0 : ByteArray) : Option ByteArray :=
 (Option.bind (stringslite_Clone.f k a0) fun r1 =>
  (some r1))
def f (k : Nat) (a0 : ByteArray) : Option ByteArray := e k a0
end strings_Clone

namespace tokens_Scanner_tell
abbrev Q0 : Type := (Int × ByteArray × Bool × (Int × ByteArray × Int × Int × Int × Int) × Int) → (List (Int × ByteArray × Int × Int × Int × Int)) → Bool → Option ((Int × ByteArray × Bool × (Int × ByteArray × Int × Int × Int × Int) × Int) × (List (Int × ByteArray × Int × Int × Int × Int)) × Int)
abbrev Q1 : Type := (Int × ByteArray × Bool × (Int × ByteArray × Int × Int × Int × Int) × Int) → (List (Int × ByteArray × Int × Int × Int × Int)) → (Int × Int × ByteArray × Bool × Int) → Bool → Option ((Int × ByteArray × Bool × (Int × ByteArray × Int × Int × Int × Int) × Int) × (List (Int × ByteArray × Int × Int × Int × Int)) × Int)
abbrev Q2 : Type := (Int × ByteArray × Bool × (Int × ByteArray × Int × Int × Int × Int) × Int) → (List (Int × ByteArray × Int × Int × Int × Int)) → (Int × Int × ByteArray × Bool × Int) → Option ((Int × ByteArray × Bool × (Int × ByteArray × Int × Int × Int × Int) × Int) × (List (Int × ByteArray × Int × Int × Int × Int)) × Int)
def e0 (k : Nat) (_q0 : Q0) (q17 : Q1) (_q19 : Q2) (b0 : (Int × ByteArray × Bool × (Int × ByteArray × Int × Int × Int × Int) × Int)) (b1 : (List (Int × ByteArray × Int × Int × Int × Int))) (b2 : Bool) : Option ((Int × ByteArray × Bool × (Int × ByteArray × Int × Int × Int × Int) × Int) × (List (Int × ByteArray × Int × Int × Int × Int)) × Int) :=
 (bif (!(b0.2.1.toList == (ByteArray.mk #[]).toList)) then
  (Option.bind (tokens_front.f k b0.2.1 b2) fun r2 =>
   (bif r2.2.2.2.1 then
    (bif (!b2) then
     (some (b0, b1, (0 : Int)))
    else
     q17 b0 b1 r2 b2)
   else
    q17 b0 b1 r2 b2))
 else
  (some (b0, b1, (0 : Int))))
def e17 (k : Nat) (q0 : Q0) (_q17 : Q1) (q19 : Q2) (b0 : (Int × ByteArray × Bool × (Int × ByteArray × Int × Int × Int × Int) × Int)) (b1 : (List (Int × ByteArray × Int × Int × Int × Int))) (b2 : (Int × Int × ByteArray × Bool × Int)) (b3 : Bool) : Option ((Int × ByteArray × Bool × (Int × ByteArray × Int × Int × Int × Int) × Int) × (List (Int × ByteArray × Int × Int × Int × Int)) × Int) :=
 (bif (!decide (b2.2.2.2.2 = (0 : Int))) then
  q19 b0 b1 b2
 else
  (bif b2.2.2.2.1 then
   q19 b0 b1 b2
  else
   (Option.bind (strings_Clone.f k b2.2.2.1) fun r3 =>
    (bif (Nat.ble ((b1.length + [(b2.1, r3, b0.2.2.2.1.2.2.1, (IntKind.i64.wrap (b0.2.2.2.1.2.2.1 + b2.2.1)), b0.2.2.2.1.2.2.2.2.1, b0.2.2.2.1.2.2.2.2.2)].length) * 56) 140737488355328 && Nat.ble (b1.length + [(b2.1, r3, b0.2.2.2.1.2.2.1, (IntKind.i64.wrap (b0.2.2.2.1.2.2.1 + b2.2.1)), b0.2.2.2.1.2.2.2.2.1, b0.2.2.2.1.2.2.2.2.2)].length) 9223372036854775807) then
     (Option.bind (tokens_Scanner_pass.f k b0 b2.2.1) fun r4 =>
      (Option.bind (tokens_Scanner_skip.f k r4) fun r5 =>
       q0 r5 (b1 ++ [(b2.1, r3, b0.2.2.2.1.2.2.1, (IntKind.i64.wrap (b0.2.2.2.1.2.2.1 + b2.2.1)), b0.2.2.2.1.2.2.2.2.1, b0.2.2.2.1.2.2.2.2.2)]) b3))
    else
     none))))
def e19 (k : Nat) (_q0 : Q0) (_q17 : Q1) (_q19 : Q2) (b0 : (Int × ByteArray × Bool × (Int × ByteArray × Int × Int × Int × Int) × Int)) (b1 : (List (Int × ByteArray × Int × Int × Int × Int))) (b2 : (Int × Int × ByteArray × Bool × Int)) : Option ((Int × ByteArray × Bool × (Int × ByteArray × Int × Int × Int × Int) × Int) × (List (Int × ByteArray × Int × Int × Int × Int)) × Int) :=
 (Option.bind (tokens_Scanner_pass.f k b0 b2.2.1) fun r6 =>
  (some (((3 : Int), r6.2.1, r6.2.2.1, r6.2.2.2.1, b2.2.2.2.2), b1, b2.2.2.2.2)))
def e (k : Nat) (q0 : Q0) (_q17 : Q1) (_q19 : Q2) (a0 : (Int × ByteArray × Bool × (Int × ByteArray × Int × Int × Int × Int) × Int)) (a1 : Bool) : Option ((Int × ByteArray × Bool × (Int × ByteArray × Int × Int × Int × Int) × Int) × (List (Int × ByteArray × Int × Int × Int × Int)) × Int) :=
 (Option.bind (tokens_Scanner_skip.f k a0) fun r1 =>
  q0 r1 ([] : List (Int × ByteArray × Int × Int × Int × Int)) a1)
def pts : Nat → (Q0) × (Q1) × (Q2)
 | 0 => (fun _ _ _ => none, fun _ _ _ _ => none, fun _ _ _ => none)
 | k + 1 => (e0 k (pts k).1 (pts k).2.1 (pts k).2.2, e17 k (pts k).1 (pts k).2.1 (pts k).2.2, e19 k (pts k).1 (pts k).2.1 (pts k).2.2)
def p0 (k : Nat) : Q0 := (pts k).1
def p17 (k : Nat) : Q1 := (pts k).2.1
def p19 (k : Nat) : Q2 := (pts k).2.2
theorem p0_succ (k : Nat) (x0 : (Int × ByteArray × Bool × (Int × ByteArray × Int × Int × Int × Int) × Int)) (x1 : (List (Int × ByteArray × Int × Int × Int × Int))) (x2 : Bool) : p0 (k + 1) x0 x1 x2 = e0 k (p0 k) (p17 k) (p19 k) x0 x1 x2 := rfl
theorem p17_succ (k : Nat) (x0 : (Int × ByteArray × Bool × (Int × ByteArray × Int × Int × Int × Int) × Int)) (x1 : (List (Int × ByteArray × Int × Int × Int × Int))) (x2 : (Int × Int × ByteArray × Bool × Int)) (x3 : Bool) : p17 (k + 1) x0 x1 x2 x3 = e17 k (p0 k) (p17 k) (p19 k) x0 x1 x2 x3 := rfl
theorem p19_succ (k : Nat) (x0 : (Int × ByteArray × Bool × (Int × ByteArray × Int × Int × Int × Int) × Int)) (x1 : (List (Int × ByteArray × Int × Int × Int × Int))) (x2 : (Int × Int × ByteArray × Bool × Int)) : p19 (k + 1) x0 x1 x2 = e19 k (p0 k) (p17 k) (p19 k) x0 x1 x2 := rfl
def f (k : Nat) (a0 : (Int × ByteArray × Bool × (Int × ByteArray × Int × Int × Int × Int) × Int)) (a1 : Bool) : Option ((Int × ByteArray × Bool × (Int × ByteArray × Int × Int × Int × Int) × Int) × (List (Int × ByteArray × Int × Int × Int × Int)) × Int) := e k (p0 k) (p17 k) (p19 k) a0 a1
end tokens_Scanner_tell

namespace tokens_Scanner_Feed
def e (k : Nat) (a0 : (Int × ByteArray × Bool × (Int × ByteArray × Int × Int × Int × Int) × Int)) (a1 : ByteArray) : Option ((Int × ByteArray × Bool × (Int × ByteArray × Int × Int × Int × Int) × Int) × (List (Int × ByteArray × Int × Int × Int × Int)) × Int) :=
 (Option.bind (tokens_Scanner_answers.f k a0) fun r1 =>
  (bif r1.2.2 then
   (some (r1.1, ([] : List (Int × ByteArray × Int × Int × Int × Int)), r1.2.1))
  else
   (bif (decide (((r1.1.2.1.size + a1.size : Nat) : Int) > IntKind.i64.max)) then
    none
   else
    (Option.bind (tokens_Scanner_tell.f k (r1.1.1, (r1.1.2.1 ++ a1), r1.1.2.2.1, r1.1.2.2.2.1, r1.1.2.2.2.2) false) fun r2 =>
     (some (r2.1, r2.2.1, r2.2.2))))))
def f (k : Nat) (a0 : (Int × ByteArray × Bool × (Int × ByteArray × Int × Int × Int × Int) × Int)) (a1 : ByteArray) : Option ((Int × ByteArray × Bool × (Int × ByteArray × Int × Int × Int × Int) × Int) × (List (Int × ByteArray × Int × Int × Int × Int)) × Int) := e k a0 a1
end tokens_Scanner_Feed

namespace tokens_Scanner_End
def e15 (_k : Nat) (_q15 : (Int × ByteArray × Bool × (Int × ByteArray × Int × Int × Int × Int) × Int) → (List (Int × ByteArray × Int × Int × Int × Int)) → Int → Option ((Int × ByteArray × Bool × (Int × ByteArray × Int × Int × Int × Int) × Int) × (List (Int × ByteArray × Int × Int × Int × Int)) × Int)) (b0 : (Int × ByteArray × Bool × (Int × ByteArray × Int × Int × Int × Int) × Int)) (b1 : (List (Int × ByteArray × Int × Int × Int × Int))) (b2 : Int) : Option ((Int × ByteArray × Bool × (Int × ByteArray × Int × Int × Int × Int) × Int) × (List (Int × ByteArray × Int × Int × Int × Int)) × Int) :=
 (some (b0, b1, b2))
def e (k : Nat) (q15 : (Int × ByteArray × Bool × (Int × ByteArray × Int × Int × Int × Int) × Int) → (List (Int × ByteArray × Int × Int × Int × Int)) → Int → Option ((Int × ByteArray × Bool × (Int × ByteArray × Int × Int × Int × Int) × Int) × (List (Int × ByteArray × Int × Int × Int × Int)) × Int)) (a0 : (Int × ByteArray × Bool × (Int × ByteArray × Int × Int × Int × Int) × Int)) : Option ((Int × ByteArray × Bool × (Int × ByteArray × Int × Int × Int × Int) × Int) × (List (Int × ByteArray × Int × Int × Int × Int)) × Int) :=
 (Option.bind (tokens_Scanner_answers.f k a0) fun r1 =>
  (bif r1.2.2 then
   (some (r1.1, ([] : List (Int × ByteArray × Int × Int × Int × Int)), r1.2.1))
  else
   (Option.bind (tokens_Scanner_tell.f k r1.1 true) fun r2 =>
    (bif (decide (r2.2.2 = (0 : Int))) then
     q15 ((2 : Int), r2.1.2.1, r2.1.2.2.1, r2.1.2.2.2.1, r2.1.2.2.2.2) r2.2.1 r2.2.2
    else
     q15 r2.1 r2.2.1 r2.2.2))))
def pts : Nat → ((Int × ByteArray × Bool × (Int × ByteArray × Int × Int × Int × Int) × Int) → (List (Int × ByteArray × Int × Int × Int × Int)) → Int → Option ((Int × ByteArray × Bool × (Int × ByteArray × Int × Int × Int × Int) × Int) × (List (Int × ByteArray × Int × Int × Int × Int)) × Int))
 | 0 => fun _ _ _ => none
 | k + 1 => e15 k (pts k)
def p15 (k : Nat) : (Int × ByteArray × Bool × (Int × ByteArray × Int × Int × Int × Int) × Int) → (List (Int × ByteArray × Int × Int × Int × Int)) → Int → Option ((Int × ByteArray × Bool × (Int × ByteArray × Int × Int × Int × Int) × Int) × (List (Int × ByteArray × Int × Int × Int × Int)) × Int) := (pts k)
theorem p15_succ (k : Nat) (x0 : (Int × ByteArray × Bool × (Int × ByteArray × Int × Int × Int × Int) × Int)) (x1 : (List (Int × ByteArray × Int × Int × Int × Int))) (x2 : Int) : p15 (k + 1) x0 x1 x2 = e15 k (p15 k) x0 x1 x2 := rfl
def f (k : Nat) (a0 : (Int × ByteArray × Bool × (Int × ByteArray × Int × Int × Int × Int) × Int)) : Option ((Int × ByteArray × Bool × (Int × ByteArray × Int × Int × Int × Int) × Int) × (List (Int × ByteArray × Int × Int × Int × Int)) × Int) := e k (p15 k) a0
end tokens_Scanner_End

namespace tokens_Scanner_At
def e (k : Nat) (a0 : (Int × ByteArray × Bool × (Int × ByteArray × Int × Int × Int × Int) × Int)) : Option ((Int × ByteArray × Bool × (Int × ByteArray × Int × Int × Int × Int) × Int) × (Int × ByteArray × Int × Int × Int × Int)) :=
 (bif (decide (a0.1 = (0 : Int))) then
  (Option.bind (tokens_begin.f k ()) fun r1 =>
   (some (a0, r1)))
 else
  (some (a0, a0.2.2.2.1)))
def f (k : Nat) (a0 : (Int × ByteArray × Bool × (Int × ByteArray × Int × Int × Int × Int) × Int)) : Option ((Int × ByteArray × Bool × (Int × ByteArray × Int × Int × Int × Int) × Int) × (Int × ByteArray × Int × Int × Int × Int)) := e k a0
end tokens_Scanner_At

namespace tokens_All
def e15 (k : Nat) (_q15 : (Int × ByteArray × Int × Int × Int × Int) → (Int × ByteArray × Bool × (Int × ByteArray × Int × Int × Int × Int) × Int) → (List (Int × ByteArray × Int × Int × Int × Int)) → Int → Option ((List (Int × ByteArray × Int × Int × Int × Int)) × Int × (Int × ByteArray × Int × Int × Int × Int))) (_b0 : (Int × ByteArray × Int × Int × Int × Int)) (b1 : (Int × ByteArray × Bool × (Int × ByteArray × Int × Int × Int × Int) × Int)) (b2 : (List (Int × ByteArray × Int × Int × Int × Int))) (b3 : Int) : Option ((List (Int × ByteArray × Int × Int × Int × Int)) × Int × (Int × ByteArray × Int × Int × Int × Int)) :=
 (bif (!decide (b3 = (0 : Int))) then
  (Option.bind (tokens_Scanner_At.f k b1) fun r5 =>
   (some (b2, b3, r5.2)))
 else
  (some (b2, (0 : Int), ((0 : Int), (ByteArray.mk #[]), (0 : Int), (0 : Int), (0 : Int), (0 : Int)))))
def e (k : Nat) (q15 : (Int × ByteArray × Int × Int × Int × Int) → (Int × ByteArray × Bool × (Int × ByteArray × Int × Int × Int × Int) × Int) → (List (Int × ByteArray × Int × Int × Int × Int)) → Int → Option ((List (Int × ByteArray × Int × Int × Int × Int)) × Int × (Int × ByteArray × Int × Int × Int × Int))) (a0 : ByteArray) : Option ((List (Int × ByteArray × Int × Int × Int × Int)) × Int × (Int × ByteArray × Int × Int × Int × Int)) :=
 (Option.bind (tokens_New.f k ()) fun r1 =>
  (one r1 fun y2 =>
   (Option.bind (tokens_Scanner_Feed.f k y2 a0) fun r3 =>
    (bif (decide (r3.2.2 = (0 : Int))) then
     (Option.bind (tokens_Scanner_End.f k r3.1) fun r4 =>
      (bif (Nat.ble ((r3.2.1.length + r4.2.1.length) * 56) 140737488355328 && Nat.ble (r3.2.1.length + r4.2.1.length) 9223372036854775807) then
       q15 ((0 : Int), (ByteArray.mk #[]), (0 : Int), (0 : Int), (0 : Int), (0 : Int)) r4.1 (r3.2.1 ++ r4.2.1) r4.2.2
      else
       none))
    else
     q15 ((0 : Int), (ByteArray.mk #[]), (0 : Int), (0 : Int), (0 : Int), (0 : Int)) r3.1 r3.2.1 r3.2.2))))
def pts : Nat → ((Int × ByteArray × Int × Int × Int × Int) → (Int × ByteArray × Bool × (Int × ByteArray × Int × Int × Int × Int) × Int) → (List (Int × ByteArray × Int × Int × Int × Int)) → Int → Option ((List (Int × ByteArray × Int × Int × Int × Int)) × Int × (Int × ByteArray × Int × Int × Int × Int)))
 | 0 => fun _ _ _ _ => none
 | k + 1 => e15 k (pts k)
def p15 (k : Nat) : (Int × ByteArray × Int × Int × Int × Int) → (Int × ByteArray × Bool × (Int × ByteArray × Int × Int × Int × Int) × Int) → (List (Int × ByteArray × Int × Int × Int × Int)) → Int → Option ((List (Int × ByteArray × Int × Int × Int × Int)) × Int × (Int × ByteArray × Int × Int × Int × Int)) := (pts k)
theorem p15_succ (k : Nat) (x0 : (Int × ByteArray × Int × Int × Int × Int)) (x1 : (Int × ByteArray × Bool × (Int × ByteArray × Int × Int × Int × Int) × Int)) (x2 : (List (Int × ByteArray × Int × Int × Int × Int))) (x3 : Int) : p15 (k + 1) x0 x1 x2 x3 = e15 k (p15 k) x0 x1 x2 x3 := rfl
def f (k : Nat) (a0 : ByteArray) : Option ((List (Int × ByteArray × Int × Int × Int × Int)) × Int × (Int × ByteArray × Int × Int × Int × Int)) := e k (p15 k) a0
end tokens_All

namespace law12_awake
def e (k : Nat) (_ : Unit) : Option Bool :=
 (Option.bind (tokens_All.f k (ByteArray.mk #[40, 120, 41])) fun r1 =>
  (bif (decide (r1.2.1 = (0 : Int))) then
   (bif (decide ((r1.1.length : Int) = (3 : Int))) then
    (bif (decide ((1 : Int) < (r1.1.length : Int))) then
     (some ((nthD ((0 : Int), (ByteArray.mk #[]), (0 : Int), (0 : Int), (0 : Int), (0 : Int)) r1.1 1).2.1.toList == (ByteArray.mk #[120]).toList))
    else
     none)
   else
    (some false))
  else
   (some false)))
def f (k : Nat) (a0 : Unit) : Option Bool := e k a0
end law12_awake

namespace tokens_Plain
abbrev Q0 : Type := Unit → Option Bool
abbrev Q1 : Type := ByteArray → Int → Int → Option Bool
def e5 (_k : Nat) (_q5 : Q0) (_q0 : Q1) (_ : Unit) : Option Bool :=
 (some false)
def e0 (k : Nat) (_q5 : Q0) (q0 : Q1) (b0 : ByteArray) (b1 b2 : Int) : Option Bool :=
 (bif (decide (b2 < b1)) then
  (bif (decide (0 ≤ b2) && decide (b2 < (b0.size : Int))) then
   (Option.bind (tokens_sign.f k (btI b0 b2)) fun r2 =>
    (bif (!r2) then
     (some false)
    else
     q0 b0 b1 (IntKind.i64.wrap (b2 + (1 : Int)))))
  else
   none)
 else
  (some true))
def e (k : Nat) (q5 : Q0) (q0 : Q1) (a0 : ByteArray) : Option Bool :=
 (bif (a0.toList == (ByteArray.mk #[]).toList) then
  q5 ()
 else
  (bif (decide ((0 : Int) < (a0.size : Int))) then
   (Option.bind (tokens_digit.f k (btI a0 (0 : Int))) fun r1 =>
    (bif r1 then
     q5 ()
    else
     q0 a0 (a0.size : Int) (0 : Int)))
  else
   none))
def pts : Nat → (Q0) × (Q1)
 | 0 => (fun _ => none, fun _ _ _ => none)
 | k + 1 => (e5 k (pts k).1 (pts k).2, e0 k (pts k).1 (pts k).2)
def p5 (k : Nat) : Q0 := (pts k).1
def p0 (k : Nat) : Q1 := (pts k).2
theorem p5_succ (k : Nat) (x0 : Unit) : p5 (k + 1) x0 = e5 k (p5 k) (p0 k) x0 := rfl
theorem p0_succ (k : Nat) (x0 : ByteArray) (x1 x2 : Int) : p0 (k + 1) x0 x1 x2 = e0 k (p5 k) (p0 k) x0 x1 x2 := rfl
def f (k : Nat) (a0 : ByteArray) : Option Bool := e k (p5 k) (p0 k) a0
end tokens_Plain

namespace tokens_Symbol
abbrev Q0 : Type := (ByteArray × Nat) → ByteArray → Option (ByteArray × Int)
abbrev Q1 : Type := Unit → Option (ByteArray × Int)
def e0 (k : Nat) (q0 : Q0) (q15 : Q1) (b0 : (ByteArray × Nat)) (b1 : ByteArray) : Option (ByteArray × Int) :=
 (bif (Nat.blt b0.2 b0.1.size) then
  (Option.bind (tokens_quotable.f k ((Utf8.decode b0.1 b0.2).1 : Int)) fun r2 =>
   (bif (!r2) then
    q15 ()
   else
    (bif (decide (((Utf8.decode b0.1 b0.2).1 : Int) = (124 : Int))) then
     q15 ()
    else
     (bif (decide (((Utf8.decode b0.1 b0.2).1 : Int) = (92 : Int))) then
      q15 ()
     else
      q0 (b0.1, (b0.2 + (Utf8.decode b0.1 b0.2).2)) b1))))
 else
  (bif (decide ((((ByteArray.mk #[124]).size + b1.size : Nat) : Int) > IntKind.i64.max)) then
   none
  else
   (bif (decide (((((ByteArray.mk #[124]) ++ b1).size + (ByteArray.mk #[124]).size : Nat) : Int) > IntKind.i64.max)) then
    none
   else
    (some ((((ByteArray.mk #[124]) ++ b1) ++ (ByteArray.mk #[124])), (0 : Int))))))
def e15 (_k : Nat) (_q0 : Q0) (_q15 : Q1) (_ : Unit) : Option (ByteArray × Int) :=
 (some ((ByteArray.mk #[]), (122 : Int)))
def e (k : Nat) (q0 : Q0) (_q15 : Q1) (a0 : ByteArray) : Option (ByteArray × Int) :=
 (Option.bind (tokens_Plain.f k a0) fun r1 =>
  (bif r1 then
   (some (a0, (0 : Int)))
  else
   q0 (a0, (0 : Nat)) a0))
def pts : Nat → (Q0) × (Q1)
 | 0 => (fun _ _ => none, fun _ => none)
 | k + 1 => (e0 k (pts k).1 (pts k).2, e15 k (pts k).1 (pts k).2)
def p0 (k : Nat) : Q0 := (pts k).1
def p15 (k : Nat) : Q1 := (pts k).2
theorem p0_succ (k : Nat) (x0 : (ByteArray × Nat)) (x1 : ByteArray) : p0 (k + 1) x0 x1 = e0 k (p0 k) (p15 k) x0 x1 := rfl
theorem p15_succ (k : Nat) (x0 : Unit) : p15 (k + 1) x0 = e15 k (p0 k) (p15 k) x0 := rfl
def f (k : Nat) (a0 : ByteArray) : Option (ByteArray × Int) := e k (p0 k) (p15 k) a0
end tokens_Symbol

namespace tokens_written
def e (_k : Nat) (a0 : (Int × ByteArray × Int × Int × Int × Int)) : Option ByteArray :=
 (bif (decide (a0.1 = (7 : Int))) then
  (bif (decide ((((ByteArray.mk #[35, 120]).size + a0.2.1.size : Nat) : Int) > IntKind.i64.max)) then
   none
  else
   (some ((ByteArray.mk #[35, 120]) ++ a0.2.1)))
 else
  (bif (decide (a0.1 = (8 : Int))) then
   (bif (decide ((((ByteArray.mk #[35, 98]).size + a0.2.1.size : Nat) : Int) > IntKind.i64.max)) then
    none
   else
    (some ((ByteArray.mk #[35, 98]) ++ a0.2.1)))
  else
   (some a0.2.1)))
def f (k : Nat) (a0 : (Int × ByteArray × Int × Int × Int × Int)) : Option ByteArray := e k a0
end tokens_written

namespace tokens_Print
abbrev Q0 : Type := (Int × ByteArray × Int × Int × Int × Int) → (ByteArray × Nat) → Option (ByteArray × Int)
abbrev Q1 : Type := Unit → Option (ByteArray × Int)
def e2 (k : Nat) (q2 : Q0) (_q37 : Q1) (b0 : (Int × ByteArray × Int × Int × Int × Int)) (b1 : (ByteArray × Nat)) : Option (ByteArray × Int) :=
 (bif (Nat.blt b1.2 b1.1.size) then
  (Option.bind (tokens_quotable.f k ((Utf8.decode b1.1 b1.2).1 : Int)) fun r5 =>
   (bif (!r5) then
    (some ((ByteArray.mk #[]), (122 : Int)))
   else
    q2 b0 (b1.1, (b1.2 + (Utf8.decode b1.1 b1.2).2))))
 else
  (Option.bind (strings_ReplaceAll.f k b0.2.1 (ByteArray.mk #[34]) (ByteArray.mk #[34, 34])) fun r6 =>
   (bif (decide ((((ByteArray.mk #[34]).size + r6.size : Nat) : Int) > IntKind.i64.max)) then
    none
   else
    (bif (decide (((((ByteArray.mk #[34]) ++ r6).size + (ByteArray.mk #[34]).size : Nat) : Int) > IntKind.i64.max)) then
     none
    else
     (some ((((ByteArray.mk #[34]) ++ r6) ++ (ByteArray.mk #[34])), (0 : Int)))))))
def e37 (_k : Nat) (_q2 : Q0) (_q37 : Q1) (_ : Unit) : Option (ByteArray × Int) :=
 (some ((ByteArray.mk #[]), (120 : Int)))
def e (k : Nat) (q2 : Q0) (q37 : Q1) (a0 : (Int × ByteArray × Int × Int × Int × Int)) : Option (ByteArray × Int) :=
 (bif (decide (a0.1 = (3 : Int))) then
  (Option.bind (tokens_Symbol.f k a0.2.1) fun r1 =>
   (some (r1.1, r1.2)))
 else
  (bif (decide (a0.1 = (4 : Int))) then
   (Option.bind (tokens_Plain.f k a0.2.1) fun r2 =>
    (bif (!r2) then
     (some ((ByteArray.mk #[]), (122 : Int)))
    else
     (bif (decide ((((ByteArray.mk #[58]).size + a0.2.1.size : Nat) : Int) > IntKind.i64.max)) then
      none
     else
      (some (((ByteArray.mk #[58]) ++ a0.2.1), (0 : Int))))))
  else
   (bif (decide (a0.1 = (9 : Int))) then
    q2 a0 (a0.2.1, (0 : Nat))
   else
    (Option.bind (tokens_written.f k a0) fun r3 =>
     (Option.bind (tokens_All.f k r3) fun r4 =>
      (bif (!decide (r4.2.1 = (0 : Int))) then
       q37 ()
      else
       (bif (!decide ((r4.1.length : Int) = (1 : Int))) then
        q37 ()
       else
        (bif (decide ((0 : Int) < (r4.1.length : Int))) then
         (bif (!decide ((nthD ((0 : Int), (ByteArray.mk #[]), (0 : Int), (0 : Int), (0 : Int), (0 : Int)) r4.1 0).1 = a0.1)) then
          q37 ()
         else
          (bif (decide ((0 : Int) < (r4.1.length : Int))) then
           (bif (!((nthD ((0 : Int), (ByteArray.mk #[]), (0 : Int), (0 : Int), (0 : Int), (0 : Int)) r4.1 0).2.1.toList == a0.2.1.toList)) then
            q37 ()
           else
            (some (r3, (0 : Int))))
          else
           none))
        else
         none))))))))
def pts : Nat → (Q0) × (Q1)
 | 0 => (fun _ _ => none, fun _ => none)
 | k + 1 => (e2 k (pts k).1 (pts k).2, e37 k (pts k).1 (pts k).2)
def p2 (k : Nat) : Q0 := (pts k).1
def p37 (k : Nat) : Q1 := (pts k).2
theorem p2_succ (k : Nat) (x0 : (Int × ByteArray × Int × Int × Int × Int)) (x1 : (ByteArray × Nat)) : p2 (k + 1) x0 x1 = e2 k (p2 k) (p37 k) x0 x1 := rfl
theorem p37_succ (k : Nat) (x0 : Unit) : p37 (k + 1) x0 = e37 k (p2 k) (p37 k) x0 := rfl
def f (k : Nat) (a0 : (Int × ByteArray × Int × Int × Int × Int)) : Option (ByteArray × Int) := e k (p2 k) (p37 k) a0
end tokens_Print

namespace law12_TokensSpread
abbrev Q0 : Type := (List (Int × ByteArray × Int × Int × Int × Int)) → ByteArray → Int → Option Bool
abbrev Q1 : Type := Unit → Option Bool
abbrev Q2 : Type := (List (Int × ByteArray × Int × Int × Int × Int)) → (List (Int × ByteArray × Int × Int × Int × Int)) → Int → Option Bool
def e0 (k : Nat) (q0 : Q0) (q29 : Q1) (q4 : Q2) (_q39 : Q1) (b0 : (List (Int × ByteArray × Int × Int × Int × Int))) (b1 : ByteArray) (b2 : Int) : Option Bool :=
 (bif (decide (b2 < (b0.length : Int))) then
  (bif (decide (0 ≤ b2) && decide (b2 < (b0.length : Int))) then
   (Option.bind (tokens_Print.f k (nthD ((0 : Int), (ByteArray.mk #[]), (0 : Int), (0 : Int), (0 : Int), (0 : Int)) b0 (Int.toNat b2))) fun r3 =>
    (bif (!decide (r3.2 = (0 : Int))) then
     (some false)
    else
     (bif (decide (((b1.size + r3.1.size : Nat) : Int) > IntKind.i64.max)) then
      none
     else
      (bif (decide ((((b1 ++ r3.1).size + (ByteArray.mk #[32]).size : Nat) : Int) > IntKind.i64.max)) then
       none
      else
       q0 b0 ((b1 ++ r3.1) ++ (ByteArray.mk #[32])) (IntKind.i64.wrap (b2 + (1 : Int)))))))
  else
   none)
 else
  (Option.bind (tokens_All.f k b1) fun r4 =>
   (bif (!decide (r4.2.1 = (0 : Int))) then
    q29 ()
   else
    (bif (!decide ((r4.1.length : Int) = (b0.length : Int))) then
     q29 ()
    else
     q4 b0 r4.1 (0 : Int)))))
def e29 (_k : Nat) (_q0 : Q0) (_q29 : Q1) (_q4 : Q2) (_q39 : Q1) (_ : Unit) : Option Bool :=
 (some false)
def e4 (k : Nat) (_q0 : Q0) (_q29 : Q1) (q4 : Q2) (q39 : Q1) (b0 : (List (Int × ByteArray × Int × Int × Int × Int))) (b1 : (List (Int × ByteArray × Int × Int × Int × Int))) (b2 : Int) : Option Bool :=
 (bif (decide (b2 < (b0.length : Int))) then
  (bif (decide (0 ≤ b2) && decide (b2 < (b1.length : Int))) then
   (bif (decide (0 ≤ b2) && decide (b2 < (b0.length : Int))) then
    (bif (!decide ((nthD ((0 : Int), (ByteArray.mk #[]), (0 : Int), (0 : Int), (0 : Int), (0 : Int)) b1 (Int.toNat b2)).1 = (nthD ((0 : Int), (ByteArray.mk #[]), (0 : Int), (0 : Int), (0 : Int), (0 : Int)) b0 (Int.toNat b2)).1)) then
     q39 ()
    else
     (bif (decide (0 ≤ b2) && decide (b2 < (b1.length : Int))) then
      (bif (decide (0 ≤ b2) && decide (b2 < (b0.length : Int))) then
       (bif (!((nthD ((0 : Int), (ByteArray.mk #[]), (0 : Int), (0 : Int), (0 : Int), (0 : Int)) b1 (Int.toNat b2)).2.1.toList == (nthD ((0 : Int), (ByteArray.mk #[]), (0 : Int), (0 : Int), (0 : Int), (0 : Int)) b0 (Int.toNat b2)).2.1.toList)) then
        q39 ()
       else
        q4 b0 b1 (IntKind.i64.wrap (b2 + (1 : Int))))
      else
       none)
     else
      none))
   else
    none)
  else
   none)
 else
  (Option.bind (law12_awake.f k ()) fun r5 =>
   (some r5)))
def e39 (_k : Nat) (_q0 : Q0) (_q29 : Q1) (_q4 : Q2) (_q39 : Q1) (_ : Unit) : Option Bool :=
 (some false)
def e (k : Nat) (q0 : Q0) (_q29 : Q1) (_q4 : Q2) (_q39 : Q1) (a0 : ByteArray) : Option Bool :=
 (Option.bind (tokens_All.f k a0) fun r1 =>
  (bif (!decide (r1.2.1 = (0 : Int))) then
   (Option.bind (law12_awake.f k ()) fun r2 =>
    (some r2))
  else
   q0 r1.1 (ByteArray.mk #[]) (0 : Int)))
def pts : Nat → (Q0) × (Q1) × (Q2) × (Q1)
 | 0 => (fun _ _ _ => none, fun _ => none, fun _ _ _ => none, fun _ => none)
 | k + 1 => (e0 k (pts k).1 (pts k).2.1 (pts k).2.2.1 (pts k).2.2.2, e29 k (pts k).1 (pts k).2.1 (pts k).2.2.1 (pts k).2.2.2, e4 k (pts k).1 (pts k).2.1 (pts k).2.2.1 (pts k).2.2.2, e39 k (pts k).1 (pts k).2.1 (pts k).2.2.1 (pts k).2.2.2)
def p0 (k : Nat) : Q0 := (pts k).1
def p29 (k : Nat) : Q1 := (pts k).2.1
def p4 (k : Nat) : Q2 := (pts k).2.2.1
def p39 (k : Nat) : Q1 := (pts k).2.2.2
theorem p0_succ (k : Nat) (x0 : (List (Int × ByteArray × Int × Int × Int × Int))) (x1 : ByteArray) (x2 : Int) : p0 (k + 1) x0 x1 x2 = e0 k (p0 k) (p29 k) (p4 k) (p39 k) x0 x1 x2 := rfl
theorem p4_succ (k : Nat) (x0 : (List (Int × ByteArray × Int × Int × Int × Int))) (x1 : (List (Int × ByteArray × Int × Int × Int × Int))) (x2 : Int) : p4 (k + 1) x0 x1 x2 = e4 k (p0 k) (p29 k) (p4 k) (p39 k) x0 x1 x2 := rfl
def f (k : Nat) (a0 : ByteArray) : Option Bool := e k (p0 k) (p29 k) (p4 k) (p39 k) a0
end law12_TokensSpread
end Go.FK
