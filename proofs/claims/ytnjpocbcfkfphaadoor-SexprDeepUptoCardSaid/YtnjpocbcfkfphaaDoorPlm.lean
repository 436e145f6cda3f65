/- Plain functions, printed by fgen.py: what the loaded functions come to. -/
import Derived.Test.YtnjpocbcfkfphaaDoorF4
import Derived.Lib.Replace
import Derived.Test.YtnjpocbcfkfphaaDoorF5
namespace Go.FK
abbrev NTd := TokD × List NodeD
abbrev SEd := Int × Int × ByteArray × Int × Int × Int
abbrev R5d := Int × Int × ByteArray × Bool × Int
abbrev LNd := List NTd
/-- ??????????????.?/ -/
def str_f2394d253c : ByteArray := (ByteArray.mk #[126, 33, 64, 36, 37, 94, 38, 42, 95, 45, 43, 61, 60, 62, 46, 63, 47])
/-- ?a ?b?? -/
def str_f8ba69dfb9 : ByteArray := (ByteArray.mk #[40, 97, 32, 40, 98, 41, 41])
abbrev LX : Type := List Int
abbrev ZX : Type := Bool × List Int
abbrev RX : Type := (Bool × List Int) × List Int

namespace tokens_begin
def e (_k : Nat) (_ : Unit) : Option TokD :=
 (some ((0 : Int), (ByteArray.mk #[]), (0 : Int), (0 : Int), (1 : Int), (1 : Int)))
def f (k : Nat) (a0 : Unit) : Option TokD := e k a0
end tokens_begin

namespace tokens_New
def e (k : Nat) (_ : Unit) : Option (List SCD) :=
 (Option.bind (tokens_begin.f k ()) fun r1 =>
  (some [((1 : Int), (ByteArray.mk #[]), false, r1, (0 : Int))]))
def f (k : Nat) (a0 : Unit) : Option (List SCD) := e k a0
end tokens_New

namespace tokens_Scanner_answers
def e5 (_k : Nat) (_q5 : SCD → Option (SCD × Int × Bool)) (b0 : SCD) : Option (SCD × Int × Bool) :=
 (some (b0, (1 : Int), true))
def e (_k : Nat) (q5 : SCD → Option (SCD × Int × Bool)) (a0 : SCD) : Option (SCD × Int × Bool) :=
 (bif (decide (a0.1 = (0 : Int))) then
  q5 a0
 else
  (bif (decide (a0.1 = (2 : Int))) then
   q5 a0
  else
   (bif (decide (a0.1 = (3 : Int))) then
    (some (a0, a0.2.2.2.2, true))
   else
    (some (a0, (0 : Int), false)))))
def pts : Nat → (SCD → Option (SCD × Int × Bool))
 | 0 => fun _ => none
 | k + 1 => e5 k (pts k)
def p5 (k : Nat) : SCD → Option (SCD × Int × Bool) := (pts k)
def f (k : Nat) (a0 : SCD) : Option (SCD × Int × Bool) := e k (p5 k) a0
end tokens_Scanner_answers

namespace tokens_blank
def e (_k : Nat) (a0 : Int) : Option Bool :=
 (bif (decide (a0 = (9 : Int))) then
  (some true)
 else
  (bif (decide (a0 = (10 : Int))) then
   (some true)
  else
   (bif (decide (a0 = (13 : Int))) then
    (some true)
   else
    (some (decide (a0 = (32 : Int)))))))
def f (k : Nat) (a0 : Int) : Option Bool := e k a0
end tokens_blank

namespace tokens_Scanner_pass
abbrev Q0 : Type := SCD → Int → Int → Int → Option SCD
def e0 (_k : Nat) (_q0 q15 : Q0) (b0 : SCD) (b1 b2 b3 : Int) : Option SCD :=
 (bif (decide (b3 < b2)) then
  (bif (decide (0 ≤ b3) && decide (b3 < (b0.2.1.size : Int))) then
   (bif (decide ((btI b0.2.1 b3) = (10 : Int))) then
    q15 (b0.1, b0.2.1, b0.2.2.1, (b0.2.2.2.1.1, b0.2.2.2.1.2.1, b0.2.2.2.1.2.2.1, b0.2.2.2.1.2.2.2.1, (IntKind.i64.wrap (b0.2.2.2.1.2.2.2.2.1 + (1 : Int))), (1 : Int)), b0.2.2.2.2) b1 b2 b3
   else
    q15 (b0.1, b0.2.1, b0.2.2.1, (b0.2.2.2.1.1, b0.2.2.2.1.2.1, b0.2.2.2.1.2.2.1, b0.2.2.2.1.2.2.2.1, b0.2.2.2.1.2.2.2.2.1, (IntKind.i64.wrap (b0.2.2.2.1.2.2.2.2.2 + (1 : Int)))), b0.2.2.2.2) b1 b2 b3)
  else
   none)
 else
  (bif (decide (0 ≤ b1) && decide (b1 ≤ (b0.2.1.size : Int)) && decide ((b0.2.1.size : Int) ≤ (b0.2.1.size : Int))) then
   (some (b0.1, (b0.2.1.extract (Int.toNat b1) (Int.toNat (b0.2.1.size : Int))), b0.2.2.1, (b0.2.2.2.1.1, b0.2.2.2.1.2.1, (IntKind.i64.wrap (b0.2.2.2.1.2.2.1 + b1)), (IntKind.i64.wrap (b0.2.2.2.1.2.2.1 + b1)), b0.2.2.2.1.2.2.2.2.1, b0.2.2.2.1.2.2.2.2.2), b0.2.2.2.2))
  else
   none))
def e15 (_k : Nat) (q0 _q15 : Q0) (b0 : SCD) (b1 b2 b3 : Int) : Option SCD :=
 q0 b0 b1 b2 (IntKind.i64.wrap (b3 + (1 : Int)))
def e (_k : Nat) (q0 _q15 : Q0) (a0 : SCD) (a1 : Int) : Option SCD :=
 q0 a0 a1 a1 (0 : Int)
def pts : Nat → (Q0) × (Q0)
 | 0 => (fun _ _ _ _ => none, fun _ _ _ _ => none)
 | k + 1 => (e0 k (pts k).1 (pts k).2, e15 k (pts k).1 (pts k).2)
def p0 (k : Nat) : Q0 := (pts k).1
def p15 (k : Nat) : Q0 := (pts k).2
theorem p0_succ (k : Nat) (x0 : SCD) (x1 x2 x3 : Int) : p0 (k + 1) x0 x1 x2 x3 = e0 k (p0 k) (p15 k) x0 x1 x2 x3 := rfl
theorem p15_succ (k : Nat) (x0 : SCD) (x1 x2 x3 : Int) : p15 (k + 1) x0 x1 x2 x3 = e15 k (p0 k) (p15 k) x0 x1 x2 x3 := rfl
def f (k : Nat) (a0 : SCD) (a1 : Int) : Option SCD := e k (p0 k) (p15 k) a0 a1
end tokens_Scanner_pass

namespace tokens_Scanner_skip
abbrev Q0 : Type := SCD → Option SCD
abbrev Q1 : Type := SCD → Int → Option SCD
def e0 (_k : Nat) (_q0 q17 : Q0) (q7 : Q1) (b0 : SCD) : Option SCD :=
 (bif (!(b0.2.1.toList == (ByteArray.mk #[]).toList)) then
  (bif (decide ((0 : Int) < (b0.2.1.size : Int))) then
   (bif b0.2.2.1 then
    (bif (!decide ((btI b0.2.1 (0 : Int)) = (10 : Int))) then
     (bif (!decide ((btI b0.2.1 (0 : Int)) = (13 : Int))) then
      q17 b0
     else
      q7 b0 (btI b0.2.1 (0 : Int)))
    else
     q7 b0 (btI b0.2.1 (0 : Int)))
   else
    q7 b0 (btI b0.2.1 (0 : Int)))
  else
   none)
 else
  (some b0))
def e17 (k : Nat) (q0 _q17 : Q0) (_q7 : Q1) (b0 : SCD) : Option SCD :=
 (Option.bind (tokens_Scanner_pass.f k b0 (1 : Int)) fun r1 =>
  q0 r1)
def e7 (k : Nat) (q0 q17 : Q0) (_q7 : Q1) (b0 : SCD) (b1 : Int) : Option SCD :=
 (bif b0.2.2.1 then
  q0 (b0.1, b0.2.1, false, b0.2.2.2.1, b0.2.2.2.2)
 else
  (bif (decide (b1 = (59 : Int))) then
   q17 (b0.1, b0.2.1, true, b0.2.2.2.1, b0.2.2.2.2)
  else
   (Option.bind (tokens_blank.f k b1) fun r2 =>
    (bif (!r2) then
     (some b0)
    else
     q17 b0))))
def e (_k : Nat) (q0 _q17 : Q0) (_q7 : Q1) (a0 : SCD) : Option SCD :=
 q0 a0
def pts : Nat → (Q0) × (Q0) × (Q1)
 | 0 => (fun _ => none, fun _ => none, fun _ _ => none)
 | k + 1 => (e0 k (pts k).1 (pts k).2.1 (pts k).2.2, e17 k (pts k).1 (pts k).2.1 (pts k).2.2, e7 k (pts k).1 (pts k).2.1 (pts k).2.2)
def p0 (k : Nat) : Q0 := (pts k).1
def p17 (k : Nat) : Q0 := (pts k).2.1
def p7 (k : Nat) : Q1 := (pts k).2.2
theorem p0_succ (k : Nat) (x0 : SCD) : p0 (k + 1) x0 = e0 k (p0 k) (p17 k) (p7 k) x0 := rfl
theorem p17_succ (k : Nat) (x0 : SCD) : p17 (k + 1) x0 = e17 k (p0 k) (p17 k) (p7 k) x0 := rfl
theorem p7_succ (k : Nat) (x0 : SCD) (x1 : Int) : p7 (k + 1) x0 x1 = e7 k (p0 k) (p17 k) (p7 k) x0 x1 := rfl
def f (k : Nat) (a0 : SCD) : Option SCD := e k (p0 k) (p17 k) (p7 k) a0
end tokens_Scanner_skip

namespace tokens_quotable
def e (_k : Nat) (a0 : Int) : Option Bool :=
 (bif (decide (a0 ≥ (128 : Int))) then
  (some true)
 else
  (bif (decide (a0 ≥ (32 : Int))) then
   (bif (decide (a0 < (127 : Int))) then
    (some true)
   else
    (bif (decide (a0 = (9 : Int))) then
     (some true)
    else
     (bif (decide (a0 = (10 : Int))) then
      (some true)
     else
      (some (decide (a0 = (13 : Int)))))))
  else
   (bif (decide (a0 = (9 : Int))) then
    (some true)
   else
    (bif (decide (a0 = (10 : Int))) then
     (some true)
    else
     (some (decide (a0 = (13 : Int))))))))
def f (k : Nat) (a0 : Int) : Option Bool := e k a0
end tokens_quotable

namespace tokens_bad
def e (_k : Nat) (a0 : Int) : Option R5d :=
 (some ((0 : Int), a0, (ByteArray.mk #[]), false, (120 : Int)))
def f (k : Nat) (a0 : Int) : Option R5d := e k a0
end tokens_bad

namespace tokens_bars
abbrev Q0 : Type := R5d → (ByteArray × Nat) → ByteArray → Option R5d
abbrev Q1 : Type := R5d → Int → Option R5d
def e0 (k : Nat) (q0 : Q0) (q15 : Q1) (b0 : R5d) (b1 : (ByteArray × Nat)) (b2 : ByteArray) : Option R5d :=
 (bif (Nat.blt b1.2 b1.1.size) then
  (bif (decide (((Utf8.decode b1.1 b1.2).1 : Int) = (124 : Int))) then
   (bif (decide (0 ≤ (1 : Int)) && decide ((1 : Int) ≤ (IntKind.i64.wrap (((b1.2 : Nat) : Int) + (1 : Int)))) && decide ((IntKind.i64.wrap (((b1.2 : Nat) : Int) + (1 : Int))) ≤ (b2.size : Int))) then
    (some ((3 : Int), (IntKind.i64.wrap (((b1.2 : Nat) : Int) + (2 : Int))), (b2.extract (Int.toNat (1 : Int)) (Int.toNat (IntKind.i64.wrap (((b1.2 : Nat) : Int) + (1 : Int))))), false, (0 : Int)))
   else
    none)
  else
   (bif (decide (((Utf8.decode b1.1 b1.2).1 : Int) = (92 : Int))) then
    q15 b0 ((b1.2 : Nat) : Int)
   else
    (Option.bind (tokens_quotable.f k ((Utf8.decode b1.1 b1.2).1 : Int)) fun r1 =>
     (bif (!r1) then
      q15 b0 ((b1.2 : Nat) : Int)
     else
      q0 b0 (b1.1, (b1.2 + (Utf8.decode b1.1 b1.2).2)) b2))))
 else
  (some ((0 : Int), (0 : Int), (ByteArray.mk #[]), true, (121 : Int))))
def e15 (k : Nat) (_q0 : Q0) (_q15 : Q1) (_b0 : R5d) (b1 : Int) : Option R5d :=
 (Option.bind (tokens_bad.f k (IntKind.i64.wrap (b1 + (1 : Int)))) fun r2 =>
  (some r2))
def e (_k : Nat) (q0 : Q0) (_q15 : Q1) (a0 : ByteArray) : Option R5d :=
 (bif (decide (0 ≤ (1 : Int)) && decide ((1 : Int) ≤ (a0.size : Int)) && decide ((a0.size : Int) ≤ (a0.size : Int))) then
  q0 ((0 : Int), (0 : Int), (ByteArray.mk #[]), false, (0 : Int)) ((a0.extract (Int.toNat (1 : Int)) (Int.toNat (a0.size : Int))), (0 : Nat)) a0
 else
  none)
def pts : Nat → (Q0) × (Q1)
 | 0 => (fun _ _ _ => none, fun _ _ => none)
 | k + 1 => (e0 k (pts k).1 (pts k).2, e15 k (pts k).1 (pts k).2)
def p0 (k : Nat) : Q0 := (pts k).1
def p15 (k : Nat) : Q1 := (pts k).2
theorem p0_succ (k : Nat) (x0 : R5d) (x1 : (ByteArray × Nat)) (x2 : ByteArray) : p0 (k + 1) x0 x1 x2 = e0 k (p0 k) (p15 k) x0 x1 x2 := rfl
theorem p15_succ (k : Nat) (x0 : R5d) (x1 : Int) : p15 (k + 1) x0 x1 = e15 k (p0 k) (p15 k) x0 x1 := rfl
def f (k : Nat) (a0 : ByteArray) : Option R5d := e k (p0 k) (p15 k) a0
end tokens_bars

namespace bytealg_IndexByteString
def f (_k : Nat) (a0 : ByteArray) (a1 : Int) : Option Int := some (Go.Lib.indexByte a0.data.toList a1.toNat.toUInt8)
end bytealg_IndexByteString

namespace stringslite_IndexByte
def e (k : Nat) (a0 : ByteArray) (a1 : Int) : Option Int :=
 (Option.bind (bytealg_IndexByteString.f k a0 a1) fun r1 =>
  (some r1))
def f (k : Nat) (a0 : ByteArray) (a1 : Int) : Option Int := e k a0 a1
end stringslite_IndexByte

namespace strings_ReplaceAll
def f (_k : Nat) (a0 a1 a2 : ByteArray) : Option ByteArray := bif decide (a0.size < 4294967281) && decide (1 ≤ a1.size) && decide (a2.size ≤ 2) then some ⟨(Go.Lib.replaceAll a0.data.toList a1.data.toList a2.data.toList).toArray⟩ else none
end strings_ReplaceAll

namespace tokens_text
abbrev Q0 : Type := R5d → ByteArray → Bool → Int → Option R5d
abbrev Q1 : Type := R5d → (ByteArray × Nat) → ByteArray → Bool → Int → Option R5d
abbrev Q2 : Type := R5d → Option R5d
abbrev Q3 : Type := R5d → ByteArray → Int → Option R5d
def e0 (_k : Nat) (_q0 : Q0) (q4 : Q1) (_q19 : Q0) (_q21 : Q2) (_q27 : Q0) (_q29 : Q3) (b0 : R5d) (b1 : ByteArray) (b2 : Bool) (b3 : Int) : Option R5d :=
 (bif (decide (0 ≤ b3) && decide (b3 ≤ (b1.size : Int)) && decide ((b1.size : Int) ≤ (b1.size : Int))) then
  q4 b0 ((b1.extract (Int.toNat b3) (Int.toNat (b1.size : Int))), (0 : Nat)) b1 b2 b3
 else
  none)
def e4 (k : Nat) (_q0 : Q0) (q4 : Q1) (q19 : Q0) (_q21 : Q2) (_q27 : Q0) (_q29 : Q3) (b0 : R5d) (b1 : (ByteArray × Nat)) (b2 : ByteArray) (b3 : Bool) (b4 : Int) : Option R5d :=
 (bif (Nat.blt b1.2 b1.1.size) then
  (bif (decide (((Utf8.decode b1.1 b1.2).1 : Int) = (34 : Int))) then
   q19 b0 b2 b3 (IntKind.i64.wrap (b4 + ((b1.2 : Nat) : Int)))
  else
   (Option.bind (tokens_quotable.f k ((Utf8.decode b1.1 b1.2).1 : Int)) fun r1 =>
    (bif (!r1) then
     (Option.bind (tokens_bad.f k (IntKind.i64.wrap (b4 + ((b1.2 : Nat) : Int)))) fun r2 =>
      (some r2))
    else
     q4 b0 (b1.1, (b1.2 + (Utf8.decode b1.1 b1.2).2)) b2 b3 b4)))
 else
  q19 b0 b2 b3 b4)
def e19 (_k : Nat) (_q0 : Q0) (_q4 : Q1) (_q19 : Q0) (q21 : Q2) (q27 : Q0) (_q29 : Q3) (b0 : R5d) (b1 : ByteArray) (b2 : Bool) (b3 : Int) : Option R5d :=
 (bif (decide (b3 = (b1.size : Int))) then
  q21 b0
 else
  (bif (decide (0 ≤ b3) && decide (b3 < (b1.size : Int))) then
   (bif (!decide ((btI b1 b3) = (34 : Int))) then
    q21 b0
   else
    (bif (decide (b3 = (0 : Int))) then
     q21 b0
    else
     (bif (decide ((IntKind.i64.wrap (b3 + (1 : Int))) = (b1.size : Int))) then
      (bif (!b2) then
       (some ((0 : Int), (0 : Int), (ByteArray.mk #[]), true, (121 : Int)))
      else
       q27 b0 b1 b2 b3)
     else
      q27 b0 b1 b2 b3)))
  else
   none))
def e21 (_k : Nat) (_q0 : Q0) (_q4 : Q1) (_q19 : Q0) (_q21 : Q2) (_q27 : Q0) (_q29 : Q3) (_b0 : R5d) : Option R5d :=
 (some ((0 : Int), (0 : Int), (ByteArray.mk #[]), true, (121 : Int)))
def e27 (_k : Nat) (q0 : Q0) (_q4 : Q1) (_q19 : Q0) (_q21 : Q2) (_q27 : Q0) (q29 : Q3) (b0 : R5d) (b1 : ByteArray) (b2 : Bool) (b3 : Int) : Option R5d :=
 (bif (decide ((IntKind.i64.wrap (b3 + (1 : Int))) = (b1.size : Int))) then
  q29 b0 b1 b3
 else
  (bif (decide (0 ≤ (IntKind.i64.wrap (b3 + (1 : Int)))) && decide ((IntKind.i64.wrap (b3 + (1 : Int))) < (b1.size : Int))) then
   (bif (!decide ((btI b1 (IntKind.i64.wrap (b3 + (1 : Int)))) = (34 : Int))) then
    q29 b0 b1 b3
   else
    (bif (decide ((IntKind.i64.wrap (b3 + (2 : Int))) = (b1.size : Int))) then
     (some ((0 : Int), (0 : Int), (ByteArray.mk #[]), true, (121 : Int)))
    else
     q0 b0 b1 b2 (IntKind.i64.wrap (b3 + (2 : Int)))))
  else
   none))
def e29 (k : Nat) (_q0 : Q0) (_q4 : Q1) (_q19 : Q0) (_q21 : Q2) (_q27 : Q0) (_q29 : Q3) (_b0 : R5d) (b1 : ByteArray) (b2 : Int) : Option R5d :=
 (bif (decide (0 ≤ (1 : Int)) && decide ((1 : Int) ≤ b2) && decide (b2 ≤ (b1.size : Int))) then
  (Option.bind (strings_ReplaceAll.f k (b1.extract (Int.toNat (1 : Int)) (Int.toNat b2)) (ByteArray.mk #[34, 34]) (ByteArray.mk #[34])) fun r3 =>
   (some ((9 : Int), (IntKind.i64.wrap (b2 + (1 : Int))), r3, false, (0 : Int))))
 else
  none)
def e (_k : Nat) (q0 : Q0) (_q4 : Q1) (_q19 : Q0) (_q21 : Q2) (_q27 : Q0) (_q29 : Q3) (a0 : ByteArray) (a1 : Bool) : Option R5d :=
 q0 ((0 : Int), (0 : Int), (ByteArray.mk #[]), false, (0 : Int)) a0 a1 (1 : Int)
def pts : Nat → (Q0) × (Q1) × (Q0) × (Q2) × (Q0) × (Q3)
 | 0 => (fun _ _ _ _ => none, fun _ _ _ _ _ => none, fun _ _ _ _ => none, fun _ => none, fun _ _ _ _ => none, fun _ _ _ => none)
 | k + 1 => (e0 k (pts k).1 (pts k).2.1 (pts k).2.2.1 (pts k).2.2.2.1 (pts k).2.2.2.2.1 (pts k).2.2.2.2.2, e4 k (pts k).1 (pts k).2.1 (pts k).2.2.1 (pts k).2.2.2.1 (pts k).2.2.2.2.1 (pts k).2.2.2.2.2, e19 k (pts k).1 (pts k).2.1 (pts k).2.2.1 (pts k).2.2.2.1 (pts k).2.2.2.2.1 (pts k).2.2.2.2.2, e21 k (pts k).1 (pts k).2.1 (pts k).2.2.1 (pts k).2.2.2.1 (pts k).2.2.2.2.1 (pts k).2.2.2.2.2, e27 k (pts k).1 (pts k).2.1 (pts k).2.2.1 (pts k).2.2.2.1 (pts k).2.2.2.2.1 (pts k).2.2.2.2.2, e29 k (pts k).1 (pts k).2.1 (pts k).2.2.1 (pts k).2.2.2.1 (pts k).2.2.2.2.1 (pts k).2.2.2.2.2)
def p0 (k : Nat) : Q0 := (pts k).1
def p4 (k : Nat) : Q1 := (pts k).2.1
def p19 (k : Nat) : Q0 := (pts k).2.2.1
def p21 (k : Nat) : Q2 := (pts k).2.2.2.1
def p27 (k : Nat) : Q0 := (pts k).2.2.2.2.1
def p29 (k : Nat) : Q3 := (pts k).2.2.2.2.2
theorem p0_succ (k : Nat) (x0 : R5d) (x1 : ByteArray) (x2 : Bool) (x3 : Int) : p0 (k + 1) x0 x1 x2 x3 = e0 k (p0 k) (p4 k) (p19 k) (p21 k) (p27 k) (p29 k) x0 x1 x2 x3 := rfl
theorem p4_succ (k : Nat) (x0 : R5d) (x1 : (ByteArray × Nat)) (x2 : ByteArray) (x3 : Bool) (x4 : Int) : p4 (k + 1) x0 x1 x2 x3 x4 = e4 k (p0 k) (p4 k) (p19 k) (p21 k) (p27 k) (p29 k) x0 x1 x2 x3 x4 := rfl
theorem p19_succ (k : Nat) (x0 : R5d) (x1 : ByteArray) (x2 : Bool) (x3 : Int) : p19 (k + 1) x0 x1 x2 x3 = e19 k (p0 k) (p4 k) (p19 k) (p21 k) (p27 k) (p29 k) x0 x1 x2 x3 := rfl
theorem p21_succ (k : Nat) (x0 : R5d) : p21 (k + 1) x0 = e21 k (p0 k) (p4 k) (p19 k) (p21 k) (p27 k) (p29 k) x0 := rfl
theorem p27_succ (k : Nat) (x0 : R5d) (x1 : ByteArray) (x2 : Bool) (x3 : Int) : p27 (k + 1) x0 x1 x2 x3 = e27 k (p0 k) (p4 k) (p19 k) (p21 k) (p27 k) (p29 k) x0 x1 x2 x3 := rfl
theorem p29_succ (k : Nat) (x0 : R5d) (x1 : ByteArray) (x2 : Int) : p29 (k + 1) x0 x1 x2 = e29 k (p0 k) (p4 k) (p19 k) (p21 k) (p27 k) (p29 k) x0 x1 x2 := rfl
def f (k : Nat) (a0 : ByteArray) (a1 : Bool) : Option R5d := e k (p0 k) (p4 k) (p19 k) (p21 k) (p27 k) (p29 k) a0 a1
end tokens_text

namespace tokens_digit
def e (_k : Nat) (a0 : Int) : Option Bool :=
 (bif (decide (a0 ≥ (48 : Int))) then
  (some (decide (a0 ≤ (57 : Int))))
 else
  (some false))
def f (k : Nat) (a0 : Int) : Option Bool := e k a0
end tokens_digit

namespace tokens_hex
def e (k : Nat) (a0 : Int) : Option Bool :=
 (Option.bind (tokens_digit.f k a0) fun r1 =>
  (bif r1 then
   (some true)
  else
   (bif (decide ((bitsI .or .u8 a0 (32 : Int)) ≥ (97 : Int))) then
    (some (decide ((bitsI .or .u8 a0 (32 : Int)) ≤ (102 : Int))))
   else
    (some false))))
def f (k : Nat) (a0 : Int) : Option Bool := e k a0
end tokens_hex

namespace tokens_two
def e (_k : Nat) (a0 : Int) : Option Bool :=
 (bif (decide (a0 = (48 : Int))) then
  (some true)
 else
  (some (decide (a0 = (49 : Int)))))
def f (k : Nat) (a0 : Int) : Option Bool := e k a0
end tokens_two

namespace tokens_letter
def e (_k : Nat) (a0 : Int) : Option Bool :=
 (bif (decide ((bitsI .or .u8 a0 (32 : Int)) ≥ (97 : Int))) then
  (some (decide ((bitsI .or .u8 a0 (32 : Int)) ≤ (122 : Int))))
 else
  (some false))
def f (k : Nat) (a0 : Int) : Option Bool := e k a0
end tokens_letter

namespace strings_IndexByte
def e (k : Nat) (a0 : ByteArray) (a1 : Int) : Option Int :=
 (Option.bind (stringslite_IndexByte.f k a0 a1) fun r1 =>
  (some r1))
def f (k : Nat) (a0 : ByteArray) (a1 : Int) : Option Int := e k a0 a1
end strings_IndexByte

namespace tokens_sign
def e (k : Nat) (a0 : Int) : Option Bool :=
 (Option.bind (tokens_letter.f k a0) fun r1 =>
  (bif r1 then
   (some true)
  else
   (Option.bind (tokens_digit.f k a0) fun r2 =>
    (bif r2 then
     (some true)
    else
     (Option.bind (strings_IndexByte.f k str_f2394d253c a0) fun r3 =>
      (some (decide (r3 ≥ (0 : Int)))))))))
def f (k : Nat) (a0 : Int) : Option Bool := e k a0
end tokens_sign

namespace tokens_ends
abbrev Q0 : Type := R5d → ByteArray → Int → Int → Int → Option R5d
def e7 (k : Nat) (_q7 q11 : Q0) (b0 : R5d) (b1 : ByteArray) (b2 b3 b4 : Int) : Option R5d :=
 (bif (decide (b4 < (b1.size : Int))) then
  (bif (decide (0 ≤ b4) && decide (b4 < (b1.size : Int))) then
   (Option.bind (tokens_sign.f k (btI b1 b4)) fun r1 =>
    (bif r1 then
     (Option.bind (tokens_bad.f k (0 : Int)) fun r2 =>
      (some r2))
    else
     q11 b0 b1 b2 b3 b4))
  else
   none)
 else
  q11 b0 b1 b2 b3 b4)
def e11 (_k : Nat) (_q7 _q11 : Q0) (_b0 : R5d) (b1 : ByteArray) (b2 b3 b4 : Int) : Option R5d :=
 (bif (decide (0 ≤ b3) && decide (b3 ≤ b4) && decide (b4 ≤ (b1.size : Int))) then
  (some (b2, b4, (b1.extract (Int.toNat b3) (Int.toNat b4)), false, (0 : Int)))
 else
  none)
def e (_k : Nat) (q7 _q11 : Q0) (a0 : ByteArray) (a1 : Bool) (a2 a3 a4 : Int) : Option R5d :=
 (bif (decide (a4 = (a0.size : Int))) then
  (bif (!a1) then
   (some ((0 : Int), (0 : Int), (ByteArray.mk #[]), true, (0 : Int)))
  else
   q7 ((0 : Int), (0 : Int), (ByteArray.mk #[]), false, (0 : Int)) a0 a2 a3 a4)
 else
  q7 ((0 : Int), (0 : Int), (ByteArray.mk #[]), false, (0 : Int)) a0 a2 a3 a4)
def pts : Nat → (Q0) × (Q0)
 | 0 => (fun _ _ _ _ _ => none, fun _ _ _ _ _ => none)
 | k + 1 => (e7 k (pts k).1 (pts k).2, e11 k (pts k).1 (pts k).2)
def p7 (k : Nat) : Q0 := (pts k).1
def p11 (k : Nat) : Q0 := (pts k).2
theorem p7_succ (k : Nat) (x0 : R5d) (x1 : ByteArray) (x2 x3 x4 : Int) : p7 (k + 1) x0 x1 x2 x3 x4 = e7 k (p7 k) (p11 k) x0 x1 x2 x3 x4 := rfl
theorem p11_succ (k : Nat) (x0 : R5d) (x1 : ByteArray) (x2 x3 x4 : Int) : p11 (k + 1) x0 x1 x2 x3 x4 = e11 k (p7 k) (p11 k) x0 x1 x2 x3 x4 := rfl
def f (k : Nat) (a0 : ByteArray) (a1 : Bool) (a2 a3 a4 : Int) : Option R5d := e k (p7 k) (p11 k) a0 a1 a2 a3 a4
end tokens_ends

namespace tokens_run_hex
abbrev Q0 : Type := ByteArray → Int → Option Int
abbrev Q1 : Type := Int → Option Int
def e0 (k : Nat) (q0 : Q0) (q9 : Q1) (b0 : ByteArray) (b1 : Int) : Option Int :=
 (bif (decide (b1 < (b0.size : Int))) then
  (bif (decide (0 ≤ b1) && decide (b1 < (b0.size : Int))) then
   (Option.bind (tokens_hex.f k (btI b0 b1)) fun r1 =>
    (bif r1 then
     q0 b0 (IntKind.i64.wrap (b1 + (1 : Int)))
    else
     q9 b1))
  else
   none)
 else
  q9 b1)
def e9 (_k : Nat) (_q0 : Q0) (_q9 : Q1) (b0 : Int) : Option Int :=
 (some b0)
def e (_k : Nat) (q0 : Q0) (_q9 : Q1) (a0 : ByteArray) (_a1 : Unit) : Option Int :=
 q0 a0 (0 : Int)
def pts : Nat → (Q0) × (Q1)
 | 0 => (fun _ _ => none, fun _ => none)
 | k + 1 => (e0 k (pts k).1 (pts k).2, e9 k (pts k).1 (pts k).2)
def p0 (k : Nat) : Q0 := (pts k).1
def p9 (k : Nat) : Q1 := (pts k).2
def f (k : Nat) (a0 : ByteArray) (a1 : Unit) : Option Int := e k (p0 k) (p9 k) a0 a1
end tokens_run_hex

namespace tokens_run_two
abbrev Q0 : Type := ByteArray → Int → Option Int
abbrev Q1 : Type := Int → Option Int
def e0 (k : Nat) (q0 : Q0) (q9 : Q1) (b0 : ByteArray) (b1 : Int) : Option Int :=
 (bif (decide (b1 < (b0.size : Int))) then
  (bif (decide (0 ≤ b1) && decide (b1 < (b0.size : Int))) then
   (Option.bind (tokens_two.f k (btI b0 b1)) fun r1 =>
    (bif r1 then
     q0 b0 (IntKind.i64.wrap (b1 + (1 : Int)))
    else
     q9 b1))
  else
   none)
 else
  q9 b1)
def e9 (_k : Nat) (_q0 : Q0) (_q9 : Q1) (b0 : Int) : Option Int :=
 (some b0)
def e (_k : Nat) (q0 : Q0) (_q9 : Q1) (a0 : ByteArray) (_a1 : Unit) : Option Int :=
 q0 a0 (0 : Int)
def pts : Nat → (Q0) × (Q1)
 | 0 => (fun _ _ => none, fun _ => none)
 | k + 1 => (e0 k (pts k).1 (pts k).2, e9 k (pts k).1 (pts k).2)
def p0 (k : Nat) : Q0 := (pts k).1
def p9 (k : Nat) : Q1 := (pts k).2
def f (k : Nat) (a0 : ByteArray) (a1 : Unit) : Option Int := e k (p0 k) (p9 k) a0 a1
end tokens_run_two

namespace tokens_sharp
abbrev Q0 : Type := R5d → ByteArray → Bool → Int → Int → Option R5d
abbrev Q1 : Type := R5d → Option R5d
def e25 (k : Nat) (_q25 : Q0) (q31 : Q1) (b0 : R5d) (b1 : ByteArray) (b2 : Bool) (b3 b4 : Int) : Option R5d :=
 (bif (decide (b4 = (0 : Int))) then
  (bif (decide ((b1.size : Int) = (2 : Int))) then
   (bif (!b2) then
    (some ((0 : Int), (0 : Int), (ByteArray.mk #[]), true, (0 : Int)))
   else
    q31 b0)
  else
   q31 b0)
 else
  (Option.bind (tokens_ends.f k b1 b2 b3 (2 : Int) (IntKind.i64.wrap ((2 : Int) + b4))) fun r5 =>
   (some r5)))
def e31 (k : Nat) (_q25 : Q0) (_q31 : Q1) (_b0 : R5d) : Option R5d :=
 (Option.bind (tokens_bad.f k (0 : Int)) fun r6 =>
  (some r6))
def e (k : Nat) (q25 : Q0) (_q31 : Q1) (a0 : ByteArray) (a1 : Bool) : Option R5d :=
 (bif (decide ((a0.size : Int) = (1 : Int))) then
  (bif a1 then
   (Option.bind (tokens_bad.f k (0 : Int)) fun r1 =>
    (some r1))
  else
   (some ((0 : Int), (0 : Int), (ByteArray.mk #[]), true, (0 : Int))))
 else
  (bif (decide ((1 : Int) < (a0.size : Int))) then
   (bif (decide ((btI a0 (1 : Int)) = (120 : Int))) then
    (bif (decide (0 ≤ (2 : Int)) && decide ((2 : Int) ≤ (a0.size : Int)) && decide ((a0.size : Int) ≤ (a0.size : Int))) then
     (Option.bind (tokens_run_hex.f k (a0.extract (Int.toNat (2 : Int)) (Int.toNat (a0.size : Int))) ()) fun r2 =>
      q25 ((0 : Int), (0 : Int), (ByteArray.mk #[]), false, (0 : Int)) a0 a1 (7 : Int) r2)
    else
     none)
   else
    (bif (decide ((btI a0 (1 : Int)) = (98 : Int))) then
     (bif (decide (0 ≤ (2 : Int)) && decide ((2 : Int) ≤ (a0.size : Int)) && decide ((a0.size : Int) ≤ (a0.size : Int))) then
      (Option.bind (tokens_run_two.f k (a0.extract (Int.toNat (2 : Int)) (Int.toNat (a0.size : Int))) ()) fun r3 =>
       q25 ((0 : Int), (0 : Int), (ByteArray.mk #[]), false, (0 : Int)) a0 a1 (8 : Int) r3)
     else
      none)
    else
     (Option.bind (tokens_bad.f k (0 : Int)) fun r4 =>
      (some r4))))
  else
   none))
def pts : Nat → (Q0) × (Q1)
 | 0 => (fun _ _ _ _ _ => none, fun _ => none)
 | k + 1 => (e25 k (pts k).1 (pts k).2, e31 k (pts k).1 (pts k).2)
def p25 (k : Nat) : Q0 := (pts k).1
def p31 (k : Nat) : Q1 := (pts k).2
theorem p25_succ (k : Nat) (x0 : R5d) (x1 : ByteArray) (x2 : Bool) (x3 x4 : Int) : p25 (k + 1) x0 x1 x2 x3 x4 = e25 k (p25 k) (p31 k) x0 x1 x2 x3 x4 := rfl
theorem p31_succ (k : Nat) (x0 : R5d) : p31 (k + 1) x0 = e31 k (p25 k) (p31 k) x0 := rfl
def f (k : Nat) (a0 : ByteArray) (a1 : Bool) : Option R5d := e k (p25 k) (p31 k) a0 a1
end tokens_sharp

namespace tokens_run_sign
abbrev Q0 : Type := ByteArray → Int → Option Int
abbrev Q1 : Type := Int → Option Int
def e0 (k : Nat) (q0 : Q0) (q9 : Q1) (b0 : ByteArray) (b1 : Int) : Option Int :=
 (bif (decide (b1 < (b0.size : Int))) then
  (bif (decide (0 ≤ b1) && decide (b1 < (b0.size : Int))) then
   (Option.bind (tokens_sign.f k (btI b0 b1)) fun r1 =>
    (bif r1 then
     q0 b0 (IntKind.i64.wrap (b1 + (1 : Int)))
    else
     q9 b1))
  else
   none)
 else
  q9 b1)
def e9 (_k : Nat) (_q0 : Q0) (_q9 : Q1) (b0 : Int) : Option Int :=
 (some b0)
def e (_k : Nat) (q0 : Q0) (_q9 : Q1) (a0 : ByteArray) (_a1 : Unit) : Option Int :=
 q0 a0 (0 : Int)
def pts : Nat → (Q0) × (Q1)
 | 0 => (fun _ _ => none, fun _ => none)
 | k + 1 => (e0 k (pts k).1 (pts k).2, e9 k (pts k).1 (pts k).2)
def p0 (k : Nat) : Q0 := (pts k).1
def p9 (k : Nat) : Q1 := (pts k).2
def f (k : Nat) (a0 : ByteArray) (a1 : Unit) : Option Int := e k (p0 k) (p9 k) a0 a1
end tokens_run_sign

namespace tokens_word
abbrev Q0 : Type := R5d → ByteArray → Bool → Int → Int → Int → Option R5d
abbrev Q1 : Type := R5d → ByteArray → Int → Int → Int → Option R5d
def e9 (_k : Nat) (_q9 : Q0) (q13 : Q1) (b0 : R5d) (b1 : ByteArray) (b2 : Bool) (b3 b4 b5 : Int) : Option R5d :=
 (bif (decide (b5 = (b1.size : Int))) then
  (bif (!b2) then
   (some ((0 : Int), (0 : Int), (ByteArray.mk #[]), true, (0 : Int)))
  else
   q13 b0 b1 b3 b4 b5)
 else
  q13 b0 b1 b3 b4 b5)
def e13 (k : Nat) (_q9 : Q0) (_q13 : Q1) (_b0 : R5d) (b1 : ByteArray) (b2 b3 b4 : Int) : Option R5d :=
 (bif (decide (b4 = b3)) then
  (Option.bind (tokens_bad.f k (0 : Int)) fun r4 =>
   (some r4))
 else
  (bif (decide (0 ≤ b3) && decide (b3 ≤ b4) && decide (b4 ≤ (b1.size : Int))) then
   (some (b2, b4, (b1.extract (Int.toNat b3) (Int.toNat b4)), false, (0 : Int)))
  else
   none))
def e (k : Nat) (q9 : Q0) (_q13 : Q1) (a0 : ByteArray) (a1 : Bool) (a2 a3 : Int) : Option R5d :=
 (bif (decide (0 ≤ a3) && decide (a3 ≤ (a0.size : Int)) && decide ((a0.size : Int) ≤ (a0.size : Int))) then
  (Option.bind (tokens_run_sign.f k (a0.extract (Int.toNat a3) (Int.toNat (a0.size : Int))) ()) fun r1 =>
   (bif (decide ((IntKind.i64.wrap (a3 + r1)) > a3)) then
    (bif (decide (0 ≤ a3) && decide (a3 < (a0.size : Int))) then
     (Option.bind (tokens_digit.f k (btI a0 a3)) fun r2 =>
      (bif r2 then
       (Option.bind (tokens_bad.f k (0 : Int)) fun r3 =>
        (some r3))
      else
       q9 ((0 : Int), (0 : Int), (ByteArray.mk #[]), false, (0 : Int)) a0 a1 a2 a3 (IntKind.i64.wrap (a3 + r1))))
    else
     none)
   else
    q9 ((0 : Int), (0 : Int), (ByteArray.mk #[]), false, (0 : Int)) a0 a1 a2 a3 (IntKind.i64.wrap (a3 + r1))))
 else
  none)
def pts : Nat → (Q0) × (Q1)
 | 0 => (fun _ _ _ _ _ _ => none, fun _ _ _ _ _ => none)
 | k + 1 => (e9 k (pts k).1 (pts k).2, e13 k (pts k).1 (pts k).2)
def p9 (k : Nat) : Q0 := (pts k).1
def p13 (k : Nat) : Q1 := (pts k).2
theorem p9_succ (k : Nat) (x0 : R5d) (x1 : ByteArray) (x2 : Bool) (x3 x4 x5 : Int) : p9 (k + 1) x0 x1 x2 x3 x4 x5 = e9 k (p9 k) (p13 k) x0 x1 x2 x3 x4 x5 := rfl
theorem p13_succ (k : Nat) (x0 : R5d) (x1 : ByteArray) (x2 x3 x4 : Int) : p13 (k + 1) x0 x1 x2 x3 x4 = e13 k (p9 k) (p13 k) x0 x1 x2 x3 x4 := rfl
def f (k : Nat) (a0 : ByteArray) (a1 : Bool) (a2 a3 : Int) : Option R5d := e k (p9 k) (p13 k) a0 a1 a2 a3
end tokens_word

namespace tokens_run_digit
abbrev Q0 : Type := ByteArray → Int → Option Int
abbrev Q1 : Type := Int → Option Int
def e0 (k : Nat) (q0 : Q0) (q9 : Q1) (b0 : ByteArray) (b1 : Int) : Option Int :=
 (bif (decide (b1 < (b0.size : Int))) then
  (bif (decide (0 ≤ b1) && decide (b1 < (b0.size : Int))) then
   (Option.bind (tokens_digit.f k (btI b0 b1)) fun r1 =>
    (bif r1 then
     q0 b0 (IntKind.i64.wrap (b1 + (1 : Int)))
    else
     q9 b1))
  else
   none)
 else
  q9 b1)
def e9 (_k : Nat) (_q0 : Q0) (_q9 : Q1) (b0 : Int) : Option Int :=
 (some b0)
def e (_k : Nat) (q0 : Q0) (_q9 : Q1) (a0 : ByteArray) (_a1 : Unit) : Option Int :=
 q0 a0 (0 : Int)
def pts : Nat → (Q0) × (Q1)
 | 0 => (fun _ _ => none, fun _ => none)
 | k + 1 => (e0 k (pts k).1 (pts k).2, e9 k (pts k).1 (pts k).2)
def p0 (k : Nat) : Q0 := (pts k).1
def p9 (k : Nat) : Q1 := (pts k).2
def f (k : Nat) (a0 : ByteArray) (a1 : Unit) : Option Int := e k (p0 k) (p9 k) a0 a1
end tokens_run_digit

namespace tokens_number
abbrev Q0 : Type := R5d → ByteArray → Bool → Int → Option R5d
abbrev Q1 : Type := R5d → Option R5d
def e9 (k : Nat) (_q9 q11 : Q0) (q21 : Q1) (b0 : R5d) (b1 : ByteArray) (b2 : Bool) (b3 : Int) : Option R5d :=
 (bif (decide (b3 = (b1.size : Int))) then
  q11 b0 b1 b2 b3
 else
  (bif (decide (0 ≤ b3) && decide (b3 < (b1.size : Int))) then
   (bif (!decide ((btI b1 b3) = (46 : Int))) then
    q11 b0 b1 b2 b3
   else
    (bif (decide (0 ≤ (IntKind.i64.wrap (b3 + (1 : Int)))) && decide ((IntKind.i64.wrap (b3 + (1 : Int))) ≤ (b1.size : Int)) && decide ((b1.size : Int) ≤ (b1.size : Int))) then
     (Option.bind (tokens_run_digit.f k (b1.extract (Int.toNat (IntKind.i64.wrap (b3 + (1 : Int)))) (Int.toNat (b1.size : Int))) ()) fun r3 =>
      (bif (decide (r3 = (0 : Int))) then
       (bif (decide ((IntKind.i64.wrap (b3 + (1 : Int))) = (b1.size : Int))) then
        (bif (!b2) then
         (some ((0 : Int), (0 : Int), (ByteArray.mk #[]), true, (0 : Int)))
        else
         q21 b0)
       else
        q21 b0)
      else
       (Option.bind (tokens_ends.f k b1 b2 (6 : Int) (0 : Int) (IntKind.i64.wrap ((IntKind.i64.wrap (b3 + (1 : Int))) + r3))) fun r4 =>
        (some r4))))
    else
     none))
  else
   none))
def e11 (k : Nat) (_q9 _q11 : Q0) (_q21 : Q1) (_b0 : R5d) (b1 : ByteArray) (b2 : Bool) (b3 : Int) : Option R5d :=
 (Option.bind (tokens_ends.f k b1 b2 (5 : Int) (0 : Int) b3) fun r5 =>
  (some r5))
def e21 (k : Nat) (_q9 _q11 : Q0) (_q21 : Q1) (_b0 : R5d) : Option R5d :=
 (Option.bind (tokens_bad.f k (0 : Int)) fun r6 =>
  (some r6))
def e (k : Nat) (q9 _q11 : Q0) (_q21 : Q1) (a0 : ByteArray) (a1 : Bool) : Option R5d :=
 (Option.bind (tokens_run_digit.f k a0 ()) fun r1 =>
  (bif (decide (r1 > (1 : Int))) then
   (bif (decide ((0 : Int) < (a0.size : Int))) then
    (bif (decide ((btI a0 (0 : Int)) = (48 : Int))) then
     (Option.bind (tokens_bad.f k (0 : Int)) fun r2 =>
      (some r2))
    else
     q9 ((0 : Int), (0 : Int), (ByteArray.mk #[]), false, (0 : Int)) a0 a1 r1)
   else
    none)
  else
   q9 ((0 : Int), (0 : Int), (ByteArray.mk #[]), false, (0 : Int)) a0 a1 r1))
def pts : Nat → (Q0) × (Q0) × (Q1)
 | 0 => (fun _ _ _ _ => none, fun _ _ _ _ => none, fun _ => none)
 | k + 1 => (e9 k (pts k).1 (pts k).2.1 (pts k).2.2, e11 k (pts k).1 (pts k).2.1 (pts k).2.2, e21 k (pts k).1 (pts k).2.1 (pts k).2.2)
def p9 (k : Nat) : Q0 := (pts k).1
def p11 (k : Nat) : Q0 := (pts k).2.1
def p21 (k : Nat) : Q1 := (pts k).2.2
theorem p9_succ (k : Nat) (x0 : R5d) (x1 : ByteArray) (x2 : Bool) (x3 : Int) : p9 (k + 1) x0 x1 x2 x3 = e9 k (p9 k) (p11 k) (p21 k) x0 x1 x2 x3 := rfl
theorem p11_succ (k : Nat) (x0 : R5d) (x1 : ByteArray) (x2 : Bool) (x3 : Int) : p11 (k + 1) x0 x1 x2 x3 = e11 k (p9 k) (p11 k) (p21 k) x0 x1 x2 x3 := rfl
theorem p21_succ (k : Nat) (x0 : R5d) : p21 (k + 1) x0 = e21 k (p9 k) (p11 k) (p21 k) x0 := rfl
def f (k : Nat) (a0 : ByteArray) (a1 : Bool) : Option R5d := e k (p9 k) (p11 k) (p21 k) a0 a1
end tokens_number

namespace tokens_front
def e (k : Nat) (a0 : ByteArray) (a1 : Bool) : Option R5d :=
 (bif (decide ((0 : Int) < (a0.size : Int))) then
  (bif (decide ((btI a0 (0 : Int)) = (40 : Int))) then
   (some ((1 : Int), (1 : Int), (ByteArray.mk #[40]), false, (0 : Int)))
  else
   (bif (decide ((btI a0 (0 : Int)) = (41 : Int))) then
    (some ((2 : Int), (1 : Int), (ByteArray.mk #[41]), false, (0 : Int)))
   else
    (bif (decide ((btI a0 (0 : Int)) = (124 : Int))) then
     (Option.bind (tokens_bars.f k a0) fun r1 =>
      (some r1))
    else
     (bif (decide ((btI a0 (0 : Int)) = (34 : Int))) then
      (Option.bind (tokens_text.f k a0 a1) fun r2 =>
       (some r2))
     else
      (bif (decide ((btI a0 (0 : Int)) = (35 : Int))) then
       (Option.bind (tokens_sharp.f k a0 a1) fun r3 =>
        (some r3))
      else
       (bif (decide ((btI a0 (0 : Int)) = (58 : Int))) then
        (Option.bind (tokens_word.f k a0 a1 (4 : Int) (1 : Int)) fun r4 =>
         (some r4))
       else
        (Option.bind (tokens_digit.f k (btI a0 (0 : Int))) fun r5 =>
         (bif r5 then
          (Option.bind (tokens_number.f k a0 a1) fun r6 =>
           (some r6))
         else
          (Option.bind (tokens_sign.f k (btI a0 (0 : Int))) fun r7 =>
           (bif r7 then
            (Option.bind (tokens_word.f k a0 a1 (3 : Int) (0 : Int)) fun r8 =>
             (some r8))
           else
            (Option.bind (tokens_bad.f k (0 : Int)) fun r9 =>
             (some r9))))))))))))
 else
  none)
def f (k : Nat) (a0 : ByteArray) (a1 : Bool) : Option R5d := e k a0 a1
end tokens_front

namespace stringslite_Clone
def f (_k : Nat) (a0 : ByteArray) : Option ByteArray := bif decide (a0.size ≤ 281474976710656) then some a0 else none
end stringslite_Clone

namespace strings_Clone
def e (k : Nat) (a0 : ByteArray) : Option ByteArray :=
 (Option.bind (stringslite_Clone.f k a0) fun r1 =>
  (some r1))
def f (k : Nat) (a0 : ByteArray) : Option ByteArray := e k a0
end strings_Clone

namespace tokens_Scanner_tell
abbrev Q0 : Type := SCD → (List TokD) → Bool → Option (SCD × (List TokD) × Int)
abbrev Q1 : Type := SCD → (List TokD) → R5d → Bool → Option (SCD × (List TokD) × Int)
abbrev Q2 : Type := SCD → (List TokD) → R5d → Option (SCD × (List TokD) × Int)
def e0 (k : Nat) (_q0 : Q0) (q17 : Q1) (_q19 : Q2) (b0 : SCD) (b1 : (List TokD)) (b2 : Bool) : Option (SCD × (List TokD) × Int) :=
 (bif (!(b0.2.1.toList == (ByteArray.mk #[]).toList)) then
  (Option.bind (tokens_front.f k b0.2.1 b2) fun r2 =>
   (bif r2.2.2.2.1 then
    (bif (!b2) then
     (some (b0, b1, (0 : Int)))
    else
     q17 b0 b1 r2 b2)
   else
    q17 b0 b1 r2 b2))
 else
  (some (b0, b1, (0 : Int))))
def e17 (k : Nat) (q0 : Q0) (_q17 : Q1) (q19 : Q2) (b0 : SCD) (b1 : (List TokD)) (b2 : R5d) (b3 : Bool) : Option (SCD × (List TokD) × Int) :=
 (bif (!decide (b2.2.2.2.2 = (0 : Int))) then
  q19 b0 b1 b2
 else
  (bif b2.2.2.2.1 then
   q19 b0 b1 b2
  else
   (Option.bind (strings_Clone.f k b2.2.2.1) fun r3 =>
    (bif (Nat.ble ((b1.length + [(b2.1, r3, b0.2.2.2.1.2.2.1, (IntKind.i64.wrap (b0.2.2.2.1.2.2.1 + b2.2.1)), b0.2.2.2.1.2.2.2.2.1, b0.2.2.2.1.2.2.2.2.2)].length) * 56) 140737488355328 && Nat.ble (b1.length + [(b2.1, r3, b0.2.2.2.1.2.2.1, (IntKind.i64.wrap (b0.2.2.2.1.2.2.1 + b2.2.1)), b0.2.2.2.1.2.2.2.2.1, b0.2.2.2.1.2.2.2.2.2)].length) 9223372036854775807) then
     (Option.bind (tokens_Scanner_pass.f k b0 b2.2.1) fun r4 =>
      (Option.bind (tokens_Scanner_skip.f k r4) fun r5 =>
       q0 r5 (b1 ++ [(b2.1, r3, b0.2.2.2.1.2.2.1, (IntKind.i64.wrap (b0.2.2.2.1.2.2.1 + b2.2.1)), b0.2.2.2.1.2.2.2.2.1, b0.2.2.2.1.2.2.2.2.2)]) b3))
    else
     none))))
def e19 (k : Nat) (_q0 : Q0) (_q17 : Q1) (_q19 : Q2) (b0 : SCD) (b1 : (List TokD)) (b2 : R5d) : Option (SCD × (List TokD) × Int) :=
 (Option.bind (tokens_Scanner_pass.f k b0 b2.2.1) fun r6 =>
  (some (((3 : Int), r6.2.1, r6.2.2.1, r6.2.2.2.1, b2.2.2.2.2), b1, b2.2.2.2.2)))
def e (k : Nat) (q0 : Q0) (_q17 : Q1) (_q19 : Q2) (a0 : SCD) (a1 : Bool) : Option (SCD × (List TokD) × Int) :=
 (Option.bind (tokens_Scanner_skip.f k a0) fun r1 =>
  q0 r1 ([] : List TokD) a1)
def pts : Nat → (Q0) × (Q1) × (Q2)
 | 0 => (fun _ _ _ => none, fun _ _ _ _ => none, fun _ _ _ => none)
 | k + 1 => (e0 k (pts k).1 (pts k).2.1 (pts k).2.2, e17 k (pts k).1 (pts k).2.1 (pts k).2.2, e19 k (pts k).1 (pts k).2.1 (pts k).2.2)
def p0 (k : Nat) : Q0 := (pts k).1
def p17 (k : Nat) : Q1 := (pts k).2.1
def p19 (k : Nat) : Q2 := (pts k).2.2
theorem p0_succ (k : Nat) (x0 : SCD) (x1 : (List TokD)) (x2 : Bool) : p0 (k + 1) x0 x1 x2 = e0 k (p0 k) (p17 k) (p19 k) x0 x1 x2 := rfl
theorem p17_succ (k : Nat) (x0 : SCD) (x1 : (List TokD)) (x2 : R5d) (x3 : Bool) : p17 (k + 1) x0 x1 x2 x3 = e17 k (p0 k) (p17 k) (p19 k) x0 x1 x2 x3 := rfl
theorem p19_succ (k : Nat) (x0 : SCD) (x1 : (List TokD)) (x2 : R5d) : p19 (k + 1) x0 x1 x2 = e19 k (p0 k) (p17 k) (p19 k) x0 x1 x2 := rfl
def f (k : Nat) (a0 : SCD) (a1 : Bool) : Option (SCD × (List TokD) × Int) := e k (p0 k) (p17 k) (p19 k) a0 a1
end tokens_Scanner_tell

namespace tokens_Scanner_Feed
def e (k : Nat) (a0 : SCD) (a1 : ByteArray) : Option (SCD × (List TokD) × Int) :=
 (Option.bind (tokens_Scanner_answers.f k a0) fun r1 =>
  (bif r1.2.2 then
   (some (r1.1, ([] : List TokD), r1.2.1))
  else
   (bif (decide (((r1.1.2.1.size + a1.size : Nat) : Int) > IntKind.i64.max)) then
    none
   else
    (Option.bind (tokens_Scanner_tell.f k (r1.1.1, (r1.1.2.1 ++ a1), r1.1.2.2.1, r1.1.2.2.2.1, r1.1.2.2.2.2) false) fun r2 =>
     (some (r2.1, r2.2.1, r2.2.2))))))
def f (k : Nat) (a0 : SCD) (a1 : ByteArray) : Option (SCD × (List TokD) × Int) := e k a0 a1
end tokens_Scanner_Feed

namespace tokens_Scanner_At
def e (k : Nat) (a0 : SCD) : Option (SCD × TokD) :=
 (bif (decide (a0.1 = (0 : Int))) then
  (Option.bind (tokens_begin.f k ()) fun r1 =>
   (some (a0, r1)))
 else
  (some (a0, a0.2.2.2.1)))
def f (k : Nat) (a0 : SCD) : Option (SCD × TokD) := e k a0
end tokens_Scanner_At

namespace tokens_Scanner_End
def e15 (_k : Nat) (_q15 : SCD → (List TokD) → Int → Option (SCD × (List TokD) × Int)) (b0 : SCD) (b1 : (List TokD)) (b2 : Int) : Option (SCD × (List TokD) × Int) :=
 (some (b0, b1, b2))
def e (k : Nat) (q15 : SCD → (List TokD) → Int → Option (SCD × (List TokD) × Int)) (a0 : SCD) : Option (SCD × (List TokD) × Int) :=
 (Option.bind (tokens_Scanner_answers.f k a0) fun r1 =>
  (bif r1.2.2 then
   (some (r1.1, ([] : List TokD), r1.2.1))
  else
   (Option.bind (tokens_Scanner_tell.f k r1.1 true) fun r2 =>
    (bif (decide (r2.2.2 = (0 : Int))) then
     q15 ((2 : Int), r2.1.2.1, r2.1.2.2.1, r2.1.2.2.2.1, r2.1.2.2.2.2) r2.2.1 r2.2.2
    else
     q15 r2.1 r2.2.1 r2.2.2))))
def pts : Nat → (SCD → (List TokD) → Int → Option (SCD × (List TokD) × Int))
 | 0 => fun _ _ _ => none
 | k + 1 => e15 k (pts k)
def p15 (k : Nat) : SCD → (List TokD) → Int → Option (SCD × (List TokD) × Int) := (pts k)
theorem p15_succ (k : Nat) (x0 : SCD) (x1 : (List TokD)) (x2 : Int) : p15 (k + 1) x0 x1 x2 = e15 k (p15 k) x0 x1 x2 := rfl
def f (k : Nat) (a0 : SCD) : Option (SCD × (List TokD) × Int) := e k (p15 k) a0
end tokens_Scanner_End

namespace sexpr_Read
def f (k : Nat) (a0 : ByteArray) : Option ((List (TokD × List NodeD)) × Int × Int) := (readF (tokens_New.f k ()) (fun x s => tokens_Scanner_Feed.f k x s) (fun x => tokens_Scanner_End.f k x) (fun x => tokens_Scanner_At.f k x) a0).map fun r => (r.1.map NodeD.un, r.2.1, r.2.2)
end sexpr_Read

namespace ref12_blank
def e (_k : Nat) (a0 : Int) : Option Bool :=
 (bif (decide (a0 = (9 : Int))) then
  (some true)
 else
  (bif (decide (a0 = (10 : Int))) then
   (some true)
  else
   (bif (decide (a0 = (13 : Int))) then
    (some true)
   else
    (some (decide (a0 = (32 : Int)))))))
def f (k : Nat) (a0 : Int) : Option Bool := e k a0
end ref12_blank

namespace ref12_gap
abbrev Q0 : Type := ByteArray → Int → Option Int
def e0 (k : Nat) (q0 q4 : Q0) (b0 : ByteArray) (b1 : Int) : Option Int :=
 (bif (decide (b1 < (b0.size : Int))) then
  (bif (decide (0 ≤ b1) && decide (b1 < (b0.size : Int))) then
   (Option.bind (ref12_blank.f k (btI b0 b1)) fun r1 =>
    (bif r1 then
     q0 b0 (IntKind.i64.wrap (b1 + (1 : Int)))
    else
     (bif (decide (0 ≤ b1) && decide (b1 < (b0.size : Int))) then
      (bif (!decide ((btI b0 b1) = (59 : Int))) then
       (some b1)
      else
       q4 b0 b1)
     else
      none)))
  else
   none)
 else
  (some b1))
def e4 (_k : Nat) (q0 q4 : Q0) (b0 : ByteArray) (b1 : Int) : Option Int :=
 (bif (decide (b1 < (b0.size : Int))) then
  (bif (decide (0 ≤ b1) && decide (b1 < (b0.size : Int))) then
   (bif (!decide ((btI b0 b1) = (10 : Int))) then
    (bif (decide (0 ≤ b1) && decide (b1 < (b0.size : Int))) then
     (bif (!decide ((btI b0 b1) = (13 : Int))) then
      q4 b0 (IntKind.i64.wrap (b1 + (1 : Int)))
     else
      q0 b0 b1)
    else
     none)
   else
    q0 b0 b1)
  else
   none)
 else
  q0 b0 b1)
def e (_k : Nat) (q0 _q4 : Q0) (a0 : ByteArray) (a1 : Int) : Option Int :=
 q0 a0 a1
def pts : Nat → (Q0) × (Q0)
 | 0 => (fun _ _ => none, fun _ _ => none)
 | k + 1 => (e0 k (pts k).1 (pts k).2, e4 k (pts k).1 (pts k).2)
def p0 (k : Nat) : Q0 := (pts k).1
def p4 (k : Nat) : Q0 := (pts k).2
theorem p0_succ (k : Nat) (x0 : ByteArray) (x1 : Int) : p0 (k + 1) x0 x1 = e0 k (p0 k) (p4 k) x0 x1 := rfl
theorem p4_succ (k : Nat) (x0 : ByteArray) (x1 : Int) : p4 (k + 1) x0 x1 = e4 k (p0 k) (p4 k) x0 x1 := rfl
def f (k : Nat) (a0 : ByteArray) (a1 : Int) : Option Int := e k (p0 k) (p4 k) a0 a1
end ref12_gap

namespace ref12_unless
def e7 (_k : Nat) (_q7 : SEd → Int → ByteArray → Int → Option SEd) (_b0 : SEd) (b1 : Int) (b2 : ByteArray) (b3 : Int) : Option SEd :=
 (some ((0 : Int), b1, b2, b3, (0 : Int), (0 : Int)))
def e (_k : Nat) (q7 : SEd → Int → ByteArray → Int → Option SEd) (a0 : Int) (a1 : ByteArray) (a2 : Int) (a3 a4 : Bool) : Option SEd :=
 (bif a3 then
  (bif (!a4) then
   (some ((1 : Int), (0 : Int), (ByteArray.mk #[]), (0 : Int), (0 : Int), (0 : Int)))
  else
   q7 ((0 : Int), (0 : Int), (ByteArray.mk #[]), (0 : Int), (0 : Int), (0 : Int)) a0 a1 a2)
 else
  q7 ((0 : Int), (0 : Int), (ByteArray.mk #[]), (0 : Int), (0 : Int), (0 : Int)) a0 a1 a2)
def pts : Nat → (SEd → Int → ByteArray → Int → Option SEd)
 | 0 => fun _ _ _ _ => none
 | k + 1 => e7 k (pts k)
def p7 (k : Nat) : SEd → Int → ByteArray → Int → Option SEd := (pts k)
theorem p7_succ (k : Nat) (x0 : SEd) (x1 : Int) (x2 : ByteArray) (x3 : Int) : p7 (k + 1) x0 x1 x2 x3 = e7 k (p7 k) x0 x1 x2 x3 := rfl
def f (k : Nat) (a0 : Int) (a1 : ByteArray) (a2 : Int) (a3 a4 : Bool) : Option SEd := e k (p7 k) a0 a1 a2 a3 a4
end ref12_unless

namespace ref12_quotable
def e (k : Nat) (a0 : Int) : Option Bool :=
 (Option.bind (ref12_blank.f k a0) fun r1 =>
  (bif r1 then
   (some true)
  else
   (bif (decide (a0 > (32 : Int))) then
    (bif (decide (a0 < (127 : Int))) then
     (some true)
    else
     (some (decide (a0 ≥ (128 : Int)))))
   else
    (some (decide (a0 ≥ (128 : Int)))))))
def f (k : Nat) (a0 : Int) : Option Bool := e k a0
end ref12_quotable

namespace ref12_bad
def e (_k : Nat) (a0 : Int) : Option SEd :=
 (some ((2 : Int), (0 : Int), (ByteArray.mk #[]), (0 : Int), (120 : Int), a0))
def f (k : Nat) (a0 : Int) : Option SEd := e k a0
end ref12_bad

namespace ref12_quoted
abbrev Q0 : Type := SEd → LX → ByteArray → Int → Bool → Int → Option SEd
abbrev Q1 : Type := SEd → LX → ByteArray → Bool → Int → Option SEd
def e0 (k : Nat) (q0 : Q0) (q17 : Q1) (b0 : SEd) (b1 : LX) (b2 : ByteArray) (b3 : Int) (b4 : Bool) (b5 : Int) : Option SEd :=
 (bif (decide (b5 < (b2.size : Int))) then
  (bif (decide (0 ≤ b5) && decide (b5 < (b2.size : Int))) then
   (bif (decide ((btI b2 b5) = (34 : Int))) then
    (bif (decide ((IntKind.i64.wrap (b5 + (1 : Int))) < (b2.size : Int))) then
     (bif (decide (0 ≤ (IntKind.i64.wrap (b5 + (1 : Int)))) && decide ((IntKind.i64.wrap (b5 + (1 : Int))) < (b2.size : Int))) then
      (bif (decide ((btI b2 (IntKind.i64.wrap (b5 + (1 : Int)))) = (34 : Int))) then
       (bif (Nat.ble ((b1.length + [(34 : Int)].length) * 1) 140737488355328 && Nat.ble (b1.length + [(34 : Int)].length) 9223372036854775807) then
        q0 b0 (b1 ++ [(34 : Int)]) b2 b3 b4 (IntKind.i64.wrap (b5 + (2 : Int)))
       else
        none)
      else
       q17 b0 b1 b2 b4 b5)
     else
      none)
    else
     q17 b0 b1 b2 b4 b5)
   else
    (bif (decide (0 ≤ b5) && decide (b5 < (b2.size : Int))) then
     (Option.bind (ref12_quotable.f k (btI b2 b5)) fun r1 =>
      (bif (!r1) then
       (Option.bind (ref12_bad.f k b5) fun r2 =>
        (some r2))
      else
       (bif (decide (0 ≤ b5) && decide (b5 < (b2.size : Int))) then
        (bif (Nat.ble ((b1.length + [(btI b2 b5)].length) * 1) 140737488355328 && Nat.ble (b1.length + [(btI b2 b5)].length) 9223372036854775807) then
         q0 b0 (b1 ++ [(btI b2 b5)]) b2 b3 b4 (IntKind.i64.wrap (b5 + (1 : Int)))
        else
         none)
       else
        none)))
    else
     none))
  else
   none)
 else
  (bif b4 then
   (some ((2 : Int), (0 : Int), (ByteArray.mk #[]), (0 : Int), (121 : Int), b3))
  else
   (some ((1 : Int), (0 : Int), (ByteArray.mk #[]), (0 : Int), (0 : Int), (0 : Int)))))
def e17 (k : Nat) (_q0 : Q0) (_q17 : Q1) (_b0 : SEd) (b1 : LX) (b2 : ByteArray) (b3 : Bool) (b4 : Int) : Option SEd :=
 (Option.bind (ref12_unless.f k (9 : Int) (ofB b1) (IntKind.i64.wrap (b4 + (1 : Int))) (decide ((IntKind.i64.wrap (b4 + (1 : Int))) = (b2.size : Int))) b3) fun r3 =>
  (some r3))
def e (_k : Nat) (q0 : Q0) (_q17 : Q1) (a0 : ByteArray) (a1 : Int) (a2 : Bool) : Option SEd :=
 q0 ((0 : Int), (0 : Int), (ByteArray.mk #[]), (0 : Int), (0 : Int), (0 : Int)) ([] : List Int) a0 a1 a2 (IntKind.i64.wrap (a1 + (1 : Int)))
def pts : Nat → (Q0) × (Q1)
 | 0 => (fun _ _ _ _ _ _ => none, fun _ _ _ _ _ => none)
 | k + 1 => (e0 k (pts k).1 (pts k).2, e17 k (pts k).1 (pts k).2)
def p0 (k : Nat) : Q0 := (pts k).1
def p17 (k : Nat) : Q1 := (pts k).2
theorem p0_succ (k : Nat) (x0 : SEd) (x1 : LX) (x2 : ByteArray) (x3 : Int) (x4 : Bool) (x5 : Int) : p0 (k + 1) x0 x1 x2 x3 x4 x5 = e0 k (p0 k) (p17 k) x0 x1 x2 x3 x4 x5 := rfl
theorem p17_succ (k : Nat) (x0 : SEd) (x1 : LX) (x2 : ByteArray) (x3 : Bool) (x4 : Int) : p17 (k + 1) x0 x1 x2 x3 x4 = e17 k (p0 k) (p17 k) x0 x1 x2 x3 x4 := rfl
def f (k : Nat) (a0 : ByteArray) (a1 : Int) (a2 : Bool) : Option SEd := e k (p0 k) (p17 k) a0 a1 a2
end ref12_quoted

namespace ref12_barred
abbrev Q0 : Type := SEd → ByteArray → Int → Bool → Int → Option SEd
abbrev Q1 : Type := SEd → Int → Option SEd
def e0 (k : Nat) (q0 : Q0) (q15 : Q1) (b0 : SEd) (b1 : ByteArray) (b2 : Int) (b3 : Bool) (b4 : Int) : Option SEd :=
 (bif (decide (b4 < (b1.size : Int))) then
  (bif (decide (0 ≤ b4) && decide (b4 < (b1.size : Int))) then
   (bif (decide ((btI b1 b4) = (124 : Int))) then
    (bif (decide (0 ≤ (IntKind.i64.wrap (b2 + (1 : Int)))) && decide ((IntKind.i64.wrap (b2 + (1 : Int))) ≤ b4) && decide (b4 ≤ (b1.size : Int))) then
     (some ((0 : Int), (3 : Int), (b1.extract (Int.toNat (IntKind.i64.wrap (b2 + (1 : Int)))) (Int.toNat b4)), (IntKind.i64.wrap (b4 + (1 : Int))), (0 : Int), (0 : Int)))
    else
     none)
   else
    (bif (decide (0 ≤ b4) && decide (b4 < (b1.size : Int))) then
     (Option.bind (ref12_quotable.f k (btI b1 b4)) fun r1 =>
      (bif (!r1) then
       q15 b0 b4
      else
       (bif (decide (0 ≤ b4) && decide (b4 < (b1.size : Int))) then
        (bif (decide ((btI b1 b4) = (92 : Int))) then
         q15 b0 b4
        else
         q0 b0 b1 b2 b3 (IntKind.i64.wrap (b4 + (1 : Int))))
       else
        none)))
    else
     none))
  else
   none)
 else
  (bif b3 then
   (some ((2 : Int), (0 : Int), (ByteArray.mk #[]), (0 : Int), (121 : Int), b2))
  else
   (some ((1 : Int), (0 : Int), (ByteArray.mk #[]), (0 : Int), (0 : Int), (0 : Int)))))
def e15 (k : Nat) (_q0 : Q0) (_q15 : Q1) (_b0 : SEd) (b1 : Int) : Option SEd :=
 (Option.bind (ref12_bad.f k b1) fun r2 =>
  (some r2))
def e (_k : Nat) (q0 : Q0) (_q15 : Q1) (a0 : ByteArray) (a1 : Int) (a2 : Bool) : Option SEd :=
 q0 ((0 : Int), (0 : Int), (ByteArray.mk #[]), (0 : Int), (0 : Int), (0 : Int)) a0 a1 a2 (IntKind.i64.wrap (a1 + (1 : Int)))
def pts : Nat → (Q0) × (Q1)
 | 0 => (fun _ _ _ _ _ => none, fun _ _ => none)
 | k + 1 => (e0 k (pts k).1 (pts k).2, e15 k (pts k).1 (pts k).2)
def p0 (k : Nat) : Q0 := (pts k).1
def p15 (k : Nat) : Q1 := (pts k).2
theorem p0_succ (k : Nat) (x0 : SEd) (x1 : ByteArray) (x2 : Int) (x3 : Bool) (x4 : Int) : p0 (k + 1) x0 x1 x2 x3 x4 = e0 k (p0 k) (p15 k) x0 x1 x2 x3 x4 := rfl
theorem p15_succ (k : Nat) (x0 : SEd) (x1 : Int) : p15 (k + 1) x0 x1 = e15 k (p0 k) (p15 k) x0 x1 := rfl
def f (k : Nat) (a0 : ByteArray) (a1 : Int) (a2 : Bool) : Option SEd := e k (p0 k) (p15 k) a0 a1 a2
end ref12_barred

namespace ref12_letter
def e (_k : Nat) (a0 : Int) : Option Bool :=
 (bif (decide (a0 ≥ (97 : Int))) then
  (bif (decide (a0 ≤ (122 : Int))) then
   (some true)
  else
   (bif (decide (a0 ≥ (65 : Int))) then
    (some (decide (a0 ≤ (90 : Int))))
   else
    (some false)))
 else
  (bif (decide (a0 ≥ (65 : Int))) then
   (some (decide (a0 ≤ (90 : Int))))
  else
   (some false)))
def f (k : Nat) (a0 : Int) : Option Bool := e k a0
end ref12_letter

namespace ref12_digit
def e (_k : Nat) (a0 : Int) : Option Bool :=
 (bif (decide (a0 ≥ (48 : Int))) then
  (some (decide (a0 ≤ (57 : Int))))
 else
  (some false))
def f (k : Nat) (a0 : Int) : Option Bool := e k a0
end ref12_digit

namespace ref12_within
def e0 (_k : Nat) (q0 : Int → ByteArray → Int → Option Bool) (b0 : Int) (b1 : ByteArray) (b2 : Int) : Option Bool :=
 (bif (decide (b2 < (b1.size : Int))) then
  (bif (decide (0 ≤ b2) && decide (b2 < (b1.size : Int))) then
   (bif (decide ((btI b1 b2) = b0)) then
    (some true)
   else
    q0 b0 b1 (IntKind.i64.wrap (b2 + (1 : Int))))
  else
   none)
 else
  (some false))
def e (_k : Nat) (q0 : Int → ByteArray → Int → Option Bool) (a0 : Int) (a1 : ByteArray) : Option Bool :=
 q0 a0 a1 (0 : Int)
def pts : Nat → (Int → ByteArray → Int → Option Bool)
 | 0 => fun _ _ _ => none
 | k + 1 => e0 k (pts k)
def p0 (k : Nat) : Int → ByteArray → Int → Option Bool := (pts k)
theorem p0_succ (k : Nat) (x0 : Int) (x1 : ByteArray) (x2 : Int) : p0 (k + 1) x0 x1 x2 = e0 k (p0 k) x0 x1 x2 := rfl
def f (k : Nat) (a0 : Int) (a1 : ByteArray) : Option Bool := e k (p0 k) a0 a1
end ref12_within

namespace ref12_symbolByte
def e (k : Nat) (a0 : Int) : Option Bool :=
 (Option.bind (ref12_letter.f k a0) fun r1 =>
  (bif r1 then
   (some true)
  else
   (Option.bind (ref12_digit.f k a0) fun r2 =>
    (bif r2 then
     (some true)
    else
     (Option.bind (ref12_within.f k a0 str_f2394d253c) fun r3 =>
      (some r3))))))
def f (k : Nat) (a0 : Int) : Option Bool := e k a0
end ref12_symbolByte

namespace ref12_symbolEnd
abbrev Q0 : Type := ByteArray → Int → Option Int
abbrev Q1 : Type := Int → Option Int
def e0 (k : Nat) (q0 : Q0) (q7 : Q1) (b0 : ByteArray) (b1 : Int) : Option Int :=
 (bif (decide (b1 < (b0.size : Int))) then
  (bif (decide (0 ≤ b1) && decide (b1 < (b0.size : Int))) then
   (Option.bind (ref12_symbolByte.f k (btI b0 b1)) fun r1 =>
    (bif r1 then
     q0 b0 (IntKind.i64.wrap (b1 + (1 : Int)))
    else
     q7 b1))
  else
   none)
 else
  q7 b1)
def e7 (_k : Nat) (_q0 : Q0) (_q7 : Q1) (b0 : Int) : Option Int :=
 (some b0)
def e (_k : Nat) (q0 : Q0) (_q7 : Q1) (a0 : ByteArray) (a1 : Int) : Option Int :=
 q0 a0 a1
def pts : Nat → (Q0) × (Q1)
 | 0 => (fun _ _ => none, fun _ => none)
 | k + 1 => (e0 k (pts k).1 (pts k).2, e7 k (pts k).1 (pts k).2)
def p0 (k : Nat) : Q0 := (pts k).1
def p7 (k : Nat) : Q1 := (pts k).2
theorem p0_succ (k : Nat) (x0 : ByteArray) (x1 : Int) : p0 (k + 1) x0 x1 = e0 k (p0 k) (p7 k) x0 x1 := rfl
theorem p7_succ (k : Nat) (x0 : Int) : p7 (k + 1) x0 = e7 k (p0 k) (p7 k) x0 := rfl
def f (k : Nat) (a0 : ByteArray) (a1 : Int) : Option Int := e k (p0 k) (p7 k) a0 a1
end ref12_symbolEnd

namespace ref12_keyword
abbrev Q0 : Type := SEd → ByteArray → Int → Bool → Option SEd
abbrev Q1 : Type := SEd → Int → Option SEd
def e7 (k : Nat) (_q7 : Q0) (q9 : Q1) (b0 : SEd) (b1 : ByteArray) (b2 : Int) (b3 : Bool) : Option SEd :=
 (bif (decide ((IntKind.i64.wrap (b2 + (1 : Int))) = (b1.size : Int))) then
  q9 b0 b2
 else
  (bif (decide (0 ≤ (IntKind.i64.wrap (b2 + (1 : Int)))) && decide ((IntKind.i64.wrap (b2 + (1 : Int))) < (b1.size : Int))) then
   (Option.bind (ref12_symbolByte.f k (btI b1 (IntKind.i64.wrap (b2 + (1 : Int))))) fun r1 =>
    (bif (!r1) then
     q9 b0 b2
    else
     (bif (decide (0 ≤ (IntKind.i64.wrap (b2 + (1 : Int)))) && decide ((IntKind.i64.wrap (b2 + (1 : Int))) < (b1.size : Int))) then
      (Option.bind (ref12_digit.f k (btI b1 (IntKind.i64.wrap (b2 + (1 : Int))))) fun r2 =>
       (bif r2 then
        q9 b0 b2
       else
        (Option.bind (ref12_symbolEnd.f k b1 (IntKind.i64.wrap (b2 + (1 : Int)))) fun r3 =>
         (bif (decide (0 ≤ (IntKind.i64.wrap (b2 + (1 : Int)))) && decide ((IntKind.i64.wrap (b2 + (1 : Int))) ≤ r3) && decide (r3 ≤ (b1.size : Int))) then
          (Option.bind (ref12_unless.f k (4 : Int) (b1.extract (Int.toNat (IntKind.i64.wrap (b2 + (1 : Int)))) (Int.toNat r3)) r3 (decide (r3 = (b1.size : Int))) b3) fun r4 =>
           (some r4))
         else
          none))))
     else
      none)))
  else
   none))
def e9 (k : Nat) (_q7 : Q0) (_q9 : Q1) (_b0 : SEd) (b1 : Int) : Option SEd :=
 (Option.bind (ref12_bad.f k b1) fun r5 =>
  (some r5))
def e (_k : Nat) (q7 : Q0) (_q9 : Q1) (a0 : ByteArray) (a1 : Int) (a2 : Bool) : Option SEd :=
 (bif (decide ((IntKind.i64.wrap (a1 + (1 : Int))) = (a0.size : Int))) then
  (bif (!a2) then
   (some ((1 : Int), (0 : Int), (ByteArray.mk #[]), (0 : Int), (0 : Int), (0 : Int)))
  else
   q7 ((0 : Int), (0 : Int), (ByteArray.mk #[]), (0 : Int), (0 : Int), (0 : Int)) a0 a1 a2)
 else
  q7 ((0 : Int), (0 : Int), (ByteArray.mk #[]), (0 : Int), (0 : Int), (0 : Int)) a0 a1 a2)
def pts : Nat → (Q0) × (Q1)
 | 0 => (fun _ _ _ _ => none, fun _ _ => none)
 | k + 1 => (e7 k (pts k).1 (pts k).2, e9 k (pts k).1 (pts k).2)
def p7 (k : Nat) : Q0 := (pts k).1
def p9 (k : Nat) : Q1 := (pts k).2
theorem p7_succ (k : Nat) (x0 : SEd) (x1 : ByteArray) (x2 : Int) (x3 : Bool) : p7 (k + 1) x0 x1 x2 x3 = e7 k (p7 k) (p9 k) x0 x1 x2 x3 := rfl
theorem p9_succ (k : Nat) (x0 : SEd) (x1 : Int) : p9 (k + 1) x0 x1 = e9 k (p7 k) (p9 k) x0 x1 := rfl
def f (k : Nat) (a0 : ByteArray) (a1 : Int) (a2 : Bool) : Option SEd := e k (p7 k) (p9 k) a0 a1 a2
end ref12_keyword

namespace ref12_digitsEnd
abbrev Q0 : Type := ByteArray → Int → Int → Option Int
abbrev Q1 : Type := ByteArray → Int → Int → Int → Bool → Option Int
abbrev Q2 : Type := ByteArray → Int → Int → Bool → Bool → Option Int
abbrev Q3 : Type := ByteArray → Int → Int → Bool → Option Int
def e0 (_k : Nat) (_q0 : Q0) (q9 : Q1) (_q15 : Q2) (_q19 : Q3) (b0 : ByteArray) (b1 b2 : Int) : Option Int :=
 (bif (decide (b1 < (b0.size : Int))) then
  (bif (decide (0 ≤ b1) && decide (b1 < (b0.size : Int))) then
   (bif (decide ((btI b0 b1) ≥ (97 : Int))) then
    (bif (decide ((btI b0 b1) ≤ (102 : Int))) then
     q9 b0 b1 b2 (btI b0 b1) true
    else
     (bif (decide ((btI b0 b1) ≥ (65 : Int))) then
      q9 b0 b1 b2 (btI b0 b1) (decide ((btI b0 b1) ≤ (70 : Int)))
     else
      q9 b0 b1 b2 (btI b0 b1) false))
   else
    (bif (decide ((btI b0 b1) ≥ (65 : Int))) then
     q9 b0 b1 b2 (btI b0 b1) (decide ((btI b0 b1) ≤ (70 : Int)))
    else
     q9 b0 b1 b2 (btI b0 b1) false))
  else
   none)
 else
  (some b1))
def e9 (k : Nat) (_q0 : Q0) (_q9 : Q1) (q15 : Q2) (_q19 : Q3) (b0 : ByteArray) (b1 b2 b3 : Int) (b4 : Bool) : Option Int :=
 (Option.bind (ref12_digit.f k b3) fun r1 =>
  (bif (decide (b2 = (98 : Int))) then
   (bif (decide (b3 = (48 : Int))) then
    q15 b0 b1 b2 b4 true
   else
    q15 b0 b1 b2 b4 (decide (b3 = (49 : Int))))
  else
   q15 b0 b1 b2 b4 r1))
def e15 (_k : Nat) (_q0 : Q0) (_q9 : Q1) (_q15 : Q2) (q19 : Q3) (b0 : ByteArray) (b1 b2 : Int) (b3 b4 : Bool) : Option Int :=
 (bif (decide (b2 = (120 : Int))) then
  (bif b4 then
   q19 b0 b1 b2 true
  else
   q19 b0 b1 b2 b3)
 else
  q19 b0 b1 b2 b4)
def e19 (_k : Nat) (q0 : Q0) (_q9 : Q1) (_q15 : Q2) (_q19 : Q3) (b0 : ByteArray) (b1 b2 : Int) (b3 : Bool) : Option Int :=
 (bif (!b3) then
  (some b1)
 else
  q0 b0 (IntKind.i64.wrap (b1 + (1 : Int))) b2)
def e (_k : Nat) (q0 : Q0) (_q9 : Q1) (_q15 : Q2) (_q19 : Q3) (a0 : ByteArray) (a1 a2 : Int) : Option Int :=
 q0 a0 a1 a2
def pts : Nat → (Q0) × (Q1) × (Q2) × (Q3)
 | 0 => (fun _ _ _ => none, fun _ _ _ _ _ => none, fun _ _ _ _ _ => none, fun _ _ _ _ => none)
 | k + 1 => (e0 k (pts k).1 (pts k).2.1 (pts k).2.2.1 (pts k).2.2.2, e9 k (pts k).1 (pts k).2.1 (pts k).2.2.1 (pts k).2.2.2, e15 k (pts k).1 (pts k).2.1 (pts k).2.2.1 (pts k).2.2.2, e19 k (pts k).1 (pts k).2.1 (pts k).2.2.1 (pts k).2.2.2)
def p0 (k : Nat) : Q0 := (pts k).1
def p9 (k : Nat) : Q1 := (pts k).2.1
def p15 (k : Nat) : Q2 := (pts k).2.2.1
def p19 (k : Nat) : Q3 := (pts k).2.2.2
theorem p0_succ (k : Nat) (x0 : ByteArray) (x1 x2 : Int) : p0 (k + 1) x0 x1 x2 = e0 k (p0 k) (p9 k) (p15 k) (p19 k) x0 x1 x2 := rfl
theorem p9_succ (k : Nat) (x0 : ByteArray) (x1 x2 x3 : Int) (x4 : Bool) : p9 (k + 1) x0 x1 x2 x3 x4 = e9 k (p0 k) (p9 k) (p15 k) (p19 k) x0 x1 x2 x3 x4 := rfl
theorem p15_succ (k : Nat) (x0 : ByteArray) (x1 x2 : Int) (x3 x4 : Bool) : p15 (k + 1) x0 x1 x2 x3 x4 = e15 k (p0 k) (p9 k) (p15 k) (p19 k) x0 x1 x2 x3 x4 := rfl
theorem p19_succ (k : Nat) (x0 : ByteArray) (x1 x2 : Int) (x3 : Bool) : p19 (k + 1) x0 x1 x2 x3 = e19 k (p0 k) (p9 k) (p15 k) (p19 k) x0 x1 x2 x3 := rfl
def f (k : Nat) (a0 : ByteArray) (a1 a2 : Int) : Option Int := e k (p0 k) (p9 k) (p15 k) (p19 k) a0 a1 a2
end ref12_digitsEnd

namespace ref12_sharp
abbrev Q0 : Type := SEd → ByteArray → Int → Bool → Option SEd
abbrev Q1 : Type := SEd → Int → Option SEd
abbrev Q2 : Type := SEd → ByteArray → Int → Int → Option SEd
abbrev Q3 : Type := SEd → ByteArray → Int → Int → Int → Option SEd
def e7 (_k : Nat) (_q7 : Q0) (q9 : Q1) (q11 : Q0) (_q17 : Q2) (_q19 : Q1) (_q21 : Q2) (_q27 : Q3) (b0 : SEd) (b1 : ByteArray) (b2 : Int) (b3 : Bool) : Option SEd :=
 (bif (decide ((IntKind.i64.wrap (b2 + (1 : Int))) = (b1.size : Int))) then
  q9 b0 b2
 else
  (bif (decide (0 ≤ (IntKind.i64.wrap (b2 + (1 : Int)))) && decide ((IntKind.i64.wrap (b2 + (1 : Int))) < (b1.size : Int))) then
   (bif (!decide ((btI b1 (IntKind.i64.wrap (b2 + (1 : Int)))) = (120 : Int))) then
    (bif (decide (0 ≤ (IntKind.i64.wrap (b2 + (1 : Int)))) && decide ((IntKind.i64.wrap (b2 + (1 : Int))) < (b1.size : Int))) then
     (bif (!decide ((btI b1 (IntKind.i64.wrap (b2 + (1 : Int)))) = (98 : Int))) then
      q9 b0 b2
     else
      q11 b0 b1 b2 b3)
    else
     none)
   else
    q11 b0 b1 b2 b3)
  else
   none))
def e9 (k : Nat) (_q7 : Q0) (_q9 : Q1) (_q11 : Q0) (_q17 : Q2) (_q19 : Q1) (_q21 : Q2) (_q27 : Q3) (_b0 : SEd) (b1 : Int) : Option SEd :=
 (Option.bind (ref12_bad.f k b1) fun r1 =>
  (some r1))
def e11 (k : Nat) (_q7 : Q0) (_q9 : Q1) (_q11 : Q0) (q17 : Q2) (_q19 : Q1) (_q21 : Q2) (_q27 : Q3) (b0 : SEd) (b1 : ByteArray) (b2 : Int) (b3 : Bool) : Option SEd :=
 (bif (decide (0 ≤ (IntKind.i64.wrap (b2 + (1 : Int)))) && decide ((IntKind.i64.wrap (b2 + (1 : Int))) < (b1.size : Int))) then
  (Option.bind (ref12_digitsEnd.f k b1 (IntKind.i64.wrap (b2 + (2 : Int))) (btI b1 (IntKind.i64.wrap (b2 + (1 : Int))))) fun r2 =>
   (bif (decide (r2 = (b1.size : Int))) then
    (bif (!b3) then
     (some ((1 : Int), (0 : Int), (ByteArray.mk #[]), (0 : Int), (0 : Int), (0 : Int)))
    else
     q17 b0 b1 b2 r2)
   else
    q17 b0 b1 b2 r2))
 else
  none)
def e17 (k : Nat) (_q7 : Q0) (_q9 : Q1) (_q11 : Q0) (_q17 : Q2) (q19 : Q1) (q21 : Q2) (_q27 : Q3) (b0 : SEd) (b1 : ByteArray) (b2 b3 : Int) : Option SEd :=
 (bif (decide (b3 = (IntKind.i64.wrap (b2 + (2 : Int))))) then
  q19 b0 b2
 else
  (bif (decide (b3 < (b1.size : Int))) then
   (bif (decide (0 ≤ b3) && decide (b3 < (b1.size : Int))) then
    (Option.bind (ref12_symbolByte.f k (btI b1 b3)) fun r3 =>
     (bif r3 then
      q19 b0 b2
     else
      q21 b0 b1 b2 b3))
   else
    none)
  else
   q21 b0 b1 b2 b3))
def e19 (k : Nat) (_q7 : Q0) (_q9 : Q1) (_q11 : Q0) (_q17 : Q2) (_q19 : Q1) (_q21 : Q2) (_q27 : Q3) (_b0 : SEd) (b1 : Int) : Option SEd :=
 (Option.bind (ref12_bad.f k b1) fun r4 =>
  (some r4))
def e21 (_k : Nat) (_q7 : Q0) (_q9 : Q1) (_q11 : Q0) (_q17 : Q2) (_q19 : Q1) (_q21 : Q2) (q27 : Q3) (b0 : SEd) (b1 : ByteArray) (b2 b3 : Int) : Option SEd :=
 (bif (decide (0 ≤ (IntKind.i64.wrap (b2 + (1 : Int)))) && decide ((IntKind.i64.wrap (b2 + (1 : Int))) < (b1.size : Int))) then
  (bif (decide ((btI b1 (IntKind.i64.wrap (b2 + (1 : Int)))) = (98 : Int))) then
   q27 b0 b1 b2 b3 (8 : Int)
  else
   q27 b0 b1 b2 b3 (7 : Int))
 else
  none)
def e27 (_k : Nat) (_q7 : Q0) (_q9 : Q1) (_q11 : Q0) (_q17 : Q2) (_q19 : Q1) (_q21 : Q2) (_q27 : Q3) (_b0 : SEd) (b1 : ByteArray) (b2 b3 b4 : Int) : Option SEd :=
 (bif (decide (0 ≤ (IntKind.i64.wrap (b2 + (2 : Int)))) && decide ((IntKind.i64.wrap (b2 + (2 : Int))) ≤ b3) && decide (b3 ≤ (b1.size : Int))) then
  (some ((0 : Int), b4, (b1.extract (Int.toNat (IntKind.i64.wrap (b2 + (2 : Int)))) (Int.toNat b3)), b3, (0 : Int), (0 : Int)))
 else
  none)
def e (_k : Nat) (q7 : Q0) (_q9 : Q1) (_q11 : Q0) (_q17 : Q2) (_q19 : Q1) (_q21 : Q2) (_q27 : Q3) (a0 : ByteArray) (a1 : Int) (a2 : Bool) : Option SEd :=
 (bif (decide ((IntKind.i64.wrap (a1 + (1 : Int))) = (a0.size : Int))) then
  (bif (!a2) then
   (some ((1 : Int), (0 : Int), (ByteArray.mk #[]), (0 : Int), (0 : Int), (0 : Int)))
  else
   q7 ((0 : Int), (0 : Int), (ByteArray.mk #[]), (0 : Int), (0 : Int), (0 : Int)) a0 a1 a2)
 else
  q7 ((0 : Int), (0 : Int), (ByteArray.mk #[]), (0 : Int), (0 : Int), (0 : Int)) a0 a1 a2)
def pts : Nat → (Q0) × (Q1) × (Q0) × (Q2) × (Q1) × (Q2) × (Q3)
 | 0 => (fun _ _ _ _ => none, fun _ _ => none, fun _ _ _ _ => none, fun _ _ _ _ => none, fun _ _ => none, fun _ _ _ _ => none, fun _ _ _ _ _ => none)
 | k + 1 => (e7 k (pts k).1 (pts k).2.1 (pts k).2.2.1 (pts k).2.2.2.1 (pts k).2.2.2.2.1 (pts k).2.2.2.2.2.1 (pts k).2.2.2.2.2.2, e9 k (pts k).1 (pts k).2.1 (pts k).2.2.1 (pts k).2.2.2.1 (pts k).2.2.2.2.1 (pts k).2.2.2.2.2.1 (pts k).2.2.2.2.2.2, e11 k (pts k).1 (pts k).2.1 (pts k).2.2.1 (pts k).2.2.2.1 (pts k).2.2.2.2.1 (pts k).2.2.2.2.2.1 (pts k).2.2.2.2.2.2, e17 k (pts k).1 (pts k).2.1 (pts k).2.2.1 (pts k).2.2.2.1 (pts k).2.2.2.2.1 (pts k).2.2.2.2.2.1 (pts k).2.2.2.2.2.2, e19 k (pts k).1 (pts k).2.1 (pts k).2.2.1 (pts k).2.2.2.1 (pts k).2.2.2.2.1 (pts k).2.2.2.2.2.1 (pts k).2.2.2.2.2.2, e21 k (pts k).1 (pts k).2.1 (pts k).2.2.1 (pts k).2.2.2.1 (pts k).2.2.2.2.1 (pts k).2.2.2.2.2.1 (pts k).2.2.2.2.2.2, e27 k (pts k).1 (pts k).2.1 (pts k).2.2.1 (pts k).2.2.2.1 (pts k).2.2.2.2.1 (pts k).2.2.2.2.2.1 (pts k).2.2.2.2.2.2)
def p7 (k : Nat) : Q0 := (pts k).1
def p9 (k : Nat) : Q1 := (pts k).2.1
def p11 (k : Nat) : Q0 := (pts k).2.2.1
def p17 (k : Nat) : Q2 := (pts k).2.2.2.1
def p19 (k : Nat) : Q1 := (pts k).2.2.2.2.1
def p21 (k : Nat) : Q2 := (pts k).2.2.2.2.2.1
def p27 (k : Nat) : Q3 := (pts k).2.2.2.2.2.2
theorem p7_succ (k : Nat) (x0 : SEd) (x1 : ByteArray) (x2 : Int) (x3 : Bool) : p7 (k + 1) x0 x1 x2 x3 = e7 k (p7 k) (p9 k) (p11 k) (p17 k) (p19 k) (p21 k) (p27 k) x0 x1 x2 x3 := rfl
theorem p9_succ (k : Nat) (x0 : SEd) (x1 : Int) : p9 (k + 1) x0 x1 = e9 k (p7 k) (p9 k) (p11 k) (p17 k) (p19 k) (p21 k) (p27 k) x0 x1 := rfl
theorem p11_succ (k : Nat) (x0 : SEd) (x1 : ByteArray) (x2 : Int) (x3 : Bool) : p11 (k + 1) x0 x1 x2 x3 = e11 k (p7 k) (p9 k) (p11 k) (p17 k) (p19 k) (p21 k) (p27 k) x0 x1 x2 x3 := rfl
theorem p17_succ (k : Nat) (x0 : SEd) (x1 : ByteArray) (x2 x3 : Int) : p17 (k + 1) x0 x1 x2 x3 = e17 k (p7 k) (p9 k) (p11 k) (p17 k) (p19 k) (p21 k) (p27 k) x0 x1 x2 x3 := rfl
theorem p19_succ (k : Nat) (x0 : SEd) (x1 : Int) : p19 (k + 1) x0 x1 = e19 k (p7 k) (p9 k) (p11 k) (p17 k) (p19 k) (p21 k) (p27 k) x0 x1 := rfl
theorem p21_succ (k : Nat) (x0 : SEd) (x1 : ByteArray) (x2 x3 : Int) : p21 (k + 1) x0 x1 x2 x3 = e21 k (p7 k) (p9 k) (p11 k) (p17 k) (p19 k) (p21 k) (p27 k) x0 x1 x2 x3 := rfl
theorem p27_succ (k : Nat) (x0 : SEd) (x1 : ByteArray) (x2 x3 x4 : Int) : p27 (k + 1) x0 x1 x2 x3 x4 = e27 k (p7 k) (p9 k) (p11 k) (p17 k) (p19 k) (p21 k) (p27 k) x0 x1 x2 x3 x4 := rfl
def f (k : Nat) (a0 : ByteArray) (a1 : Int) (a2 : Bool) : Option SEd := e k (p7 k) (p9 k) (p11 k) (p17 k) (p19 k) (p21 k) (p27 k) a0 a1 a2
end ref12_sharp

namespace ref12_number
abbrev Q0 : Type := SEd → ByteArray → Int → Bool → Int → Option SEd
abbrev Q1 : Type := SEd → ByteArray → Int → Bool → Int → Int → Option SEd
def e9 (_k : Nat) (_q9 : Q0) (q19 q27 _q31 : Q1) (b0 : SEd) (b1 : ByteArray) (b2 : Int) (b3 : Bool) (b4 : Int) : Option SEd :=
 (bif (decide (b4 < (b1.size : Int))) then
  (bif (decide (0 ≤ b4) && decide (b4 < (b1.size : Int))) then
   (bif (decide ((btI b1 b4) = (46 : Int))) then
    (bif (decide ((IntKind.i64.wrap (b4 + (1 : Int))) = (b1.size : Int))) then
     (bif (!b3) then
      (some ((1 : Int), (0 : Int), (ByteArray.mk #[]), (0 : Int), (0 : Int), (0 : Int)))
     else
      q19 b0 b1 b2 b3 b4 (6 : Int))
    else
     q19 b0 b1 b2 b3 b4 (6 : Int))
   else
    q27 b0 b1 b2 b3 b4 (5 : Int))
  else
   none)
 else
  q27 b0 b1 b2 b3 b4 (5 : Int))
def e19 (k : Nat) (_q9 : Q0) (_q19 q27 _q31 : Q1) (b0 : SEd) (b1 : ByteArray) (b2 : Int) (b3 : Bool) (b4 b5 : Int) : Option SEd :=
 (Option.bind (ref12_digitsEnd.f k b1 (IntKind.i64.wrap (b4 + (1 : Int))) (100 : Int)) fun r3 =>
  (bif (decide (r3 = (IntKind.i64.wrap (b4 + (1 : Int))))) then
   (Option.bind (ref12_bad.f k b2) fun r4 =>
    (some r4))
  else
   q27 b0 b1 b2 b3 r3 b5))
def e27 (k : Nat) (_q9 : Q0) (_q19 _q27 q31 : Q1) (b0 : SEd) (b1 : ByteArray) (b2 : Int) (b3 : Bool) (b4 b5 : Int) : Option SEd :=
 (bif (decide (b4 < (b1.size : Int))) then
  (bif (decide (0 ≤ b4) && decide (b4 < (b1.size : Int))) then
   (Option.bind (ref12_symbolByte.f k (btI b1 b4)) fun r5 =>
    (bif r5 then
     (Option.bind (ref12_bad.f k b2) fun r6 =>
      (some r6))
    else
     q31 b0 b1 b2 b3 b4 b5))
  else
   none)
 else
  q31 b0 b1 b2 b3 b4 b5)
def e31 (k : Nat) (_q9 : Q0) (_q19 _q27 _q31 : Q1) (_b0 : SEd) (b1 : ByteArray) (b2 : Int) (b3 : Bool) (b4 b5 : Int) : Option SEd :=
 (bif (decide (0 ≤ b2) && decide (b2 ≤ b4) && decide (b4 ≤ (b1.size : Int))) then
  (Option.bind (ref12_unless.f k b5 (b1.extract (Int.toNat b2) (Int.toNat b4)) b4 (decide (b4 = (b1.size : Int))) b3) fun r7 =>
   (some r7))
 else
  none)
def e (k : Nat) (q9 : Q0) (_q19 _q27 _q31 : Q1) (a0 : ByteArray) (a1 : Int) (a2 : Bool) : Option SEd :=
 (Option.bind (ref12_digitsEnd.f k a0 a1 (100 : Int)) fun r1 =>
  (bif (decide (0 ≤ a1) && decide (a1 < (a0.size : Int))) then
   (bif (decide ((btI a0 a1) = (48 : Int))) then
    (bif (decide (r1 > (IntKind.i64.wrap (a1 + (1 : Int))))) then
     (Option.bind (ref12_bad.f k a1) fun r2 =>
      (some r2))
    else
     q9 ((0 : Int), (0 : Int), (ByteArray.mk #[]), (0 : Int), (0 : Int), (0 : Int)) a0 a1 a2 r1)
   else
    q9 ((0 : Int), (0 : Int), (ByteArray.mk #[]), (0 : Int), (0 : Int), (0 : Int)) a0 a1 a2 r1)
  else
   none))
def pts : Nat → (Q0) × (Q1) × (Q1) × (Q1)
 | 0 => (fun _ _ _ _ _ => none, fun _ _ _ _ _ _ => none, fun _ _ _ _ _ _ => none, fun _ _ _ _ _ _ => none)
 | k + 1 => (e9 k (pts k).1 (pts k).2.1 (pts k).2.2.1 (pts k).2.2.2, e19 k (pts k).1 (pts k).2.1 (pts k).2.2.1 (pts k).2.2.2, e27 k (pts k).1 (pts k).2.1 (pts k).2.2.1 (pts k).2.2.2, e31 k (pts k).1 (pts k).2.1 (pts k).2.2.1 (pts k).2.2.2)
def p9 (k : Nat) : Q0 := (pts k).1
def p19 (k : Nat) : Q1 := (pts k).2.1
def p27 (k : Nat) : Q1 := (pts k).2.2.1
def p31 (k : Nat) : Q1 := (pts k).2.2.2
theorem p9_succ (k : Nat) (x0 : SEd) (x1 : ByteArray) (x2 : Int) (x3 : Bool) (x4 : Int) : p9 (k + 1) x0 x1 x2 x3 x4 = e9 k (p9 k) (p19 k) (p27 k) (p31 k) x0 x1 x2 x3 x4 := rfl
theorem p19_succ (k : Nat) (x0 : SEd) (x1 : ByteArray) (x2 : Int) (x3 : Bool) (x4 x5 : Int) : p19 (k + 1) x0 x1 x2 x3 x4 x5 = e19 k (p9 k) (p19 k) (p27 k) (p31 k) x0 x1 x2 x3 x4 x5 := rfl
theorem p27_succ (k : Nat) (x0 : SEd) (x1 : ByteArray) (x2 : Int) (x3 : Bool) (x4 x5 : Int) : p27 (k + 1) x0 x1 x2 x3 x4 x5 = e27 k (p9 k) (p19 k) (p27 k) (p31 k) x0 x1 x2 x3 x4 x5 := rfl
theorem p31_succ (k : Nat) (x0 : SEd) (x1 : ByteArray) (x2 : Int) (x3 : Bool) (x4 x5 : Int) : p31 (k + 1) x0 x1 x2 x3 x4 x5 = e31 k (p9 k) (p19 k) (p27 k) (p31 k) x0 x1 x2 x3 x4 x5 := rfl
def f (k : Nat) (a0 : ByteArray) (a1 : Int) (a2 : Bool) : Option SEd := e k (p9 k) (p19 k) (p27 k) (p31 k) a0 a1 a2
end ref12_number

namespace ref12_look
def e (k : Nat) (a0 : ByteArray) (a1 : Int) (a2 : Bool) : Option SEd :=
 (bif (decide (0 ≤ a1) && decide (a1 < (a0.size : Int))) then
  (bif (decide ((btI a0 a1) = (40 : Int))) then
   (some ((0 : Int), (1 : Int), (ByteArray.mk #[40]), (IntKind.i64.wrap (a1 + (1 : Int))), (0 : Int), (0 : Int)))
  else
   (bif (decide ((btI a0 a1) = (41 : Int))) then
    (some ((0 : Int), (2 : Int), (ByteArray.mk #[41]), (IntKind.i64.wrap (a1 + (1 : Int))), (0 : Int), (0 : Int)))
   else
    (bif (decide ((btI a0 a1) = (34 : Int))) then
     (Option.bind (ref12_quoted.f k a0 a1 a2) fun r1 =>
      (some r1))
    else
     (bif (decide ((btI a0 a1) = (124 : Int))) then
      (Option.bind (ref12_barred.f k a0 a1 a2) fun r2 =>
       (some r2))
     else
      (bif (decide ((btI a0 a1) = (58 : Int))) then
       (Option.bind (ref12_keyword.f k a0 a1 a2) fun r3 =>
        (some r3))
      else
       (bif (decide ((btI a0 a1) = (35 : Int))) then
        (Option.bind (ref12_sharp.f k a0 a1 a2) fun r4 =>
         (some r4))
       else
        (Option.bind (ref12_digit.f k (btI a0 a1)) fun r5 =>
         (bif r5 then
          (Option.bind (ref12_number.f k a0 a1 a2) fun r6 =>
           (some r6))
         else
          (Option.bind (ref12_symbolByte.f k (btI a0 a1)) fun r7 =>
           (bif r7 then
            (Option.bind (ref12_symbolEnd.f k a0 a1) fun r8 =>
             (bif (decide (0 ≤ a1) && decide (a1 ≤ r8) && decide (r8 ≤ (a0.size : Int))) then
              (Option.bind (ref12_unless.f k (3 : Int) (a0.extract (Int.toNat a1) (Int.toNat r8)) r8 (decide (r8 = (a0.size : Int))) a2) fun r9 =>
               (some r9))
             else
              none))
           else
            (Option.bind (ref12_bad.f k a1) fun r10 =>
             (some r10))))))))))))
 else
  none)
def f (k : Nat) (a0 : ByteArray) (a1 : Int) (a2 : Bool) : Option SEd := e k a0 a1 a2
end ref12_look

namespace ref12_Read
abbrev Q0 : Type := (List TokD) → ByteArray → Bool → Int → Int → Int → Int → Option ((List TokD) × Int × Int)
abbrev Q1 : Type := (List TokD) → SEd → ByteArray → Bool → Int → Int → Int → Int → Option ((List TokD) × Int × Int)
def e0 (k : Nat) (_q0 : Q0) (q4 : Q1) (b0 : (List TokD)) (b1 : ByteArray) (b2 : Bool) (b3 b4 b5 b6 : Int) : Option ((List TokD) × Int × Int) :=
 (bif (decide (b6 < (b1.size : Int))) then
  (Option.bind (ref12_look.f k b1 b6 b2) fun r2 =>
   (bif (decide (r2.1 = (1 : Int))) then
    (some (b0, (0 : Int), b6))
   else
    (bif (decide (r2.1 = (2 : Int))) then
     (some (b0, r2.2.2.2.2.1, r2.2.2.2.2.2))
    else
     q4 b0 r2 b1 b2 b3 b4 b5 b6)))
 else
  (some (b0, (0 : Int), b6)))
def e4 (k : Nat) (q0 : Q0) (q4 : Q1) (b0 : (List TokD)) (b1 : SEd) (b2 : ByteArray) (b3 : Bool) (b4 b5 b6 b7 : Int) : Option ((List TokD) × Int × Int) :=
 (bif (decide (b6 < b7)) then
  (bif (decide (0 ≤ (IntKind.i64.wrap ((IntKind.i64.wrap (b6 + (1 : Int))) - (1 : Int)))) && decide ((IntKind.i64.wrap ((IntKind.i64.wrap (b6 + (1 : Int))) - (1 : Int))) < (b2.size : Int))) then
   (bif (decide ((btI b2 (IntKind.i64.wrap ((IntKind.i64.wrap (b6 + (1 : Int))) - (1 : Int)))) = (10 : Int))) then
    q4 b0 b1 b2 b3 (IntKind.i64.wrap (b4 + (1 : Int))) (IntKind.i64.wrap (b6 + (1 : Int))) (IntKind.i64.wrap (b6 + (1 : Int))) b7
   else
    q4 b0 b1 b2 b3 b4 b5 (IntKind.i64.wrap (b6 + (1 : Int))) b7)
  else
   none)
 else
  (bif (Nat.ble ((b0.length + [(b1.2.1, b1.2.2.1, b7, b1.2.2.2.1, b4, (IntKind.i64.wrap ((IntKind.i64.wrap (b7 - b5)) + (1 : Int))))].length) * 56) 140737488355328 && Nat.ble (b0.length + [(b1.2.1, b1.2.2.1, b7, b1.2.2.2.1, b4, (IntKind.i64.wrap ((IntKind.i64.wrap (b7 - b5)) + (1 : Int))))].length) 9223372036854775807) then
   (Option.bind (ref12_gap.f k b2 b1.2.2.2.1) fun r3 =>
    q0 (b0 ++ [(b1.2.1, b1.2.2.1, b7, b1.2.2.2.1, b4, (IntKind.i64.wrap ((IntKind.i64.wrap (b7 - b5)) + (1 : Int))))]) b2 b3 b4 b5 b6 r3)
  else
   none))
def e (k : Nat) (q0 : Q0) (_q4 : Q1) (a0 : ByteArray) (a1 : Bool) : Option ((List TokD) × Int × Int) :=
 (Option.bind (ref12_gap.f k a0 (0 : Int)) fun r1 =>
  q0 ([] : List TokD) a0 a1 (1 : Int) (0 : Int) (0 : Int) r1)
def pts : Nat → (Q0) × (Q1)
 | 0 => (fun _ _ _ _ _ _ _ => none, fun _ _ _ _ _ _ _ _ => none)
 | k + 1 => (e0 k (pts k).1 (pts k).2, e4 k (pts k).1 (pts k).2)
def p0 (k : Nat) : Q0 := (pts k).1
def p4 (k : Nat) : Q1 := (pts k).2
theorem p0_succ (k : Nat) (x0 : (List TokD)) (x1 : ByteArray) (x2 : Bool) (x3 x4 x5 x6 : Int) : p0 (k + 1) x0 x1 x2 x3 x4 x5 x6 = e0 k (p0 k) (p4 k) x0 x1 x2 x3 x4 x5 x6 := rfl
theorem p4_succ (k : Nat) (x0 : (List TokD)) (x1 : SEd) (x2 : ByteArray) (x3 : Bool) (x4 x5 x6 x7 : Int) : p4 (k + 1) x0 x1 x2 x3 x4 x5 x6 x7 = e4 k (p0 k) (p4 k) x0 x1 x2 x3 x4 x5 x6 x7 := rfl
def f (k : Nat) (a0 : ByteArray) (a1 : Bool) : Option ((List TokD) × Int × Int) := e k (p0 k) (p4 k) a0 a1
end ref12_Read

namespace ref13_Build
def f (_k : Nat) (a0 : List TokD) : Option ((List (TokD × List NodeD)) × (List (TokD × List NodeD)) × Int × Int) := buildF a0
end ref13_Build

namespace ref13_Whole
def e17 (_k : Nat) (_q17 : (LNd × LNd × Int × Int) → (LNd × LNd × Int × Int) → Option (LNd × LNd × Int × Int)) (_b0 : (LNd × LNd × Int × Int)) (b1 : (LNd × LNd × Int × Int)) : Option (LNd × LNd × Int × Int) :=
 (some b1)
def e (k : Nat) (q17 : (LNd × LNd × Int × Int) → (LNd × LNd × Int × Int) → Option (LNd × LNd × Int × Int)) (a0 : ByteArray) (a1 : Bool) : Option (LNd × LNd × Int × Int) :=
 (Option.bind (ref12_Read.f k a0 a1) fun r1 =>
  (Option.bind (ref13_Build.f k r1.1) fun r2 =>
   (bif (!decide (r2.2.2.1 = (0 : Int))) then
    q17 (([] : List NTd), ([] : List NTd), (0 : Int), (0 : Int)) r2
   else
    (bif (!decide (r1.2.1 = (0 : Int))) then
     q17 (([] : List NTd), ([] : List NTd), (0 : Int), (0 : Int)) (r2.1, r2.2.1, r1.2.1, r1.2.2)
    else
     (bif a1 then
      (bif (decide ((r2.2.1.length : Int) > (0 : Int))) then
       (bif (decide ((0 : Int) < (r2.2.1.length : Int))) then
        q17 (([] : List NTd), ([] : List NTd), (0 : Int), (0 : Int)) (r2.1, r2.2.1, (131 : Int), (nthD (((0 : Int), (ByteArray.mk #[]), (0 : Int), (0 : Int), (0 : Int), (0 : Int)), ([] : List NodeD)) r2.2.1 0).1.2.2.1)
       else
        none)
      else
       q17 (([] : List NTd), ([] : List NTd), (0 : Int), (0 : Int)) r2)
     else
      q17 (([] : List NTd), ([] : List NTd), (0 : Int), (0 : Int)) r2)))))
def pts : Nat → ((LNd × LNd × Int × Int) → (LNd × LNd × Int × Int) → Option (LNd × LNd × Int × Int))
 | 0 => fun _ _ => none
 | k + 1 => e17 k (pts k)
def p17 (k : Nat) : (LNd × LNd × Int × Int) → (LNd × LNd × Int × Int) → Option (LNd × LNd × Int × Int) := (pts k)
theorem p17_succ (k : Nat) (x0 : (LNd × LNd × Int × Int)) (x1 : (LNd × LNd × Int × Int)) : p17 (k + 1) x0 x1 = e17 k (p17 k) x0 x1 := by
 have h : pts (k + 1) = e17 k (pts k) := by rw [pts]
 unfold p17
 rw [h]
def f (k : Nat) (a0 : ByteArray) (a1 : Bool) : Option (LNd × LNd × Int × Int) := e k (p17 k) a0 a1
end ref13_Whole

namespace ref13_Read
def e (k : Nat) (a0 : ByteArray) : Option (LNd × Int × Int) :=
 (Option.bind (ref13_Whole.f k a0 true) fun r1 =>
  (some (r1.1, r1.2.2.1, r1.2.2.2)))
def f (k : Nat) (a0 : ByteArray) : Option (LNd × Int × Int) := e k a0
end ref13_Read

namespace sexpr_list
def e (_k : Nat) (a0 : NTd) : Option Bool :=
 (some (decide (a0.1.1 = (0 : Int))))
def f (k : Nat) (a0 : NTd) : Option Bool := e k a0
end sexpr_list

namespace sexpr_Size
abbrev Q0 : Type := Int → LNd → Int → Int → Option Int
abbrev Q1 : Type := NTd → Option Int
def e0 (_k : Nat) (q0 : Q0) (self : Q1) (b0 : Int) (b1 : LNd) (b2 b3 : Int) : Option Int :=
 (bif (decide (b3 < b2)) then
  (bif (decide (0 ≤ b3) && decide (b3 < (b1.length : Int))) then
   (Option.bind (self (nthD (((0 : Int), (ByteArray.mk #[]), (0 : Int), (0 : Int), (0 : Int), (0 : Int)), ([] : List NodeD)) b1 (Int.toNat b3))) fun r2 =>
    q0 (IntKind.i64.wrap (b0 + r2)) b1 b2 (IntKind.i64.wrap (b3 + (1 : Int))))
  else
   none)
 else
  (some b0))
def e (k : Nat) (q0 : Q0) (_self : Q1) (a0 : NTd) : Option Int :=
 (Option.bind (sexpr_list.f k a0) fun r1 =>
  (bif (!r1) then
   (some (1 : Int))
  else
   q0 (2 : Int) (List.map NodeD.un a0.2) ((List.map NodeD.un a0.2).length : Int) (0 : Int)))
def pts : Nat → (Q0) × (Q1)
 | 0 => (fun _ _ _ _ => none, fun _ => none)
 | k + 1 => (e0 k (pts k).1 (pts k).2, e k (pts k).1 (pts k).2)
def p0 (k : Nat) : Q0 := (pts k).1
def f (k : Nat) : Q1 := (pts k).2
theorem f_succ (k : Nat) (a0 : NTd) : f (k + 1) a0 = e k (p0 k) (f k) a0 := rfl
end sexpr_Size

namespace law13_lives
def e (k : Nat) (_ : Unit) : Option Bool :=
 (Option.bind (sexpr_Read.f k str_f8ba69dfb9) fun r1 =>
  (bif (decide (r1.2.1 = (0 : Int))) then
   (bif (decide (r1.2.2 = (0 : Int))) then
    (bif (decide ((r1.1.length : Int) = (1 : Int))) then
     (bif (decide ((0 : Int) < (r1.1.length : Int))) then
      (Option.bind (sexpr_Size.f k (nthD (((0 : Int), (ByteArray.mk #[]), (0 : Int), (0 : Int), (0 : Int), (0 : Int)), ([] : List NodeD)) r1.1 0)) fun r2 =>
       (some (decide (r2 = (6 : Int)))))
     else
      none)
    else
     (some false))
   else
    (some false))
  else
   (some false)))
def f (k : Nat) (a0 : Unit) : Option Bool := e k a0
end law13_lives

namespace ref13_Alike
abbrev Q0 : Type := Unit → Option Bool
abbrev Q1 : Type := NTd → NTd → Int → Option Bool
abbrev Q2 : Type := NTd → NTd → Option Bool
def e5 (_k : Nat) (_q5 : Q0) (_q0 : Q1) (_self : Q2) (_ : Unit) : Option Bool :=
 (some false)
def e0 (_k : Nat) (_q5 : Q0) (q0 : Q1) (self : Q2) (b0 : NTd) (b1 : NTd) (b2 : Int) : Option Bool :=
 (bif (decide (b2 < ((List.map NodeD.un b0.2).length : Int))) then
  (bif (decide (0 ≤ b2) && decide (b2 < ((List.map NodeD.un b0.2).length : Int))) then
   (bif (decide (0 ≤ b2) && decide (b2 < ((List.map NodeD.un b1.2).length : Int))) then
    (Option.bind (self (nthD (((0 : Int), (ByteArray.mk #[]), (0 : Int), (0 : Int), (0 : Int), (0 : Int)), ([] : List NodeD)) (List.map NodeD.un b0.2) (Int.toNat b2)) (nthD (((0 : Int), (ByteArray.mk #[]), (0 : Int), (0 : Int), (0 : Int), (0 : Int)), ([] : List NodeD)) (List.map NodeD.un b1.2) (Int.toNat b2))) fun r1 =>
     (bif (!r1) then
      (some false)
     else
      q0 b0 b1 (IntKind.i64.wrap (b2 + (1 : Int)))))
   else
    none)
  else
   none)
 else
  (some true))
def e (_k : Nat) (q5 : Q0) (q0 : Q1) (_self : Q2) (a0 : NTd) (a1 : NTd) : Option Bool :=
 (bif (!(decide (a0.1.1 = a1.1.1) && ((a0.1.2.1.toList == a1.1.2.1.toList) && (decide (a0.1.2.2.1 = a1.1.2.2.1) && (decide (a0.1.2.2.2.1 = a1.1.2.2.2.1) && (decide (a0.1.2.2.2.2.1 = a1.1.2.2.2.2.1) && (decide (a0.1.2.2.2.2.2 = a1.1.2.2.2.2.2)))))))) then
  q5 ()
 else
  (bif (!decide (((List.map NodeD.un a0.2).length : Int) = ((List.map NodeD.un a1.2).length : Int))) then
   q5 ()
  else
   q0 a0 a1 (0 : Int)))
def pts : Nat → (Q0) × (Q1) × (Q2)
 | 0 => (fun _ => none, fun _ _ _ => none, fun _ _ => none)
 | k + 1 => (e5 k (pts k).1 (pts k).2.1 (pts k).2.2, e0 k (pts k).1 (pts k).2.1 (pts k).2.2, e k (pts k).1 (pts k).2.1 (pts k).2.2)
def p5 (k : Nat) : Q0 := (pts k).1
def p0 (k : Nat) : Q1 := (pts k).2.1
def f (k : Nat) : Q2 := (pts k).2.2
theorem p0_succ (k : Nat) (x0 : NTd) (x1 : NTd) (x2 : Int) : p0 (k + 1) x0 x1 x2 = e0 k (p5 k) (p0 k) (f k) x0 x1 x2 := rfl
theorem f_succ (k : Nat) (a0 : NTd) (a1 : NTd) : f (k + 1) a0 a1 = e k (p5 k) (p0 k) (f k) a0 a1 := rfl
end ref13_Alike

namespace law13_alike
def e0 (k : Nat) (q0 : LNd → LNd → Int → Option Bool) (b0 : LNd) (b1 : LNd) (b2 : Int) : Option Bool :=
 (bif (decide (b2 < (b0.length : Int))) then
  (bif (decide (0 ≤ b2) && decide (b2 < (b0.length : Int))) then
   (bif (decide (0 ≤ b2) && decide (b2 < (b1.length : Int))) then
    (Option.bind (ref13_Alike.f k (nthD (((0 : Int), (ByteArray.mk #[]), (0 : Int), (0 : Int), (0 : Int), (0 : Int)), ([] : List NodeD)) b0 (Int.toNat b2)) (nthD (((0 : Int), (ByteArray.mk #[]), (0 : Int), (0 : Int), (0 : Int), (0 : Int)), ([] : List NodeD)) b1 (Int.toNat b2))) fun r1 =>
     (bif (!r1) then
      (some false)
     else
      q0 b0 b1 (IntKind.i64.wrap (b2 + (1 : Int)))))
   else
    none)
  else
   none)
 else
  (some true))
def e (_k : Nat) (q0 : LNd → LNd → Int → Option Bool) (a0 : LNd) (a1 : LNd) : Option Bool :=
 (bif (!decide ((a0.length : Int) = (a1.length : Int))) then
  (some false)
 else
  q0 a0 a1 (0 : Int))
def pts : Nat → (LNd → LNd → Int → Option Bool)
 | 0 => fun _ _ _ => none
 | k + 1 => e0 k (pts k)
def p0 (k : Nat) : LNd → LNd → Int → Option Bool := (pts k)
theorem p0_succ (k : Nat) (x0 : LNd) (x1 : LNd) (x2 : Int) : p0 (k + 1) x0 x1 x2 = e0 k (p0 k) x0 x1 x2 := rfl
def f (k : Nat) (a0 : LNd) (a1 : LNd) : Option Bool := e k (p0 k) a0 a1
end law13_alike

namespace law13_SexprDeep
def e0 (k : Nat) (q0 : Int → ByteArray → ByteArray → Int → Option Bool) (b0 : Int) (b1 b2 : ByteArray) (b3 : Int) : Option Bool :=
 (bif (decide (b3 < (Int.tmod (IntKind.i64.wrap b0) (1003 : Int)))) then
  (bif (decide (((b2.size + (ByteArray.mk #[40]).size : Nat) : Int) > IntKind.i64.max)) then
   none
  else
   q0 b0 b1 (b2 ++ (ByteArray.mk #[40])) (IntKind.i64.wrap (b3 + (1 : Int))))
 else
  (bif (decide (((b2.size + b1.size : Nat) : Int) > IntKind.i64.max)) then
   none
  else
   (Option.bind (sexpr_Read.f k (b2 ++ b1)) fun r1 =>
    (Option.bind (ref13_Read.f k (b2 ++ b1)) fun r2 =>
     (Option.bind (law13_lives.f k ()) fun r3 =>
      (bif r3 then
       (bif (decide (r1.2.1 = r2.2.1)) then
        (bif (decide (r1.2.2 = r2.2.2)) then
         (Option.bind (law13_alike.f k r1.1 r2.1) fun r4 =>
          (some r4))
        else
         (some false))
       else
        (some false))
      else
       (some false)))))))
def e (_k : Nat) (q0 : Int → ByteArray → ByteArray → Int → Option Bool) (a0 : Int) (a1 : ByteArray) : Option Bool :=
 q0 a0 a1 (ByteArray.mk #[]) (0 : Int)
def pts : Nat → (Int → ByteArray → ByteArray → Int → Option Bool)
 | 0 => fun _ _ _ _ => none
 | k + 1 => e0 k (pts k)
def p0 (k : Nat) : Int → ByteArray → ByteArray → Int → Option Bool := (pts k)
theorem p0_succ (k : Nat) (x0 : Int) (x1 x2 : ByteArray) (x3 : Int) : p0 (k + 1) x0 x1 x2 x3 = e0 k (p0 k) x0 x1 x2 x3 := rfl
def f (k : Nat) (a0 : Int) (a1 : ByteArray) : Option Bool := e k (p0 k) a0 a1
end law13_SexprDeep
end Go.FK
