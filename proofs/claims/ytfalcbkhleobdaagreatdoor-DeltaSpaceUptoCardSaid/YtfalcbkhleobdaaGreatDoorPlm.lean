/- Plain functions, printed by fgen.py: what the loaded functions come to. -/
import Derived.Test.YtfalcbkhleobdaaGreatDoorPlm0
namespace Go.FK
namespace ref01_Sub
def e0 (k : Nat) (q0 : (List Int) → (List Int) → (List Int) → Int → Int → Option ((List Int) × Int)) (b0 : (List Int)) (b1 : (List Int)) (b2 : (List Int)) (b3 : Int) (b4 : Int) : Option ((List Int) × Int) :=
  (bif (decide (b4 < (b1.length : Int))) then
    (Option.bind (ref01_at.f k b1 b4) fun r2 =>
      (Option.bind (ref01_at.f k b2 b4) fun r3 =>
        (bif (decide (0 ≤ b4) && decide (b4 < (b0.length : Int))) then
          q0 (setN (IntKind.u32.wrap (IntKind.u64.wrap ((IntKind.u64.wrap (r2 - r3)) - b3))) b0 (Int.toNat b4)) b1 b2 (Int.fdiv (IntKind.u64.wrap ((IntKind.u64.wrap (r2 - r3)) - b3)) (2 ^ 63)) (IntKind.i64.wrap (b4 + (1 : Int)))
        else
          none)))
  else
    (Option.bind (ref01_Norm.f k b0) fun r4 =>
      (some (r4, (0 : Int)))))
def e (k : Nat) (q0 : (List Int) → (List Int) → (List Int) → Int → Int → Option ((List Int) × Int)) (a0 : (List Int)) (a1 : (List Int)) : Option ((List Int) × Int) :=
  (Option.bind (ref01_Cmp.f k a0 a1) fun r1 =>
    (bif (decide (r1 < (0 : Int))) then
      (some (([] : List Int), (10 : Int)))
    else
      (bif (decide (0 ≤ (a0.length : Int)) && decide ((a0.length : Int) * 4 ≤ 281474976710656) && decide ((a0.length : Int) ≤ 9223372036854775807)) then
        q0 (List.replicate (Int.toNat (a0.length : Int)) (0 : Int)) a0 a1 (0 : Int) (0 : Int)
      else
        none)))
def pts : Nat → ((List Int) → (List Int) → (List Int) → Int → Int → Option ((List Int) × Int))
  | 0 => fun _ _ _ _ _ => none
  | k + 1 => e0 k (pts k)
def p0 (k : Nat) : (List Int) → (List Int) → (List Int) → Int → Int → Option ((List Int) × Int) := (pts k)
theorem p0_succ (k : Nat) (x0 : (List Int)) (x1 : (List Int)) (x2 : (List Int)) (x3 : Int) (x4 : Int) : p0 (k + 1) x0 x1 x2 x3 x4 = e0 k (p0 k) x0 x1 x2 x3 x4 := rfl
def f (k : Nat) (a0 : (List Int)) (a1 : (List Int)) : Option ((List Int) × Int) := e k (p0 k) a0 a1
end ref01_Sub

namespace ref01_twice
def e11 (_k : Nat) (_q11 : (List Int) → (List Int) → Int → Option (List Int)) (q0 : (List Int) → (List Int) → Int → Int → Option (List Int)) (b0 : (List Int)) (b1 : (List Int)) (b2 : Int) : Option (List Int) :=
  q0 b0 b1 b2 (0 : Int)
def e0 (k : Nat) (_q11 : (List Int) → (List Int) → Int → Option (List Int)) (q0 : (List Int) → (List Int) → Int → Int → Option (List Int)) (b0 : (List Int)) (b1 : (List Int)) (b2 : Int) (b3 : Int) : Option (List Int) :=
  (bif (decide (b3 < (b1.length : Int))) then
    (bif (decide (0 ≤ b3) && decide (b3 < (b1.length : Int))) then
      (bif (decide (0 ≤ b3) && decide (b3 < (b0.length : Int))) then
        (bif (decide (0 ≤ b3) && decide (b3 < (b1.length : Int))) then
          q0 (setN (bitsI .or .u32 (IntKind.u32.wrap ((nthD (0 : Int) b1 (Int.toNat b3)) * 2 ^ 1)) b2) b0 (Int.toNat b3)) b1 (Int.fdiv (nthD (0 : Int) b1 (Int.toNat b3)) (2 ^ 31)) (IntKind.i64.wrap (b3 + (1 : Int)))
        else
          none)
      else
        none)
    else
      none)
  else
    (bif (decide (0 ≤ (b1.length : Int)) && decide ((b1.length : Int) < (b0.length : Int))) then
      (Option.bind (ref01_Norm.f k (setN b2 b0 (Int.toNat (b1.length : Int)))) fun r1 =>
        (some r1))
    else
      none))
def e (_k : Nat) (q11 : (List Int) → (List Int) → Int → Option (List Int)) (_q0 : (List Int) → (List Int) → Int → Int → Option (List Int)) (a0 : (List Int)) (a1 : Bool) : Option (List Int) :=
  (bif (decide (0 ≤ (IntKind.i64.wrap ((a0.length : Int) + (1 : Int)))) && decide ((IntKind.i64.wrap ((a0.length : Int) + (1 : Int))) * 4 ≤ 281474976710656) && decide ((IntKind.i64.wrap ((a0.length : Int) + (1 : Int))) ≤ 9223372036854775807)) then
    (bif a1 then
      q11 (List.replicate (Int.toNat (IntKind.i64.wrap ((a0.length : Int) + (1 : Int)))) (0 : Int)) a0 (1 : Int)
    else
      q11 (List.replicate (Int.toNat (IntKind.i64.wrap ((a0.length : Int) + (1 : Int)))) (0 : Int)) a0 (0 : Int))
  else
    none)
def pts : Nat → ((List Int) → (List Int) → Int → Option (List Int)) × ((List Int) → (List Int) → Int → Int → Option (List Int))
  | 0 => (fun _ _ _ => none, fun _ _ _ _ => none)
  | k + 1 => (e11 k (pts k).1 (pts k).2, e0 k (pts k).1 (pts k).2)
def p11 (k : Nat) : (List Int) → (List Int) → Int → Option (List Int) := (pts k).1
def p0 (k : Nat) : (List Int) → (List Int) → Int → Int → Option (List Int) := (pts k).2
theorem p11_succ (k : Nat) (x0 : (List Int)) (x1 : (List Int)) (x2 : Int) : p11 (k + 1) x0 x1 x2 = e11 k (p11 k) (p0 k) x0 x1 x2 := rfl
theorem p0_succ (k : Nat) (x0 : (List Int)) (x1 : (List Int)) (x2 : Int) (x3 : Int) : p0 (k + 1) x0 x1 x2 x3 = e0 k (p11 k) (p0 k) x0 x1 x2 x3 := rfl
def f (k : Nat) (a0 : (List Int)) (a1 : Bool) : Option (List Int) := e k (p11 k) (p0 k) a0 a1
end ref01_twice

namespace ref01_Gcd
def e19 (_k : Nat) (_q19 : (List Int) → Option (List Int)) (_q0 : (List Int) → (List Int) → Int → Option (List Int)) (_q4 : (List Int) → (List Int) → Int → Option (List Int)) (_q8 : (List Int) → (List Int) → Int → Option (List Int)) (_q16 : (List Int) → Int → Int → Option (List Int)) (_q12 : (List Int) → (List Int) → Int → Option (List Int)) (_q45 : (List Int) → (List Int) → Int → Option (List Int)) (b0 : (List Int)) : Option (List Int) :=
  (some b0)
def e0 (k : Nat) (_q19 : (List Int) → Option (List Int)) (q0 : (List Int) → (List Int) → Int → Option (List Int)) (q4 : (List Int) → (List Int) → Int → Option (List Int)) (_q8 : (List Int) → (List Int) → Int → Option (List Int)) (_q16 : (List Int) → Int → Int → Option (List Int)) (_q12 : (List Int) → (List Int) → Int → Option (List Int)) (_q45 : (List Int) → (List Int) → Int → Option (List Int)) (b0 : (List Int)) (b1 : (List Int)) (b2 : Int) : Option (List Int) :=
  (Option.bind (ref01_Bit.f k b0 (0 : Int)) fun r5 =>
    (bif (!r5) then
      (Option.bind (ref01_Bit.f k b1 (0 : Int)) fun r6 =>
        (bif (!r6) then
          (Option.bind (ref01_Shift.f k b0 (-1 : Int)) fun r7 =>
            (Option.bind (ref01_Shift.f k b1 (-1 : Int)) fun r8 =>
              q0 r7.1 r8.1 (IntKind.i64.wrap (b2 + (1 : Int)))))
        else
          q4 b0 b1 b2))
    else
      q4 b0 b1 b2))
def e4 (_k : Nat) (_q19 : (List Int) → Option (List Int)) (_q0 : (List Int) → (List Int) → Int → Option (List Int)) (_q4 : (List Int) → (List Int) → Int → Option (List Int)) (q8 : (List Int) → (List Int) → Int → Option (List Int)) (q16 : (List Int) → Int → Int → Option (List Int)) (_q12 : (List Int) → (List Int) → Int → Option (List Int)) (_q45 : (List Int) → (List Int) → Int → Option (List Int)) (b0 : (List Int)) (b1 : (List Int)) (b2 : Int) : Option (List Int) :=
  (bif (decide ((b1.length : Int) > (0 : Int))) then
    q8 b0 b1 b2
  else
    q16 b0 b2 (0 : Int))
def e8 (k : Nat) (_q19 : (List Int) → Option (List Int)) (_q0 : (List Int) → (List Int) → Int → Option (List Int)) (_q4 : (List Int) → (List Int) → Int → Option (List Int)) (q8 : (List Int) → (List Int) → Int → Option (List Int)) (_q16 : (List Int) → Int → Int → Option (List Int)) (q12 : (List Int) → (List Int) → Int → Option (List Int)) (_q45 : (List Int) → (List Int) → Int → Option (List Int)) (b0 : (List Int)) (b1 : (List Int)) (b2 : Int) : Option (List Int) :=
  (Option.bind (ref01_Bit.f k b0 (0 : Int)) fun r9 =>
    (bif (!r9) then
      (Option.bind (ref01_Shift.f k b0 (-1 : Int)) fun r10 =>
        q8 r10.1 b1 b2)
    else
      q12 b0 b1 b2))
def e16 (k : Nat) (_q19 : (List Int) → Option (List Int)) (_q0 : (List Int) → (List Int) → Int → Option (List Int)) (_q4 : (List Int) → (List Int) → Int → Option (List Int)) (_q8 : (List Int) → (List Int) → Int → Option (List Int)) (q16 : (List Int) → Int → Int → Option (List Int)) (_q12 : (List Int) → (List Int) → Int → Option (List Int)) (_q45 : (List Int) → (List Int) → Int → Option (List Int)) (b0 : (List Int)) (b1 : Int) (b2 : Int) : Option (List Int) :=
  (bif (decide (b2 < b1)) then
    (Option.bind (ref01_twice.f k b0 false) fun r11 =>
      q16 r11 b1 (IntKind.i64.wrap (b2 + (1 : Int))))
  else
    (some b0))
def e12 (k : Nat) (_q19 : (List Int) → Option (List Int)) (_q0 : (List Int) → (List Int) → Int → Option (List Int)) (_q4 : (List Int) → (List Int) → Int → Option (List Int)) (_q8 : (List Int) → (List Int) → Int → Option (List Int)) (_q16 : (List Int) → Int → Int → Option (List Int)) (q12 : (List Int) → (List Int) → Int → Option (List Int)) (q45 : (List Int) → (List Int) → Int → Option (List Int)) (b0 : (List Int)) (b1 : (List Int)) (b2 : Int) : Option (List Int) :=
  (Option.bind (ref01_Bit.f k b1 (0 : Int)) fun r12 =>
    (bif (!r12) then
      (Option.bind (ref01_Shift.f k b1 (-1 : Int)) fun r13 =>
        q12 b0 r13.1 b2)
    else
      (Option.bind (ref01_Cmp.f k b0 b1) fun r14 =>
        (bif (decide (r14 > (0 : Int))) then
          q45 b1 b0 b2
        else
          q45 b0 b1 b2))))
def e45 (k : Nat) (_q19 : (List Int) → Option (List Int)) (_q0 : (List Int) → (List Int) → Int → Option (List Int)) (q4 : (List Int) → (List Int) → Int → Option (List Int)) (_q8 : (List Int) → (List Int) → Int → Option (List Int)) (_q16 : (List Int) → Int → Int → Option (List Int)) (_q12 : (List Int) → (List Int) → Int → Option (List Int)) (_q45 : (List Int) → (List Int) → Int → Option (List Int)) (b0 : (List Int)) (b1 : (List Int)) (b2 : Int) : Option (List Int) :=
  (Option.bind (ref01_Sub.f k b1 b0) fun r15 =>
    q4 b0 r15.1 b2)
def e (k : Nat) (q19 : (List Int) → Option (List Int)) (q0 : (List Int) → (List Int) → Int → Option (List Int)) (_q4 : (List Int) → (List Int) → Int → Option (List Int)) (_q8 : (List Int) → (List Int) → Int → Option (List Int)) (_q16 : (List Int) → Int → Int → Option (List Int)) (_q12 : (List Int) → (List Int) → Int → Option (List Int)) (_q45 : (List Int) → (List Int) → Int → Option (List Int)) (a0 : (List Int)) (a1 : (List Int)) : Option (List Int) :=
  (Option.bind (ref01_Norm.f k a0) fun r1 =>
    (Option.bind (ref01_Norm.f k a1) fun r2 =>
      (bif (decide ((r1.length : Int) = (0 : Int))) then
        (some r2)
      else
        (bif (decide ((r2.length : Int) = (0 : Int))) then
          (some r1)
        else
          (Option.bind (ref01_Cmp.f k r1 [(1 : Int)]) fun r3 =>
            (bif (decide (r3 = (0 : Int))) then
              q19 [(1 : Int)]
            else
              (Option.bind (ref01_Cmp.f k r2 [(1 : Int)]) fun r4 =>
                (bif (decide (r4 = (0 : Int))) then
                  q19 [(1 : Int)]
                else
                  q0 r1 r2 (0 : Int)))))))))
def pts : Nat → ((List Int) → Option (List Int)) × ((List Int) → (List Int) → Int → Option (List Int)) × ((List Int) → (List Int) → Int → Option (List Int)) × ((List Int) → (List Int) → Int → Option (List Int)) × ((List Int) → Int → Int → Option (List Int)) × ((List Int) → (List Int) → Int → Option (List Int)) × ((List Int) → (List Int) → Int → Option (List Int))
  | 0 => (fun _ => none, fun _ _ _ => none, fun _ _ _ => none, fun _ _ _ => none, fun _ _ _ => none, fun _ _ _ => none, fun _ _ _ => none)
  | k + 1 => (e19 k (pts k).1 (pts k).2.1 (pts k).2.2.1 (pts k).2.2.2.1 (pts k).2.2.2.2.1 (pts k).2.2.2.2.2.1 (pts k).2.2.2.2.2.2, e0 k (pts k).1 (pts k).2.1 (pts k).2.2.1 (pts k).2.2.2.1 (pts k).2.2.2.2.1 (pts k).2.2.2.2.2.1 (pts k).2.2.2.2.2.2, e4 k (pts k).1 (pts k).2.1 (pts k).2.2.1 (pts k).2.2.2.1 (pts k).2.2.2.2.1 (pts k).2.2.2.2.2.1 (pts k).2.2.2.2.2.2, e8 k (pts k).1 (pts k).2.1 (pts k).2.2.1 (pts k).2.2.2.1 (pts k).2.2.2.2.1 (pts k).2.2.2.2.2.1 (pts k).2.2.2.2.2.2, e16 k (pts k).1 (pts k).2.1 (pts k).2.2.1 (pts k).2.2.2.1 (pts k).2.2.2.2.1 (pts k).2.2.2.2.2.1 (pts k).2.2.2.2.2.2, e12 k (pts k).1 (pts k).2.1 (pts k).2.2.1 (pts k).2.2.2.1 (pts k).2.2.2.2.1 (pts k).2.2.2.2.2.1 (pts k).2.2.2.2.2.2, e45 k (pts k).1 (pts k).2.1 (pts k).2.2.1 (pts k).2.2.2.1 (pts k).2.2.2.2.1 (pts k).2.2.2.2.2.1 (pts k).2.2.2.2.2.2)
def p19 (k : Nat) : (List Int) → Option (List Int) := (pts k).1
def p0 (k : Nat) : (List Int) → (List Int) → Int → Option (List Int) := (pts k).2.1
def p4 (k : Nat) : (List Int) → (List Int) → Int → Option (List Int) := (pts k).2.2.1
def p8 (k : Nat) : (List Int) → (List Int) → Int → Option (List Int) := (pts k).2.2.2.1
def p16 (k : Nat) : (List Int) → Int → Int → Option (List Int) := (pts k).2.2.2.2.1
def p12 (k : Nat) : (List Int) → (List Int) → Int → Option (List Int) := (pts k).2.2.2.2.2.1
def p45 (k : Nat) : (List Int) → (List Int) → Int → Option (List Int) := (pts k).2.2.2.2.2.2
theorem p19_succ (k : Nat) (x0 : (List Int)) : p19 (k + 1) x0 = e19 k (p19 k) (p0 k) (p4 k) (p8 k) (p16 k) (p12 k) (p45 k) x0 := rfl
theorem p0_succ (k : Nat) (x0 : (List Int)) (x1 : (List Int)) (x2 : Int) : p0 (k + 1) x0 x1 x2 = e0 k (p19 k) (p0 k) (p4 k) (p8 k) (p16 k) (p12 k) (p45 k) x0 x1 x2 := rfl
theorem p4_succ (k : Nat) (x0 : (List Int)) (x1 : (List Int)) (x2 : Int) : p4 (k + 1) x0 x1 x2 = e4 k (p19 k) (p0 k) (p4 k) (p8 k) (p16 k) (p12 k) (p45 k) x0 x1 x2 := rfl
theorem p8_succ (k : Nat) (x0 : (List Int)) (x1 : (List Int)) (x2 : Int) : p8 (k + 1) x0 x1 x2 = e8 k (p19 k) (p0 k) (p4 k) (p8 k) (p16 k) (p12 k) (p45 k) x0 x1 x2 := rfl
theorem p16_succ (k : Nat) (x0 : (List Int)) (x1 : Int) (x2 : Int) : p16 (k + 1) x0 x1 x2 = e16 k (p19 k) (p0 k) (p4 k) (p8 k) (p16 k) (p12 k) (p45 k) x0 x1 x2 := rfl
theorem p12_succ (k : Nat) (x0 : (List Int)) (x1 : (List Int)) (x2 : Int) : p12 (k + 1) x0 x1 x2 = e12 k (p19 k) (p0 k) (p4 k) (p8 k) (p16 k) (p12 k) (p45 k) x0 x1 x2 := rfl
theorem p45_succ (k : Nat) (x0 : (List Int)) (x1 : (List Int)) (x2 : Int) : p45 (k + 1) x0 x1 x2 = e45 k (p19 k) (p0 k) (p4 k) (p8 k) (p16 k) (p12 k) (p45 k) x0 x1 x2 := rfl
def f (k : Nat) (a0 : (List Int)) (a1 : (List Int)) : Option (List Int) := e k (p19 k) (p0 k) (p4 k) (p8 k) (p16 k) (p12 k) (p45 k) a0 a1
end ref01_Gcd

namespace ref01_Div
def e19 (k : Nat) (_q19 : (List Int) → (List Int) → (List Int) → Int → Option ((List Int) × (List Int) × Int)) (q0 : (List Int) → (List Int) → (List Int) → (List Int) → Int → Option ((List Int) × (List Int) × Int)) (_q25 : (List Int) → (List Int) → (List Int) → (List Int) → Int → Option ((List Int) × (List Int) × Int)) (b0 : (List Int)) (b1 : (List Int)) (b2 : (List Int)) (b3 : Int) : Option ((List Int) × (List Int) × Int) :=
  (bif (decide (0 ≤ (IntKind.i64.wrap ((b1.length : Int) - b3))) && decide ((IntKind.i64.wrap ((b1.length : Int) - b3)) ≤ (b1.length : Int)) && decide ((b1.length : Int) ≤ (b1.length : Int))) then
    (Option.bind (ref01_Norm.f k ((b1.take (Int.toNat (b1.length : Int))).drop (Int.toNat (IntKind.i64.wrap ((b1.length : Int) - b3))))) fun r3 =>
      q0 b0 b1 b2 r3 (IntKind.i64.wrap ((IntKind.i64.wrap ((32 : Int) * (IntKind.i64.wrap ((b1.length : Int) - b3)))) - (1 : Int))))
  else
    none)
def e0 (k : Nat) (_q19 : (List Int) → (List Int) → (List Int) → Int → Option ((List Int) × (List Int) × Int)) (_q0 : (List Int) → (List Int) → (List Int) → (List Int) → Int → Option ((List Int) × (List Int) × Int)) (q25 : (List Int) → (List Int) → (List Int) → (List Int) → Int → Option ((List Int) × (List Int) × Int)) (b0 : (List Int)) (b1 : (List Int)) (b2 : (List Int)) (b3 : (List Int)) (b4 : Int) : Option ((List Int) × (List Int) × Int) :=
  (bif (decide (b4 ≥ (0 : Int))) then
    (Option.bind (ref01_Bit.f k b1 b4) fun r4 =>
      (Option.bind (ref01_twice.f k b3 r4) fun r5 =>
        (Option.bind (ref01_Cmp.f k r5 b2) fun r6 =>
          (bif (decide (r6 ≥ (0 : Int))) then
            (Option.bind (ref01_Sub.f k r5 b2) fun r7 =>
              (bif (decide (0 ≤ (IntKind.i64.wrap (Int.tdiv b4 (32 : Int)))) && decide ((IntKind.i64.wrap (Int.tdiv b4 (32 : Int))) < (b0.length : Int))) then
                (bif (decide ((IntKind.u64.wrap (Int.tmod b4 (32 : Int))) < 0)) then
                  none
                else
                  (bif (decide (0 ≤ (IntKind.i64.wrap (Int.tdiv b4 (32 : Int)))) && decide ((IntKind.i64.wrap (Int.tdiv b4 (32 : Int))) < (b0.length : Int))) then
                    q25 (setN (bitsI .or .u32 (nthD (0 : Int) b0 (Int.toNat (IntKind.i64.wrap (Int.tdiv b4 (32 : Int))))) (IntKind.u32.wrap ((1 : Int) * 2 ^ min (Int.toNat (IntKind.u64.wrap (Int.tmod b4 (32 : Int)))) 32))) b0 (Int.toNat (IntKind.i64.wrap (Int.tdiv b4 (32 : Int))))) b1 b2 r7.1 b4
                  else
                    none))
              else
                none))
          else
            q25 b0 b1 b2 r5 b4))))
  else
    (Option.bind (ref01_Norm.f k b0) fun r8 =>
      (some (r8, b3, (0 : Int)))))
def e25 (_k : Nat) (_q19 : (List Int) → (List Int) → (List Int) → Int → Option ((List Int) × (List Int) × Int)) (q0 : (List Int) → (List Int) → (List Int) → (List Int) → Int → Option ((List Int) × (List Int) × Int)) (_q25 : (List Int) → (List Int) → (List Int) → (List Int) → Int → Option ((List Int) × (List Int) × Int)) (b0 : (List Int)) (b1 : (List Int)) (b2 : (List Int)) (b3 : (List Int)) (b4 : Int) : Option ((List Int) × (List Int) × Int) :=
  q0 b0 b1 b2 b3 (IntKind.i64.wrap (b4 - (1 : Int)))
def e (k : Nat) (q19 : (List Int) → (List Int) → (List Int) → Int → Option ((List Int) × (List Int) × Int)) (_q0 : (List Int) → (List Int) → (List Int) → (List Int) → Int → Option ((List Int) × (List Int) × Int)) (_q25 : (List Int) → (List Int) → (List Int) → (List Int) → Int → Option ((List Int) × (List Int) × Int)) (a0 : (List Int)) (a1 : (List Int)) : Option ((List Int) × (List Int) × Int) :=
  (Option.bind (ref01_Norm.f k a1) fun r1 =>
    (bif (decide ((r1.length : Int) = (0 : Int))) then
      (some (([] : List Int), ([] : List Int), (11 : Int)))
    else
      (Option.bind (ref01_Norm.f k a0) fun r2 =>
        (bif (decide (0 ≤ (r2.length : Int)) && decide ((r2.length : Int) * 4 ≤ 281474976710656) && decide ((r2.length : Int) ≤ 9223372036854775807)) then
          (bif (decide ((IntKind.i64.wrap ((r1.length : Int) - (1 : Int))) > (r2.length : Int))) then
            q19 (List.replicate (Int.toNat (r2.length : Int)) (0 : Int)) r2 r1 (r2.length : Int)
          else
            q19 (List.replicate (Int.toNat (r2.length : Int)) (0 : Int)) r2 r1 (IntKind.i64.wrap ((r1.length : Int) - (1 : Int))))
        else
          none))))
def pts : Nat → ((List Int) → (List Int) → (List Int) → Int → Option ((List Int) × (List Int) × Int)) × ((List Int) → (List Int) → (List Int) → (List Int) → Int → Option ((List Int) × (List Int) × Int)) × ((List Int) → (List Int) → (List Int) → (List Int) → Int → Option ((List Int) × (List Int) × Int))
  | 0 => (fun _ _ _ _ => none, fun _ _ _ _ _ => none, fun _ _ _ _ _ => none)
  | k + 1 => (e19 k (pts k).1 (pts k).2.1 (pts k).2.2, e0 k (pts k).1 (pts k).2.1 (pts k).2.2, e25 k (pts k).1 (pts k).2.1 (pts k).2.2)
def p19 (k : Nat) : (List Int) → (List Int) → (List Int) → Int → Option ((List Int) × (List Int) × Int) := (pts k).1
def p0 (k : Nat) : (List Int) → (List Int) → (List Int) → (List Int) → Int → Option ((List Int) × (List Int) × Int) := (pts k).2.1
def p25 (k : Nat) : (List Int) → (List Int) → (List Int) → (List Int) → Int → Option ((List Int) × (List Int) × Int) := (pts k).2.2
theorem p19_succ (k : Nat) (x0 : (List Int)) (x1 : (List Int)) (x2 : (List Int)) (x3 : Int) : p19 (k + 1) x0 x1 x2 x3 = e19 k (p19 k) (p0 k) (p25 k) x0 x1 x2 x3 := rfl
theorem p0_succ (k : Nat) (x0 : (List Int)) (x1 : (List Int)) (x2 : (List Int)) (x3 : (List Int)) (x4 : Int) : p0 (k + 1) x0 x1 x2 x3 x4 = e0 k (p19 k) (p0 k) (p25 k) x0 x1 x2 x3 x4 := rfl
theorem p25_succ (k : Nat) (x0 : (List Int)) (x1 : (List Int)) (x2 : (List Int)) (x3 : (List Int)) (x4 : Int) : p25 (k + 1) x0 x1 x2 x3 x4 = e25 k (p19 k) (p0 k) (p25 k) x0 x1 x2 x3 x4 := rfl
def f (k : Nat) (a0 : (List Int)) (a1 : (List Int)) : Option ((List Int) × (List Int) × Int) := e k (p19 k) (p0 k) (p25 k) a0 a1
end ref01_Div

namespace ref03_Norm
def e9 (_k : Nat) (_q9 : ((Bool × (List Int)) × (List Int)) → Option ((Bool × (List Int)) × (List Int))) (_b0 : ((Bool × (List Int)) × (List Int))) : Option ((Bool × (List Int)) × (List Int)) :=
  (some ((false, ([] : List Int)), [(1 : Int)]))
def e (k : Nat) (q9 : ((Bool × (List Int)) × (List Int)) → Option ((Bool × (List Int)) × (List Int))) (a0 : ((Bool × (List Int)) × (List Int))) : Option ((Bool × (List Int)) × (List Int)) :=
  (Option.bind (ref02_Norm.f k a0.1) fun r1 =>
    (Option.bind (ref01_Norm.f k a0.2) fun r2 =>
      (bif (decide ((r2.length : Int) = (0 : Int))) then
        q9 ((false, ([] : List Int)), ([] : List Int))
      else
        (bif (decide ((r1.2.length : Int) = (0 : Int))) then
          q9 ((false, ([] : List Int)), ([] : List Int))
        else
          (Option.bind (ref01_Gcd.f k r1.2 r2) fun r3 =>
            (Option.bind (ref01_Div.f k r1.2 r3) fun r4 =>
              (Option.bind (ref01_Div.f k r2 r3) fun r5 =>
                (some ((r1.1, r4.1), r5.1)))))))))
def pts : Nat → (((Bool × (List Int)) × (List Int)) → Option ((Bool × (List Int)) × (List Int)))
  | 0 => fun _ => none
  | k + 1 => e9 k (pts k)
def p9 (k : Nat) : ((Bool × (List Int)) × (List Int)) → Option ((Bool × (List Int)) × (List Int)) := (pts k)
theorem p9_succ (k : Nat) (x0 : ((Bool × (List Int)) × (List Int))) : p9 (k + 1) x0 = e9 k (p9 k) x0 := rfl
def f (k : Nat) (a0 : ((Bool × (List Int)) × (List Int))) : Option ((Bool × (List Int)) × (List Int)) := e k (p9 k) a0
end ref03_Norm

namespace ref03_Whole
def e (k : Nat) (a0 : Int) : Option ((Bool × (List Int)) × (List Int)) :=
  (Option.bind (ref02_Of.f k a0) fun r1 =>
    (Option.bind (ref03_Norm.f k (r1, [(1 : Int)])) fun r2 =>
      (some r2)))
def f (k : Nat) (a0 : Int) : Option ((Bool × (List Int)) × (List Int)) := e k a0
end ref03_Whole

namespace ref01_Same
def e0 (_k : Nat) (q0 : (List Int) → (List Int) → Int → Option Bool) (b0 : (List Int)) (b1 : (List Int)) (b2 : Int) : Option Bool :=
  (bif (decide (b2 < (b0.length : Int))) then
    (bif (decide (0 ≤ b2) && decide (b2 < (b0.length : Int))) then
      (bif (decide (0 ≤ b2) && decide (b2 < (b1.length : Int))) then
        (bif (!decide ((nthD (0 : Int) b0 (Int.toNat b2)) = (nthD (0 : Int) b1 (Int.toNat b2)))) then
          (some false)
        else
          q0 b0 b1 (IntKind.i64.wrap (b2 + (1 : Int))))
      else
        none)
    else
      none)
  else
    (some true))
def e (_k : Nat) (q0 : (List Int) → (List Int) → Int → Option Bool) (a0 : (List Int)) (a1 : (List Int)) : Option Bool :=
  (bif (!decide ((a0.length : Int) = (a1.length : Int))) then
    (some false)
  else
    q0 a0 a1 (0 : Int))
def pts : Nat → ((List Int) → (List Int) → Int → Option Bool)
  | 0 => fun _ _ _ => none
  | k + 1 => e0 k (pts k)
def p0 (k : Nat) : (List Int) → (List Int) → Int → Option Bool := (pts k)
theorem p0_succ (k : Nat) (x0 : (List Int)) (x1 : (List Int)) (x2 : Int) : p0 (k + 1) x0 x1 x2 = e0 k (p0 k) x0 x1 x2 := rfl
def f (k : Nat) (a0 : (List Int)) (a1 : (List Int)) : Option Bool := e k (p0 k) a0 a1
end ref01_Same

namespace ref03_Same
def e (k : Nat) (a0 : ((Bool × (List Int)) × (List Int))) (a1 : ((Bool × (List Int)) × (List Int))) : Option Bool :=
  (bif (a0.1.1 == a1.1.1) then
    (Option.bind (ref01_Same.f k a0.1.2 a1.1.2) fun r1 =>
      (bif r1 then
        (Option.bind (ref01_Same.f k a0.2 a1.2) fun r2 =>
          (some r2))
      else
        (some false)))
  else
    (some false))
def f (k : Nat) (a0 : ((Bool × (List Int)) × (List Int))) (a1 : ((Bool × (List Int)) × (List Int))) : Option Bool := e k a0 a1
end ref03_Same

namespace ref05_Same
def e (k : Nat) (a0 : (((Bool × (List Int)) × (List Int)) × ((Bool × (List Int)) × (List Int)))) (a1 : (((Bool × (List Int)) × (List Int)) × ((Bool × (List Int)) × (List Int)))) : Option Bool :=
  (Option.bind (ref03_Same.f k a0.1 a1.1) fun r1 =>
    (bif r1 then
      (Option.bind (ref03_Same.f k a0.2 a1.2) fun r2 =>
        (some r2))
    else
      (some false)))
def f (k : Nat) (a0 : (((Bool × (List Int)) × (List Int)) × ((Bool × (List Int)) × (List Int)))) (a1 : (((Bool × (List Int)) × (List Int)) × ((Bool × (List Int)) × (List Int)))) : Option Bool := e k a0 a1
end ref05_Same

namespace law05_same
def e (k : Nat) (a0 : (((Bool × (List Int)) × (List Int)) × ((Bool × (List Int)) × (List Int)))) (a1 : (((Bool × (List Int)) × (List Int)) × ((Bool × (List Int)) × (List Int)))) : Option Bool :=
  (Option.bind (ref05_Same.f k a0 a1) fun r1 =>
    (some r1))
def f (k : Nat) (a0 : (((Bool × (List Int)) × (List Int)) × ((Bool × (List Int)) × (List Int)))) (a1 : (((Bool × (List Int)) × (List Int)) × ((Bool × (List Int)) × (List Int)))) : Option Bool := e k a0 a1
end law05_same

namespace law05_lives
def e (k : Nat) (_ : Unit) : Option Bool :=
  (Option.bind (delta_Parse.f k (ByteArray.mk #[51, 45, 50, 100])) fun r1 =>
    (bif (decide (r1.2 = (0 : Int))) then
      (Option.bind (ref03_Whole.f k (3 : Int)) fun r2 =>
        (Option.bind (ref03_Whole.f k (-2 : Int)) fun r3 =>
          (Option.bind (law05_same.f k r1.1 (r2, r3)) fun r4 =>
            (some r4))))
    else
      (some false)))
def f (k : Nat) (a0 : Unit) : Option Bool := e k a0
end law05_lives

namespace law05_nat
def e0 (_k : Nat) (q0 : (List Int) → (List Int) → Int → Option (List Int)) (b0 : (List Int)) (b1 : (List Int)) (b2 : Int) : Option (List Int) :=
  (bif (decide (b2 < (b1.length : Int))) then
    (bif (decide (0 ≤ b2) && decide (b2 < (b1.length : Int))) then
      (bif (decide (0 ≤ b2) && decide (b2 < (b0.length : Int))) then
        q0 (setN (nthD (0 : Int) b1 (Int.toNat b2)) b0 (Int.toNat b2)) b1 (IntKind.i64.wrap (b2 + (1 : Int)))
      else
        none)
    else
      none)
  else
    (some b0))
def e (_k : Nat) (q0 : (List Int) → (List Int) → Int → Option (List Int)) (a0 : (List Int)) : Option (List Int) :=
  (bif (decide (0 ≤ (a0.length : Int)) && decide ((a0.length : Int) * 4 ≤ 281474976710656) && decide ((a0.length : Int) ≤ 9223372036854775807)) then
    q0 (List.replicate (Int.toNat (a0.length : Int)) (0 : Int)) a0 (0 : Int)
  else
    none)
def pts : Nat → ((List Int) → (List Int) → Int → Option (List Int))
  | 0 => fun _ _ _ => none
  | k + 1 => e0 k (pts k)
def p0 (k : Nat) : (List Int) → (List Int) → Int → Option (List Int) := (pts k)
theorem p0_succ (k : Nat) (x0 : (List Int)) (x1 : (List Int)) (x2 : Int) : p0 (k + 1) x0 x1 x2 = e0 k (p0 k) x0 x1 x2 := rfl
def f (k : Nat) (a0 : (List Int)) : Option (List Int) := e k (p0 k) a0
end law05_nat

namespace law05_rat
def e (k : Nat) (a0 : ((Bool × (List Int)) × (List Int))) : Option ((Bool × (List Int)) × (List Int)) :=
  (Option.bind (law05_nat.f k a0.1.2) fun r1 =>
    (Option.bind (law05_nat.f k a0.2) fun r2 =>
      (some ((a0.1.1, r1), r2))))
def f (k : Nat) (a0 : ((Bool × (List Int)) × (List Int))) : Option ((Bool × (List Int)) × (List Int)) := e k a0
end law05_rat

namespace law05_twin
def e (k : Nat) (a0 : (((Bool × (List Int)) × (List Int)) × ((Bool × (List Int)) × (List Int)))) : Option (((Bool × (List Int)) × (List Int)) × ((Bool × (List Int)) × (List Int))) :=
  (Option.bind (law05_rat.f k a0.1) fun r1 =>
    (Option.bind (law05_rat.f k a0.2) fun r2 =>
      (some (r1, r2))))
def f (k : Nat) (a0 : (((Bool × (List Int)) × (List Int)) × ((Bool × (List Int)) × (List Int)))) : Option (((Bool × (List Int)) × (List Int)) × ((Bool × (List Int)) × (List Int))) := e k a0
end law05_twin

namespace ref01_tenth
def e0 (k : Nat) (q0 : (List Int) → (List Int) → Int → Int → Int → Option ((List Int) × Int)) (b0 : (List Int)) (b1 : (List Int)) (b2 : Int) (b3 : Int) (b4 : Int) : Option ((List Int) × Int) :=
  (bif (decide (b4 ≥ (0 : Int))) then
    (bif (decide (0 ≤ b4) && decide (b4 < (b1.length : Int))) then
      (bif (decide ((IntKind.u64.wrap b2) = 0)) then
        none
      else
        (bif (decide (0 ≤ b4) && decide (b4 < (b0.length : Int))) then
          (bif (decide ((IntKind.u64.wrap b2) = 0)) then
            none
          else
            q0 (setN (IntKind.u32.wrap (IntKind.u64.wrap (Int.tdiv (bitsI .or .u64 (IntKind.u64.wrap (b3 * 2 ^ 32)) (IntKind.u64.wrap (nthD (0 : Int) b1 (Int.toNat b4)))) (IntKind.u64.wrap b2)))) b0 (Int.toNat b4)) b1 b2 (Int.tmod (bitsI .or .u64 (IntKind.u64.wrap (b3 * 2 ^ 32)) (IntKind.u64.wrap (nthD (0 : Int) b1 (Int.toNat b4)))) (IntKind.u64.wrap b2)) (IntKind.i64.wrap (b4 - (1 : Int))))
        else
          none))
    else
      none)
  else
    (Option.bind (ref01_Norm.f k b0) fun r1 =>
      (some (r1, (IntKind.i64.wrap b3)))))
def e (_k : Nat) (q0 : (List Int) → (List Int) → Int → Int → Int → Option ((List Int) × Int)) (a0 : (List Int)) (a1 : Int) : Option ((List Int) × Int) :=
  (bif (decide (0 ≤ (a0.length : Int)) && decide ((a0.length : Int) * 4 ≤ 281474976710656) && decide ((a0.length : Int) ≤ 9223372036854775807)) then
    q0 (List.replicate (Int.toNat (a0.length : Int)) (0 : Int)) a0 a1 (0 : Int) (IntKind.i64.wrap ((a0.length : Int) - (1 : Int)))
  else
    none)
def pts : Nat → ((List Int) → (List Int) → Int → Int → Int → Option ((List Int) × Int))
  | 0 => fun _ _ _ _ _ => none
  | k + 1 => e0 k (pts k)
def p0 (k : Nat) : (List Int) → (List Int) → Int → Int → Int → Option ((List Int) × Int) := (pts k)
theorem p0_succ (k : Nat) (x0 : (List Int)) (x1 : (List Int)) (x2 : Int) (x3 : Int) (x4 : Int) : p0 (k + 1) x0 x1 x2 x3 x4 = e0 k (p0 k) x0 x1 x2 x3 x4 := rfl
def f (k : Nat) (a0 : (List Int)) (a1 : Int) : Option ((List Int) × Int) := e k (p0 k) a0 a1
end ref01_tenth

namespace ref01_Text
def e5 (_k : Nat) (_q5 : Unit → Option (ByteArray × Int)) (_q0 : (List Int) → (List Int) → Int → Option (ByteArray × Int)) (_q4 : (List Int) → (List Int) → Int → Option (ByteArray × Int)) (_ : Unit) : Option (ByteArray × Int) :=
  (some ((ByteArray.mk #[]), (14 : Int)))
def e0 (k : Nat) (_q5 : Unit → Option (ByteArray × Int)) (q0 : (List Int) → (List Int) → Int → Option (ByteArray × Int)) (q4 : (List Int) → (List Int) → Int → Option (ByteArray × Int)) (b0 : (List Int)) (b1 : (List Int)) (b2 : Int) : Option (ByteArray × Int) :=
  (bif (decide ((b1.length : Int) > (0 : Int))) then
    (Option.bind (ref01_tenth.f k b1 b2) fun r2 =>
      (bif (decide (0 ≤ r2.2) && decide (r2.2 < (str_9f9f5111f7.size : Int))) then
        (bif (Nat.ble ((b0.length + [(btI str_9f9f5111f7 r2.2)].length) * 1) 140737488355328 && Nat.ble (b0.length + [(btI str_9f9f5111f7 r2.2)].length) 9223372036854775807) then
          q0 (b0 ++ [(btI str_9f9f5111f7 r2.2)]) r2.1 b2
        else
          none)
      else
        none))
  else
    (bif (decide ((b0.length : Int) = (0 : Int))) then
      (some ((ByteArray.mk #[48]), (0 : Int)))
    else
      (bif (decide (0 ≤ (b0.length : Int)) && decide ((b0.length : Int) * 1 ≤ 281474976710656) && decide ((b0.length : Int) ≤ 9223372036854775807)) then
        q4 b0 (List.replicate (Int.toNat (b0.length : Int)) (0 : Int)) (0 : Int)
      else
        none)))
def e4 (_k : Nat) (_q5 : Unit → Option (ByteArray × Int)) (_q0 : (List Int) → (List Int) → Int → Option (ByteArray × Int)) (q4 : (List Int) → (List Int) → Int → Option (ByteArray × Int)) (b0 : (List Int)) (b1 : (List Int)) (b2 : Int) : Option (ByteArray × Int) :=
  (bif (decide (b2 < (b0.length : Int))) then
    (bif (decide (0 ≤ b2) && decide (b2 < (b0.length : Int))) then
      (bif (decide (0 ≤ (IntKind.i64.wrap ((IntKind.i64.wrap ((b0.length : Int) - (1 : Int))) - b2))) && decide ((IntKind.i64.wrap ((IntKind.i64.wrap ((b0.length : Int) - (1 : Int))) - b2)) < (b1.length : Int))) then
        q4 b0 (setN (nthD (0 : Int) b0 (Int.toNat b2)) b1 (Int.toNat (IntKind.i64.wrap ((IntKind.i64.wrap ((b0.length : Int) - (1 : Int))) - b2)))) (IntKind.i64.wrap (b2 + (1 : Int)))
      else
        none)
    else
      none)
  else
    (some ((ofB b1), (0 : Int))))
def e (k : Nat) (q5 : Unit → Option (ByteArray × Int)) (q0 : (List Int) → (List Int) → Int → Option (ByteArray × Int)) (_q4 : (List Int) → (List Int) → Int → Option (ByteArray × Int)) (a0 : (List Int)) (a1 : Int) : Option (ByteArray × Int) :=
  (bif (decide (a1 < (2 : Int))) then
    q5 ()
  else
    (bif (decide (a1 > (16 : Int))) then
      q5 ()
    else
      (Option.bind (ref01_Norm.f k a0) fun r1 =>
        q0 ([] : List Int) r1 a1)))
def pts : Nat → (Unit → Option (ByteArray × Int)) × ((List Int) → (List Int) → Int → Option (ByteArray × Int)) × ((List Int) → (List Int) → Int → Option (ByteArray × Int))
  | 0 => (fun _ => none, fun _ _ _ => none, fun _ _ _ => none)
  | k + 1 => (e5 k (pts k).1 (pts k).2.1 (pts k).2.2, e0 k (pts k).1 (pts k).2.1 (pts k).2.2, e4 k (pts k).1 (pts k).2.1 (pts k).2.2)
def p5 (k : Nat) : Unit → Option (ByteArray × Int) := (pts k).1
def p0 (k : Nat) : (List Int) → (List Int) → Int → Option (ByteArray × Int) := (pts k).2.1
def p4 (k : Nat) : (List Int) → (List Int) → Int → Option (ByteArray × Int) := (pts k).2.2
theorem p5_succ (k : Nat) (x0 : Unit) : p5 (k + 1) x0 = e5 k (p5 k) (p0 k) (p4 k) x0 := rfl
theorem p0_succ (k : Nat) (x0 : (List Int)) (x1 : (List Int)) (x2 : Int) : p0 (k + 1) x0 x1 x2 = e0 k (p5 k) (p0 k) (p4 k) x0 x1 x2 := rfl
theorem p4_succ (k : Nat) (x0 : (List Int)) (x1 : (List Int)) (x2 : Int) : p4 (k + 1) x0 x1 x2 = e4 k (p5 k) (p0 k) (p4 k) x0 x1 x2 := rfl
def f (k : Nat) (a0 : (List Int)) (a1 : Int) : Option (ByteArray × Int) := e k (p5 k) (p0 k) (p4 k) a0 a1
end ref01_Text

namespace ref02_Sign
def e (k : Nat) (a0 : (Bool × (List Int))) : Option Int :=
  (Option.bind (ref02_Norm.f k a0) fun r1 =>
    (bif r1.1 then
      (some (-1 : Int))
    else
      (bif (decide ((r1.2.length : Int) > (0 : Int))) then
        (some (1 : Int))
      else
        (some (0 : Int)))))
def f (k : Nat) (a0 : (Bool × (List Int))) : Option Int := e k a0
end ref02_Sign

namespace ref02_Text
def e (k : Nat) (a0 : (Bool × (List Int))) : Option ByteArray :=
  (Option.bind (ref01_Norm.f k a0.2) fun r1 =>
    (Option.bind (ref01_Text.f k r1 (10 : Int)) fun r2 =>
      (Option.bind (ref02_Sign.f k a0) fun r3 =>
        (bif (decide (r3 < (0 : Int))) then
          (bif (decide ((((ByteArray.mk #[45]).size + r2.1.size : Nat) : Int) > IntKind.i64.max)) then
            none
          else
            (some ((ByteArray.mk #[45]) ++ r2.1)))
        else
          (some r2.1)))))
def f (k : Nat) (a0 : (Bool × (List Int))) : Option ByteArray := e k a0
end ref02_Text

namespace ref03_digits
def e (k : Nat) (a0 : (List Int)) : Option ByteArray :=
  (Option.bind (ref01_Text.f k a0 (10 : Int)) fun r1 =>
    (some r1.1))
def f (k : Nat) (a0 : (List Int)) : Option ByteArray := e k a0
end ref03_digits

namespace ref03_Text
def e11 (_k : Nat) (_q11 : ByteArray → Option ByteArray) (b0 : ByteArray) : Option ByteArray :=
  (some b0)
def e (k : Nat) (q11 : ByteArray → Option ByteArray) (a0 : ((Bool × (List Int)) × (List Int))) : Option ByteArray :=
  (Option.bind (ref03_Norm.f k a0) fun r1 =>
    (Option.bind (ref02_Text.f k r1.1) fun r2 =>
      (Option.bind (ref01_Same.f k r1.2 [(1 : Int)]) fun r3 =>
        (bif (!r3) then
          (Option.bind (ref03_digits.f k r1.2) fun r4 =>
            (bif (decide ((((ByteArray.mk #[47]).size + r4.size : Nat) : Int) > IntKind.i64.max)) then
              none
            else
              (bif (decide (((r2.size + ((ByteArray.mk #[47]) ++ r4).size : Nat) : Int) > IntKind.i64.max)) then
                none
              else
                q11 (r2 ++ ((ByteArray.mk #[47]) ++ r4)))))
        else
          q11 r2))))
def pts : Nat → (ByteArray → Option ByteArray)
  | 0 => fun _ => none
  | k + 1 => e11 k (pts k)
def p11 (k : Nat) : ByteArray → Option ByteArray := (pts k)
theorem p11_succ (k : Nat) (x0 : ByteArray) : p11 (k + 1) x0 = e11 k (p11 k) x0 := rfl
def f (k : Nat) (a0 : ((Bool × (List Int)) × (List Int))) : Option ByteArray := e k (p11 k) a0
end ref03_Text

namespace ref03_Sign
def e (k : Nat) (a0 : ((Bool × (List Int)) × (List Int))) : Option Int :=
  (Option.bind (ref03_Norm.f k a0) fun r1 =>
    (Option.bind (ref02_Sign.f k r1.1) fun r2 =>
      (some r2)))
def f (k : Nat) (a0 : ((Bool × (List Int)) × (List Int))) : Option Int := e k a0
end ref03_Sign

namespace ref02_Neg
def e (k : Nat) (a0 : (Bool × (List Int))) : Option (Bool × (List Int)) :=
  (Option.bind (ref02_made.f k (!a0.1) a0.2) fun r1 =>
    (some r1))
def f (k : Nat) (a0 : (Bool × (List Int))) : Option (Bool × (List Int)) := e k a0
end ref02_Neg

namespace ref03_Neg
def e (k : Nat) (a0 : ((Bool × (List Int)) × (List Int))) : Option ((Bool × (List Int)) × (List Int)) :=
  (Option.bind (ref03_Norm.f k a0) fun r1 =>
    (Option.bind (ref02_Neg.f k r1.1) fun r2 =>
      (Option.bind (ref03_Norm.f k (r2, r1.2)) fun r3 =>
        (some r3))))
def f (k : Nat) (a0 : ((Bool × (List Int)) × (List Int))) : Option ((Bool × (List Int)) × (List Int)) := e k a0
end ref03_Neg

namespace ref05_Text
def e15 (_k : Nat) (_q15 : ByteArray → Option ByteArray) (b0 : ByteArray) : Option ByteArray :=
  (some b0)
def e (k : Nat) (q15 : ByteArray → Option ByteArray) (a0 : (((Bool × (List Int)) × (List Int)) × ((Bool × (List Int)) × (List Int)))) : Option ByteArray :=
  (Option.bind (ref03_Text.f k a0.1) fun r1 =>
    (Option.bind (ref03_Sign.f k a0.2) fun r2 =>
      (bif (decide (r2 = (1 : Int))) then
        (Option.bind (ref03_Text.f k a0.2) fun r3 =>
          (bif (decide ((((ByteArray.mk #[43]).size + r3.size : Nat) : Int) > IntKind.i64.max)) then
            none
          else
            (bif (decide (((((ByteArray.mk #[43]) ++ r3).size + (ByteArray.mk #[100]).size : Nat) : Int) > IntKind.i64.max)) then
              none
            else
              (bif (decide (((r1.size + (((ByteArray.mk #[43]) ++ r3) ++ (ByteArray.mk #[100])).size : Nat) : Int) > IntKind.i64.max)) then
                none
              else
                q15 (r1 ++ (((ByteArray.mk #[43]) ++ r3) ++ (ByteArray.mk #[100])))))))
      else
        (bif (decide (r2 = (-1 : Int))) then
          (Option.bind (ref03_Neg.f k a0.2) fun r4 =>
            (Option.bind (ref03_Text.f k r4) fun r5 =>
              (bif (decide ((((ByteArray.mk #[45]).size + r5.size : Nat) : Int) > IntKind.i64.max)) then
                none
              else
                (bif (decide (((((ByteArray.mk #[45]) ++ r5).size + (ByteArray.mk #[100]).size : Nat) : Int) > IntKind.i64.max)) then
                  none
                else
                  (bif (decide (((r1.size + (((ByteArray.mk #[45]) ++ r5) ++ (ByteArray.mk #[100])).size : Nat) : Int) > IntKind.i64.max)) then
                    none
                  else
                    q15 (r1 ++ (((ByteArray.mk #[45]) ++ r5) ++ (ByteArray.mk #[100]))))))))
        else
          q15 r1))))
def pts : Nat → (ByteArray → Option ByteArray)
  | 0 => fun _ => none
  | k + 1 => e15 k (pts k)
def p15 (k : Nat) : ByteArray → Option ByteArray := (pts k)
theorem p15_succ (k : Nat) (x0 : ByteArray) : p15 (k + 1) x0 = e15 k (p15 k) x0 := rfl
def f (k : Nat) (a0 : (((Bool × (List Int)) × (List Int)) × ((Bool × (List Int)) × (List Int)))) : Option ByteArray := e k (p15 k) a0
end ref05_Text

namespace law05_DeltaTexts
def e (k : Nat) (a0 : (((Bool × (List Int)) × (List Int)) × ((Bool × (List Int)) × (List Int)))) : Option Bool :=
  (Option.bind (law05_within.f k a0) fun r1 =>
    (Option.bind (law05_lives.f k ()) fun r2 =>
      (bif r2 then
        (Option.bind (law05_twin.f k r1) fun r3 =>
          (Option.bind (delta_Text.f k r3) fun r4 =>
            (Option.bind (ref05_Text.f k r1) fun r5 =>
              (some (r4.toList == r5.toList)))))
      else
        (some false))))
def f (k : Nat) (a0 : (((Bool × (List Int)) × (List Int)) × ((Bool × (List Int)) × (List Int)))) : Option Bool := e k a0
end law05_DeltaTexts

namespace whole_Neg
def e (k : Nat) (a0 : (Bool × (List Int))) : Option (Bool × (List Int)) :=
  (Option.bind (whole_Sign.f k a0) fun r1 =>
    (Option.bind (whole_signed.f k a0.2 [(-1 : Int), r1]) fun r2 =>
      (some r2)))
def f (k : Nat) (a0 : (Bool × (List Int))) : Option (Bool × (List Int)) := e k a0
end whole_Neg

namespace ratio_Neg
def e (k : Nat) (a0 : ((Bool × (List Int)) × (List Int))) : Option ((Bool × (List Int)) × (List Int)) :=
  (Option.bind (ratio_Norm.f k a0) fun r1 =>
    (Option.bind (whole_Neg.f k r1.1) fun r2 =>
      (some (r2, r1.2))))
def f (k : Nat) (a0 : ((Bool × (List Int)) × (List Int))) : Option ((Bool × (List Int)) × (List Int)) := e k a0
end ratio_Neg

namespace delta_Neg
def e (k : Nat) (a0 : (((Bool × (List Int)) × (List Int)) × ((Bool × (List Int)) × (List Int)))) : Option (((Bool × (List Int)) × (List Int)) × ((Bool × (List Int)) × (List Int))) :=
  (Option.bind (ratio_Neg.f k a0.1) fun r1 =>
    (Option.bind (ratio_Neg.f k a0.2) fun r2 =>
      (some (r1, r2))))
def f (k : Nat) (a0 : (((Bool × (List Int)) × (List Int)) × ((Bool × (List Int)) × (List Int)))) : Option (((Bool × (List Int)) × (List Int)) × ((Bool × (List Int)) × (List Int))) := e k a0
end delta_Neg

namespace ref05_Neg
def e (k : Nat) (a0 : (((Bool × (List Int)) × (List Int)) × ((Bool × (List Int)) × (List Int)))) : Option (((Bool × (List Int)) × (List Int)) × ((Bool × (List Int)) × (List Int))) :=
  (Option.bind (ref03_Neg.f k a0.1) fun r1 =>
    (Option.bind (ref03_Neg.f k a0.2) fun r2 =>
      (some (r1, r2))))
def f (k : Nat) (a0 : (((Bool × (List Int)) × (List Int)) × ((Bool × (List Int)) × (List Int)))) : Option (((Bool × (List Int)) × (List Int)) × ((Bool × (List Int)) × (List Int))) := e k a0
end ref05_Neg

namespace whole_Mul
def e (k : Nat) (a0 : (Bool × (List Int))) (a1 : (Bool × (List Int))) : Option (Bool × (List Int)) :=
  (Option.bind (nat_Mul.f k a0.2 a1.2) fun r1 =>
    (Option.bind (whole_Sign.f k a0) fun r2 =>
      (Option.bind (whole_Sign.f k a1) fun r3 =>
        (Option.bind (whole_signed.f k r1 [r2, r3]) fun r4 =>
          (some r4)))))
def f (k : Nat) (a0 : (Bool × (List Int))) (a1 : (Bool × (List Int))) : Option (Bool × (List Int)) := e k a0 a1
end whole_Mul

namespace nat_Sub
def e0 (k : Nat) (_q0 : (List Int) → (List Int) → (List Int) → Int → Int → Int → Option ((List Int) × Int)) (q25 : (List Int) → (List Int) → (List Int) → Int → Int → Int → Int → Int → Option ((List Int) × Int)) (b0 : (List Int)) (b1 : (List Int)) (b2 : (List Int)) (b3 : Int) (b4 : Int) (b5 : Int) : Option ((List Int) × Int) :=
  (bif (decide (b5 < b4)) then
    (bif (decide (b5 < (b2.length : Int))) then
      (bif (decide (0 ≤ b5) && decide (b5 < (b2.length : Int))) then
        q25 b0 b1 b2 b3 b5 (nthD (0 : Int) b2 (Int.toNat b5)) b4 b5
      else
        none)
    else
      q25 b0 b1 b2 b3 b5 (0 : Int) b4 b5)
  else
    (Option.bind (nat_own.f k b0) fun r3 =>
      (some (r3, (0 : Int)))))
def e25 (k : Nat) (q0 : (List Int) → (List Int) → (List Int) → Int → Int → Int → Option ((List Int) × Int)) (_q25 : (List Int) → (List Int) → (List Int) → Int → Int → Int → Int → Int → Option ((List Int) × Int)) (b0 : (List Int)) (b1 : (List Int)) (b2 : (List Int)) (b3 : Int) (b4 : Int) (b5 : Int) (b6 : Int) (b7 : Int) : Option ((List Int) × Int) :=
  (bif (decide (0 ≤ b4) && decide (b4 < (b1.length : Int))) then
    (Option.bind (bits_Sub32.f k (nthD (0 : Int) b1 (Int.toNat b4)) b5 b3) fun r4 =>
      (bif (decide (0 ≤ b4) && decide (b4 < (b0.length : Int))) then
        q0 (setN r4.1 b0 (Int.toNat b4)) b1 b2 r4.2 b6 (IntKind.i64.wrap (b7 + (1 : Int)))
      else
        none))
  else
    none)
def e (k : Nat) (q0 : (List Int) → (List Int) → (List Int) → Int → Int → Int → Option ((List Int) × Int)) (_q25 : (List Int) → (List Int) → (List Int) → Int → Int → Int → Int → Int → Option ((List Int) × Int)) (a0 : (List Int)) (a1 : (List Int)) : Option ((List Int) × Int) :=
  (Option.bind (nat_Cmp.f k a0 a1) fun r1 =>
    (bif (decide (r1 < (0 : Int))) then
      (some (([] : List Int), (10 : Int)))
    else
      (Option.bind (nat_trim.f k a1) fun r2 =>
        (bif (decide (0 ≤ (a0.length : Int)) && decide ((a0.length : Int) * 4 ≤ 281474976710656) && decide ((a0.length : Int) ≤ 9223372036854775807)) then
          q0 (List.replicate (Int.toNat (a0.length : Int)) (0 : Int)) a0 r2 (0 : Int) (a0.length : Int) (0 : Int)
        else
          none))))
def pts : Nat → ((List Int) → (List Int) → (List Int) → Int → Int → Int → Option ((List Int) × Int)) × ((List Int) → (List Int) → (List Int) → Int → Int → Int → Int → Int → Option ((List Int) × Int))
  | 0 => (fun _ _ _ _ _ _ => none, fun _ _ _ _ _ _ _ _ => none)
  | k + 1 => (e0 k (pts k).1 (pts k).2, e25 k (pts k).1 (pts k).2)
def p0 (k : Nat) : (List Int) → (List Int) → (List Int) → Int → Int → Int → Option ((List Int) × Int) := (pts k).1
def p25 (k : Nat) : (List Int) → (List Int) → (List Int) → Int → Int → Int → Int → Int → Option ((List Int) × Int) := (pts k).2
theorem p0_succ (k : Nat) (x0 : (List Int)) (x1 : (List Int)) (x2 : (List Int)) (x3 : Int) (x4 : Int) (x5 : Int) : p0 (k + 1) x0 x1 x2 x3 x4 x5 = e0 k (p0 k) (p25 k) x0 x1 x2 x3 x4 x5 := rfl
theorem p25_succ (k : Nat) (x0 : (List Int)) (x1 : (List Int)) (x2 : (List Int)) (x3 : Int) (x4 : Int) (x5 : Int) (x6 : Int) (x7 : Int) : p25 (k + 1) x0 x1 x2 x3 x4 x5 x6 x7 = e25 k (p0 k) (p25 k) x0 x1 x2 x3 x4 x5 x6 x7 := rfl
def f (k : Nat) (a0 : (List Int)) (a1 : (List Int)) : Option ((List Int) × Int) := e k (p0 k) (p25 k) a0 a1
end nat_Sub

namespace whole_Add
def e (k : Nat) (a0 : (Bool × (List Int))) (a1 : (Bool × (List Int))) : Option (Bool × (List Int)) :=
  (Option.bind (whole_Sign.f k a0) fun r1 =>
    (Option.bind (whole_Sign.f k a1) fun r2 =>
      (bif (decide ((IntKind.i64.wrap (r1 * r2)) ≥ (0 : Int))) then
        (Option.bind (nat_Add.f k a0.2 a1.2) fun r3 =>
          (Option.bind (whole_signed.f k r3 [(bitsI .or .i64 (bitsI .or .i64 r1 r2) (1 : Int))]) fun r4 =>
            (some r4)))
      else
        (Option.bind (nat_Cmp.f k a0.2 a1.2) fun r5 =>
          (bif (decide (r5 ≥ (0 : Int))) then
            (Option.bind (nat_Sub.f k a0.2 a1.2) fun r6 =>
              (Option.bind (whole_signed.f k r6.1 [r1]) fun r7 =>
                (some r7)))
          else
            (Option.bind (nat_Sub.f k a1.2 a0.2) fun r8 =>
              (Option.bind (whole_signed.f k r8.1 [r2]) fun r9 =>
                (some r9))))))))
def f (k : Nat) (a0 : (Bool × (List Int))) (a1 : (Bool × (List Int))) : Option (Bool × (List Int)) := e k a0 a1
end whole_Add

namespace ratio_Add
def e (k : Nat) (a0 : ((Bool × (List Int)) × (List Int))) (a1 : ((Bool × (List Int)) × (List Int))) : Option ((Bool × (List Int)) × (List Int)) :=
  (Option.bind (ratio_Norm.f k a0) fun r1 =>
    (Option.bind (ratio_Norm.f k a1) fun r2 =>
      (Option.bind (whole_Mul.f k r1.1 (false, r2.2)) fun r3 =>
        (Option.bind (whole_Mul.f k r2.1 (false, r1.2)) fun r4 =>
          (Option.bind (whole_Add.f k r3 r4) fun r5 =>
            (Option.bind (nat_Mul.f k r1.2 r2.2) fun r6 =>
              (Option.bind (ratio_made.f k r5 r6) fun r7 =>
                (some r7))))))))
def f (k : Nat) (a0 : ((Bool × (List Int)) × (List Int))) (a1 : ((Bool × (List Int)) × (List Int))) : Option ((Bool × (List Int)) × (List Int)) := e k a0 a1
end ratio_Add

namespace delta_Add
def e (k : Nat) (a0 : (((Bool × (List Int)) × (List Int)) × ((Bool × (List Int)) × (List Int)))) (a1 : (((Bool × (List Int)) × (List Int)) × ((Bool × (List Int)) × (List Int)))) : Option (((Bool × (List Int)) × (List Int)) × ((Bool × (List Int)) × (List Int))) :=
  (Option.bind (ratio_Add.f k a0.1 a1.1) fun r1 =>
    (Option.bind (ratio_Add.f k a0.2 a1.2) fun r2 =>
      (some (r1, r2))))
def f (k : Nat) (a0 : (((Bool × (List Int)) × (List Int)) × ((Bool × (List Int)) × (List Int)))) (a1 : (((Bool × (List Int)) × (List Int)) × ((Bool × (List Int)) × (List Int)))) : Option (((Bool × (List Int)) × (List Int)) × ((Bool × (List Int)) × (List Int))) := e k a0 a1
end delta_Add

namespace ref03_positive
def e (_k : Nat) (a0 : (List Int)) : Option (Bool × (List Int)) :=
  (some (false, a0))
def f (k : Nat) (a0 : (List Int)) : Option (Bool × (List Int)) := e k a0
end ref03_positive

namespace ref01_Mul
def e0 (k : Nat) (_q0 : (List Int) → (List Int) → (List Int) → Int → Option (List Int)) (q4 : (List Int) → (List Int) → (List Int) → Int → Int → Int → Option (List Int)) (b0 : (List Int)) (b1 : (List Int)) (b2 : (List Int)) (b3 : Int) : Option (List Int) :=
  (bif (decide (b3 < (b1.length : Int))) then
    q4 b0 b1 b2 b3 (0 : Int) (0 : Int)
  else
    (Option.bind (ref01_Norm.f k b0) fun r1 =>
      (some r1)))
def e4 (_k : Nat) (q0 : (List Int) → (List Int) → (List Int) → Int → Option (List Int)) (q4 : (List Int) → (List Int) → (List Int) → Int → Int → Int → Option (List Int)) (b0 : (List Int)) (b1 : (List Int)) (b2 : (List Int)) (b3 : Int) (b4 : Int) (b5 : Int) : Option (List Int) :=
  (bif (decide (b5 < (b2.length : Int))) then
    (bif (decide (0 ≤ b3) && decide (b3 < (b1.length : Int))) then
      (bif (decide (0 ≤ b5) && decide (b5 < (b2.length : Int))) then
        (bif (decide (0 ≤ (IntKind.i64.wrap (b3 + b5))) && decide ((IntKind.i64.wrap (b3 + b5)) < (b0.length : Int))) then
          (bif (decide (0 ≤ (IntKind.i64.wrap (b3 + b5))) && decide ((IntKind.i64.wrap (b3 + b5)) < (b0.length : Int))) then
            q4 (setN (IntKind.u32.wrap (IntKind.u64.wrap ((IntKind.u64.wrap ((IntKind.u64.wrap ((IntKind.u64.wrap (nthD (0 : Int) b1 (Int.toNat b3))) * (IntKind.u64.wrap (nthD (0 : Int) b2 (Int.toNat b5))))) + (IntKind.u64.wrap (nthD (0 : Int) b0 (Int.toNat (IntKind.i64.wrap (b3 + b5))))))) + b4))) b0 (Int.toNat (IntKind.i64.wrap (b3 + b5)))) b1 b2 b3 (Int.fdiv (IntKind.u64.wrap ((IntKind.u64.wrap ((IntKind.u64.wrap ((IntKind.u64.wrap (nthD (0 : Int) b1 (Int.toNat b3))) * (IntKind.u64.wrap (nthD (0 : Int) b2 (Int.toNat b5))))) + (IntKind.u64.wrap (nthD (0 : Int) b0 (Int.toNat (IntKind.i64.wrap (b3 + b5))))))) + b4)) (2 ^ 32)) (IntKind.i64.wrap (b5 + (1 : Int)))
          else
            none)
        else
          none)
      else
        none)
    else
      none)
  else
    (bif (decide (0 ≤ (IntKind.i64.wrap (b3 + (b2.length : Int)))) && decide ((IntKind.i64.wrap (b3 + (b2.length : Int))) < (b0.length : Int))) then
      q0 (setN (IntKind.u32.wrap b4) b0 (Int.toNat (IntKind.i64.wrap (b3 + (b2.length : Int))))) b1 b2 (IntKind.i64.wrap (b3 + (1 : Int)))
    else
      none))
def e (_k : Nat) (q0 : (List Int) → (List Int) → (List Int) → Int → Option (List Int)) (_q4 : (List Int) → (List Int) → (List Int) → Int → Int → Int → Option (List Int)) (a0 : (List Int)) (a1 : (List Int)) : Option (List Int) :=
  (bif (decide (0 ≤ (IntKind.i64.wrap ((a0.length : Int) + (a1.length : Int)))) && decide ((IntKind.i64.wrap ((a0.length : Int) + (a1.length : Int))) * 4 ≤ 281474976710656) && decide ((IntKind.i64.wrap ((a0.length : Int) + (a1.length : Int))) ≤ 9223372036854775807)) then
    q0 (List.replicate (Int.toNat (IntKind.i64.wrap ((a0.length : Int) + (a1.length : Int)))) (0 : Int)) a0 a1 (0 : Int)
  else
    none)
def pts : Nat → ((List Int) → (List Int) → (List Int) → Int → Option (List Int)) × ((List Int) → (List Int) → (List Int) → Int → Int → Int → Option (List Int))
  | 0 => (fun _ _ _ _ => none, fun _ _ _ _ _ _ => none)
  | k + 1 => (e0 k (pts k).1 (pts k).2, e4 k (pts k).1 (pts k).2)
def p0 (k : Nat) : (List Int) → (List Int) → (List Int) → Int → Option (List Int) := (pts k).1
def p4 (k : Nat) : (List Int) → (List Int) → (List Int) → Int → Int → Int → Option (List Int) := (pts k).2
theorem p0_succ (k : Nat) (x0 : (List Int)) (x1 : (List Int)) (x2 : (List Int)) (x3 : Int) : p0 (k + 1) x0 x1 x2 x3 = e0 k (p0 k) (p4 k) x0 x1 x2 x3 := rfl
theorem p4_succ (k : Nat) (x0 : (List Int)) (x1 : (List Int)) (x2 : (List Int)) (x3 : Int) (x4 : Int) (x5 : Int) : p4 (k + 1) x0 x1 x2 x3 x4 x5 = e4 k (p0 k) (p4 k) x0 x1 x2 x3 x4 x5 := rfl
def f (k : Nat) (a0 : (List Int)) (a1 : (List Int)) : Option (List Int) := e k (p0 k) (p4 k) a0 a1
end ref01_Mul

namespace ref02_Mul
def e (k : Nat) (a0 : (Bool × (List Int))) (a1 : (Bool × (List Int))) : Option (Bool × (List Int)) :=
  (Option.bind (ref01_Mul.f k a0.2 a1.2) fun r1 =>
    (Option.bind (ref02_made.f k (!(a0.1 == a1.1)) r1) fun r2 =>
      (some r2)))
def f (k : Nat) (a0 : (Bool × (List Int))) (a1 : (Bool × (List Int))) : Option (Bool × (List Int)) := e k a0 a1
end ref02_Mul

namespace ref01_Add
def e9 (_k : Nat) (_q9 : (List Int) → (List Int) → Int → Option (List Int)) (q0 : (List Int) → (List Int) → (List Int) → Int → Int → Int → Option (List Int)) (b0 : (List Int)) (b1 : (List Int)) (b2 : Int) : Option (List Int) :=
  (bif (decide (0 ≤ (IntKind.i64.wrap (b2 + (1 : Int)))) && decide ((IntKind.i64.wrap (b2 + (1 : Int))) * 4 ≤ 281474976710656) && decide ((IntKind.i64.wrap (b2 + (1 : Int))) ≤ 9223372036854775807)) then
    q0 (List.replicate (Int.toNat (IntKind.i64.wrap (b2 + (1 : Int)))) (0 : Int)) b0 b1 b2 (0 : Int) (0 : Int)
  else
    none)
def e0 (k : Nat) (_q9 : (List Int) → (List Int) → Int → Option (List Int)) (q0 : (List Int) → (List Int) → (List Int) → Int → Int → Int → Option (List Int)) (b0 : (List Int)) (b1 : (List Int)) (b2 : (List Int)) (b3 : Int) (b4 : Int) (b5 : Int) : Option (List Int) :=
  (bif (decide (b5 ≤ b3)) then
    (Option.bind (ref01_at.f k b1 b5) fun r1 =>
      (Option.bind (ref01_at.f k b2 b5) fun r2 =>
        (bif (decide (0 ≤ b5) && decide (b5 < (b0.length : Int))) then
          q0 (setN (IntKind.u32.wrap (IntKind.u64.wrap ((IntKind.u64.wrap (r1 + r2)) + b4))) b0 (Int.toNat b5)) b1 b2 b3 (Int.fdiv (IntKind.u64.wrap ((IntKind.u64.wrap (r1 + r2)) + b4)) (2 ^ 32)) (IntKind.i64.wrap (b5 + (1 : Int)))
        else
          none)))
  else
    (Option.bind (ref01_Norm.f k b0) fun r3 =>
      (some r3)))
def e (_k : Nat) (q9 : (List Int) → (List Int) → Int → Option (List Int)) (_q0 : (List Int) → (List Int) → (List Int) → Int → Int → Int → Option (List Int)) (a0 : (List Int)) (a1 : (List Int)) : Option (List Int) :=
  (bif (decide ((a1.length : Int) > (a0.length : Int))) then
    q9 a0 a1 (a1.length : Int)
  else
    q9 a0 a1 (a0.length : Int))
def pts : Nat → ((List Int) → (List Int) → Int → Option (List Int)) × ((List Int) → (List Int) → (List Int) → Int → Int → Int → Option (List Int))
  | 0 => (fun _ _ _ => none, fun _ _ _ _ _ _ => none)
  | k + 1 => (e9 k (pts k).1 (pts k).2, e0 k (pts k).1 (pts k).2)
def p9 (k : Nat) : (List Int) → (List Int) → Int → Option (List Int) := (pts k).1
def p0 (k : Nat) : (List Int) → (List Int) → (List Int) → Int → Int → Int → Option (List Int) := (pts k).2
theorem p9_succ (k : Nat) (x0 : (List Int)) (x1 : (List Int)) (x2 : Int) : p9 (k + 1) x0 x1 x2 = e9 k (p9 k) (p0 k) x0 x1 x2 := rfl
theorem p0_succ (k : Nat) (x0 : (List Int)) (x1 : (List Int)) (x2 : (List Int)) (x3 : Int) (x4 : Int) (x5 : Int) : p0 (k + 1) x0 x1 x2 x3 x4 x5 = e0 k (p9 k) (p0 k) x0 x1 x2 x3 x4 x5 := rfl
def f (k : Nat) (a0 : (List Int)) (a1 : (List Int)) : Option (List Int) := e k (p9 k) (p0 k) a0 a1
end ref01_Add

namespace ref02_Add
def e (k : Nat) (a0 : (Bool × (List Int))) (a1 : (Bool × (List Int))) : Option (Bool × (List Int)) :=
  (bif (a0.1 == a1.1) then
    (Option.bind (ref01_Add.f k a0.2 a1.2) fun r1 =>
      (Option.bind (ref02_made.f k a0.1 r1) fun r2 =>
        (some r2)))
  else
    (Option.bind (ref01_Cmp.f k a0.2 a1.2) fun r3 =>
      (bif (decide (r3 ≥ (0 : Int))) then
        (Option.bind (ref01_Sub.f k a0.2 a1.2) fun r4 =>
          (Option.bind (ref02_made.f k a0.1 r4.1) fun r5 =>
            (some r5)))
      else
        (Option.bind (ref01_Sub.f k a1.2 a0.2) fun r6 =>
          (Option.bind (ref02_made.f k a1.1 r6.1) fun r7 =>
            (some r7))))))
def f (k : Nat) (a0 : (Bool × (List Int))) (a1 : (Bool × (List Int))) : Option (Bool × (List Int)) := e k a0 a1
end ref02_Add

namespace ref03_Add
def e (k : Nat) (a0 : ((Bool × (List Int)) × (List Int))) (a1 : ((Bool × (List Int)) × (List Int))) : Option ((Bool × (List Int)) × (List Int)) :=
  (Option.bind (ref03_Norm.f k a0) fun r1 =>
    (Option.bind (ref03_Norm.f k a1) fun r2 =>
      (Option.bind (ref03_positive.f k r2.2) fun r3 =>
        (Option.bind (ref02_Mul.f k r1.1 r3) fun r4 =>
          (Option.bind (ref03_positive.f k r1.2) fun r5 =>
            (Option.bind (ref02_Mul.f k r2.1 r5) fun r6 =>
              (Option.bind (ref02_Add.f k r4 r6) fun r7 =>
                (Option.bind (ref01_Mul.f k r1.2 r2.2) fun r8 =>
                  (Option.bind (ref03_Norm.f k (r7, r8)) fun r9 =>
                    (some r9))))))))))
def f (k : Nat) (a0 : ((Bool × (List Int)) × (List Int))) (a1 : ((Bool × (List Int)) × (List Int))) : Option ((Bool × (List Int)) × (List Int)) := e k a0 a1
end ref03_Add

namespace ref05_Add
def e (k : Nat) (a0 : (((Bool × (List Int)) × (List Int)) × ((Bool × (List Int)) × (List Int)))) (a1 : (((Bool × (List Int)) × (List Int)) × ((Bool × (List Int)) × (List Int)))) : Option (((Bool × (List Int)) × (List Int)) × ((Bool × (List Int)) × (List Int))) :=
  (Option.bind (ref03_Add.f k a0.1 a1.1) fun r1 =>
    (Option.bind (ref03_Add.f k a0.2 a1.2) fun r2 =>
      (some (r1, r2))))
def f (k : Nat) (a0 : (((Bool × (List Int)) × (List Int)) × ((Bool × (List Int)) × (List Int)))) (a1 : (((Bool × (List Int)) × (List Int)) × ((Bool × (List Int)) × (List Int)))) : Option (((Bool × (List Int)) × (List Int)) × ((Bool × (List Int)) × (List Int))) := e k a0 a1
end ref05_Add

namespace ratio_Sub
def e (k : Nat) (a0 : ((Bool × (List Int)) × (List Int))) (a1 : ((Bool × (List Int)) × (List Int))) : Option ((Bool × (List Int)) × (List Int)) :=
  (Option.bind (ratio_Neg.f k a1) fun r1 =>
    (Option.bind (ratio_Add.f k a0 r1) fun r2 =>
      (some r2)))
def f (k : Nat) (a0 : ((Bool × (List Int)) × (List Int))) (a1 : ((Bool × (List Int)) × (List Int))) : Option ((Bool × (List Int)) × (List Int)) := e k a0 a1
end ratio_Sub

namespace delta_Sub
def e (k : Nat) (a0 : (((Bool × (List Int)) × (List Int)) × ((Bool × (List Int)) × (List Int)))) (a1 : (((Bool × (List Int)) × (List Int)) × ((Bool × (List Int)) × (List Int)))) : Option (((Bool × (List Int)) × (List Int)) × ((Bool × (List Int)) × (List Int))) :=
  (Option.bind (ratio_Sub.f k a0.1 a1.1) fun r1 =>
    (Option.bind (ratio_Sub.f k a0.2 a1.2) fun r2 =>
      (some (r1, r2))))
def f (k : Nat) (a0 : (((Bool × (List Int)) × (List Int)) × ((Bool × (List Int)) × (List Int)))) (a1 : (((Bool × (List Int)) × (List Int)) × ((Bool × (List Int)) × (List Int)))) : Option (((Bool × (List Int)) × (List Int)) × ((Bool × (List Int)) × (List Int))) := e k a0 a1
end delta_Sub

namespace ref03_Sub
def e (k : Nat) (a0 : ((Bool × (List Int)) × (List Int))) (a1 : ((Bool × (List Int)) × (List Int))) : Option ((Bool × (List Int)) × (List Int)) :=
  (Option.bind (ref03_Neg.f k a1) fun r1 =>
    (Option.bind (ref03_Add.f k a0 r1) fun r2 =>
      (some r2)))
def f (k : Nat) (a0 : ((Bool × (List Int)) × (List Int))) (a1 : ((Bool × (List Int)) × (List Int))) : Option ((Bool × (List Int)) × (List Int)) := e k a0 a1
end ref03_Sub

namespace ref05_Sub
def e (k : Nat) (a0 : (((Bool × (List Int)) × (List Int)) × ((Bool × (List Int)) × (List Int)))) (a1 : (((Bool × (List Int)) × (List Int)) × ((Bool × (List Int)) × (List Int)))) : Option (((Bool × (List Int)) × (List Int)) × ((Bool × (List Int)) × (List Int))) :=
  (Option.bind (ref03_Sub.f k a0.1 a1.1) fun r1 =>
    (Option.bind (ref03_Sub.f k a0.2 a1.2) fun r2 =>
      (some (r1, r2))))
def f (k : Nat) (a0 : (((Bool × (List Int)) × (List Int)) × ((Bool × (List Int)) × (List Int)))) (a1 : (((Bool × (List Int)) × (List Int)) × ((Bool × (List Int)) × (List Int)))) : Option (((Bool × (List Int)) × (List Int)) × ((Bool × (List Int)) × (List Int))) := e k a0 a1
end ref05_Sub

namespace ratio_Mul
def e (k : Nat) (a0 : ((Bool × (List Int)) × (List Int))) (a1 : ((Bool × (List Int)) × (List Int))) : Option ((Bool × (List Int)) × (List Int)) :=
  (Option.bind (ratio_Norm.f k a0) fun r1 =>
    (Option.bind (ratio_Norm.f k a1) fun r2 =>
      (Option.bind (whole_Mul.f k r1.1 r2.1) fun r3 =>
        (Option.bind (nat_Mul.f k r1.2 r2.2) fun r4 =>
          (Option.bind (ratio_made.f k r3 r4) fun r5 =>
            (some r5))))))
def f (k : Nat) (a0 : ((Bool × (List Int)) × (List Int))) (a1 : ((Bool × (List Int)) × (List Int))) : Option ((Bool × (List Int)) × (List Int)) := e k a0 a1
end ratio_Mul

namespace delta_Scale
def e (k : Nat) (a0 : ((Bool × (List Int)) × (List Int))) (a1 : (((Bool × (List Int)) × (List Int)) × ((Bool × (List Int)) × (List Int)))) : Option (((Bool × (List Int)) × (List Int)) × ((Bool × (List Int)) × (List Int))) :=
  (Option.bind (ratio_Mul.f k a0 a1.1) fun r1 =>
    (Option.bind (ratio_Mul.f k a0 a1.2) fun r2 =>
      (some (r1, r2))))
def f (k : Nat) (a0 : ((Bool × (List Int)) × (List Int))) (a1 : (((Bool × (List Int)) × (List Int)) × ((Bool × (List Int)) × (List Int)))) : Option (((Bool × (List Int)) × (List Int)) × ((Bool × (List Int)) × (List Int))) := e k a0 a1
end delta_Scale

namespace ref03_Mul
def e (k : Nat) (a0 : ((Bool × (List Int)) × (List Int))) (a1 : ((Bool × (List Int)) × (List Int))) : Option ((Bool × (List Int)) × (List Int)) :=
  (Option.bind (ref03_Norm.f k a0) fun r1 =>
    (Option.bind (ref03_Norm.f k a1) fun r2 =>
      (Option.bind (ref02_Mul.f k r1.1 r2.1) fun r3 =>
        (Option.bind (ref01_Mul.f k r1.2 r2.2) fun r4 =>
          (Option.bind (ref03_Norm.f k (r3, r4)) fun r5 =>
            (some r5))))))
def f (k : Nat) (a0 : ((Bool × (List Int)) × (List Int))) (a1 : ((Bool × (List Int)) × (List Int))) : Option ((Bool × (List Int)) × (List Int)) := e k a0 a1
end ref03_Mul

namespace ref05_Scale
def e (k : Nat) (a0 : ((Bool × (List Int)) × (List Int))) (a1 : (((Bool × (List Int)) × (List Int)) × ((Bool × (List Int)) × (List Int)))) : Option (((Bool × (List Int)) × (List Int)) × ((Bool × (List Int)) × (List Int))) :=
  (Option.bind (ref03_Mul.f k a0 a1.1) fun r1 =>
    (Option.bind (ref03_Mul.f k a0 a1.2) fun r2 =>
      (some (r1, r2))))
def f (k : Nat) (a0 : ((Bool × (List Int)) × (List Int))) (a1 : (((Bool × (List Int)) × (List Int)) × ((Bool × (List Int)) × (List Int)))) : Option (((Bool × (List Int)) × (List Int)) × ((Bool × (List Int)) × (List Int))) := e k a0 a1
end ref05_Scale

namespace delta_At
def e (k : Nat) (a0 : (((Bool × (List Int)) × (List Int)) × ((Bool × (List Int)) × (List Int)))) (a1 : ((Bool × (List Int)) × (List Int))) : Option ((Bool × (List Int)) × (List Int)) :=
  (Option.bind (ratio_Mul.f k a0.2 a1) fun r1 =>
    (Option.bind (ratio_Add.f k a0.1 r1) fun r2 =>
      (some r2)))
def f (k : Nat) (a0 : (((Bool × (List Int)) × (List Int)) × ((Bool × (List Int)) × (List Int)))) (a1 : ((Bool × (List Int)) × (List Int))) : Option ((Bool × (List Int)) × (List Int)) := e k a0 a1
end delta_At

namespace ref05_At
def e (k : Nat) (a0 : (((Bool × (List Int)) × (List Int)) × ((Bool × (List Int)) × (List Int)))) (a1 : ((Bool × (List Int)) × (List Int))) : Option ((Bool × (List Int)) × (List Int)) :=
  (Option.bind (ref03_Mul.f k a0.2 a1) fun r1 =>
    (Option.bind (ref03_Add.f k a0.1 r1) fun r2 =>
      (some r2)))
def f (k : Nat) (a0 : (((Bool × (List Int)) × (List Int)) × ((Bool × (List Int)) × (List Int)))) (a1 : ((Bool × (List Int)) × (List Int))) : Option ((Bool × (List Int)) × (List Int)) := e k a0 a1
end ref05_At

namespace law05_DeltaSums
def e5 (_k : Nat) (_q5 : Unit → Option Bool) (_ : Unit) : Option Bool :=
  (some false)
def e (k : Nat) (q5 : Unit → Option Bool) (a0 : (((Bool × (List Int)) × (List Int)) × ((Bool × (List Int)) × (List Int)))) (a1 : (((Bool × (List Int)) × (List Int)) × ((Bool × (List Int)) × (List Int)))) (a2 : ((Bool × (List Int)) × (List Int))) : Option Bool :=
  (Option.bind (law05_lives.f k ()) fun r1 =>
    (bif (!r1) then
      q5 ()
    else
      (Option.bind (law05_twin.f k a0) fun r2 =>
        (Option.bind (delta_Neg.f k r2) fun r3 =>
          (Option.bind (ref05_Neg.f k a0) fun r4 =>
            (Option.bind (law05_same.f k r3 r4) fun r5 =>
              (bif (!r5) then
                q5 ()
              else
                (Option.bind (law05_twin.f k a0) fun r6 =>
                  (Option.bind (law05_twin.f k a1) fun r7 =>
                    (Option.bind (delta_Add.f k r6 r7) fun r8 =>
                      (Option.bind (ref05_Add.f k a0 a1) fun r9 =>
                        (Option.bind (law05_same.f k r8 r9) fun r10 =>
                          (bif (!r10) then
                            q5 ()
                          else
                            (Option.bind (law05_twin.f k a0) fun r11 =>
                              (Option.bind (law05_twin.f k a1) fun r12 =>
                                (Option.bind (delta_Sub.f k r11 r12) fun r13 =>
                                  (Option.bind (ref05_Sub.f k a0 a1) fun r14 =>
                                    (Option.bind (law05_same.f k r13 r14) fun r15 =>
                                      (bif (!r15) then
                                        q5 ()
                                      else
                                        (Option.bind (law05_rat.f k a2) fun r16 =>
                                          (Option.bind (law05_twin.f k a0) fun r17 =>
                                            (Option.bind (delta_Scale.f k r16 r17) fun r18 =>
                                              (Option.bind (ref05_Scale.f k a2 a0) fun r19 =>
                                                (Option.bind (law05_same.f k r18 r19) fun r20 =>
                                                  (bif r20 then
                                                    (Option.bind (law05_twin.f k a0) fun r21 =>
                                                      (Option.bind (law05_rat.f k a2) fun r22 =>
                                                        (Option.bind (delta_At.f k r21 r22) fun r23 =>
                                                          (Option.bind (ref05_At.f k a0 a2) fun r24 =>
                                                            (Option.bind (ref03_Same.f k r23 r24) fun r25 =>
                                                              (some r25))))))
                                                  else
                                                    (some false))))))))))))))))))))))))))
def pts : Nat → (Unit → Option Bool)
  | 0 => fun _ => none
  | k + 1 => e5 k (pts k)
def p5 (k : Nat) : Unit → Option Bool := (pts k)
theorem p5_succ (k : Nat) (x0 : Unit) : p5 (k + 1) x0 = e5 k (p5 k) x0 := rfl
def f (k : Nat) (a0 : (((Bool × (List Int)) × (List Int)) × ((Bool × (List Int)) × (List Int)))) (a1 : (((Bool × (List Int)) × (List Int)) × ((Bool × (List Int)) × (List Int)))) (a2 : ((Bool × (List Int)) × (List Int))) : Option Bool := e k (p5 k) a0 a1 a2
end law05_DeltaSums

namespace ref05_Norm
def e (k : Nat) (a0 : (((Bool × (List Int)) × (List Int)) × ((Bool × (List Int)) × (List Int)))) : Option (((Bool × (List Int)) × (List Int)) × ((Bool × (List Int)) × (List Int))) :=
  (Option.bind (ref03_Norm.f k a0.1) fun r1 =>
    (Option.bind (ref03_Norm.f k a0.2) fun r2 =>
      (some (r1, r2))))
def f (k : Nat) (a0 : (((Bool × (List Int)) × (List Int)) × ((Bool × (List Int)) × (List Int)))) : Option (((Bool × (List Int)) × (List Int)) × ((Bool × (List Int)) × (List Int))) := e k a0
end ref05_Norm

namespace nat_Of
def e (k : Nat) (a0 : Int) : Option (List Int) :=
  (Option.bind (nat_own.f k [(IntKind.u32.wrap a0), (IntKind.u32.wrap (Int.fdiv a0 (2 ^ 32)))]) fun r1 =>
    (some r1))
def f (k : Nat) (a0 : Int) : Option (List Int) := e k a0
end nat_Of

namespace whole_Of
def e (k : Nat) (a0 : Int) : Option (Bool × (List Int)) :=
  (bif (decide (a0 < (0 : Int))) then
    (Option.bind (nat_Of.f k (IntKind.u64.wrap (0 - (IntKind.u64.wrap a0)))) fun r1 =>
      (Option.bind (whole_signed.f k r1 [(-1 : Int)]) fun r2 =>
        (some r2)))
  else
    (Option.bind (nat_Of.f k (IntKind.u64.wrap a0)) fun r3 =>
      (Option.bind (whole_signed.f k r3 ([] : List Int)) fun r4 =>
        (some r4))))
def f (k : Nat) (a0 : Int) : Option (Bool × (List Int)) := e k a0
end whole_Of

namespace ratio_Whole
def e (k : Nat) (a0 : Int) : Option ((Bool × (List Int)) × (List Int)) :=
  (Option.bind (whole_Of.f k a0) fun r1 =>
    (some (r1, [(1 : Int)])))
def f (k : Nat) (a0 : Int) : Option ((Bool × (List Int)) × (List Int)) := e k a0
end ratio_Whole

namespace delta_Of
def e (k : Nat) (a0 : ((Bool × (List Int)) × (List Int))) : Option (((Bool × (List Int)) × (List Int)) × ((Bool × (List Int)) × (List Int))) :=
  (Option.bind (ratio_Norm.f k a0) fun r1 =>
    (Option.bind (ratio_Whole.f k (0 : Int)) fun r2 =>
      (some (r1, r2))))
def f (k : Nat) (a0 : ((Bool × (List Int)) × (List Int))) : Option (((Bool × (List Int)) × (List Int)) × ((Bool × (List Int)) × (List Int))) := e k a0
end delta_Of

namespace ref05_Of
def e (k : Nat) (a0 : ((Bool × (List Int)) × (List Int))) : Option (((Bool × (List Int)) × (List Int)) × ((Bool × (List Int)) × (List Int))) :=
  (Option.bind (ref05_Norm.f k (a0, ((false, ([] : List Int)), ([] : List Int)))) fun r1 =>
    (some r1))
def f (k : Nat) (a0 : ((Bool × (List Int)) × (List Int))) : Option (((Bool × (List Int)) × (List Int)) × ((Bool × (List Int)) × (List Int))) := e k a0
end ref05_Of

namespace delta_Sign
def e (k : Nat) (a0 : (((Bool × (List Int)) × (List Int)) × ((Bool × (List Int)) × (List Int)))) : Option Int :=
  (Option.bind (ratio_Sign.f k a0.1) fun r1 =>
    (bif (!decide (r1 = (0 : Int))) then
      (some r1)
    else
      (Option.bind (ratio_Sign.f k a0.2) fun r2 =>
        (some r2))))
def f (k : Nat) (a0 : (((Bool × (List Int)) × (List Int)) × ((Bool × (List Int)) × (List Int)))) : Option Int := e k a0
end delta_Sign

namespace ref05_Sign
def e (k : Nat) (a0 : (((Bool × (List Int)) × (List Int)) × ((Bool × (List Int)) × (List Int)))) : Option Int :=
  (Option.bind (ref03_Sign.f k a0.1) fun r1 =>
    (bif (!decide (r1 = (0 : Int))) then
      (some r1)
    else
      (Option.bind (ref03_Sign.f k a0.2) fun r2 =>
        (some r2))))
def f (k : Nat) (a0 : (((Bool × (List Int)) × (List Int)) × ((Bool × (List Int)) × (List Int)))) : Option Int := e k a0
end ref05_Sign

namespace whole_Sub
def e (k : Nat) (a0 : (Bool × (List Int))) (a1 : (Bool × (List Int))) : Option (Bool × (List Int)) :=
  (Option.bind (whole_Neg.f k a1) fun r1 =>
    (Option.bind (whole_Add.f k a0 r1) fun r2 =>
      (some r2)))
def f (k : Nat) (a0 : (Bool × (List Int))) (a1 : (Bool × (List Int))) : Option (Bool × (List Int)) := e k a0 a1
end whole_Sub

namespace whole_Cmp
def e (k : Nat) (a0 : (Bool × (List Int))) (a1 : (Bool × (List Int))) : Option Int :=
  (Option.bind (whole_Sub.f k a0 a1) fun r1 =>
    (Option.bind (whole_Sign.f k r1) fun r2 =>
      (some r2)))
def f (k : Nat) (a0 : (Bool × (List Int))) (a1 : (Bool × (List Int))) : Option Int := e k a0 a1
end whole_Cmp

namespace ratio_Cmp
def e (k : Nat) (a0 : ((Bool × (List Int)) × (List Int))) (a1 : ((Bool × (List Int)) × (List Int))) : Option Int :=
  (Option.bind (ratio_Norm.f k a0) fun r1 =>
    (Option.bind (ratio_Norm.f k a1) fun r2 =>
      (Option.bind (whole_Mul.f k r1.1 (false, r2.2)) fun r3 =>
        (Option.bind (whole_Mul.f k r2.1 (false, r1.2)) fun r4 =>
          (Option.bind (whole_Cmp.f k r3 r4) fun r5 =>
            (some r5))))))
def f (k : Nat) (a0 : ((Bool × (List Int)) × (List Int))) (a1 : ((Bool × (List Int)) × (List Int))) : Option Int := e k a0 a1
end ratio_Cmp

namespace delta_Cmp
def e (k : Nat) (a0 : (((Bool × (List Int)) × (List Int)) × ((Bool × (List Int)) × (List Int)))) (a1 : (((Bool × (List Int)) × (List Int)) × ((Bool × (List Int)) × (List Int)))) : Option Int :=
  (Option.bind (ratio_Cmp.f k a0.1 a1.1) fun r1 =>
    (bif (!decide (r1 = (0 : Int))) then
      (some r1)
    else
      (Option.bind (ratio_Cmp.f k a0.2 a1.2) fun r2 =>
        (some r2))))
def f (k : Nat) (a0 : (((Bool × (List Int)) × (List Int)) × ((Bool × (List Int)) × (List Int)))) (a1 : (((Bool × (List Int)) × (List Int)) × ((Bool × (List Int)) × (List Int)))) : Option Int := e k a0 a1
end delta_Cmp

namespace ref05_Cmp
def e (k : Nat) (a0 : (((Bool × (List Int)) × (List Int)) × ((Bool × (List Int)) × (List Int)))) (a1 : (((Bool × (List Int)) × (List Int)) × ((Bool × (List Int)) × (List Int)))) : Option Int :=
  (Option.bind (ref05_Sub.f k a0 a1) fun r1 =>
    (Option.bind (ref05_Sign.f k r1) fun r2 =>
      (some r2)))
def f (k : Nat) (a0 : (((Bool × (List Int)) × (List Int)) × ((Bool × (List Int)) × (List Int)))) (a1 : (((Bool × (List Int)) × (List Int)) × ((Bool × (List Int)) × (List Int)))) : Option Int := e k a0 a1
end ref05_Cmp

namespace law05_DeltaNorms
def e5 (_k : Nat) (_q5 : Unit → Option Bool) (_ : Unit) : Option Bool :=
  (some false)
def e (k : Nat) (q5 : Unit → Option Bool) (a0 : (((Bool × (List Int)) × (List Int)) × ((Bool × (List Int)) × (List Int)))) (a1 : (((Bool × (List Int)) × (List Int)) × ((Bool × (List Int)) × (List Int)))) : Option Bool :=
  (Option.bind (law05_lives.f k ()) fun r1 =>
    (bif (!r1) then
      q5 ()
    else
      (Option.bind (law05_twin.f k a0) fun r2 =>
        (Option.bind (delta_Norm.f k r2) fun r3 =>
          (Option.bind (ref05_Norm.f k a0) fun r4 =>
            (Option.bind (law05_same.f k r3 r4) fun r5 =>
              (bif (!r5) then
                q5 ()
              else
                (Option.bind (law05_rat.f k a0.1) fun r6 =>
                  (Option.bind (delta_Of.f k r6) fun r7 =>
                    (Option.bind (ref05_Of.f k a0.1) fun r8 =>
                      (Option.bind (law05_same.f k r7 r8) fun r9 =>
                        (bif (!r9) then
                          q5 ()
                        else
                          (Option.bind (law05_twin.f k a0) fun r10 =>
                            (Option.bind (delta_Sign.f k r10) fun r11 =>
                              (Option.bind (ref05_Sign.f k a0) fun r12 =>
                                (bif (decide (r11 = r12)) then
                                  (Option.bind (law05_twin.f k a0) fun r13 =>
                                    (Option.bind (law05_twin.f k a1) fun r14 =>
                                      (Option.bind (delta_Cmp.f k r13 r14) fun r15 =>
                                        (Option.bind (ref05_Cmp.f k a0 a1) fun r16 =>
                                          (some (decide (r15 = r16)))))))
                                else
                                  (some false)))))))))))))))))
def pts : Nat → (Unit → Option Bool)
  | 0 => fun _ => none
  | k + 1 => e5 k (pts k)
def p5 (k : Nat) : Unit → Option Bool := (pts k)
theorem p5_succ (k : Nat) (x0 : Unit) : p5 (k + 1) x0 = e5 k (p5 k) x0 := rfl
def f (k : Nat) (a0 : (((Bool × (List Int)) × (List Int)) × ((Bool × (List Int)) × (List Int)))) (a1 : (((Bool × (List Int)) × (List Int)) × ((Bool × (List Int)) × (List Int)))) : Option Bool := e k (p5 k) a0 a1
end law05_DeltaNorms

namespace law05_DeltaSpace
def e11 (_k : Nat) (_q11 : Unit → Option Bool) (_q21 : Unit → Option Bool) (_ : Unit) : Option Bool :=
  (some false)
def e21 (_k : Nat) (_q11 : Unit → Option Bool) (_q21 : Unit → Option Bool) (_ : Unit) : Option Bool :=
  (some false)
def e (k : Nat) (q11 : Unit → Option Bool) (q21 : Unit → Option Bool) (a0 : (((Bool × (List Int)) × (List Int)) × ((Bool × (List Int)) × (List Int)))) (a1 : (((Bool × (List Int)) × (List Int)) × ((Bool × (List Int)) × (List Int)))) (a2 : ((Bool × (List Int)) × (List Int))) : Option Bool :=
  (Option.bind (law05_lives.f k ()) fun r1 =>
    (bif (!r1) then
      (some false)
    else
      (Option.bind (law05_twin.f k a0) fun r2 =>
        (Option.bind (law05_twin.f k a1) fun r3 =>
          (Option.bind (delta_Add.f k r2 r3) fun r4 =>
            (Option.bind (law05_twin.f k a1) fun r5 =>
              (Option.bind (law05_twin.f k a0) fun r6 =>
                (Option.bind (delta_Add.f k r5 r6) fun r7 =>
                  (Option.bind (law05_same.f k r4 r7) fun r8 =>
                    (bif (!r8) then
                      q11 ()
                    else
                      (Option.bind (law05_twin.f k a1) fun r9 =>
                        (Option.bind (delta_Sub.f k r4 r9) fun r10 =>
                          (Option.bind (law05_twin.f k a0) fun r11 =>
                            (Option.bind (delta_Norm.f k r11) fun r12 =>
                              (Option.bind (law05_same.f k r10 r12) fun r13 =>
                                (bif (!r13) then
                                  q11 ()
                                else
                                  (Option.bind (law05_rat.f k a2) fun r14 =>
                                    (Option.bind (delta_Scale.f k r14 r4) fun r15 =>
                                      (Option.bind (law05_rat.f k a2) fun r16 =>
                                        (Option.bind (law05_twin.f k a0) fun r17 =>
                                          (Option.bind (delta_Scale.f k r16 r17) fun r18 =>
                                            (Option.bind (law05_rat.f k a2) fun r19 =>
                                              (Option.bind (law05_twin.f k a1) fun r20 =>
                                                (Option.bind (delta_Scale.f k r19 r20) fun r21 =>
                                                  (Option.bind (delta_Add.f k r18 r21) fun r22 =>
                                                    (Option.bind (law05_same.f k r15 r22) fun r23 =>
                                                      (bif (!r23) then
                                                        (some false)
                                                      else
                                                        (Option.bind (law05_twin.f k a0) fun r24 =>
                                                          (Option.bind (law05_twin.f k a1) fun r25 =>
                                                            (Option.bind (delta_Cmp.f k r24 r25) fun r26 =>
                                                              (Option.bind (law05_twin.f k a1) fun r27 =>
                                                                (Option.bind (law05_twin.f k a0) fun r28 =>
                                                                  (Option.bind (delta_Cmp.f k r27 r28) fun r29 =>
                                                                    (bif (!decide (r26 = (IntKind.i64.wrap (0 - r29)))) then
                                                                      q21 ()
                                                                    else
                                                                      (Option.bind (law05_twin.f k a1) fun r30 =>
                                                                        (Option.bind (law05_twin.f k a1) fun r31 =>
                                                                          (Option.bind (delta_Add.f k r30 r31) fun r32 =>
                                                                            (Option.bind (delta_Cmp.f k r4 r32) fun r33 =>
                                                                              (bif (!decide (r33 = r26)) then
                                                                                q21 ()
                                                                              else
                                                                                (Option.bind (law05_rat.f k a2) fun r34 =>
                                                                                  (Option.bind (law05_twin.f k a0) fun r35 =>
                                                                                    (Option.bind (delta_Scale.f k r34 r35) fun r36 =>
                                                                                      (Option.bind (law05_rat.f k a2) fun r37 =>
                                                                                        (Option.bind (law05_twin.f k a1) fun r38 =>
                                                                                          (Option.bind (delta_Scale.f k r37 r38) fun r39 =>
                                                                                            (Option.bind (delta_Cmp.f k r36 r39) fun r40 =>
                                                                                              (Option.bind (ref03_Sign.f k a2) fun r41 =>
                                                                                                (some (decide (r40 = (IntKind.i64.wrap (r26 * r41))))))))))))))))))))))))))))))))))))))))))))))))))))
def pts : Nat → (Unit → Option Bool) × (Unit → Option Bool)
  | 0 => (fun _ => none, fun _ => none)
  | k + 1 => (e11 k (pts k).1 (pts k).2, e21 k (pts k).1 (pts k).2)
def p11 (k : Nat) : Unit → Option Bool := (pts k).1
def p21 (k : Nat) : Unit → Option Bool := (pts k).2
theorem p11_succ (k : Nat) (x0 : Unit) : p11 (k + 1) x0 = e11 k (p11 k) (p21 k) x0 := rfl
theorem p21_succ (k : Nat) (x0 : Unit) : p21 (k + 1) x0 = e21 k (p11 k) (p21 k) x0 := rfl
def f (k : Nat) (a0 : (((Bool × (List Int)) × (List Int)) × ((Bool × (List Int)) × (List Int)))) (a1 : (((Bool × (List Int)) × (List Int)) × ((Bool × (List Int)) × (List Int)))) (a2 : ((Bool × (List Int)) × (List Int))) : Option Bool := e k (p11 k) (p21 k) a0 a1 a2
end law05_DeltaSpace

namespace law05_gaps
def e0 (k : Nat) (q0 : (List ((((Bool × (List Int)) × (List Int)) × ((Bool × (List Int)) × (List Int))) × (((Bool × (List Int)) × (List Int)) × ((Bool × (List Int)) × (List Int))))) → (List ((((Bool × (List Int)) × (List Int)) × ((Bool × (List Int)) × (List Int))) × (((Bool × (List Int)) × (List Int)) × ((Bool × (List Int)) × (List Int))))) → Int → Option (List ((((Bool × (List Int)) × (List Int)) × ((Bool × (List Int)) × (List Int))) × (((Bool × (List Int)) × (List Int)) × ((Bool × (List Int)) × (List Int)))))) (b0 : (List ((((Bool × (List Int)) × (List Int)) × ((Bool × (List Int)) × (List Int))) × (((Bool × (List Int)) × (List Int)) × ((Bool × (List Int)) × (List Int)))))) (b1 : (List ((((Bool × (List Int)) × (List Int)) × ((Bool × (List Int)) × (List Int))) × (((Bool × (List Int)) × (List Int)) × ((Bool × (List Int)) × (List Int)))))) (b2 : Int) : Option (List ((((Bool × (List Int)) × (List Int)) × ((Bool × (List Int)) × (List Int))) × (((Bool × (List Int)) × (List Int)) × ((Bool × (List Int)) × (List Int))))) :=
  (bif (decide (b2 < (b1.length : Int))) then
    (bif (decide (0 ≤ b2) && decide (b2 < (b1.length : Int))) then
      (Option.bind (law05_twin.f k (nthD ((((false, ([] : List Int)), ([] : List Int)), ((false, ([] : List Int)), ([] : List Int))), (((false, ([] : List Int)), ([] : List Int)), ((false, ([] : List Int)), ([] : List Int)))) b1 (Int.toNat b2)).1) fun r1 =>
        (bif (decide (0 ≤ b2) && decide (b2 < (b1.length : Int))) then
          (Option.bind (law05_twin.f k (nthD ((((false, ([] : List Int)), ([] : List Int)), ((false, ([] : List Int)), ([] : List Int))), (((false, ([] : List Int)), ([] : List Int)), ((false, ([] : List Int)), ([] : List Int)))) b1 (Int.toNat b2)).2) fun r2 =>
            (bif (decide (0 ≤ b2) && decide (b2 < (b0.length : Int))) then
              q0 (setN (r1, r2) b0 (Int.toNat b2)) b1 (IntKind.i64.wrap (b2 + (1 : Int)))
            else
              none))
        else
          none))
    else
      none)
  else
    (some b0))
def e (_k : Nat) (q0 : (List ((((Bool × (List Int)) × (List Int)) × ((Bool × (List Int)) × (List Int))) × (((Bool × (List Int)) × (List Int)) × ((Bool × (List Int)) × (List Int))))) → (List ((((Bool × (List Int)) × (List Int)) × ((Bool × (List Int)) × (List Int))) × (((Bool × (List Int)) × (List Int)) × ((Bool × (List Int)) × (List Int))))) → Int → Option (List ((((Bool × (List Int)) × (List Int)) × ((Bool × (List Int)) × (List Int))) × (((Bool × (List Int)) × (List Int)) × ((Bool × (List Int)) × (List Int)))))) (a0 : (List ((((Bool × (List Int)) × (List Int)) × ((Bool × (List Int)) × (List Int))) × (((Bool × (List Int)) × (List Int)) × ((Bool × (List Int)) × (List Int)))))) : Option (List ((((Bool × (List Int)) × (List Int)) × ((Bool × (List Int)) × (List Int))) × (((Bool × (List Int)) × (List Int)) × ((Bool × (List Int)) × (List Int))))) :=
  (bif (decide (0 ≤ (a0.length : Int)) && decide ((a0.length : Int) * 224 ≤ 281474976710656) && decide ((a0.length : Int) ≤ 9223372036854775807)) then
    q0 (List.replicate (Int.toNat (a0.length : Int)) ((((false, ([] : List Int)), ([] : List Int)), ((false, ([] : List Int)), ([] : List Int))), (((false, ([] : List Int)), ([] : List Int)), ((false, ([] : List Int)), ([] : List Int))))) a0 (0 : Int)
  else
    none)
def pts : Nat → ((List ((((Bool × (List Int)) × (List Int)) × ((Bool × (List Int)) × (List Int))) × (((Bool × (List Int)) × (List Int)) × ((Bool × (List Int)) × (List Int))))) → (List ((((Bool × (List Int)) × (List Int)) × ((Bool × (List Int)) × (List Int))) × (((Bool × (List Int)) × (List Int)) × ((Bool × (List Int)) × (List Int))))) → Int → Option (List ((((Bool × (List Int)) × (List Int)) × ((Bool × (List Int)) × (List Int))) × (((Bool × (List Int)) × (List Int)) × ((Bool × (List Int)) × (List Int))))))
  | 0 => fun _ _ _ => none
  | k + 1 => e0 k (pts k)
def p0 (k : Nat) : (List ((((Bool × (List Int)) × (List Int)) × ((Bool × (List Int)) × (List Int))) × (((Bool × (List Int)) × (List Int)) × ((Bool × (List Int)) × (List Int))))) → (List ((((Bool × (List Int)) × (List Int)) × ((Bool × (List Int)) × (List Int))) × (((Bool × (List Int)) × (List Int)) × ((Bool × (List Int)) × (List Int))))) → Int → Option (List ((((Bool × (List Int)) × (List Int)) × ((Bool × (List Int)) × (List Int))) × (((Bool × (List Int)) × (List Int)) × ((Bool × (List Int)) × (List Int))))) := (pts k)
theorem p0_succ (k : Nat) (x0 : (List ((((Bool × (List Int)) × (List Int)) × ((Bool × (List Int)) × (List Int))) × (((Bool × (List Int)) × (List Int)) × ((Bool × (List Int)) × (List Int)))))) (x1 : (List ((((Bool × (List Int)) × (List Int)) × ((Bool × (List Int)) × (List Int))) × (((Bool × (List Int)) × (List Int)) × ((Bool × (List Int)) × (List Int)))))) (x2 : Int) : p0 (k + 1) x0 x1 x2 = e0 k (p0 k) x0 x1 x2 := rfl
def f (k : Nat) (a0 : (List ((((Bool × (List Int)) × (List Int)) × ((Bool × (List Int)) × (List Int))) × (((Bool × (List Int)) × (List Int)) × ((Bool × (List Int)) × (List Int)))))) : Option (List ((((Bool × (List Int)) × (List Int)) × ((Bool × (List Int)) × (List Int))) × (((Bool × (List Int)) × (List Int)) × ((Bool × (List Int)) × (List Int))))) := e k (p0 k) a0
end law05_gaps

namespace ratio_Of
def e11 (k : Nat) (_q11 : (Bool × (List Int)) → (Bool × (List Int)) → ((Bool × (List Int)) × (List Int)) → Option (((Bool × (List Int)) × (List Int)) × Int)) (b0 : (Bool × (List Int))) (b1 : (Bool × (List Int))) (_b2 : ((Bool × (List Int)) × (List Int))) : Option (((Bool × (List Int)) × (List Int)) × Int) :=
  (Option.bind (ratio_made.f k b0 b1.2) fun r4 =>
    (some (r4, (0 : Int))))
def e (k : Nat) (q11 : (Bool × (List Int)) → (Bool × (List Int)) → ((Bool × (List Int)) × (List Int)) → Option (((Bool × (List Int)) × (List Int)) × Int)) (a0 : (Bool × (List Int))) (a1 : (Bool × (List Int))) : Option (((Bool × (List Int)) × (List Int)) × Int) :=
  (Option.bind (whole_Sign.f k a1) fun r1 =>
    (bif (decide (r1 = (0 : Int))) then
      (some (((false, ([] : List Int)), ([] : List Int)), (11 : Int)))
    else
      (Option.bind (whole_Sign.f k a1) fun r2 =>
        (bif (decide (r2 < (0 : Int))) then
          (Option.bind (whole_Neg.f k a0) fun r3 =>
            q11 r3 a1 ((false, ([] : List Int)), ([] : List Int)))
        else
          q11 a0 a1 ((false, ([] : List Int)), ([] : List Int))))))
def pts : Nat → ((Bool × (List Int)) → (Bool × (List Int)) → ((Bool × (List Int)) × (List Int)) → Option (((Bool × (List Int)) × (List Int)) × Int))
  | 0 => fun _ _ _ => none
  | k + 1 => e11 k (pts k)
def p11 (k : Nat) : (Bool × (List Int)) → (Bool × (List Int)) → ((Bool × (List Int)) × (List Int)) → Option (((Bool × (List Int)) × (List Int)) × Int) := (pts k)
theorem p11_succ (k : Nat) (x0 : (Bool × (List Int))) (x1 : (Bool × (List Int))) (x2 : ((Bool × (List Int)) × (List Int))) : p11 (k + 1) x0 x1 x2 = e11 k (p11 k) x0 x1 x2 := rfl
def f (k : Nat) (a0 : (Bool × (List Int))) (a1 : (Bool × (List Int))) : Option (((Bool × (List Int)) × (List Int)) × Int) := e k (p11 k) a0 a1
end ratio_Of

namespace ratio_Inv
def e (k : Nat) (a0 : ((Bool × (List Int)) × (List Int))) : Option (((Bool × (List Int)) × (List Int)) × Int) :=
  (Option.bind (ratio_Norm.f k a0) fun r1 =>
    (Option.bind (ratio_Of.f k (false, r1.2) r1.1) fun r2 =>
      (some (r2.1, r2.2))))
def f (k : Nat) (a0 : ((Bool × (List Int)) × (List Int))) : Option (((Bool × (List Int)) × (List Int)) × Int) := e k a0
end ratio_Inv

namespace ratio_Div
def e (k : Nat) (a0 : ((Bool × (List Int)) × (List Int))) (a1 : ((Bool × (List Int)) × (List Int))) : Option (((Bool × (List Int)) × (List Int)) × Int) :=
  (Option.bind (ratio_Inv.f k a1) fun r1 =>
    (bif (!decide (r1.2 = (0 : Int))) then
      (some (((false, ([] : List Int)), ([] : List Int)), r1.2))
    else
      (Option.bind (ratio_Mul.f k a0 r1.1) fun r2 =>
        (some (r2, (0 : Int))))))
def f (k : Nat) (a0 : ((Bool × (List Int)) × (List Int))) (a1 : ((Bool × (List Int)) × (List Int))) : Option (((Bool × (List Int)) × (List Int)) × Int) := e k a0 a1
end ratio_Div

namespace delta_Small_c1
def e (k : Nat) (a0 : ((((Bool × (List Int)) × (List Int)) × ((Bool × (List Int)) × (List Int))) × (((Bool × (List Int)) × (List Int)) × ((Bool × (List Int)) × (List Int))))) (a1 : ((Bool × (List Int)) × (List Int))) : Option ((Bool × (List Int)) × (List Int)) :=
  (Option.bind (ratio_Sub.f k a0.2.1 a0.1.1) fun r1 =>
    (Option.bind (ratio_Sub.f k a0.1.2 a0.2.2) fun r2 =>
      (Option.bind (ratio_Sign.f k r1) fun r3 =>
        (bif (decide (r3 ≤ (0 : Int))) then
          (some a1)
        else
          (Option.bind (ratio_Sign.f k r2) fun r4 =>
            (bif (decide (r4 ≤ (0 : Int))) then
              (some a1)
            else
              (Option.bind (ratio_Div.f k r1 r2) fun r5 =>
                (Option.bind (ratio_Cmp.f k r5.1 a1) fun r6 =>
                  (bif (decide (r6 < (0 : Int))) then
                    (some r5.1)
                  else
                    (some a1))))))))))
def f (k : Nat) (a0 : ((((Bool × (List Int)) × (List Int)) × ((Bool × (List Int)) × (List Int))) × (((Bool × (List Int)) × (List Int)) × ((Bool × (List Int)) × (List Int))))) (a1 : ((Bool × (List Int)) × (List Int))) : Option ((Bool × (List Int)) × (List Int)) := e k a0 a1
end delta_Small_c1

namespace delta_Small
def e0 (k : Nat) (q0 : ((Bool × (List Int)) × (List Int)) → ((Bool × (List Int)) × (List Int)) → (List ((((Bool × (List Int)) × (List Int)) × ((Bool × (List Int)) × (List Int))) × (((Bool × (List Int)) × (List Int)) × ((Bool × (List Int)) × (List Int))))) → (List ((((Bool × (List Int)) × (List Int)) × ((Bool × (List Int)) × (List Int))) × (((Bool × (List Int)) × (List Int)) × ((Bool × (List Int)) × (List Int))))) → Int → Int → Option (((Bool × (List Int)) × (List Int)) × Int)) (q4 : ((Bool × (List Int)) × (List Int)) → ((Bool × (List Int)) × (List Int)) → (List ((((Bool × (List Int)) × (List Int)) × ((Bool × (List Int)) × (List Int))) × (((Bool × (List Int)) × (List Int)) × ((Bool × (List Int)) × (List Int))))) → Int → Int → Option (((Bool × (List Int)) × (List Int)) × Int)) (b0 : ((Bool × (List Int)) × (List Int))) (b1 : ((Bool × (List Int)) × (List Int))) (b2 : (List ((((Bool × (List Int)) × (List Int)) × ((Bool × (List Int)) × (List Int))) × (((Bool × (List Int)) × (List Int)) × ((Bool × (List Int)) × (List Int)))))) (b3 : (List ((((Bool × (List Int)) × (List Int)) × ((Bool × (List Int)) × (List Int))) × (((Bool × (List Int)) × (List Int)) × ((Bool × (List Int)) × (List Int)))))) (b4 : Int) (b5 : Int) : Option (((Bool × (List Int)) × (List Int)) × Int) :=
  (bif (decide (b5 < b4)) then
    (bif (decide (0 ≤ b5) && decide (b5 < (b3.length : Int))) then
      (Option.bind (delta_Cmp.f k (nthD ((((false, ([] : List Int)), ([] : List Int)), ((false, ([] : List Int)), ([] : List Int))), (((false, ([] : List Int)), ([] : List Int)), ((false, ([] : List Int)), ([] : List Int)))) b3 (Int.toNat b5)).1 (nthD ((((false, ([] : List Int)), ([] : List Int)), ((false, ([] : List Int)), ([] : List Int))), (((false, ([] : List Int)), ([] : List Int)), ((false, ([] : List Int)), ([] : List Int)))) b3 (Int.toNat b5)).2) fun r2 =>
        (bif (decide (r2 > (0 : Int))) then
          (some (((false, ([] : List Int)), ([] : List Int)), (51 : Int)))
        else
          q0 b0 b1 b2 b3 b4 (IntKind.i64.wrap (b5 + (1 : Int)))))
    else
      none)
  else
    q4 b0 b1 b2 (b2.length : Int) (0 : Int))
def e4 (k : Nat) (_q0 : ((Bool × (List Int)) × (List Int)) → ((Bool × (List Int)) × (List Int)) → (List ((((Bool × (List Int)) × (List Int)) × ((Bool × (List Int)) × (List Int))) × (((Bool × (List Int)) × (List Int)) × ((Bool × (List Int)) × (List Int))))) → (List ((((Bool × (List Int)) × (List Int)) × ((Bool × (List Int)) × (List Int))) × (((Bool × (List Int)) × (List Int)) × ((Bool × (List Int)) × (List Int))))) → Int → Int → Option (((Bool × (List Int)) × (List Int)) × Int)) (q4 : ((Bool × (List Int)) × (List Int)) → ((Bool × (List Int)) × (List Int)) → (List ((((Bool × (List Int)) × (List Int)) × ((Bool × (List Int)) × (List Int))) × (((Bool × (List Int)) × (List Int)) × ((Bool × (List Int)) × (List Int))))) → Int → Int → Option (((Bool × (List Int)) × (List Int)) × Int)) (b0 : ((Bool × (List Int)) × (List Int))) (b1 : ((Bool × (List Int)) × (List Int))) (b2 : (List ((((Bool × (List Int)) × (List Int)) × ((Bool × (List Int)) × (List Int))) × (((Bool × (List Int)) × (List Int)) × ((Bool × (List Int)) × (List Int)))))) (b3 : Int) (b4 : Int) : Option (((Bool × (List Int)) × (List Int)) × Int) :=
  (bif (decide (b4 < b3)) then
    (bif (decide (0 ≤ b4) && decide (b4 < (b2.length : Int))) then
      (Option.bind (delta_Small_c1.f k (nthD ((((false, ([] : List Int)), ([] : List Int)), ((false, ([] : List Int)), ([] : List Int))), (((false, ([] : List Int)), ([] : List Int)), ((false, ([] : List Int)), ([] : List Int)))) b2 (Int.toNat b4)) b1) fun r3 =>
        q4 b0 r3 b2 b3 (IntKind.i64.wrap (b4 + (1 : Int))))
    else
      none)
  else
    (some (b1, (0 : Int))))
def e (k : Nat) (q0 : ((Bool × (List Int)) × (List Int)) → ((Bool × (List Int)) × (List Int)) → (List ((((Bool × (List Int)) × (List Int)) × ((Bool × (List Int)) × (List Int))) × (((Bool × (List Int)) × (List Int)) × ((Bool × (List Int)) × (List Int))))) → (List ((((Bool × (List Int)) × (List Int)) × ((Bool × (List Int)) × (List Int))) × (((Bool × (List Int)) × (List Int)) × ((Bool × (List Int)) × (List Int))))) → Int → Int → Option (((Bool × (List Int)) × (List Int)) × Int)) (_q4 : ((Bool × (List Int)) × (List Int)) → ((Bool × (List Int)) × (List Int)) → (List ((((Bool × (List Int)) × (List Int)) × ((Bool × (List Int)) × (List Int))) × (((Bool × (List Int)) × (List Int)) × ((Bool × (List Int)) × (List Int))))) → Int → Int → Option (((Bool × (List Int)) × (List Int)) × Int)) (a0 : (List ((((Bool × (List Int)) × (List Int)) × ((Bool × (List Int)) × (List Int))) × (((Bool × (List Int)) × (List Int)) × ((Bool × (List Int)) × (List Int)))))) : Option (((Bool × (List Int)) × (List Int)) × Int) :=
  (Option.bind (ratio_Whole.f k (1 : Int)) fun r1 =>
    q0 ((false, ([] : List Int)), ([] : List Int)) r1 a0 a0 (a0.length : Int) (0 : Int))
def pts : Nat → (((Bool × (List Int)) × (List Int)) → ((Bool × (List Int)) × (List Int)) → (List ((((Bool × (List Int)) × (List Int)) × ((Bool × (List Int)) × (List Int))) × (((Bool × (List Int)) × (List Int)) × ((Bool × (List Int)) × (List Int))))) → (List ((((Bool × (List Int)) × (List Int)) × ((Bool × (List Int)) × (List Int))) × (((Bool × (List Int)) × (List Int)) × ((Bool × (List Int)) × (List Int))))) → Int → Int → Option (((Bool × (List Int)) × (List Int)) × Int)) × (((Bool × (List Int)) × (List Int)) → ((Bool × (List Int)) × (List Int)) → (List ((((Bool × (List Int)) × (List Int)) × ((Bool × (List Int)) × (List Int))) × (((Bool × (List Int)) × (List Int)) × ((Bool × (List Int)) × (List Int))))) → Int → Int → Option (((Bool × (List Int)) × (List Int)) × Int))
  | 0 => (fun _ _ _ _ _ _ => none, fun _ _ _ _ _ => none)
  | k + 1 => (e0 k (pts k).1 (pts k).2, e4 k (pts k).1 (pts k).2)
def p0 (k : Nat) : ((Bool × (List Int)) × (List Int)) → ((Bool × (List Int)) × (List Int)) → (List ((((Bool × (List Int)) × (List Int)) × ((Bool × (List Int)) × (List Int))) × (((Bool × (List Int)) × (List Int)) × ((Bool × (List Int)) × (List Int))))) → (List ((((Bool × (List Int)) × (List Int)) × ((Bool × (List Int)) × (List Int))) × (((Bool × (List Int)) × (List Int)) × ((Bool × (List Int)) × (List Int))))) → Int → Int → Option (((Bool × (List Int)) × (List Int)) × Int) := (pts k).1
def p4 (k : Nat) : ((Bool × (List Int)) × (List Int)) → ((Bool × (List Int)) × (List Int)) → (List ((((Bool × (List Int)) × (List Int)) × ((Bool × (List Int)) × (List Int))) × (((Bool × (List Int)) × (List Int)) × ((Bool × (List Int)) × (List Int))))) → Int → Int → Option (((Bool × (List Int)) × (List Int)) × Int) := (pts k).2
theorem p0_succ (k : Nat) (x0 : ((Bool × (List Int)) × (List Int))) (x1 : ((Bool × (List Int)) × (List Int))) (x2 : (List ((((Bool × (List Int)) × (List Int)) × ((Bool × (List Int)) × (List Int))) × (((Bool × (List Int)) × (List Int)) × ((Bool × (List Int)) × (List Int)))))) (x3 : (List ((((Bool × (List Int)) × (List Int)) × ((Bool × (List Int)) × (List Int))) × (((Bool × (List Int)) × (List Int)) × ((Bool × (List Int)) × (List Int)))))) (x4 : Int) (x5 : Int) : p0 (k + 1) x0 x1 x2 x3 x4 x5 = e0 k (p0 k) (p4 k) x0 x1 x2 x3 x4 x5 := rfl
theorem p4_succ (k : Nat) (x0 : ((Bool × (List Int)) × (List Int))) (x1 : ((Bool × (List Int)) × (List Int))) (x2 : (List ((((Bool × (List Int)) × (List Int)) × ((Bool × (List Int)) × (List Int))) × (((Bool × (List Int)) × (List Int)) × ((Bool × (List Int)) × (List Int)))))) (x3 : Int) (x4 : Int) : p4 (k + 1) x0 x1 x2 x3 x4 = e4 k (p0 k) (p4 k) x0 x1 x2 x3 x4 := rfl
def f (k : Nat) (a0 : (List ((((Bool × (List Int)) × (List Int)) × ((Bool × (List Int)) × (List Int))) × (((Bool × (List Int)) × (List Int)) × ((Bool × (List Int)) × (List Int)))))) : Option (((Bool × (List Int)) × (List Int)) × Int) := e k (p0 k) (p4 k) a0
end delta_Small

namespace ref03_Of
def e (k : Nat) (a0 : (Bool × (List Int))) (a1 : (Bool × (List Int))) : Option (((Bool × (List Int)) × (List Int)) × Int) :=
  (Option.bind (ref02_Norm.f k a0) fun r1 =>
    (Option.bind (ref02_Norm.f k a1) fun r2 =>
      (bif (decide ((r2.2.length : Int) = (0 : Int))) then
        (some (((false, ([] : List Int)), ([] : List Int)), (11 : Int)))
      else
        (Option.bind (ref03_Norm.f k (((!(r1.1 == r2.1)), r1.2), r2.2)) fun r3 =>
          (some (r3, (0 : Int)))))))
def f (k : Nat) (a0 : (Bool × (List Int))) (a1 : (Bool × (List Int))) : Option (((Bool × (List Int)) × (List Int)) × Int) := e k a0 a1
end ref03_Of

namespace ref03_Inv
def e (k : Nat) (a0 : ((Bool × (List Int)) × (List Int))) : Option (((Bool × (List Int)) × (List Int)) × Int) :=
  (Option.bind (ref03_Norm.f k a0) fun r1 =>
    (Option.bind (ref03_positive.f k r1.2) fun r2 =>
      (Option.bind (ref03_Of.f k r2 r1.1) fun r3 =>
        (some (r3.1, r3.2)))))
def f (k : Nat) (a0 : ((Bool × (List Int)) × (List Int))) : Option (((Bool × (List Int)) × (List Int)) × Int) := e k a0
end ref03_Inv

namespace ref03_Div
def e (k : Nat) (a0 : ((Bool × (List Int)) × (List Int))) (a1 : ((Bool × (List Int)) × (List Int))) : Option (((Bool × (List Int)) × (List Int)) × Int) :=
  (Option.bind (ref03_Inv.f k a1) fun r1 =>
    (bif (!decide (r1.2 = (0 : Int))) then
      (some (((false, ([] : List Int)), ([] : List Int)), r1.2))
    else
      (Option.bind (ref03_Mul.f k a0 r1.1) fun r2 =>
        (some (r2, (0 : Int))))))
def f (k : Nat) (a0 : ((Bool × (List Int)) × (List Int))) (a1 : ((Bool × (List Int)) × (List Int))) : Option (((Bool × (List Int)) × (List Int)) × Int) := e k a0 a1
end ref03_Div

namespace ref03_Cmp
def e (k : Nat) (a0 : ((Bool × (List Int)) × (List Int))) (a1 : ((Bool × (List Int)) × (List Int))) : Option Int :=
  (Option.bind (ref03_Sub.f k a0 a1) fun r1 =>
    (Option.bind (ref03_Sign.f k r1) fun r2 =>
      (some r2)))
def f (k : Nat) (a0 : ((Bool × (List Int)) × (List Int))) (a1 : ((Bool × (List Int)) × (List Int))) : Option Int := e k a0 a1
end ref03_Cmp

namespace ref05_Small
def e0 (k : Nat) (q0 : ((Bool × (List Int)) × (List Int)) → ((Bool × (List Int)) × (List Int)) → (List ((((Bool × (List Int)) × (List Int)) × ((Bool × (List Int)) × (List Int))) × (((Bool × (List Int)) × (List Int)) × ((Bool × (List Int)) × (List Int))))) → Int → Option (((Bool × (List Int)) × (List Int)) × Int)) (q4 : ((Bool × (List Int)) × (List Int)) → ((Bool × (List Int)) × (List Int)) → (List ((((Bool × (List Int)) × (List Int)) × ((Bool × (List Int)) × (List Int))) × (((Bool × (List Int)) × (List Int)) × ((Bool × (List Int)) × (List Int))))) → Int → Option (((Bool × (List Int)) × (List Int)) × Int)) (_q19 : ((Bool × (List Int)) × (List Int)) → ((Bool × (List Int)) × (List Int)) → (List ((((Bool × (List Int)) × (List Int)) × ((Bool × (List Int)) × (List Int))) × (((Bool × (List Int)) × (List Int)) × ((Bool × (List Int)) × (List Int))))) → Int → Option (((Bool × (List Int)) × (List Int)) × Int)) (b0 : ((Bool × (List Int)) × (List Int))) (b1 : ((Bool × (List Int)) × (List Int))) (b2 : (List ((((Bool × (List Int)) × (List Int)) × ((Bool × (List Int)) × (List Int))) × (((Bool × (List Int)) × (List Int)) × ((Bool × (List Int)) × (List Int)))))) (b3 : Int) : Option (((Bool × (List Int)) × (List Int)) × Int) :=
  (bif (decide (b3 < (b2.length : Int))) then
    (bif (decide (0 ≤ b3) && decide (b3 < (b2.length : Int))) then
      (bif (decide (0 ≤ b3) && decide (b3 < (b2.length : Int))) then
        (Option.bind (ref05_Cmp.f k (nthD ((((false, ([] : List Int)), ([] : List Int)), ((false, ([] : List Int)), ([] : List Int))), (((false, ([] : List Int)), ([] : List Int)), ((false, ([] : List Int)), ([] : List Int)))) b2 (Int.toNat b3)).1 (nthD ((((false, ([] : List Int)), ([] : List Int)), ((false, ([] : List Int)), ([] : List Int))), (((false, ([] : List Int)), ([] : List Int)), ((false, ([] : List Int)), ([] : List Int)))) b2 (Int.toNat b3)).2) fun r2 =>
          (bif (decide (r2 > (0 : Int))) then
            (some (((false, ([] : List Int)), ([] : List Int)), (51 : Int)))
          else
            q0 b0 b1 b2 (IntKind.i64.wrap (b3 + (1 : Int)))))
      else
        none)
    else
      none)
  else
    q4 b0 b1 b2 (0 : Int))
def e4 (k : Nat) (_q0 : ((Bool × (List Int)) × (List Int)) → ((Bool × (List Int)) × (List Int)) → (List ((((Bool × (List Int)) × (List Int)) × ((Bool × (List Int)) × (List Int))) × (((Bool × (List Int)) × (List Int)) × ((Bool × (List Int)) × (List Int))))) → Int → Option (((Bool × (List Int)) × (List Int)) × Int)) (_q4 : ((Bool × (List Int)) × (List Int)) → ((Bool × (List Int)) × (List Int)) → (List ((((Bool × (List Int)) × (List Int)) × ((Bool × (List Int)) × (List Int))) × (((Bool × (List Int)) × (List Int)) × ((Bool × (List Int)) × (List Int))))) → Int → Option (((Bool × (List Int)) × (List Int)) × Int)) (q19 : ((Bool × (List Int)) × (List Int)) → ((Bool × (List Int)) × (List Int)) → (List ((((Bool × (List Int)) × (List Int)) × ((Bool × (List Int)) × (List Int))) × (((Bool × (List Int)) × (List Int)) × ((Bool × (List Int)) × (List Int))))) → Int → Option (((Bool × (List Int)) × (List Int)) × Int)) (b0 : ((Bool × (List Int)) × (List Int))) (b1 : ((Bool × (List Int)) × (List Int))) (b2 : (List ((((Bool × (List Int)) × (List Int)) × ((Bool × (List Int)) × (List Int))) × (((Bool × (List Int)) × (List Int)) × ((Bool × (List Int)) × (List Int)))))) (b3 : Int) : Option (((Bool × (List Int)) × (List Int)) × Int) :=
  (bif (decide (b3 < (b2.length : Int))) then
    (bif (decide (0 ≤ b3) && decide (b3 < (b2.length : Int))) then
      (bif (decide (0 ≤ b3) && decide (b3 < (b2.length : Int))) then
        (Option.bind (ref03_Sub.f k (nthD ((((false, ([] : List Int)), ([] : List Int)), ((false, ([] : List Int)), ([] : List Int))), (((false, ([] : List Int)), ([] : List Int)), ((false, ([] : List Int)), ([] : List Int)))) b2 (Int.toNat b3)).2.1 (nthD ((((false, ([] : List Int)), ([] : List Int)), ((false, ([] : List Int)), ([] : List Int))), (((false, ([] : List Int)), ([] : List Int)), ((false, ([] : List Int)), ([] : List Int)))) b2 (Int.toNat b3)).1.1) fun r3 =>
          (bif (decide (0 ≤ b3) && decide (b3 < (b2.length : Int))) then
            (bif (decide (0 ≤ b3) && decide (b3 < (b2.length : Int))) then
              (Option.bind (ref03_Sub.f k (nthD ((((false, ([] : List Int)), ([] : List Int)), ((false, ([] : List Int)), ([] : List Int))), (((false, ([] : List Int)), ([] : List Int)), ((false, ([] : List Int)), ([] : List Int)))) b2 (Int.toNat b3)).1.2 (nthD ((((false, ([] : List Int)), ([] : List Int)), ((false, ([] : List Int)), ([] : List Int))), (((false, ([] : List Int)), ([] : List Int)), ((false, ([] : List Int)), ([] : List Int)))) b2 (Int.toNat b3)).2.2) fun r4 =>
                (Option.bind (ref03_Sign.f k r3) fun r5 =>
                  (bif (decide (r5 ≤ (0 : Int))) then
                    q19 b0 b1 b2 b3
                  else
                    (Option.bind (ref03_Sign.f k r4) fun r6 =>
                      (bif (decide (r6 ≤ (0 : Int))) then
                        q19 b0 b1 b2 b3
                      else
                        (Option.bind (ref03_Div.f k r3 r4) fun r7 =>
                          (Option.bind (ref03_Cmp.f k r7.1 b1) fun r8 =>
                            (bif (decide (r8 < (0 : Int))) then
                              q19 b0 r7.1 b2 b3
                            else
                              q19 b0 b1 b2 b3))))))))
            else
              none)
          else
            none))
      else
        none)
    else
      none)
  else
    (some (b1, (0 : Int))))
def e19 (_k : Nat) (_q0 : ((Bool × (List Int)) × (List Int)) → ((Bool × (List Int)) × (List Int)) → (List ((((Bool × (List Int)) × (List Int)) × ((Bool × (List Int)) × (List Int))) × (((Bool × (List Int)) × (List Int)) × ((Bool × (List Int)) × (List Int))))) → Int → Option (((Bool × (List Int)) × (List Int)) × Int)) (q4 : ((Bool × (List Int)) × (List Int)) → ((Bool × (List Int)) × (List Int)) → (List ((((Bool × (List Int)) × (List Int)) × ((Bool × (List Int)) × (List Int))) × (((Bool × (List Int)) × (List Int)) × ((Bool × (List Int)) × (List Int))))) → Int → Option (((Bool × (List Int)) × (List Int)) × Int)) (_q19 : ((Bool × (List Int)) × (List Int)) → ((Bool × (List Int)) × (List Int)) → (List ((((Bool × (List Int)) × (List Int)) × ((Bool × (List Int)) × (List Int))) × (((Bool × (List Int)) × (List Int)) × ((Bool × (List Int)) × (List Int))))) → Int → Option (((Bool × (List Int)) × (List Int)) × Int)) (b0 : ((Bool × (List Int)) × (List Int))) (b1 : ((Bool × (List Int)) × (List Int))) (b2 : (List ((((Bool × (List Int)) × (List Int)) × ((Bool × (List Int)) × (List Int))) × (((Bool × (List Int)) × (List Int)) × ((Bool × (List Int)) × (List Int)))))) (b3 : Int) : Option (((Bool × (List Int)) × (List Int)) × Int) :=
  q4 b0 b1 b2 (IntKind.i64.wrap (b3 + (1 : Int)))
def e (k : Nat) (q0 : ((Bool × (List Int)) × (List Int)) → ((Bool × (List Int)) × (List Int)) → (List ((((Bool × (List Int)) × (List Int)) × ((Bool × (List Int)) × (List Int))) × (((Bool × (List Int)) × (List Int)) × ((Bool × (List Int)) × (List Int))))) → Int → Option (((Bool × (List Int)) × (List Int)) × Int)) (_q4 : ((Bool × (List Int)) × (List Int)) → ((Bool × (List Int)) × (List Int)) → (List ((((Bool × (List Int)) × (List Int)) × ((Bool × (List Int)) × (List Int))) × (((Bool × (List Int)) × (List Int)) × ((Bool × (List Int)) × (List Int))))) → Int → Option (((Bool × (List Int)) × (List Int)) × Int)) (_q19 : ((Bool × (List Int)) × (List Int)) → ((Bool × (List Int)) × (List Int)) → (List ((((Bool × (List Int)) × (List Int)) × ((Bool × (List Int)) × (List Int))) × (((Bool × (List Int)) × (List Int)) × ((Bool × (List Int)) × (List Int))))) → Int → Option (((Bool × (List Int)) × (List Int)) × Int)) (a0 : (List ((((Bool × (List Int)) × (List Int)) × ((Bool × (List Int)) × (List Int))) × (((Bool × (List Int)) × (List Int)) × ((Bool × (List Int)) × (List Int)))))) : Option (((Bool × (List Int)) × (List Int)) × Int) :=
  (Option.bind (ref03_Whole.f k (1 : Int)) fun r1 =>
    q0 ((false, ([] : List Int)), ([] : List Int)) r1 a0 (0 : Int))
def pts : Nat → (((Bool × (List Int)) × (List Int)) → ((Bool × (List Int)) × (List Int)) → (List ((((Bool × (List Int)) × (List Int)) × ((Bool × (List Int)) × (List Int))) × (((Bool × (List Int)) × (List Int)) × ((Bool × (List Int)) × (List Int))))) → Int → Option (((Bool × (List Int)) × (List Int)) × Int)) × (((Bool × (List Int)) × (List Int)) → ((Bool × (List Int)) × (List Int)) → (List ((((Bool × (List Int)) × (List Int)) × ((Bool × (List Int)) × (List Int))) × (((Bool × (List Int)) × (List Int)) × ((Bool × (List Int)) × (List Int))))) → Int → Option (((Bool × (List Int)) × (List Int)) × Int)) × (((Bool × (List Int)) × (List Int)) → ((Bool × (List Int)) × (List Int)) → (List ((((Bool × (List Int)) × (List Int)) × ((Bool × (List Int)) × (List Int))) × (((Bool × (List Int)) × (List Int)) × ((Bool × (List Int)) × (List Int))))) → Int → Option (((Bool × (List Int)) × (List Int)) × Int))
  | 0 => (fun _ _ _ _ => none, fun _ _ _ _ => none, fun _ _ _ _ => none)
  | k + 1 => (e0 k (pts k).1 (pts k).2.1 (pts k).2.2, e4 k (pts k).1 (pts k).2.1 (pts k).2.2, e19 k (pts k).1 (pts k).2.1 (pts k).2.2)
def p0 (k : Nat) : ((Bool × (List Int)) × (List Int)) → ((Bool × (List Int)) × (List Int)) → (List ((((Bool × (List Int)) × (List Int)) × ((Bool × (List Int)) × (List Int))) × (((Bool × (List Int)) × (List Int)) × ((Bool × (List Int)) × (List Int))))) → Int → Option (((Bool × (List Int)) × (List Int)) × Int) := (pts k).1
def p4 (k : Nat) : ((Bool × (List Int)) × (List Int)) → ((Bool × (List Int)) × (List Int)) → (List ((((Bool × (List Int)) × (List Int)) × ((Bool × (List Int)) × (List Int))) × (((Bool × (List Int)) × (List Int)) × ((Bool × (List Int)) × (List Int))))) → Int → Option (((Bool × (List Int)) × (List Int)) × Int) := (pts k).2.1
def p19 (k : Nat) : ((Bool × (List Int)) × (List Int)) → ((Bool × (List Int)) × (List Int)) → (List ((((Bool × (List Int)) × (List Int)) × ((Bool × (List Int)) × (List Int))) × (((Bool × (List Int)) × (List Int)) × ((Bool × (List Int)) × (List Int))))) → Int → Option (((Bool × (List Int)) × (List Int)) × Int) := (pts k).2.2
theorem p0_succ (k : Nat) (x0 : ((Bool × (List Int)) × (List Int))) (x1 : ((Bool × (List Int)) × (List Int))) (x2 : (List ((((Bool × (List Int)) × (List Int)) × ((Bool × (List Int)) × (List Int))) × (((Bool × (List Int)) × (List Int)) × ((Bool × (List Int)) × (List Int)))))) (x3 : Int) : p0 (k + 1) x0 x1 x2 x3 = e0 k (p0 k) (p4 k) (p19 k) x0 x1 x2 x3 := rfl
theorem p4_succ (k : Nat) (x0 : ((Bool × (List Int)) × (List Int))) (x1 : ((Bool × (List Int)) × (List Int))) (x2 : (List ((((Bool × (List Int)) × (List Int)) × ((Bool × (List Int)) × (List Int))) × (((Bool × (List Int)) × (List Int)) × ((Bool × (List Int)) × (List Int)))))) (x3 : Int) : p4 (k + 1) x0 x1 x2 x3 = e4 k (p0 k) (p4 k) (p19 k) x0 x1 x2 x3 := rfl
theorem p19_succ (k : Nat) (x0 : ((Bool × (List Int)) × (List Int))) (x1 : ((Bool × (List Int)) × (List Int))) (x2 : (List ((((Bool × (List Int)) × (List Int)) × ((Bool × (List Int)) × (List Int))) × (((Bool × (List Int)) × (List Int)) × ((Bool × (List Int)) × (List Int)))))) (x3 : Int) : p19 (k + 1) x0 x1 x2 x3 = e19 k (p0 k) (p4 k) (p19 k) x0 x1 x2 x3 := rfl
def f (k : Nat) (a0 : (List ((((Bool × (List Int)) × (List Int)) × ((Bool × (List Int)) × (List Int))) × (((Bool × (List Int)) × (List Int)) × ((Bool × (List Int)) × (List Int)))))) : Option (((Bool × (List Int)) × (List Int)) × Int) := e k (p0 k) (p4 k) (p19 k) a0
end ref05_Small

namespace law05_none
def e (_k : Nat) (a0 : ((Bool × (List Int)) × (List Int))) : Option Bool :=
  (bif (!a0.1.1) then
    (bif (decide ((a0.1.2.length : Int) = (0 : Int))) then
      (some (decide ((a0.2.length : Int) = (0 : Int))))
    else
      (some false))
  else
    (some false))
def f (k : Nat) (a0 : ((Bool × (List Int)) × (List Int))) : Option Bool := e k a0
end law05_none

namespace law05_DeltaSmalls
def e9 (_k : Nat) (_q9 : Unit → Option Bool) (_q11 : Unit → Option Bool) (_ : Unit) : Option Bool :=
  (some false)
def e11 (k : Nat) (_q9 : Unit → Option Bool) (_q11 : Unit → Option Bool) (_ : Unit) : Option Bool :=
  (Option.bind (law05_lives.f k ()) fun r7 =>
    (some r7))
def e (k : Nat) (q9 : Unit → Option Bool) (q11 : Unit → Option Bool) (a0 : (List ((((Bool × (List Int)) × (List Int)) × ((Bool × (List Int)) × (List Int))) × (((Bool × (List Int)) × (List Int)) × ((Bool × (List Int)) × (List Int)))))) : Option Bool :=
  (Option.bind (law05_gaps.f k a0) fun r1 =>
    (Option.bind (delta_Small.f k r1) fun r2 =>
      (Option.bind (ref05_Small.f k a0) fun r3 =>
        (bif (!decide (r2.2 = r3.2)) then
          q9 ()
        else
          (bif (decide (r2.2 = (0 : Int))) then
            (Option.bind (ref03_Same.f k r2.1 r3.1) fun r4 =>
              (bif (!r4) then
                q9 ()
              else
                (bif (!decide (r2.2 = (0 : Int))) then
                  (Option.bind (law05_none.f k r2.1) fun r5 =>
                    (bif (!r5) then
                      q9 ()
                    else
                      q11 ()))
                else
                  q11 ())))
          else
            (bif (!decide (r2.2 = (0 : Int))) then
              (Option.bind (law05_none.f k r2.1) fun r6 =>
                (bif (!r6) then
                  q9 ()
                else
                  q11 ()))
            else
              q11 ()))))))
def pts : Nat → (Unit → Option Bool) × (Unit → Option Bool)
  | 0 => (fun _ => none, fun _ => none)
  | k + 1 => (e9 k (pts k).1 (pts k).2, e11 k (pts k).1 (pts k).2)
def p9 (k : Nat) : Unit → Option Bool := (pts k).1
def p11 (k : Nat) : Unit → Option Bool := (pts k).2
theorem p9_succ (k : Nat) (x0 : Unit) : p9 (k + 1) x0 = e9 k (p9 k) (p11 k) x0 := rfl
theorem p11_succ (k : Nat) (x0 : Unit) : p11 (k + 1) x0 = e11 k (p9 k) (p11 k) x0 := rfl
def f (k : Nat) (a0 : (List ((((Bool × (List Int)) × (List Int)) × ((Bool × (List Int)) × (List Int))) × (((Bool × (List Int)) × (List Int)) × ((Bool × (List Int)) × (List Int)))))) : Option Bool := e k (p9 k) (p11 k) a0
end law05_DeltaSmalls

namespace law05_part
def e (k : Nat) (a0 : ((Bool × (List Int)) × (List Int))) (a1 : Int) (a2 : Int) : Option ((Bool × (List Int)) × (List Int)) :=
  (bif (decide ((IntKind.u64.wrap ((IntKind.u64.wrap ((IntKind.u64.wrap a2) + (1 : Int))) + (1 : Int))) = 0)) then
    none
  else
    (bif (decide ((IntKind.u64.wrap ((IntKind.u64.wrap ((IntKind.u64.wrap a2) + (1 : Int))) + (1 : Int))) = 0)) then
      none
    else
      (Option.bind (ref03_Mul.f k a0 ((false, [(IntKind.u32.wrap (Int.tmod (IntKind.u64.wrap a1) (IntKind.u64.wrap ((IntKind.u64.wrap ((IntKind.u64.wrap a2) + (1 : Int))) + (1 : Int))))), (IntKind.u32.wrap (Int.fdiv (Int.tmod (IntKind.u64.wrap a1) (IntKind.u64.wrap ((IntKind.u64.wrap ((IntKind.u64.wrap a2) + (1 : Int))) + (1 : Int)))) (2 ^ 32)))]), [(IntKind.u32.wrap (IntKind.u64.wrap ((IntKind.u64.wrap a2) + (1 : Int)))), (IntKind.u32.wrap (Int.fdiv (IntKind.u64.wrap ((IntKind.u64.wrap a2) + (1 : Int))) (2 ^ 32)))])) fun r1 =>
        (some r1))))
def f (k : Nat) (a0 : ((Bool × (List Int)) × (List Int))) (a1 : Int) (a2 : Int) : Option ((Bool × (List Int)) × (List Int)) := e k a0 a1 a2
end law05_part

namespace law05_DeltaKeeps
def e0 (k : Nat) (q0 : ((Bool × (List Int)) × (List Int)) → (List ((((Bool × (List Int)) × (List Int)) × ((Bool × (List Int)) × (List Int))) × (((Bool × (List Int)) × (List Int)) × ((Bool × (List Int)) × (List Int))))) → Int → Int → Int → Int → Option Bool) (q21 : Unit → Option Bool) (q4 : ((Bool × (List Int)) × (List Int)) → (List ((((Bool × (List Int)) × (List Int)) × ((Bool × (List Int)) × (List Int))) × (((Bool × (List Int)) × (List Int)) × ((Bool × (List Int)) × (List Int))))) → Int → Option Bool) (b0 : ((Bool × (List Int)) × (List Int))) (b1 : (List ((((Bool × (List Int)) × (List Int)) × ((Bool × (List Int)) × (List Int))) × (((Bool × (List Int)) × (List Int)) × ((Bool × (List Int)) × (List Int)))))) (b2 : Int) (b3 : Int) (b4 : Int) (b5 : Int) : Option Bool :=
  (bif (decide (b5 < (b1.length : Int))) then
    (bif (decide (0 ≤ b5) && decide (b5 < (b1.length : Int))) then
      (bif (decide (0 ≤ b5) && decide (b5 < (b1.length : Int))) then
        (Option.bind (ref05_Cmp.f k (nthD ((((false, ([] : List Int)), ([] : List Int)), ((false, ([] : List Int)), ([] : List Int))), (((false, ([] : List Int)), ([] : List Int)), ((false, ([] : List Int)), ([] : List Int)))) b1 (Int.toNat b5)).1 (nthD ((((false, ([] : List Int)), ([] : List Int)), ((false, ([] : List Int)), ([] : List Int))), (((false, ([] : List Int)), ([] : List Int)), ((false, ([] : List Int)), ([] : List Int)))) b1 (Int.toNat b5)).2) fun r4 =>
          (bif (decide (r4 > (0 : Int))) then
            (some (decide (b4 = (51 : Int))))
          else
            q0 b0 b1 b2 b3 b4 (IntKind.i64.wrap (b5 + (1 : Int)))))
      else
        none)
    else
      none)
  else
    (bif (!decide (b4 = (0 : Int))) then
      q21 ()
    else
      (Option.bind (ref03_Sign.f k b0) fun r5 =>
        (bif (decide (r5 ≤ (0 : Int))) then
          q21 ()
        else
          (Option.bind (ref03_Whole.f k (1 : Int)) fun r6 =>
            (Option.bind (ref03_Cmp.f k b0 r6) fun r7 =>
              (bif (decide (r7 > (0 : Int))) then
                q21 ()
              else
                (Option.bind (law05_part.f k b0 b2 b3) fun r8 =>
                  q4 r8 b1 (0 : Int)))))))))
def e21 (_k : Nat) (_q0 : ((Bool × (List Int)) × (List Int)) → (List ((((Bool × (List Int)) × (List Int)) × ((Bool × (List Int)) × (List Int))) × (((Bool × (List Int)) × (List Int)) × ((Bool × (List Int)) × (List Int))))) → Int → Int → Int → Int → Option Bool) (_q21 : Unit → Option Bool) (_q4 : ((Bool × (List Int)) × (List Int)) → (List ((((Bool × (List Int)) × (List Int)) × ((Bool × (List Int)) × (List Int))) × (((Bool × (List Int)) × (List Int)) × ((Bool × (List Int)) × (List Int))))) → Int → Option Bool) (_ : Unit) : Option Bool :=
  (some false)
def e4 (k : Nat) (_q0 : ((Bool × (List Int)) × (List Int)) → (List ((((Bool × (List Int)) × (List Int)) × ((Bool × (List Int)) × (List Int))) × (((Bool × (List Int)) × (List Int)) × ((Bool × (List Int)) × (List Int))))) → Int → Int → Int → Int → Option Bool) (_q21 : Unit → Option Bool) (q4 : ((Bool × (List Int)) × (List Int)) → (List ((((Bool × (List Int)) × (List Int)) × ((Bool × (List Int)) × (List Int))) × (((Bool × (List Int)) × (List Int)) × ((Bool × (List Int)) × (List Int))))) → Int → Option Bool) (b0 : ((Bool × (List Int)) × (List Int))) (b1 : (List ((((Bool × (List Int)) × (List Int)) × ((Bool × (List Int)) × (List Int))) × (((Bool × (List Int)) × (List Int)) × ((Bool × (List Int)) × (List Int)))))) (b2 : Int) : Option Bool :=
  (bif (decide (b2 < (b1.length : Int))) then
    (bif (decide (0 ≤ b2) && decide (b2 < (b1.length : Int))) then
      (Option.bind (ref05_At.f k (nthD ((((false, ([] : List Int)), ([] : List Int)), ((false, ([] : List Int)), ([] : List Int))), (((false, ([] : List Int)), ([] : List Int)), ((false, ([] : List Int)), ([] : List Int)))) b1 (Int.toNat b2)).1 b0) fun r9 =>
        (bif (decide (0 ≤ b2) && decide (b2 < (b1.length : Int))) then
          (Option.bind (ref05_At.f k (nthD ((((false, ([] : List Int)), ([] : List Int)), ((false, ([] : List Int)), ([] : List Int))), (((false, ([] : List Int)), ([] : List Int)), ((false, ([] : List Int)), ([] : List Int)))) b1 (Int.toNat b2)).2 b0) fun r10 =>
            (Option.bind (ref03_Cmp.f k r9 r10) fun r11 =>
              (bif (decide (r11 > (0 : Int))) then
                (some false)
              else
                q4 b0 b1 (IntKind.i64.wrap (b2 + (1 : Int))))))
        else
          none))
    else
      none)
  else
    (some true))
def e (k : Nat) (q0 : ((Bool × (List Int)) × (List Int)) → (List ((((Bool × (List Int)) × (List Int)) × ((Bool × (List Int)) × (List Int))) × (((Bool × (List Int)) × (List Int)) × ((Bool × (List Int)) × (List Int))))) → Int → Int → Int → Int → Option Bool) (_q21 : Unit → Option Bool) (_q4 : ((Bool × (List Int)) × (List Int)) → (List ((((Bool × (List Int)) × (List Int)) × ((Bool × (List Int)) × (List Int))) × (((Bool × (List Int)) × (List Int)) × ((Bool × (List Int)) × (List Int))))) → Int → Option Bool) (a0 : (List ((((Bool × (List Int)) × (List Int)) × ((Bool × (List Int)) × (List Int))) × (((Bool × (List Int)) × (List Int)) × ((Bool × (List Int)) × (List Int)))))) (a1 : Int) (a2 : Int) : Option Bool :=
  (Option.bind (law05_gaps.f k a0) fun r1 =>
    (Option.bind (delta_Small.f k r1) fun r2 =>
      (Option.bind (law05_lives.f k ()) fun r3 =>
        (bif (!r3) then
          (some false)
        else
          q0 r2.1 a0 a1 a2 r2.2 (0 : Int)))))
def pts : Nat → (((Bool × (List Int)) × (List Int)) → (List ((((Bool × (List Int)) × (List Int)) × ((Bool × (List Int)) × (List Int))) × (((Bool × (List Int)) × (List Int)) × ((Bool × (List Int)) × (List Int))))) → Int → Int → Int → Int → Option Bool) × (Unit → Option Bool) × (((Bool × (List Int)) × (List Int)) → (List ((((Bool × (List Int)) × (List Int)) × ((Bool × (List Int)) × (List Int))) × (((Bool × (List Int)) × (List Int)) × ((Bool × (List Int)) × (List Int))))) → Int → Option Bool)
  | 0 => (fun _ _ _ _ _ _ => none, fun _ => none, fun _ _ _ => none)
  | k + 1 => (e0 k (pts k).1 (pts k).2.1 (pts k).2.2, e21 k (pts k).1 (pts k).2.1 (pts k).2.2, e4 k (pts k).1 (pts k).2.1 (pts k).2.2)
def p0 (k : Nat) : ((Bool × (List Int)) × (List Int)) → (List ((((Bool × (List Int)) × (List Int)) × ((Bool × (List Int)) × (List Int))) × (((Bool × (List Int)) × (List Int)) × ((Bool × (List Int)) × (List Int))))) → Int → Int → Int → Int → Option Bool := (pts k).1
def p21 (k : Nat) : Unit → Option Bool := (pts k).2.1
def p4 (k : Nat) : ((Bool × (List Int)) × (List Int)) → (List ((((Bool × (List Int)) × (List Int)) × ((Bool × (List Int)) × (List Int))) × (((Bool × (List Int)) × (List Int)) × ((Bool × (List Int)) × (List Int))))) → Int → Option Bool := (pts k).2.2
theorem p0_succ (k : Nat) (x0 : ((Bool × (List Int)) × (List Int))) (x1 : (List ((((Bool × (List Int)) × (List Int)) × ((Bool × (List Int)) × (List Int))) × (((Bool × (List Int)) × (List Int)) × ((Bool × (List Int)) × (List Int)))))) (x2 : Int) (x3 : Int) (x4 : Int) (x5 : Int) : p0 (k + 1) x0 x1 x2 x3 x4 x5 = e0 k (p0 k) (p21 k) (p4 k) x0 x1 x2 x3 x4 x5 := rfl
theorem p21_succ (k : Nat) (x0 : Unit) : p21 (k + 1) x0 = e21 k (p0 k) (p21 k) (p4 k) x0 := rfl
theorem p4_succ (k : Nat) (x0 : ((Bool × (List Int)) × (List Int))) (x1 : (List ((((Bool × (List Int)) × (List Int)) × ((Bool × (List Int)) × (List Int))) × (((Bool × (List Int)) × (List Int)) × ((Bool × (List Int)) × (List Int)))))) (x2 : Int) : p4 (k + 1) x0 x1 x2 = e4 k (p0 k) (p21 k) (p4 k) x0 x1 x2 := rfl
def f (k : Nat) (a0 : (List ((((Bool × (List Int)) × (List Int)) × ((Bool × (List Int)) × (List Int))) × (((Bool × (List Int)) × (List Int)) × ((Bool × (List Int)) × (List Int)))))) (a1 : Int) (a2 : Int) : Option Bool := e k (p0 k) (p21 k) (p4 k) a0 a1 a2
end law05_DeltaKeeps

namespace law05_DeltaGreatest
def e11 (_k : Nat) (_q11 : Int → Option Bool) (_q0 : ((Bool × (List Int)) × (List Int)) → (List ((((Bool × (List Int)) × (List Int)) × ((Bool × (List Int)) × (List Int))) × (((Bool × (List Int)) × (List Int)) × ((Bool × (List Int)) × (List Int))))) → Int → Option Bool) (b0 : Int) : Option Bool :=
  (bif (decide (b0 = (0 : Int))) then
    (some true)
  else
    (some (decide (b0 = (51 : Int)))))
def e0 (k : Nat) (_q11 : Int → Option Bool) (q0 : ((Bool × (List Int)) × (List Int)) → (List ((((Bool × (List Int)) × (List Int)) × ((Bool × (List Int)) × (List Int))) × (((Bool × (List Int)) × (List Int)) × ((Bool × (List Int)) × (List Int))))) → Int → Option Bool) (b0 : ((Bool × (List Int)) × (List Int))) (b1 : (List ((((Bool × (List Int)) × (List Int)) × ((Bool × (List Int)) × (List Int))) × (((Bool × (List Int)) × (List Int)) × ((Bool × (List Int)) × (List Int)))))) (b2 : Int) : Option Bool :=
  (bif (decide (b2 < (b1.length : Int))) then
    (bif (decide (0 ≤ b2) && decide (b2 < (b1.length : Int))) then
      (Option.bind (ref05_At.f k (nthD ((((false, ([] : List Int)), ([] : List Int)), ((false, ([] : List Int)), ([] : List Int))), (((false, ([] : List Int)), ([] : List Int)), ((false, ([] : List Int)), ([] : List Int)))) b1 (Int.toNat b2)).1 b0) fun r8 =>
        (bif (decide (0 ≤ b2) && decide (b2 < (b1.length : Int))) then
          (Option.bind (ref05_At.f k (nthD ((((false, ([] : List Int)), ([] : List Int)), ((false, ([] : List Int)), ([] : List Int))), (((false, ([] : List Int)), ([] : List Int)), ((false, ([] : List Int)), ([] : List Int)))) b1 (Int.toNat b2)).2 b0) fun r9 =>
            (Option.bind (ref03_Cmp.f k r8 r9) fun r10 =>
              (bif (decide (r10 > (0 : Int))) then
                (some true)
              else
                q0 b0 b1 (IntKind.i64.wrap (b2 + (1 : Int))))))
        else
          none))
    else
      none)
  else
    (some false))
def e (k : Nat) (q11 : Int → Option Bool) (q0 : ((Bool × (List Int)) × (List Int)) → (List ((((Bool × (List Int)) × (List Int)) × ((Bool × (List Int)) × (List Int))) × (((Bool × (List Int)) × (List Int)) × ((Bool × (List Int)) × (List Int))))) → Int → Option Bool) (a0 : (List ((((Bool × (List Int)) × (List Int)) × ((Bool × (List Int)) × (List Int))) × (((Bool × (List Int)) × (List Int)) × ((Bool × (List Int)) × (List Int)))))) (a1 : ((Bool × (List Int)) × (List Int))) : Option Bool :=
  (Option.bind (law05_gaps.f k a0) fun r1 =>
    (Option.bind (delta_Small.f k r1) fun r2 =>
      (Option.bind (law05_lives.f k ()) fun r3 =>
        (bif (!r3) then
          (some false)
        else
          (bif (!decide (r2.2 = (0 : Int))) then
            q11 r2.2
          else
            (Option.bind (ref03_Sign.f k a1) fun r4 =>
              (bif (decide (r4 ≤ (0 : Int))) then
                q11 r2.2
              else
                (Option.bind (ref03_Add.f k r2.1 a1) fun r5 =>
                  (Option.bind (ref03_Whole.f k (1 : Int)) fun r6 =>
                    (Option.bind (ref03_Cmp.f k r5 r6) fun r7 =>
                      (bif (decide (r7 > (0 : Int))) then
                        (some true)
                      else
                        q0 r5 a0 (0 : Int))))))))))))
def pts : Nat → (Int → Option Bool) × (((Bool × (List Int)) × (List Int)) → (List ((((Bool × (List Int)) × (List Int)) × ((Bool × (List Int)) × (List Int))) × (((Bool × (List Int)) × (List Int)) × ((Bool × (List Int)) × (List Int))))) → Int → Option Bool)
  | 0 => (fun _ => none, fun _ _ _ => none)
  | k + 1 => (e11 k (pts k).1 (pts k).2, e0 k (pts k).1 (pts k).2)
def p11 (k : Nat) : Int → Option Bool := (pts k).1
def p0 (k : Nat) : ((Bool × (List Int)) × (List Int)) → (List ((((Bool × (List Int)) × (List Int)) × ((Bool × (List Int)) × (List Int))) × (((Bool × (List Int)) × (List Int)) × ((Bool × (List Int)) × (List Int))))) → Int → Option Bool := (pts k).2
theorem p11_succ (k : Nat) (x0 : Int) : p11 (k + 1) x0 = e11 k (p11 k) (p0 k) x0 := rfl
theorem p0_succ (k : Nat) (x0 : ((Bool × (List Int)) × (List Int))) (x1 : (List ((((Bool × (List Int)) × (List Int)) × ((Bool × (List Int)) × (List Int))) × (((Bool × (List Int)) × (List Int)) × ((Bool × (List Int)) × (List Int)))))) (x2 : Int) : p0 (k + 1) x0 x1 x2 = e0 k (p11 k) (p0 k) x0 x1 x2 := rfl
def f (k : Nat) (a0 : (List ((((Bool × (List Int)) × (List Int)) × ((Bool × (List Int)) × (List Int))) × (((Bool × (List Int)) × (List Int)) × ((Bool × (List Int)) × (List Int)))))) (a1 : ((Bool × (List Int)) × (List Int))) : Option Bool := e k (p11 k) (p0 k) a0 a1
end law05_DeltaGreatest

end Go.FK
