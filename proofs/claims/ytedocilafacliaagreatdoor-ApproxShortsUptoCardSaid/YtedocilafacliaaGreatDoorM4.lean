import GoSem.Op.Unary
import GoSem.Core.Float
import Derived.Test.YtedocilafacliaaGreatDoorM3

/- Floats by their bits: what they are worth, and how they are ordered. No program in sight. -/
namespace Go.FK.Flt

/-- The worth of the k-th float from 0 upwards, in units of the least one. -/
def U (k : Nat) : Nat := if k < 4503599627370496 then k else (4503599627370496 + k % 4503599627370496) * 2 ^ (k / 4503599627370496 - 1)

theorem U_of {q e : Nat} (h : e = 0 ∨ 4503599627370496 ≤ q) (hq : q ≤ 9007199254740992) : U (e * 4503599627370496 + q) = q * 2 ^ e := by
  unfold U
  by_cases h1 : q < 4503599627370496
  · have : e = 0 := by omega
    subst this
    rw [if_pos (by omega)]
    simp
  · rw [if_neg (by omega)]
    by_cases h2 : q = 9007199254740992
    · subst h2
      have e1 : (e * 4503599627370496 + 9007199254740992) % 4503599627370496 = 0 := by omega
      have e2 : (e * 4503599627370496 + 9007199254740992) / 4503599627370496 = e + 2 := by omega
      rw [e1, e2, show e + 2 - 1 = e + 1 by omega, Nat.pow_succ]
      omega
    · have e1 : (e * 4503599627370496 + q) % 4503599627370496 = q - 4503599627370496 := by omega
      have e2 : (e * 4503599627370496 + q) / 4503599627370496 = e + 1 := by omega
      rw [e1, e2, show e + 1 - 1 = e by omega, show 4503599627370496 + (q - 4503599627370496) = q by omega]

/-- A float's bits, as a number of at most 53 bits times a power of 2. -/
def mOf (k : Nat) : Nat := if k < 4503599627370496 then k else 4503599627370496 + k % 4503599627370496
def eOf (k : Nat) : Nat := k / 4503599627370496 - 1

theorem of_parts (k : Nat) : k = eOf k * 4503599627370496 + mOf k := by unfold eOf mOf; split <;> omega
theorem parts_ok (k : Nat) : (eOf k = 0 ∨ 4503599627370496 ≤ mOf k) ∧ mOf k < 9007199254740992 := by unfold eOf mOf; split <;> omega
theorem U_parts (k : Nat) : U k = mOf k * 2 ^ eOf k := by
  have h := parts_ok k
  conv => lhs; rw [of_parts k]
  exact U_of h.1 (by omega)
theorem U_next (k : Nat) : U (k + 1) = (mOf k + 1) * 2 ^ eOf k := by
  have h := parts_ok k
  conv => lhs; rw [of_parts k]
  rw [Nat.add_assoc]
  exact U_of (by omega) (by omega)
theorem U_succ (k : Nat) : U (k + 1) = U k + 2 ^ eOf k := by rw [U_next, U_parts k, Nat.add_mul, Nat.one_mul]
theorem U_lt_succ (k : Nat) : U k < U (k + 1) := by rw [U_succ]; have := Nat.two_pow_pos (eOf k); omega
theorem U_mono {a b : Nat} (h : a ≤ b) : U a ≤ U b := by
  induction b with
  | zero => rw [Nat.le_zero.1 h]; exact Nat.le_refl _
  | succ b ih =>
    by_cases e : a = b + 1
    · rw [e]; exact Nat.le_refl _
    · have := ih (by omega); have := U_lt_succ b; omega
theorem U_lt {a b : Nat} (h : a < b) : U a < U b := Nat.lt_of_lt_of_le (U_lt_succ a) (U_mono h)
theorem U_lt_iff {a b : Nat} : U a < U b ↔ a < b := ⟨fun h => by
  by_cases c : a < b
  · exact c
  · have := U_mono (a := b) (b := a) (by omega); omega, U_lt⟩
theorem U_le_iff {a b : Nat} : U a ≤ U b ↔ a ≤ b := ⟨fun h => by
  by_cases c : a ≤ b
  · exact c
  · have := U_lt (a := b) (b := a) (by omega); omega, U_mono⟩
theorem U_inj {a b : Nat} (h : U a = U b) : a = b := by
  have h1 := U_le_iff.1 (Nat.le_of_eq h)
  have h2 := U_le_iff.1 (Nat.le_of_eq h.symm)
  omega
theorem U_zero : U 0 = 0 := rfl

/-! ### Order -/
/-- The place of a float among all: its magnitude, with its sign. -/
def R (x : Nat) : Int := if x / 9223372036854775808 % 2 = 1 then -((x % 9223372036854775808 : Nat) : Int) else ((x % 9223372036854775808 : Nat) : Int)

/-- No number. -/
def isN (x : Nat) : Bool := decide (9218868437227405312 < x % 9223372036854775808)

def S (neg : Bool) (k : Nat) : Int := if neg then -(U k : Int) else (U k : Int)

theorem cmpI (a b : Int) : compare a b = if a < b then .lt else if a = b then .eq else .gt := rfl

theorem S_le (s t : Bool) (a b : Nat) : compare (S s a) (S t b) = compare (if s then -(a : Int) else (a : Int)) (if t then -(b : Int) else (b : Int)) := by
  have h1 : U a < U b ↔ a < b := U_lt_iff
  have h2 : U b < U a ↔ b < a := U_lt_iff
  have h3 : U a = U b ↔ a = b := ⟨U_inj, fun h => by rw [h]⟩
  have h4 : U a = 0 ↔ a = 0 := ⟨fun h => U_inj (by rw [h, U_zero]), fun h => by rw [h, U_zero]⟩
  have h5 : U b = 0 ↔ b = 0 := ⟨fun h => U_inj (by rw [h, U_zero]), fun h => by rw [h, U_zero]⟩
  unfold S
  simp only [cmpI] <;> cases s <;> cases t <;> simp only [if_true, Bool.false_eq_true, if_false] <;> (repeat' split) <;> first | rfl | omega

theorem signed_mul (neg : Bool) (mag up k : Nat) : Ieee.signed neg mag up * (2 ^ k : Nat) = Ieee.signed neg mag (up + k) := by
  unfold Ieee.signed
  cases neg <;> simp only [if_true, Bool.false_eq_true, if_false, Nat.shiftLeft_eq, Nat.pow_add, Int.neg_mul, ← Int.natCast_mul, Nat.mul_assoc]

theorem signed_S (neg : Bool) (k : Nat) : Ieee.signed neg (mOf k) (eOf k) = S neg k := by
  unfold Ieee.signed S
  rw [U_parts, Nat.shiftLeft_eq]

theorem compare_mul (a b : Int) (k : Nat) : compare (a * (2 ^ k : Nat)) (b * (2 ^ k : Nat)) = compare a b := by
  have hp : (0 : Int) < (2 ^ k : Nat) := by have := Nat.two_pow_pos k; omega
  have h1 : a * (2 ^ k : Nat) < b * (2 ^ k : Nat) ↔ a < b := ⟨fun h => Int.lt_of_mul_lt_mul_right h (Int.le_of_lt hp), fun h => Int.mul_lt_mul_of_pos_right h hp⟩
  have h2 : a * (2 ^ k : Nat) = b * (2 ^ k : Nat) ↔ a = b := ⟨fun h => Int.eq_of_mul_eq_mul_right (by omega) h, fun h => by rw [h]⟩
  simp only [cmpI, h1, h2]

theorem read_eq (x : Nat) : FloatKind.f64.format.read x = (if x % 9223372036854775808 < 9218868437227405312 then .number (x / 9223372036854775808 % 2 == 1) (mOf (x % 9223372036854775808)) ((-1074 : Int) + (eOf (x % 9223372036854775808) : Nat))
    else if x % 9223372036854775808 = 9218868437227405312 then .infinity (x / 9223372036854775808 % 2 == 1) else .nan (x / 9223372036854775808 % 2 == 1) (x % 9223372036854775808 - 9218868437227405312)) := by
  have e1 : FloatKind.f64.format.signWeight = 9223372036854775808 := by decide
  have e2 : FloatKind.f64.format.binade = 4503599627370496 := by decide
  have e3 : FloatKind.f64.format.infRung = 9218868437227405312 := by decide
  have e4 : FloatKind.f64.format.leastPlace = -1074 := by decide
  unfold Ieee.Format.read
  simp only [e1, e2, e3, e4]
  generalize x % 9223372036854775808 = k
  by_cases h1 : k < 4503599627370496
  · rw [if_pos h1, if_pos (by omega)]
    unfold mOf eOf
    rw [if_pos h1, show k / 4503599627370496 - 1 = 0 by omega]
    rfl
  · rw [if_neg h1]
    unfold mOf eOf
    rw [if_neg h1]

theorem order_eq (x y : Nat) (hx : isN x = false) (hy : isN y = false) : FloatKind.f64.format.order x y = some (compare (R x) (R y)) := by
  simp only [isN, decide_eq_false_iff_not] at hx hy
  unfold Ieee.Format.order
  rw [read_eq, read_eq]
  unfold R
  generalize hs : x / 9223372036854775808 % 2 = s
  generalize ht : y / 9223372036854775808 % 2 = t
  generalize hk : x % 9223372036854775808 = k at *
  generalize hl : y % 9223372036854775808 = l at *
  have key : ∀ (s t : Nat), compare (if s = 1 then -(k : Int) else (k : Int)) (if t = 1 then -(l : Int) else (l : Int)) = compare (if (s == 1) then -(k : Int) else (k : Int)) (if (t == 1) then -(l : Int) else (l : Int)) := by
    intro s t; simp
  rw [key]
  have hs' : ∀ b : Bool, b = true ∨ b = false := by intro b; cases b <;> simp
  generalize (s == 1) = s
  generalize (t == 1) = t
  by_cases h1 : k < 9218868437227405312 <;> by_cases h2 : l < 9218868437227405312
  · rw [if_pos h1, if_pos h2]
    simp only [Ieee.Datum.order]
    congr 1
    rw [← S_le, ← signed_S, ← signed_S]
    generalize hb : min ((-1074 : Int) + (eOf k : Nat)) ((-1074 : Int) + (eOf l : Nat)) = b
    obtain ⟨c, hc⟩ : ∃ c : Nat, b = -1074 + (c : Nat) ∧ c ≤ eOf k ∧ c ≤ eOf l := ⟨min (eOf k) (eOf l), by omega, by omega, by omega⟩
    obtain ⟨hc, h3, h4⟩ := hc
    rw [← compare_mul _ _ c, signed_mul, signed_mul]
    congr 2 <;> omega
  · have hl' : l = 9218868437227405312 := by omega
    rw [if_pos h1, if_neg h2, if_pos hl']
    simp only [Ieee.Datum.order]
    congr 1
    cases s <;> cases t <;> simp only [if_true, Bool.false_eq_true, if_false, cmpI] <;> (repeat' split) <;> first | rfl | omega
  · have hk' : k = 9218868437227405312 := by omega
    rw [if_pos h2, if_neg h1, if_pos hk']
    simp only [Ieee.Datum.order]
    congr 1
    cases s <;> cases t <;> simp only [if_true, Bool.false_eq_true, if_false, cmpI] <;> (repeat' split) <;> first | rfl | omega
  · have hk' : k = 9218868437227405312 := by omega
    have hl' : l = 9218868437227405312 := by omega
    rw [if_neg h1, if_neg h2, if_pos hk', if_pos hl']
    simp only [Ieee.Datum.order]
    congr 1
    rw [hk', hl']
    cases s <;> cases t <;> decide

theorem order_nan (x y : Nat) (h : isN x = true ∨ isN y = true) : FloatKind.f64.format.order x y = none := by
  simp only [isN, decide_eq_true_eq] at h
  unfold Ieee.Format.order
  rw [read_eq, read_eq]
  rcases h with h | h
  · rw [if_neg (by omega), if_neg (by omega)]
    simp only [Ieee.Datum.order]
  · rw [if_neg (c := y % 9223372036854775808 < _) (by omega), if_neg (c := y % 9223372036854775808 = _) (by omega)]
    split <;> (try split) <;> simp only [Ieee.Datum.order]

theorem neg_eq (x : Nat) (hx : x < 18446744073709551616) : Op.negFloat .f64 x = if x < 9223372036854775808 then x + 9223372036854775808 else x - 9223372036854775808 := by
  have e : Op.negFloat .f64 x = x ^^^ 2 ^ 63 := rfl
  rw [e]
  have h1 : (x ^^^ 2 ^ 63) % 2 ^ 63 = x % 2 ^ 63 := by rw [Nat.xor_mod_two_pow, Nat.mod_self, Nat.xor_zero]
  have h2 : (x ^^^ 2 ^ 63) / 2 ^ 63 = x / 2 ^ 63 ^^^ 1 := by rw [Nat.xor_div_two_pow, Nat.div_self (by omega)]
  by_cases h : x < 9223372036854775808
  · rw [if_pos h]
    rw [show x / 2 ^ 63 = 0 by omega] at h2
    simp only [Nat.zero_xor] at h2
    omega
  · rw [if_neg h]
    rw [show x / 2 ^ 63 = 1 by omega] at h2
    simp only [Nat.xor_self] at h2
    omega

end Go.FK.Flt


/- Bits of words; the shift upwards, small numbers, and how many bits: what the floats' code calls. -/
namespace Go.FK

/-! ### Words -/
theorem w64n {x : Nat} (hx : x < 18446744073709551616) : IntKind.u64.wrap (x : Int) = (x : Int) := wrap_u64_id (by omega) (by omega)

theorem bits_or64n {x y : Nat} (hx : x < 18446744073709551616) (hy : y < 18446744073709551616) : bitsI .or .u64 (x : Int) (y : Int) = ((x ||| y : Nat) : Int) := by
  have e : bitsI .or .u64 (x : Int) (y : Int) = IntKind.u64.wrap ((BitVec.ofInt 64 (x : Int) ||| BitVec.ofInt 64 (y : Int)).toNat : Int) := rfl
  rw [e, BitVec.ofInt_natCast, BitVec.ofInt_natCast, BitVec.toNat_or, BitVec.toNat_ofNat, BitVec.toNat_ofNat, Nat.mod_eq_of_lt hx, Nat.mod_eq_of_lt hy, w64n (Nat.or_lt_two_pow (n := 64) hx hy)]
theorem bits_and64n {x y : Nat} (hx : x < 18446744073709551616) (hy : y < 18446744073709551616) : bitsI .and .u64 (x : Int) (y : Int) = ((x &&& y : Nat) : Int) := by
  have e : bitsI .and .u64 (x : Int) (y : Int) = IntKind.u64.wrap ((BitVec.ofInt 64 (x : Int) &&& BitVec.ofInt 64 (y : Int)).toNat : Int) := rfl
  rw [e, BitVec.ofInt_natCast, BitVec.ofInt_natCast, BitVec.toNat_and, BitVec.toNat_ofNat, BitVec.toNat_ofNat, Nat.mod_eq_of_lt hx, Nat.mod_eq_of_lt hy, w64n (Nat.and_lt_two_pow (n := 64) x hy)]
theorem bits_clear {x : Nat} (hx : x < 18446744073709551616) : bitsI .andNot .u64 (x : Int) 9223372036854775808 = ((x % 9223372036854775808 : Nat) : Int) := by
  have e : bitsI .andNot .u64 (x : Int) 9223372036854775808 = IntKind.u64.wrap ((BitVec.ofInt 64 (x : Int) &&& ~~~ (BitVec.ofInt 64 9223372036854775808)).toNat : Int) := rfl
  have e2 : ~~~ (BitVec.ofInt 64 9223372036854775808) = BitVec.ofNat 64 9223372036854775807 := by decide
  rw [e, e2, BitVec.ofInt_natCast, BitVec.toNat_and, BitVec.toNat_ofNat, BitVec.toNat_ofNat, Nat.mod_eq_of_lt hx, show 9223372036854775807 % 2 ^ 64 = 2 ^ 63 - 1 by decide, Nat.and_two_pow_sub_one_eq_mod]
  exact w64n (by omega)
theorem bits_frac {x : Nat} (hx : x < 18446744073709551616) : bitsI .and .u64 (x : Int) 4503599627370495 = ((x % 4503599627370496 : Nat) : Int) := by
  rw [show (4503599627370495 : Int) = ((2 ^ 52 - 1 : Nat) : Int) by decide, bits_and64n hx (by decide), Nat.and_two_pow_sub_one_eq_mod]
theorem bits_odd {x : Nat} (hx : x < 18446744073709551616) : bitsI .and .u64 (x : Int) 1 = ((x % 2 : Nat) : Int) := by
  rw [show (1 : Int) = ((1 : Nat) : Int) by rfl, bits_and64n hx (by decide), Nat.and_one_is_mod]
theorem or_top {x : Nat} (h : x < 9223372036854775808) : x ||| 9223372036854775808 = x + 9223372036854775808 := by
  have := Nat.two_pow_add_eq_or_of_lt (i := 63) (b := x) (by omega) 1
  rw [Nat.mul_one] at this
  rw [Nat.or_comm, show (9223372036854775808 : Nat) = 2 ^ 63 by decide, ← this, Nat.add_comm]
theorem bits_set {x : Nat} (hx : x < 9223372036854775808) : bitsI .or .u64 (x : Int) 9223372036854775808 = ((x + 9223372036854775808 : Nat) : Int) := by
  rw [show (9223372036854775808 : Int) = ((9223372036854775808 : Nat) : Int) by rfl, bits_or64n (by omega) (by omega), or_top hx]
theorem bits_set' {x : Nat} (hx : x < 9223372036854775808) : bitsI .or .u64 9223372036854775808 (x : Int) = ((x + 9223372036854775808 : Nat) : Int) := by
  rw [show (9223372036854775808 : Int) = ((9223372036854775808 : Nat) : Int) by rfl, bits_or64n (by omega) (by omega), Nat.or_comm, or_top hx]
theorem bits_or_zero {x : Nat} (hx : x < 18446744073709551616) : bitsI .or .u64 0 (x : Int) = (x : Int) := by
  rw [show (0 : Int) = ((0 : Nat) : Int) by rfl, bits_or64n (by omega) hx, Nat.zero_or]
theorem bits_hidden {x : Nat} (hx : x < 4503599627370496) : bitsI .or .u64 (x : Int) 4503599627370496 = ((x + 4503599627370496 : Nat) : Int) := by
  have := Nat.two_pow_add_eq_or_of_lt (i := 52) (b := x) (by omega) 1
  rw [Nat.mul_one] at this
  rw [show (4503599627370496 : Int) = ((2 ^ 52 : Nat) : Int) by decide, bits_or64n (by omega) (by decide), Nat.or_comm, ← this, Nat.add_comm]
theorem bits_top {x : Nat} (hx : x < 18446744073709551616) : bitsI .and .u64 (x : Int) 9223372036854775808 = if x < 9223372036854775808 then 0 else 9223372036854775808 := by
  rw [show (9223372036854775808 : Int) = ((2 ^ 63 : Nat) : Int) by decide, bits_and64n hx (by decide)]
  have h1 : (x &&& 2 ^ 63) % 2 ^ 63 = 0 := by rw [Nat.and_mod_two_pow, Nat.mod_self, Nat.and_zero]
  have h2 : (x &&& 2 ^ 63) / 2 ^ 63 = x / 2 ^ 63 &&& 1 := by rw [Nat.and_div_two_pow, Nat.div_self (by omega)]
  rw [Nat.and_one_is_mod] at h2
  split <;> omega
/-! ### The shift upwards -/
theorem Nt.shift_up {M m : Nat} {a : List Int} (ha : Nt M a m) (hM : M ≤ 17592186044415) (n : Nat) (hn : n ≤ 1048576) : Ev (fun k => nat_Shift.f k a (n : Int)) (FK.lim (m * 2 ^ n), (0 : Int)) := by
  have hL := ha.L
  have n1 : Nt (FK.L m) (FK.lim m) m := Nt.of (Nat.le_refl _)
  obtain ⟨c, hc, hcl, hcv, hcn⟩ := n1.moved (u := n % 32) (by omega) (by omega)
  unfold nat_Shift.f nat_Shift.e
  refine Ev.fls (dec_f (by omega)) (Ev.fls (dec_f (by omega)) (Ev.bind (ha.trim (by omega)) (Ev.tru (dec_t (by omega)) ?_)))
  have hlen : (FK.lim m).length = FK.L m := rfl
  rw [hlen] at hcn
  have e1 : IntKind.i64.wrap (Int.tdiv (n : Int) 32) = ((n / 32 : Nat) : Int) := by
    rw [Int.tdiv_eq_ediv_of_nonneg (by omega), wrap_i64 (by omega) (by omega)]; omega
  have e2 : IntKind.i64.wrap (IntKind.i64.wrap (((n / 32 : Nat) : Int) + ((FK.lim m).length : Int)) + 1) = ((n / 32 + FK.L m + 1 : Nat) : Int) := by
    rw [hlen, wrap_i64 (n := ((n / 32 : Nat) : Int) + (FK.L m : Nat)) (by omega) (by omega), wrap_i64 (by omega) (by omega)]; omega
  have e3 : Int.tmod (n : Int) 32 = ((n % 32 : Nat) : Int) := by rw [Int.tmod_eq_emod_of_nonneg (by omega)]; omega
  simp only [e1, e2, e3, Int.toNat_natCast, List.length_replicate]
  refine Ev.tru ?_ (Ev.tru ?_ (Ev.tru (dec_t (by omega)) (Ev.bind hc ?_)))
  · simp only [Bool.and_eq_true, decide_eq_true_eq]; omega
  · simp only [Bool.and_eq_true, decide_eq_true_eq]; omega
  have e4 : (((n / 32 + FK.L m + 1 : Nat) : Int) - ((n / 32 : Nat) : Int)).toNat = FK.L m + 1 := by omega
  rw [e4]
  have e5 : (List.replicate (n / 32 + FK.L m + 1) (0 : Int)).take (n / 32) ++ (c.take (FK.L m + 1) ++ (List.replicate (n / 32 + FK.L m + 1) (0 : Int)).drop (n / 32 + min c.length (FK.L m + 1))) = List.replicate (n / 32) (0 : Int) ++ c := by
    rw [List.take_replicate, List.drop_replicate, hcn, List.take_of_length_le (by omega)]
    rw [show min (n / 32) (n / 32 + FK.L m + 1) = n / 32 by omega, show n / 32 + FK.L m + 1 - (n / 32 + min (FK.L m + 1) (FK.L m + 1)) = 0 by omega]
    simp
  rw [e5]
  have nt : Nt (n / 32 + FK.L m + 1) (List.replicate (n / 32) (0 : Int) ++ c) (m * 2 ^ n) := by
    refine ⟨fun x hx => ?_, ?_, by simp [hcn]; omega⟩
    · rcases List.mem_append.1 hx with h | h
      · exact Lim_replicate_zero _ x h
      · exact hcl x h
    · rw [V_append, V_replicate_zero, List.length_replicate, hcv, Int.zero_add]
      have : (B : Int) ^ (n / 32) = ((2 ^ (32 * (n / 32)) : Nat) : Int) := by rw [Nat.pow_mul, Int.natCast_pow]; rfl
      rw [this, ← Int.natCast_mul]
      congr 1
      rw [Nat.mul_left_comm, ← Nat.pow_add]
      congr 2
      omega
  exact Ev.bind (nt.own (by omega)) Ev.pure

/-! ### Small numbers -/
theorem lim_two {q : Nat} (h1 : 4294967296 ≤ q) (h2 : q < 18446744073709551616) : FK.lim q = [((q % 4294967296 : Nat) : Int), ((q / 4294967296 : Nat) : Int)] := by
  rw [lim_pos (by omega), lim_pos (by omega), show q / 4294967296 / 4294967296 = 0 by omega, lim_zero, show q / 4294967296 % 4294967296 = q / 4294967296 by omega]
theorem lim_1 {q : Nat} (h1 : q ≠ 0) (h2 : q < 4294967296) : FK.lim q = [(q : Int)] := by
  rw [lim_pos h1, show q / 4294967296 = 0 by omega, lim_zero, show q % 4294967296 = q by omega]

theorem or_shift32 {h l : Nat} (_hh : h < 4294967296) (hl : l < 4294967296) : h * 4294967296 ||| l = h * 4294967296 + l := by
  have := Nat.two_pow_add_eq_or_of_lt (i := 32) (b := l) (by omega) h
  rw [Nat.mul_comm, show (4294967296 : Nat) = 2 ^ 32 by decide, this]

theorem Nt.small {M q : Nat} {a : List Int} (ha : Nt M a q) (hM : M ≤ 17592186044415) (hq : q < 18446744073709551616) : Ev (fun k => nat_Small.f k a) ((q : Int), true) := by
  unfold nat_Small.f nat_Small.e
  refine Ev.bind (ha.trim (by omega)) ?_
  by_cases h0 : q = 0
  · subst h0
    rw [lim_zero]
    refine Ev.fls (by simp) ?_
    refine Ev.turn (fun k => nat_Small.p0_succ k _ _ _ _) ?_
    unfold nat_Small.e0
    exact Ev.fls (by simp) Ev.pure
  · by_cases h1 : q < 4294967296
    · rw [lim_1 h0 h1]
      refine Ev.fls (by simp) ?_
      refine Ev.turn (fun k => nat_Small.p0_succ k _ _ _ _) ?_
      unfold nat_Small.e0
      have e1 : IntKind.i64.wrap (32 * 0) = 0 := by decide
      have e2 : IntKind.i64.wrap (0 + 1) = 1 := by decide
      have e3 : nthD 0 [(q : Int)] (Int.toNat 0) = (q : Int) := rfl
      have e4 : ((q : Int) * 2 ^ min (Int.toNat 0) 64) = (q : Int) := by simp
      rw [e1, e2, e3, w64n (by omega), e4, w64n (by omega), bits_or_zero (by omega)]
      refine Ev.tru (by simp) (Ev.tru (by simp) (Ev.fls (by simp) ?_))
      refine Ev.turn (fun k => nat_Small.p0_succ k _ _ _ _) ?_
      unfold nat_Small.e0
      exact Ev.fls (by simp) Ev.pure
    · rw [lim_two (by omega) hq]
      have hlo : q % 4294967296 < 4294967296 := by omega
      have hhi : q / 4294967296 < 4294967296 := by omega
      have hs : q / 4294967296 * 4294967296 + q % 4294967296 = q := by omega
      generalize q % 4294967296 = l at *
      generalize q / 4294967296 = h at *
      refine Ev.fls (by simp) ?_
      refine Ev.turn (fun k => nat_Small.p0_succ k _ _ _ _) ?_
      unfold nat_Small.e0
      have e1 : IntKind.i64.wrap (32 * 0) = 0 := by decide
      have e2 : IntKind.i64.wrap (0 + 1) = 1 := by decide
      have e3 : nthD 0 [(l : Int), (h : Int)] (Int.toNat 0) = (l : Int) := rfl
      have e4 : ((l : Int) * 2 ^ min (Int.toNat 0) 64) = (l : Int) := by simp
      rw [e1, e2, e3, w64n (by omega), e4, w64n (by omega), bits_or_zero (by omega)]
      refine Ev.tru (by simp) (Ev.tru (by simp) (Ev.fls (by simp) ?_))
      refine Ev.turn (fun k => nat_Small.p0_succ k _ _ _ _) ?_
      unfold nat_Small.e0
      have f1 : IntKind.i64.wrap (32 * 1) = 32 := by decide
      have f2 : IntKind.i64.wrap (1 + 1) = 2 := by decide
      have f3 : nthD 0 [(l : Int), (h : Int)] (Int.toNat 1) = (h : Int) := rfl
      have f4 : ((h : Int) * 2 ^ min (Int.toNat 32) 64) = ((h * 4294967296 : Nat) : Int) := by
        rw [show min (Int.toNat 32) 64 = 32 by decide]; omega
      rw [f1, f2, f3, w64n (by omega), f4, w64n (by omega), bits_or64n (by omega) (by omega), Nat.or_comm, or_shift32 hhi hlo, hs]
      refine Ev.tru (by simp) (Ev.tru (by simp) (Ev.fls (by simp) ?_))
      refine Ev.turn (fun k => nat_Small.p0_succ k _ _ _ _) ?_
      unfold nat_Small.e0
      exact Ev.fls (by simp) Ev.pure

theorem Nt.rsmall {M q : Nat} {a : List Int} (ha : Nt M a q) (hM : M ≤ 17592186044415) (hq : q < 18446744073709551616) : Ev (fun k => ref01_Small.f k a) ((q : Int), true) := by
  unfold ref01_Small.f ref01_Small.e
  refine Ev.bind (ha.rNorm (by omega)) ?_
  have z : IntKind.u64.wrap (0 * 2 ^ 32) = 0 := by decide
  by_cases h0 : q = 0
  · subst h0
    rw [lim_zero]
    refine Ev.fls (by simp) ?_
    refine Ev.turn (fun k => ref01_Small.p0_succ k _ _ _) ?_
    unfold ref01_Small.e0
    exact Ev.fls (by decide) Ev.pure
  · by_cases h1 : q < 4294967296
    · rw [lim_1 h0 h1]
      refine Ev.fls (by simp) ?_
      refine Ev.turn (fun k => ref01_Small.p0_succ k _ _ _) ?_
      unfold ref01_Small.e0
      have e1 : IntKind.i64.wrap ((([(q : Int)] : List Int).length : Int) - 1) = 0 := by rw [List.length_singleton]; decide
      have e2 : IntKind.i64.wrap (0 - 1) = -1 := by decide
      have e3 : nthD 0 [(q : Int)] (Int.toNat 0) = (q : Int) := rfl
      rw [e1, e2, e3, z, w64n (by omega), bits_or_zero (by omega)]
      refine Ev.tru (by simp) (Ev.tru (by simp) ?_)
      refine Ev.turn (fun k => ref01_Small.p0_succ k _ _ _) ?_
      unfold ref01_Small.e0
      exact Ev.fls (by simp) Ev.pure
    · rw [lim_two (by omega) hq]
      have hlo : q % 4294967296 < 4294967296 := by omega
      have hhi : q / 4294967296 < 4294967296 := by omega
      have hs : q / 4294967296 * 4294967296 + q % 4294967296 = q := by omega
      generalize q % 4294967296 = l at *
      generalize q / 4294967296 = h at *
      refine Ev.fls (by simp) ?_
      refine Ev.turn (fun k => ref01_Small.p0_succ k _ _ _) ?_
      unfold ref01_Small.e0
      have e1 : IntKind.i64.wrap ((([(l : Int), (h : Int)] : List Int).length : Int) - 1) = 1 := by simp only [List.length_cons, List.length_nil]; decide
      have e2 : IntKind.i64.wrap (1 - 1) = 0 := by decide
      have e3 : nthD 0 [(l : Int), (h : Int)] (Int.toNat 1) = (h : Int) := rfl
      rw [e1, e2, e3, z, w64n (by omega), bits_or_zero (by omega)]
      refine Ev.tru (by simp) (Ev.tru (by simp) ?_)
      refine Ev.turn (fun k => ref01_Small.p0_succ k _ _ _) ?_
      unfold ref01_Small.e0
      have f2 : IntKind.i64.wrap (0 - 1) = -1 := by decide
      have f3 : nthD 0 [(l : Int), (h : Int)] (Int.toNat 0) = (l : Int) := rfl
      have f4 : ((h : Int) * 2 ^ 32) = ((h * 4294967296 : Nat) : Int) := by omega
      rw [f2, f3, f4, w64n (by omega), w64n (by omega), bits_or64n (by omega) (by omega), or_shift32 hhi hlo, hs]
      refine Ev.tru (by simp) (Ev.tru (by simp) ?_)
      refine Ev.turn (fun k => ref01_Small.p0_succ k _ _ _) ?_
      unfold ref01_Small.e0
      exact Ev.fls (by simp) Ev.pure

/-! ### How many bits, by the reference -/
theorem rBits_p0 {M m : Nat} {a : List Int} (ha : Nt M a m) (hM : M ≤ 17592186044415) : ∀ (n : Nat), n ≤ 1152921504606846976 → m < 2 ^ n → ∃ r, Bl m r ∧ Ev (fun k => ref01_Bits.p0 k a ((n : Int) - 1)) (r : Int)
  | 0, _, h => by
    have : m = 0 := by simpa using h
    subst this
    refine ⟨0, ⟨by simp, fun h => absurd rfl h, fun _ => rfl⟩, ?_⟩
    refine Ev.turn (fun k => ref01_Bits.p0_succ k _ _) ?_
    unfold ref01_Bits.e0
    exact Ev.fls (by simp) Ev.pure
  | n + 1, hn, h => by
    have e0 : ((n + 1 : Nat) : Int) - 1 = (n : Int) := by omega
    by_cases hb : m.testBit n = true
    · refine ⟨n + 1, ⟨h, fun _ => ⟨by omega, ?_⟩, fun h0 => ?_⟩, ?_⟩
      · rw [Nat.add_sub_cancel]
        exact Nat.ge_two_pow_of_testBit hb
      · rw [h0] at hb; simp at hb
      · refine Ev.turn (fun k => ref01_Bits.p0_succ k _ _) ?_
        unfold ref01_Bits.e0
        rw [e0]
        refine Ev.tru (by simp) ?_
        refine Ev.bind (r := m.testBit n) ⟨0, fun k _ => bit_eq ha (by omega) n (by omega)⟩ ?_
        rw [wrap_i64 (by omega) (by omega)]
        exact Ev.tru hb Ev.pure
    · have hb' : m.testBit n = false := by simpa using hb
      have h' : m < 2 ^ n := by
        apply Classical.byContradiction
        intro hge
        have : m / 2 ^ n = 1 := by
          have h1 : 0 < m / 2 ^ n := Nat.div_pos (by omega) (Nat.pow_pos (by omega))
          have h2 : m / 2 ^ n < 2 := (Nat.div_lt_iff_lt_mul (Nat.pow_pos (by omega))).2 (by rw [Nat.pow_succ] at h; omega)
          omega
        rw [Nat.testBit_eq_decide_div_mod_eq, this] at hb'
        simp at hb'
      obtain ⟨r, hr, hev⟩ := rBits_p0 ha hM n (by omega) h'
      refine ⟨r, hr, ?_⟩
      refine Ev.turn (fun k => ref01_Bits.p0_succ k _ _) ?_
      unfold ref01_Bits.e0
      rw [e0]
      refine Ev.tru (by simp) ?_
      refine Ev.bind (r := m.testBit n) ⟨0, fun k _ => bit_eq ha (by omega) n (by omega)⟩ ?_
      rw [wrap_i64 (n := (n : Int) - 1) (by omega) (by omega)]
      exact Ev.fls hb' hev

theorem Nt.rbits {M m : Nat} {a : List Int} (ha : Nt M a m) (hM : M ≤ 17592186044415) : ∃ r, Bl m r ∧ Ev (fun k => ref01_Bits.f k a) (r : Int) := by
  have hl := ha.len
  have h1 : V a < B ^ a.length := V_lt ha.lim
  rw [ha.val] at h1
  have h2 : m < 2 ^ (32 * a.length) := by
    rw [Nat.pow_mul]
    apply Int.ofNat_lt.1
    rw [Int.natCast_pow]
    exact h1
  obtain ⟨r, hr, hev⟩ := rBits_p0 ha hM (32 * a.length) (by omega) h2
  refine ⟨r, hr, ?_⟩
  unfold ref01_Bits.f ref01_Bits.e
  have e : IntKind.i64.wrap (IntKind.i64.wrap (32 * (a.length : Int)) - 1) = ((32 * a.length : Nat) : Int) - 1 := by
    rw [wrap_i64 (n := 32 * _) (by omega) (by omega), wrap_i64 (by omega) (by omega)]; omega
  rw [e]
  exact hev

theorem rOf_ev {n : Int} (h : 0 ≤ n ∧ n < 18446744073709551616) : Ev (fun k => ref01_Of.f k n) (lim n.toNat) := by
  unfold ref01_Of.f ref01_Of.e
  have e1 : IntKind.u32.wrap n = n % 4294967296 := wrap_u32 n
  have e2 : IntKind.u32.wrap (Int.fdiv n (2 ^ 32)) = n / 4294967296 := by
    rw [Int.fdiv_eq_ediv_of_nonneg _ (by omega), wrap_u32]; omega
  rw [e1, e2]
  have o : Nt 2 [n % 4294967296, n / 4294967296] n.toNat := ⟨Lim.mk (by simp only [B]; omega) (Lim.mk (by simp only [B]; omega) Lim.nil), by simp only [V, B]; omega, by simp⟩
  exact Ev.bind (o.rNorm (by omega)) Ev.pure

end Go.FK


/- The cut of a number at a power of 2, and the float below it: the program's and the reference's. -/
namespace Go.FK
open Flt
set_option exponentiation.threshold 5000

def TT : Nat := 2 ^ 1074
theorem TT_pos : 0 < TT := Nat.pow_pos (by omega)

/-- k is the float below n/d, or the greatest one; is: it is that number. -/
structure Flo (n d k : Nat) (is : Bool) : Prop where
  le : k ≤ 9218868437227405311
  lo : U k * d ≤ n * TT
  hi : k = 9218868437227405311 ∨ n * TT < U (k + 1) * d
  is : is = decide (U k * d = n * TT)

theorem Flo.unique {n d k k' : Nat} {b b' : Bool} (h : Flo n d k b) (g : Flo n d k' b') : k = k' ∧ b = b' := by
  have key : ∀ {k k' : Nat} {b b' : Bool}, Flo n d k b → Flo n d k' b' → ¬ k < k' := by
    intro k k' b b' h g hlt
    have h1 := h.hi
    have h2 := g.le
    rcases h1 with h1 | h1
    · omega
    · have h3 : U (k + 1) ≤ U k' := U_mono (by omega)
      have h4 := Nat.mul_le_mul_right d h3
      have h5 := g.lo
      omega
  have h1 := key h g
  have h2 := key g h
  have e : k = k' := by omega
  subst e
  exact ⟨rfl, by rw [h.is, g.is]⟩

/-- The quotient at a power of 2. -/
def Q (n d e : Nat) : Nat := n * TT / (2 ^ e * d)
def Qr (n d e : Nat) : Nat := n * TT % (2 ^ e * d)

theorem Q_eq (n d e : Nat) : Q n d e * (2 ^ e * d) + Qr n d e = n * TT := by
  unfold Q Qr
  rw [Nat.mul_comm (n * TT / _)]
  exact Nat.div_add_mod _ _
theorem Qr_lt (n : Nat) {d : Nat} (hd : d ≠ 0) (e : Nat) : Qr n d e < 2 ^ e * d := Nat.mod_lt _ (Nat.mul_pos (Nat.pow_pos (by omega)) (by omega))
theorem Q_succ (n d e : Nat) : Q n d (e + 1) = Q n d e / 2 := by
  unfold Q
  rw [Nat.div_div_eq_div_mul, Nat.pow_succ]
  congr 1
  rw [Nat.mul_assoc, Nat.mul_assoc, Nat.mul_comm 2 d]

theorem Flo.of_q {n d e : Nat} (hd : d ≠ 0) (h1 : e = 0 ∨ 4503599627370496 ≤ Q n d e) (h2 : Q n d e < 9007199254740992) (h3 : e ≤ 2045) :
    Flo n d (e * 4503599627370496 + Q n d e) (decide (Qr n d e = 0)) := by
  have a1 := Q_eq n d e
  have a2 := Qr_lt n hd e
  have b1 : U (e * 4503599627370496 + Q n d e) = Q n d e * 2 ^ e := U_of h1 (by omega)
  have b2 : U (e * 4503599627370496 + Q n d e + 1) = (Q n d e + 1) * 2 ^ e := by rw [Nat.add_assoc]; exact U_of (by omega) (by omega)
  refine ⟨by omega, ?_, Or.inr ?_, ?_⟩
  · rw [b1, Nat.mul_assoc]; omega
  · rw [b2, Nat.mul_assoc, Nat.add_mul, Nat.one_mul]; omega
  · rw [b1, Nat.mul_assoc]
    apply decide_eq_decide.2
    omega

theorem Flo.of_far {n d e : Nat} (h1 : 4503599627370496 ≤ Q n d e) (hd : d ≠ 0) (h3 : 2045 < e) : Flo n d 9218868437227405311 false := by
  have a1 := Q_eq n d e
  have hp : 0 < 2 ^ e * d := Nat.mul_pos (Nat.pow_pos (by omega)) (by omega)
  have e1 : 9218868437227405311 = 2045 * 4503599627370496 + 9007199254740991 := by decide
  have b1 : U 9218868437227405311 = 9007199254740991 * 2 ^ 2045 := by
    conv => lhs; rw [e1]
    exact U_of (Or.inr (by omega)) (by omega)
  have b3 : U 9218868437227405311 * d < 4503599627370496 * (2 ^ e * d) := by
    rw [b1]
    have h4 : 2 ^ 2045 * 2 ≤ 2 ^ e := by rw [← Nat.pow_succ]; exact Nat.pow_le_pow_right (by omega) (by omega)
    have h5 := Nat.mul_le_mul_right d h4
    generalize 2 ^ e = x at *
    generalize (2 : Nat) ^ 2045 = y at *
    have e2 : y * 2 * d = 2 * (y * d) := by rw [Nat.mul_comm y 2, Nat.mul_assoc]
    rw [e2] at h5
    rw [Nat.mul_assoc]
    have hy : 0 < y * d ∨ y * d = 0 := by omega
    omega
  have b4 : 4503599627370496 * (2 ^ e * d) ≤ Q n d e * (2 ^ e * d) := Nat.mul_le_mul_right _ h1
  refine ⟨by omega, by omega, Or.inl rfl, ?_⟩
  rw [dec_f]
  omega

theorem Flo.of_zero {n d : Nat} (h : n * TT < d) (hn : n ≠ 0) : Flo n d 0 false := by
  have := TT_pos
  refine ⟨by omega, by rw [U_zero]; omega, Or.inr ?_, ?_⟩
  · have : U (0 + 1) = 1 := rfl
    rw [this, Nat.one_mul]; exact h
  · rw [U_zero, Nat.zero_mul, dec_f]
    have := Nat.mul_pos (Nat.pos_of_ne_zero hn) TT_pos
    omega

/-! ### Sizes -/
/-- n/d is about 2 to the f. -/
theorem Q_low {n d rn rd e : Nat} (hn : Bl n rn) (hd : Bl d rd) (hn0 : n ≠ 0) (hd0 : d ≠ 0) {j : Nat} (h : e + rd + j ≤ rn - 1 + 1074) : 2 ^ j ≤ Q n d e := by
  have h1 := hn.low hn0
  have h2 := hd.lt
  unfold Q
  rw [Nat.le_div_iff_mul_le (Nat.mul_pos (Nat.pow_pos (by omega)) (by omega))]
  have h3 : 2 ^ (rn - 1) * 2 ^ 1074 ≤ n * TT := Nat.mul_le_mul_right _ h1.2
  have h4 : 2 ^ j * (2 ^ e * d) ≤ 2 ^ j * (2 ^ e * 2 ^ rd) := Nat.mul_le_mul_left _ (Nat.mul_le_mul_left _ (by omega))
  have h5 : 2 ^ j * (2 ^ e * 2 ^ rd) ≤ 2 ^ (rn - 1) * 2 ^ 1074 := by
    rw [← Nat.pow_add, ← Nat.pow_add, ← Nat.pow_add]
    exact Nat.pow_le_pow_right (by omega) (by omega)
  omega

theorem Q_high {n d rn rd e : Nat} (hn : Bl n rn) (hd : Bl d rd) (hd0 : d ≠ 0) {j : Nat} (h : rn + 1074 ≤ j + e + rd - 1) : Q n d e < 2 ^ j := by
  have h1 := hd.low hd0
  have h2 := hn.lt
  unfold Q
  rw [Nat.div_lt_iff_lt_mul (Nat.mul_pos (Nat.pow_pos (by omega)) (by omega))]
  have h3 : n * TT < 2 ^ rn * TT := Nat.mul_lt_mul_of_pos_right h2 TT_pos
  have h4 : 2 ^ j * (2 ^ e * 2 ^ (rd - 1)) ≤ 2 ^ j * (2 ^ e * d) := Nat.mul_le_mul_left _ (Nat.mul_le_mul_left _ h1.2)
  have h5 : 2 ^ rn * TT ≤ 2 ^ j * (2 ^ e * 2 ^ (rd - 1)) := by
    unfold TT
    rw [← Nat.pow_add, ← Nat.pow_add, ← Nat.pow_add]
    exact Nat.pow_le_pow_right (by omega) (by omega)
  omega

theorem L_shift (m n : Nat) : FK.L (m * 2 ^ n) ≤ FK.L m + (n / 32 + 1) := by
  refine Nat.le_trans (L_mul _ _) (Nat.add_le_add_left (L_le ?_) _)
  rw [show (4294967296 : Nat) = 2 ^ 32 by decide, ← Nat.pow_mul]
  exact Nat.pow_lt_pow_right (by omega) (by omega)

theorem Bl.gt53 {q r : Nat} (h : Bl q r) : (53 : Int) < (r : Int) ↔ 9007199254740992 ≤ q := by
  constructor
  · intro hr
    have h0 : q ≠ 0 := fun h0 => by have := h.zero h0; omega
    have h1 := (h.low h0).2
    have h2 : 2 ^ 53 ≤ 2 ^ (r - 1) := Nat.pow_le_pow_right (by omega) (by omega)
    have h3 : 2 ^ 53 = 9007199254740992 := by decide
    omega
  · intro hq
    apply Classical.byContradiction
    intro hr
    have h1 := h.lt
    have h2 : 2 ^ r ≤ 2 ^ 53 := Nat.pow_le_pow_right (by omega) (by omega)
    have h3 : 2 ^ 53 = 9007199254740992 := by decide
    omega

theorem Bl.zero_iff {q r : Nat} (h : Bl q r) : (r : Int) = 0 ↔ q = 0 := by
  constructor
  · intro hr
    apply Classical.byContradiction
    intro h0
    have := (h.low h0).1
    omega
  · intro hq; rw [h.zero hq]; rfl

/-! ### The cut -/
theorem cut_neg {n d s e : Nat} (h : s + e = 1074) : n * 2 ^ s / d = Q n d e ∧ (n * 2 ^ s % d) * 2 ^ e = Qr n d e := by
  have hT : n * TT = 2 ^ e * (n * 2 ^ s) := by
    unfold TT
    rw [← h, Nat.pow_add, ← Nat.mul_assoc, Nat.mul_comm]
  unfold Q Qr
  rw [hT, Nat.mul_div_mul_left _ _ (Nat.pow_pos (by omega)), Nat.mul_mod_mul_left]
  exact ⟨rfl, Nat.mul_comm _ _⟩
theorem cut_pos {n d s e : Nat} (h : e = s + 1074) : n / (d * 2 ^ s) = Q n d e ∧ (n % (d * 2 ^ s)) * TT = Qr n d e ∧ (d * 2 ^ s) * TT = 2 ^ e * d := by
  have hT : 2 ^ e * d = TT * (d * 2 ^ s) := by
    unfold TT
    rw [h, Nat.pow_add, Nat.mul_comm (2 ^ s), Nat.mul_assoc, Nat.mul_comm (2 ^ s) d]
  unfold Q Qr
  rw [hT, Nat.mul_comm n TT, Nat.mul_div_mul_left _ _ TT_pos, Nat.mul_mod_mul_left]
  exact ⟨rfl, Nat.mul_comm _ _, Nat.mul_comm _ _⟩

theorem acut_ev {M n d : Nat} {a b : List Int} (ha : Nt M a n) (hb : Nt M b d) (hd : d ≠ 0) (hM : M ≤ 1000000000000) (e : Nat) (he : e ≤ 4000) :
    ∃ l x c, ∃ bl : List Int, 0 < c ∧ l * c = Qr n d e ∧ x * c = 2 ^ e * d ∧ Nt (M + 200) (FK.lim l) l ∧ Nt (M + 200) bl x ∧ FK.L (Q n d e) ≤ M + 200 ∧ Ev (fun k => approx_cut.f k a b ((e : Int) - 1074)) (FK.lim (Q n d e), FK.lim l, bl) := by
  unfold approx_cut.f approx_cut.e
  have la := ha.L
  have lb := hb.L
  by_cases h : e < 1074
  · obtain ⟨h1, h2⟩ := cut_neg (n := n) (d := d) (s := 1074 - e) (e := e) (by omega)
    have hs := L_shift n (1074 - e)
    have hs2 := L_div (n * 2 ^ (1074 - e)) d
    have hs3 : FK.L (n * 2 ^ (1074 - e) % d) ≤ FK.L (n * 2 ^ (1074 - e)) := L_mono (Nat.mod_le _ _)
    refine ⟨n * 2 ^ (1074 - e) % d, d, 2 ^ e, b, Nat.pow_pos (by omega), h2, Nat.mul_comm _ _, Nt.of (by omega), hb.mono (by omega), by rw [← h1]; omega, ?_⟩
    have e1 : IntKind.i64.wrap (0 - ((e : Int) - 1074)) = ((1074 - e : Nat) : Int) := by rw [wrap_i64 (by omega) (by omega)]; omega
    rw [e1]
    refine Ev.tru (dec_t (by omega)) (Ev.bind (ha.shift_up (by omega) (1074 - e) (by omega)) ?_)
    refine Ev.turn (fun k => approx_cut.p9_succ k _ _) ?_
    unfold approx_cut.e9
    have nn : Nt (M + 200) (FK.lim (n * 2 ^ (1074 - e))) (n * 2 ^ (1074 - e)) := Nt.of (by omega)
    have := nn.div (hb.mono (show M ≤ M + 200 by omega)) (by omega) hd
    rw [← h1]
    exact Ev.bind this Ev.pure
  · obtain ⟨h1, h2, h3⟩ := cut_pos (n := n) (d := d) (s := e - 1074) (e := e) (by omega)
    have hs := L_shift d (e - 1074)
    have hs2 := L_div n (d * 2 ^ (e - 1074))
    have hs3 : FK.L (n % (d * 2 ^ (e - 1074))) ≤ FK.L n := L_mono (Nat.mod_le _ _)
    refine ⟨n % (d * 2 ^ (e - 1074)), d * 2 ^ (e - 1074), TT, FK.lim (d * 2 ^ (e - 1074)), TT_pos, h2, h3, Nt.of (by omega), Nt.of (by omega), by rw [← h1]; omega, ?_⟩
    have e1 : ((e : Int) - 1074) = ((e - 1074 : Nat) : Int) := by omega
    rw [e1]
    refine Ev.fls (dec_f (by omega)) (Ev.bind (hb.shift_up (by omega) (e - 1074) (by omega)) ?_)
    refine Ev.turn (fun k => approx_cut.p9_succ k _ _) ?_
    unfold approx_cut.e9
    have nn : Nt (M + 200) (FK.lim (d * 2 ^ (e - 1074))) (d * 2 ^ (e - 1074)) := Nt.of (by omega)
    have := (ha.mono (show M ≤ M + 200 by omega)).div nn (by omega) (Nat.ne_of_gt (Nat.mul_pos (by omega) (Nat.pow_pos (by omega))))
    rw [← h1]
    exact Ev.bind this Ev.pure

theorem quotient_ev {M n d : Nat} {r : (Bool × List Int) × List Int} (ha : Nt M r.1.2 n) (hb : Nt M r.2 d) (hd : d ≠ 0) (hM : M ≤ 1000000000000) (e : Nat) (he : e ≤ 4000) :
    Ev (fun k => ref04_quotient.f k r ((e : Int) - 1074)) (FK.lim (Q n d e), decide (Qr n d e = 0)) ∧ FK.L (Q n d e) ≤ M + 200 := by
  unfold ref04_quotient.f ref04_quotient.e
  have la := ha.L
  have lb := hb.L
  by_cases h : e < 1074
  · obtain ⟨h1, h2⟩ := cut_neg (n := n) (d := d) (s := 1074 - e) (e := e) (by omega)
    have hs := L_shift n (1074 - e)
    have hs2 := L_div (n * 2 ^ (1074 - e)) d
    have hs3 : FK.L (n * 2 ^ (1074 - e) % d) ≤ FK.L (n * 2 ^ (1074 - e)) := L_mono (Nat.mod_le _ _)
    refine ⟨?_, by rw [← h1]; omega⟩
    have e1 : IntKind.i64.wrap (0 - ((e : Int) - 1074)) = ((1074 - e : Nat) : Int) := by rw [wrap_i64 (by omega) (by omega)]; omega
    rw [e1]
    refine Ev.tru (dec_t (by omega)) (Ev.bind (ha.rshift_up (by omega) (1074 - e) (by omega)) ?_)
    refine Ev.turn (fun k => ref04_quotient.p13_succ k _ _) ?_
    unfold ref04_quotient.e13
    have nn : Nt (M + 200) (FK.lim (n * 2 ^ (1074 - e))) (n * 2 ^ (1074 - e)) := Nt.of (by omega)
    have nr : Nt (M + 200) (FK.lim (n * 2 ^ (1074 - e) % d)) (n * 2 ^ (1074 - e) % d) := Nt.of (by omega)
    obtain ⟨x, hx, hev⟩ := nr.rbits (by omega)
    have hz : decide ((x : Int) = 0) = decide (Qr n d e = 0) := by
      apply decide_eq_decide.2
      rw [hx.zero_iff, ← h2]
      have := Nat.pow_pos (n := e) (show 0 < 2 by omega)
      rw [Nat.mul_eq_zero]
      omega
    rw [← hz, ← h1]
    exact Ev.bind (nn.rdiv (hb.mono (show M ≤ M + 200 by omega)) (by omega) hd) (Ev.bind hev Ev.pure)
  · obtain ⟨h1, h2, h3⟩ := cut_pos (n := n) (d := d) (s := e - 1074) (e := e) (by omega)
    have hs := L_shift d (e - 1074)
    have hs2 := L_div n (d * 2 ^ (e - 1074))
    have hs3 : FK.L (n % (d * 2 ^ (e - 1074))) ≤ FK.L n := L_mono (Nat.mod_le _ _)
    refine ⟨?_, by rw [← h1]; omega⟩
    have e1 : ((e : Int) - 1074) = ((e - 1074 : Nat) : Int) := by omega
    rw [e1]
    refine Ev.fls (dec_f (by omega)) (Ev.bind (hb.rshift_up (by omega) (e - 1074) (by omega)) ?_)
    refine Ev.turn (fun k => ref04_quotient.p13_succ k _ _) ?_
    unfold ref04_quotient.e13
    have nn : Nt (M + 200) (FK.lim (d * 2 ^ (e - 1074))) (d * 2 ^ (e - 1074)) := Nt.of (by omega)
    have nr : Nt (M + 200) (FK.lim (n % (d * 2 ^ (e - 1074)))) (n % (d * 2 ^ (e - 1074))) := Nt.of (by omega)
    obtain ⟨x, hx, hev⟩ := nr.rbits (by omega)
    have hz : decide ((x : Int) = 0) = decide (Qr n d e = 0) := by
      apply decide_eq_decide.2
      rw [hx.zero_iff, ← h2]
      have := TT_pos
      rw [Nat.mul_eq_zero]
      omega
    rw [← hz, ← h1]
    exact Ev.bind ((ha.mono (show M ≤ M + 200 by omega)).rdiv nn (by omega) (Nat.ne_of_gt (Nat.mul_pos (by omega) (Nat.pow_pos (by omega))))) (Ev.bind hev Ev.pure)

theorem below_step {M n d : Nat} {r : (Bool × List Int) × List Int} (ha : Nt M r.1.2 n) (hb : Nt M r.2 d) (hd : d ≠ 0) (hM : M ≤ 1000000000000) {e : Nat} (he : e ≤ 3000) (h1 : e = 0 ∨ 4503599627370496 ≤ Q n d e)
    (hnext : 9007199254740992 ≤ Q n d e → ∃ k is, Flo n d k is ∧ Ev (fun f => ref04_below.p0 f r (((e + 1 : Nat) : Int) - 1074) (FK.lim (Q n d (e + 1))) (decide (Qr n d (e + 1) = 0))) ((k : Int), is)) :
    ∃ k is, Flo n d k is ∧ Ev (fun f => ref04_below.p0 f r ((e : Int) - 1074) (FK.lim (Q n d e)) (decide (Qr n d e = 0))) ((k : Int), is) := by
  have hq := quotient_ev ha hb hd hM e (by omega)
  have nq : Nt (M + 200) (FK.lim (Q n d e)) (Q n d e) := Nt.of hq.2
  obtain ⟨rr, hr, hev⟩ := nq.rbits (by omega)
  have hg := hr.gt53
  by_cases hb53 : 9007199254740992 ≤ Q n d e
  · obtain ⟨k, is, hk, hkev⟩ := hnext hb53
    refine ⟨k, is, hk, Ev.turn (fun f => ref04_below.p0_succ f _ _ _ _) ?_⟩
    unfold ref04_below.e0
    have e1 : IntKind.i64.wrap ((e : Int) - 1074 + 1) = ((e + 1 : Nat) : Int) - 1074 := by rw [wrap_i64 (by omega) (by omega)]; omega
    rw [e1]
    have hq2 := (quotient_ev ha hb hd hM (e + 1) (by omega)).1
    generalize Q n d (e + 1) = q2 at *
    generalize Qr n d (e + 1) = r2 at *
    exact Ev.bind hev (Ev.tru (dec_t (by omega)) (Ev.bind hq2 hkev))
  · by_cases hfar : 2045 < e
    · have h4 : 4503599627370496 ≤ Q n d e := by omega
      refine ⟨_, _, Flo.of_far h4 hd hfar, Ev.turn (fun f => ref04_below.p0_succ f _ _ _ _) ?_⟩
      unfold ref04_below.e0
      exact Ev.bind hev (Ev.fls (dec_f (by omega)) (Ev.tru (dec_t (by omega)) Ev.pure))
    · refine ⟨_, _, Flo.of_q hd h1 (by omega) (by omega), Ev.turn (fun f => ref04_below.p0_succ f _ _ _ _) ?_⟩
      unfold ref04_below.e0
      refine Ev.bind hev (Ev.fls (dec_f (by omega)) (Ev.fls (dec_f (by omega)) (Ev.bind (nq.rsmall (by omega) (by omega)) ?_)))
      by_cases hs : Q n d e < 4503599627370496
      · have : e = 0 := by omega
        subst this
        rw [Nat.zero_mul, Nat.zero_add]
        exact Ev.tru (dec_t (by omega)) Ev.pure
      · refine Ev.fls (dec_f (by omega)) ?_
        have e1 : IntKind.i64.wrap ((e : Int) - 1074 + 1075) = ((e + 1 : Nat) : Int) := by rw [wrap_i64 (by omega) (by omega)]; omega
        have e2 : ((e + 1 : Nat) : Int) * 2 ^ 52 = (((e + 1) * 4503599627370496 : Nat) : Int) := by omega
        have e3 : (((e + 1) * 4503599627370496 : Nat) : Int) + (Q n d e : Int) = (((e + 1) * 4503599627370496 + Q n d e : Nat) : Int) := by omega
        have e4 : (((e + 1) * 4503599627370496 + Q n d e : Nat) : Int) - 4503599627370496 = ((e * 4503599627370496 + Q n d e : Nat) : Int) := by omega
        rw [e1, w64n (by omega), e2, w64n (by omega), e3, w64n (by omega), e4, w64n (by omega)]
        exact Ev.pure

theorem below_p0 {M n d : Nat} {r : (Bool × List Int) × List Int} (ha : Nt M r.1.2 n) (hb : Nt M r.2 d) (hd : d ≠ 0) (hM : M ≤ 1000000000000) :
    ∀ (j e : Nat), e + j ≤ 3000 → Q n d e < 9007199254740992 * 2 ^ j → (e = 0 ∨ 4503599627370496 ≤ Q n d e) →
      ∃ k is, Flo n d k is ∧ Ev (fun f => ref04_below.p0 f r ((e : Int) - 1074) (FK.lim (Q n d e)) (decide (Qr n d e = 0))) ((k : Int), is)
  | 0, e, he, hq, h1 => below_step ha hb hd hM (by omega) h1 fun h => by omega
  | j + 1, e, he, hq, h1 => below_step ha hb hd hM (by omega) h1 fun h => by
    refine below_p0 ha hb hd hM j (e + 1) (by omega) ?_ (Or.inr (by rw [Q_succ]; omega))
    rw [Q_succ]
    rw [Nat.pow_succ] at hq
    omega

/-- The reference's float below. -/
theorem below_ev {M n d : Nat} {r : (Bool × List Int) × List Int} (ha : Nt M r.1.2 n) (hb : Nt M r.2 d) (hd : d ≠ 0) (hn : n ≠ 0) (hM : M ≤ 1000000000000) :
    ∃ k is, Flo n d k is ∧ Ev (fun f => ref04_below.f f r) ((k : Int), is) := by
  obtain ⟨rn, hbn, hen⟩ := ha.rbits (by omega)
  obtain ⟨rd, hbd, hed⟩ := hb.rbits (by omega)
  have ln := hbn.low hn
  have ld := hbd.low hd
  have bn : rn ≤ 32 * M := by
    have h1 := ha.L
    have h2 := L_lt n
    have h3 : (4294967296 : Nat) ^ FK.L n ≤ 4294967296 ^ M := Nat.pow_le_pow_right (by omega) h1
    have h4 : (4294967296 : Nat) ^ M = 2 ^ (32 * M) := by rw [Nat.pow_mul]
    have h5 : 2 ^ (rn - 1) < 2 ^ (32 * M) := by omega
    have := (Nat.pow_lt_pow_iff_right (by omega : 1 < 2)).1 h5
    omega
  have bd : rd ≤ 32 * M := by
    have h1 := hb.L
    have h2 := L_lt d
    have h3 : (4294967296 : Nat) ^ FK.L d ≤ 4294967296 ^ M := Nat.pow_le_pow_right (by omega) h1
    have h4 : (4294967296 : Nat) ^ M = 2 ^ (32 * M) := by rw [Nat.pow_mul]
    have h5 : 2 ^ (rd - 1) < 2 ^ (32 * M) := by omega
    have := (Nat.pow_lt_pow_iff_right (by omega : 1 < 2)).1 h5
    omega
  have e1 : IntKind.i64.wrap ((rn : Int) - (rd : Int)) = (rn : Int) - rd := wrap_i64 (by omega) (by omega)
  have e2 : IntKind.i64.wrap ((rn : Int) - rd - 54) = (rn : Int) - rd - 54 := wrap_i64 (by omega) (by omega)
  have go : ∀ e : Nat, e ≤ 2500 → Q n d e < 9007199254740992 * 2 ^ 10 → (e = 0 ∨ 4503599627370496 ≤ Q n d e) → ∃ k is, Flo n d k is ∧ Ev (fun f => ref04_below.p23 f r ((e : Int) - 1074)) ((k : Int), is) := by
    intro e he hq h1
    obtain ⟨k, is, hk, hev⟩ := below_p0 ha hb hd hM 10 e (by omega) hq h1
    refine ⟨k, is, hk, Ev.turn (fun f => ref04_below.p23_succ f _ _) ?_⟩
    unfold ref04_below.e23
    have hq2 := (quotient_ev ha hb hd hM e (by omega)).1
    generalize Q n d e = q2 at *
    generalize Qr n d e = r2 at *
    exact Ev.bind hq2 hev
  have start : ∀ {k : Nat} {is : Bool}, Ev (fun f => (bif (decide ((rn : Int) - (rd : Int) > (1030 : Int))) then (some ((9218868437227405311 : Int), false))
              else
                (bif (decide ((rn : Int) - (rd : Int) < (-1100 : Int))) then
                  (some ((0 : Int), false))
                else
                  (bif (decide ((rn : Int) - (rd : Int) - 54 < (-1074 : Int))) then
                    ref04_below.p23 f r (-1074 : Int)
                  else
                    ref04_below.p23 f r ((rn : Int) - (rd : Int) - (54 : Int)))))) ((k : Int), is) → Ev (fun f => ref04_below.f f r) ((k : Int), is) := by
    intro k is h
    unfold ref04_below.f ref04_below.e
    refine Ev.bind hen (Ev.fls (dec_f (by omega)) (Ev.bind hed (Ev.fls (dec_f (by omega)) (Ev.bind hen (Ev.bind hed ?_)))))
    simp only [e1, e2]
    exact h
  by_cases c1 : 1030 + rd < rn
  · refine ⟨9218868437227405311, false, ?_, start (Ev.tru (dec_t (by omega)) Ev.pure)⟩
    exact Flo.of_far (e := 2046) (Nat.le_trans (by decide) (Q_low hbn hbd hn hd (j := 52) (by omega))) hd (by omega)
  · by_cases c2 : rn + 1100 < rd
    · refine ⟨0, false, ?_, start (Ev.fls (dec_f (by omega)) (Ev.tru (dec_t (by omega)) Ev.pure))⟩
      refine Flo.of_zero ?_ hn
      have h1 := hbn.lt
      have h2 : n * TT < 2 ^ rn * TT := Nat.mul_lt_mul_of_pos_right h1 TT_pos
      have h3 : 2 ^ rn * TT ≤ 2 ^ (rd - 1) := by
        unfold TT; rw [← Nat.pow_add]; exact Nat.pow_le_pow_right (by omega) (by omega)
      omega
    · by_cases c3 : rn + 1020 < rd
      · obtain ⟨k, is, hk, hev⟩ := go 0 (by omega) (Nat.lt_of_lt_of_le (Q_high hbn hbd hd (j := 56) (by omega)) (by decide)) (Or.inl rfl)
        exact ⟨k, is, hk, start (Ev.fls (dec_f (by omega)) (Ev.fls (dec_f (by omega)) (Ev.tru (dec_t (by omega)) hev)))⟩
      · obtain ⟨k, is, hk, hev⟩ := go (rn + 1020 - rd) (by omega) (Nat.lt_of_lt_of_le (Q_high hbn hbd hd (j := 56) (by omega)) (by decide)) (by
          by_cases h0 : rn + 1020 - rd = 0
          · exact Or.inl h0
          · exact Or.inr (Nat.le_trans (by decide) (Q_low hbn hbd hn hd (j := 52) (by omega))))
        refine ⟨k, is, hk, start (Ev.fls (dec_f (by omega)) (Ev.fls (dec_f (by omega)) (Ev.fls (dec_f (by omega)) ?_)))⟩
        rw [show (rn : Int) - rd - 54 = ((rn + 1020 - rd : Nat) : Int) - 1074 by omega]
        exact hev

theorem below_zero {M n d : Nat} {r : (Bool × List Int) × List Int} (ha : Nt M r.1.2 n) (hb : Nt M r.2 d) (h : n = 0 ∨ d = 0) (hM : M ≤ 1000000000000) : Ev (fun f => ref04_below.f f r) ((0 : Int), true) := by
  obtain ⟨rn, hbn, hen⟩ := ha.rbits (by omega)
  obtain ⟨rd, hbd, hed⟩ := hb.rbits (by omega)
  have p5 : Ev (fun f => ref04_below.p5 f ()) ((0 : Int), true) := by
    refine Ev.turn (fun f => ref04_below.p5_succ f _) ?_
    unfold ref04_below.e5
    exact Ev.pure
  have zn := hbn.zero_iff
  have zd := hbd.zero_iff
  unfold ref04_below.f ref04_below.e
  refine Ev.bind hen ?_
  by_cases h0 : n = 0
  · exact Ev.tru (dec_t (by omega)) p5
  · exact Ev.fls (dec_f (by omega)) (Ev.bind hed (Ev.tru (dec_t (by omega)) p5))

end Go.FK


/- Rounding by the program: the float below, and where the number stands above it. -/
namespace Go.FK
open Flt
set_option exponentiation.threshold 5000

/-- k is the float below n/d, or the greatest one; a: -1 it is that number, 0 to 2 below the middle to the next one, at it, above it. -/
structure Rnd (n d k : Nat) (a : Int) : Prop where
  le : k ≤ 9218868437227405311
  lo : U k * d ≤ n * TT
  hi : k = 9218868437227405311 ∨ n * TT < U (k + 1) * d
  at_ : a = if U k * d = n * TT then -1 else 1 + sgn ((2 * (n * TT) : Nat) : Int) (((U k + U (k + 1)) * d : Nat) : Int)

theorem sgn_nat (x y : Nat) : sgn (x : Int) (y : Int) = if x < y then -1 else if x = y then 0 else 1 := by
  unfold sgn
  simp only [Int.ofNat_lt, Int.natCast_inj]

theorem Rnd.of_cut {n d e l x c : Nat} (hd : d ≠ 0) (h1 : e = 0 ∨ 4503599627370496 ≤ Q n d e) (h2 : Q n d e < 9007199254740992) (h3 : e ≤ 2045) (hc : 0 < c) (hl : l * c = Qr n d e) (hx : x * c = 2 ^ e * d) :
    Rnd n d (e * 4503599627370496 + Q n d e) (if l = 0 then -1 else 1 + sgn ((l + l : Nat) : Int) (x : Int)) := by
  have f := Flo.of_q hd h1 h2 h3
  refine ⟨f.le, f.lo, f.hi, ?_⟩
  have a1 := Q_eq n d e
  have b1 : U (e * 4503599627370496 + Q n d e) = Q n d e * 2 ^ e := U_of h1 (by omega)
  have b2 : U (e * 4503599627370496 + Q n d e + 1) = (Q n d e + 1) * 2 ^ e := by rw [Nat.add_assoc]; exact U_of (by omega) (by omega)
  have z : l = 0 ↔ U (e * 4503599627370496 + Q n d e) * d = n * TT := by
    rw [b1, Nat.mul_assoc]
    have : l = 0 ↔ l * c = 0 := by rw [Nat.mul_eq_zero]; omega
    rw [this, hl]
    omega
  by_cases h0 : l = 0
  · rw [if_pos h0, if_pos (z.1 h0)]
  · rw [if_neg h0, if_neg (fun h => h0 (z.2 h))]
    have key : sgn ((l + l : Nat) : Int) (x : Int) = sgn ((2 * (n * TT) : Nat) : Int) (((U (e * 4503599627370496 + Q n d e) + U (e * 4503599627370496 + Q n d e + 1)) * d : Nat) : Int) := ?_
    · rw [key]
    rw [b1, b2, sgn_nat, sgn_nat]
    have e1 : (Q n d e * 2 ^ e + (Q n d e + 1) * 2 ^ e) * d = 2 * (Q n d e * (2 ^ e * d)) + 2 ^ e * d := by
      rw [Nat.add_mul (Q n d e) 1, Nat.one_mul, Nat.add_mul, Nat.add_mul, Nat.mul_assoc]; omega
    have c1 : (l + l) * c = 2 * Qr n d e := by rw [Nat.add_mul, hl]; omega
    have d1 : l + l < x ↔ 2 * Qr n d e < 2 ^ e * d := by
      rw [← c1, ← hx]
      exact ⟨fun h => Nat.mul_lt_mul_of_pos_right h hc, fun h => Nat.lt_of_mul_lt_mul_right h⟩
    have d2 : l + l = x ↔ 2 * Qr n d e = 2 ^ e * d := by
      rw [← c1, ← hx]
      exact ⟨fun h => by rw [h], fun h => Nat.eq_of_mul_eq_mul_right hc h⟩
    rw [e1]
    have m1 : 2 * (n * TT) < 2 * (Q n d e * (2 ^ e * d)) + 2 ^ e * d ↔ l + l < x := by rw [d1]; omega
    have m2 : 2 * (n * TT) = 2 * (Q n d e * (2 ^ e * d)) + 2 ^ e * d ↔ l + l = x := by rw [d2]; omega
    simp only [m1, m2]

theorem Rnd.of_far {n d e : Nat} (h1 : 4503599627370496 ≤ Q n d e) (hd : d ≠ 0) (h3 : 2045 < e) : Rnd n d 9218868437227405311 2 := by
  have f := Flo.of_far h1 hd h3
  refine ⟨f.le, f.lo, Or.inl rfl, ?_⟩
  have hi := f.is
  have hne : ¬ U 9218868437227405311 * d = n * TT := of_decide_eq_false hi.symm
  rw [if_neg hne, sgn_nat]
  have a1 := Q_eq n d e
  have b4 : 4503599627370496 * (2 ^ e * d) ≤ Q n d e * (2 ^ e * d) := Nat.mul_le_mul_right _ h1
  have e2 : 9218868437227405311 + 1 = 2046 * 4503599627370496 + 4503599627370496 := by decide
  have b2 : U (9218868437227405311 + 1) = 4503599627370496 * 2 ^ 2046 := by
    rw [e2]
    exact U_of (Or.inr (by omega)) (by omega)
  have h4 : 2 ^ 2046 ≤ 2 ^ e := Nat.pow_le_pow_right (by omega) (by omega)
  have h5 := Nat.mul_le_mul_right d h4
  have h6 : U (9218868437227405311 + 1) * d ≤ n * TT := by
    rw [b2, Nat.mul_assoc]
    generalize 2 ^ e * d = w at *
    generalize 2 ^ 2046 * d = v at *
    omega
  have h7 := f.lo
  rw [Nat.add_mul]
  rw [if_neg (by omega), if_neg (by omega)]
  rfl

theorem Rnd.of_zero {n d : Nat} (h : 2 * (n * TT) < d) (hn : n ≠ 0) : Rnd n d 0 0 := by
  have f := Flo.of_zero (n := n) (d := d) (by omega) hn
  refine ⟨f.le, f.lo, f.hi, ?_⟩
  have hi := f.is
  have hne : ¬ U 0 * d = n * TT := of_decide_eq_false hi.symm
  rw [if_neg hne, sgn_nat]
  have e : U 0 + U (0 + 1) = 1 := rfl
  rw [e, Nat.one_mul, if_pos h]
  rfl

theorem Rnd.nought {d : Nat} (hd : d ≠ 0) : Rnd 0 d 0 (-1) := by
  refine ⟨by omega, by rw [U_zero]; omega, Or.inr ?_, ?_⟩
  · have e : U (0 + 1) = 1 := rfl
    rw [e]; omega
  · rw [U_zero, Nat.zero_mul, Nat.zero_mul, if_pos rfl]

theorem lim_len_zero {l : Nat} : ((FK.lim l).length : Int) = 0 ↔ l = 0 := by
  constructor
  · intro h
    apply Classical.byContradiction
    intro h0
    have : 1 ≤ (FK.lim l).length := L_pos h0
    omega
  · intro h; subst h; rw [lim_zero]; rfl

theorem rounded_p41 {M l x : Nat} {bl : List Int} (hl : Nt M (FK.lim l) l) (hx : Nt M bl x) (hM : M ≤ 10000000000000) (k : Nat) : Ev (fun f => approx_rounded.p41 f (FK.lim l) bl (k : Int)) ((k : Int), if l = 0 then -1 else 1 + sgn ((l + l : Nat) : Int) (x : Int)) := by
  refine Ev.turn (fun f => approx_rounded.p41_succ f _ _ _) ?_
  unfold approx_rounded.e41
  by_cases h0 : l = 0
  · rw [if_pos h0]
    exact Ev.tru (dec_t (lim_len_zero.2 h0)) Ev.pure
  · rw [if_neg h0]
    refine Ev.fls (dec_f (fun h => h0 (lim_len_zero.1 h))) (Ev.bind (hl.add hl (by omega)) ?_)
    have ll := hl.L
    have la := L_add l l
    have n2 : Nt (M + 1) (FK.lim (l + l)) (l + l) := Nt.of (by omega)
    refine Ev.bind (n2.cmp (hx.mono (by omega)) (by omega)) ?_
    have e : IntKind.i64.wrap (1 + sgn ((l + l : Nat) : Int) (x : Int)) = 1 + sgn ((l + l : Nat) : Int) (x : Int) := by
      rw [sgn_nat]
      split
      · decide
      · split <;> decide
    rw [e]
    exact Ev.pure

theorem rounded_p29 {M n d e l x c : Nat} {bl : List Int} (hd : d ≠ 0) (h1 : e = 0 ∨ 4503599627370496 ≤ Q n d e) (h2 : Q n d e < 9007199254740992) (h3 : e ≤ 3000) (hc : 0 < c) (hl : l * c = Qr n d e) (hx : x * c = 2 ^ e * d)
    (hln : Nt M (FK.lim l) l) (hxn : Nt M bl x) (hqn : FK.L (Q n d e) ≤ M) (hM : M ≤ 10000000000000) :
    ∃ k a, Rnd n d k a ∧ Ev (fun f => approx_rounded.p29 f ((e : Int) - 1074) (FK.lim (Q n d e)) (FK.lim l) bl) ((k : Int), a) := by
  by_cases hfar : 2045 < e
  · have h4 : 4503599627370496 ≤ Q n d e := by omega
    refine ⟨_, _, Rnd.of_far h4 hd hfar, Ev.turn (fun f => approx_rounded.p29_succ f _ _ _ _) ?_⟩
    unfold approx_rounded.e29 math_Float64bits.f
    exact Ev.tru (dec_t (by omega)) (Ev.bind Ev.pure Ev.pure)
  · refine ⟨_, _, Rnd.of_cut hd h1 h2 (by omega) hc hl hx, Ev.turn (fun f => approx_rounded.p29_succ f _ _ _ _) ?_⟩
    unfold approx_rounded.e29
    have nq : Nt M (FK.lim (Q n d e)) (Q n d e) := Nt.of hqn
    refine Ev.fls (dec_f (by omega)) (Ev.bind (nq.small (by omega) (by omega)) ?_)
    by_cases hs : Q n d e < 4503599627370496
    · have : e = 0 := by omega
      subst this
      rw [Nat.zero_mul, Nat.zero_add]
      exact Ev.fls (dec_f (by omega)) (rounded_p41 hln hxn hM _)
    · refine Ev.tru (dec_t (by omega)) ?_
      have e1 : IntKind.i64.wrap (IntKind.i64.wrap ((e : Int) - 1074 - -1074) + 1) = ((e + 1 : Nat) : Int) := by rw [wrap_i64 (n := (e : Int) - 1074 - -1074) (by omega) (by omega), wrap_i64 (by omega) (by omega)]; omega
      have e2 : ((e + 1 : Nat) : Int) * 2 ^ 52 = (((e + 1) * 4503599627370496 : Nat) : Int) := by omega
      have e3 : (Q n d e : Int) - 4503599627370496 = ((Q n d e - 4503599627370496 : Nat) : Int) := by omega
      have e4 : ((Q n d e - 4503599627370496 : Nat) : Int) + (((e + 1) * 4503599627370496 : Nat) : Int) = ((e * 4503599627370496 + Q n d e : Nat) : Int) := by omega
      rw [e1, w64n (by omega), e2, w64n (by omega), e3, w64n (by omega), e4, w64n (by omega)]
      exact rounded_p41 hln hxn hM _

theorem Bl.le {M n rn : Nat} (h : FK.L n ≤ M) (hb : Bl n rn) : rn ≤ 32 * M := by
  by_cases hn : n = 0
  · rw [hb.zero hn]; omega
  · have ln := hb.low hn
    have h2 := L_lt n
    have h3 : (4294967296 : Nat) ^ FK.L n ≤ 4294967296 ^ M := Nat.pow_le_pow_right (by omega) h
    have h4 : (4294967296 : Nat) ^ M = 2 ^ (32 * M) := by rw [Nat.pow_mul]
    have h5 : 2 ^ (rn - 1) < 2 ^ (32 * M) := by omega
    have := (Nat.pow_lt_pow_iff_right (by omega : 1 < 2)).1 h5
    omega

theorem rounded_ev {M : Nat} {q : Rat} (hq : 0 ≤ q.num) (hl : LQ q ≤ M) (hM : M ≤ 1000000000000) : ∃ k a, Rnd q.num.natAbs q.den k a ∧ Ev (fun f => approx_rounded.f f (rat q)) ((k : Int), a) := by
  have a1 := LQ_num q
  have a2 := LQ_den q
  have hr : Rt M (rat q) q := Rt.of hl
  have hd : q.den ≠ 0 := q.den_nz
  by_cases h0 : q.num = 0
  · refine ⟨0, -1, by rw [h0]; exact Rnd.nought hd, ?_⟩
    unfold approx_rounded.f approx_rounded.e
    have : 1 ≤ M := by have := L_pos hd; omega
    refine Ev.bind (hr.sign (by omega) (by omega)) (Ev.tru (dec_t (by rw [h0]; rfl)) Ev.pure)
  · have hn : q.num.natAbs ≠ 0 := by omega
    have hs : ¬ q.num.sign = 0 := fun h => h0 (Int.sign_eq_zero_iff_zero.1 h)
    have ha : Nt M (rat q).1.2 q.num.natAbs := Nt.of (Nat.le_trans a1 hl)
    have hb : Nt M (rat q).2 q.den := Nt.of (Nat.le_trans a2 hl)
    have h1M : 1 ≤ M := by have := L_pos hd; omega
    generalize q.num.natAbs = n at *
    generalize q.den = d at *
    obtain ⟨rn, hbn, _, hen⟩ := ha.bits (by omega)
    obtain ⟨rd, hbd, _, hed⟩ := hb.bits (by omega)
    have bn := Bl.le ha.L hbn
    have bd := Bl.le hb.L hbd
    have e1 : IntKind.i64.wrap ((rn : Int) - (rd : Int)) = (rn : Int) - rd := wrap_i64 (by omega) (by omega)
    have e2 : IntKind.i64.wrap ((rn : Int) - rd - 52) = (rn : Int) - rd - 52 := wrap_i64 (by omega) (by omega)
    have e3 : IntKind.i64.wrap ((rn : Int) - rd - 52 - 1) = (rn : Int) - rd - 53 := by rw [wrap_i64 (by omega) (by omega)]; omega
    by_cases c1 : 1075 + rd < rn
    · refine ⟨9218868437227405311, 2, Rnd.of_far (e := 2046) (Nat.le_trans (by decide) (Q_low hbn hbd hn hd (j := 52) (by omega))) hd (by omega), ?_⟩
      unfold approx_rounded.f approx_rounded.e
      simp only [math_Float64bits.f]
      refine Ev.bind (hr.sign h1M (by omega)) (Ev.fls (dec_f hs) (Ev.bind hen (Ev.bind hed (Ev.tru (dec_t (by omega)) (Ev.bind Ev.pure Ev.pure)))))
    · by_cases c2 : rn + 1126 < rd
      · refine ⟨0, 0, Rnd.of_zero ?_ hn, ?_⟩
        · have h1 := hbn.lt
          have h2 : n * TT < 2 ^ rn * TT := Nat.mul_lt_mul_of_pos_right h1 TT_pos
          have h3 : 2 * (2 ^ rn * TT) ≤ 2 ^ (rd - 1) := by
            unfold TT; rw [← Nat.pow_add, Nat.mul_comm, ← Nat.pow_succ]; exact Nat.pow_le_pow_right (by omega) (by omega)
          have h4 := (hbd.low hd).2
          omega
        · unfold approx_rounded.f approx_rounded.e
          refine Ev.bind (hr.sign h1M (by omega)) (Ev.fls (dec_f hs) (Ev.bind hen (Ev.bind hed (Ev.fls (dec_f (by omega)) (Ev.tru (dec_t (by omega)) Ev.pure)))))
      · have em : (bif decide ((-1074 : Int) > (rn : Int) - rd - 53) then (-1074 : Int) else (rn : Int) - rd - 53) = ((rn + 1021 - rd : Nat) : Int) - 1074 := by
          by_cases c3 : rn + 1021 < rd
          · rw [dec_t (by omega), cond_true]; omega
          · rw [dec_f (by omega), cond_false]; omega
        have hhigh : Q n d (rn + 1021 - rd) < 2 * 9007199254740992 := Nat.lt_of_lt_of_le (Q_high hbn hbd hd (j := 54) (by omega)) (by decide)
        have hlow : rn + 1021 - rd = 0 ∨ 4503599627370496 ≤ Q n d (rn + 1021 - rd) := by
          by_cases h0 : rn + 1021 - rd = 0
          · exact Or.inl h0
          · exact Or.inr (Nat.le_trans (by decide) (Q_low hbn hbd hn hd (j := 52) (by omega)))
        have he : rn + 1021 - rd ≤ 2500 := by omega
        have em1 : IntKind.i64.wrap (((rn + 1021 - rd : Nat) : Int) - 1074 + 1) = ((rn + 1021 - rd + 1 : Nat) : Int) - 1074 := by rw [wrap_i64 (by omega) (by omega)]; omega
        have start : ∀ {k : Nat} {a : Int}, Ev (fun f => Option.bind (approx_cut.f f (rat q).1.2 (rat q).2 (((rn + 1021 - rd : Nat) : Int) - 1074)) fun r5 => Option.bind (nat_Bits.f f r5.1) fun r6 => bif decide (r6 > 53) then
              Option.bind (approx_cut.f f (rat q).1.2 (rat q).2 (((rn + 1021 - rd + 1 : Nat) : Int) - 1074)) fun r7 => approx_rounded.p29 f (((rn + 1021 - rd + 1 : Nat) : Int) - 1074) r7.1 r7.2.1 r7.2.2
            else approx_rounded.p29 f (((rn + 1021 - rd : Nat) : Int) - 1074) r5.1 r5.2.1 r5.2.2) ((k : Int), a) → Ev (fun f => approx_rounded.f f (rat q)) ((k : Int), a) := by
          intro k a h
          unfold approx_rounded.f approx_rounded.e
          refine Ev.bind (hr.sign h1M (by omega)) (Ev.fls (dec_f hs) (Ev.bind hen (Ev.bind hed (Ev.fls (dec_f (by omega)) (Ev.fls (dec_f (by omega)) ?_)))))
          simp only [e1, e2, e3, em, em1]
          exact h
        clear em em1
        generalize rn + 1021 - rd = e at *
        obtain ⟨l, x, c, bl, k1, k2, k3, k4, k5, k6, k7⟩ := acut_ev ha hb hd hM e (by omega)
        have nq : Nt (M + 200) (FK.lim (Q n d e)) (Q n d e) := Nt.of k6
        obtain ⟨rq, hrq, _, heq⟩ := nq.bits (by omega)
        have hg := hrq.gt53
        by_cases hb53 : 9007199254740992 ≤ Q n d e
        · obtain ⟨l', x', c', bl', j1, j2, j3, j4, j5, j6, j7⟩ := acut_ev ha hb hd hM (e + 1) (by omega)
          have hq1 := Q_succ n d e
          obtain ⟨k, a, hk, hev⟩ := rounded_p29 hd (e := e + 1) (Or.inr (by omega)) (by omega) (by omega) j1 j2 j3 j4 j5 j6 (by omega)
          refine ⟨k, a, hk, ?_⟩
          refine start (Ev.bind k7 (Ev.bind heq (Ev.tru (dec_t (by omega)) ?_)))
          generalize Q n d (e + 1) = q2 at *
          exact Ev.bind j7 hev
        · obtain ⟨k, a, hk, hev⟩ := rounded_p29 hd (e := e) hlow (by omega) (by omega) k1 k2 k3 k4 k5 k6 (by omega)
          refine ⟨k, a, hk, ?_⟩
          generalize Q n d e = q2 at *
          exact start (Ev.bind k7 (Ev.bind heq (Ev.fls (dec_f (by omega)) hev)))

end Go.FK


/- Where a number stands among the floats, as a rational; Nearest, Down, Up of the program and of the reference. -/
namespace Go.FK
open Flt

/-- y (a number in units of the least float) stands at the k-th float, or above it by a. -/
structure At (y : Rat) (k : Nat) (a : Int) : Prop where
  le : k ≤ 9218868437227405311
  lo : (U k : Rat) ≤ y
  hi : k = 9218868437227405311 ∨ y < (U (k + 1) : Rat)
  at_ : (a = -1 ∧ (U k : Rat) = y) ∨ (a = 0 ∧ (U k : Rat) < y ∧ 2 * y < U k + U (k + 1)) ∨ (a = 1 ∧ (U k : Rat) < y ∧ 2 * y = U k + U (k + 1)) ∨ (a = 2 ∧ (U k : Rat) < y ∧ (U k : Rat) + U (k + 1) < 2 * y)

theorem At.exact {y : Rat} {k : Nat} {a : Int} (h : At y k a) : a = -1 ↔ (U k : Rat) = y := by
  rcases h.at_ with ⟨h1, h2⟩ | ⟨h1, h2, _⟩ | ⟨h1, h2, _⟩ | ⟨h1, h2, _⟩
  · simp [h1, h2]
  all_goals
    constructor
    · intro h; omega
    · intro h; rw [h] at h2; exact absurd h2 Rat.lt_irrefl

theorem At.unique {y : Rat} {k k' : Nat} {a a' : Int} (h : At y k a) (g : At y k' a') : k = k' ∧ a = a' := by
  have key : ∀ {k k' : Nat} {a a' : Int}, At y k a → At y k' a' → ¬ k < k' := by
    intro k k' a a' h g hlt
    have h1 := h.hi
    have h2 := g.le
    rcases h1 with h1 | h1
    · omega
    · have h3 : U (k + 1) ≤ U k' := U_mono (by omega)
      have h4 : (U (k + 1) : Rat) ≤ U k' := by exact_mod_cast h3
      have h5 := g.lo
      grind
  have h1 := key h g
  have h2 := key g h
  have e : k = k' := by omega
  subst e
  refine ⟨rfl, ?_⟩
  have h3 := h.at_
  have h4 := g.at_
  grind

theorem scaled {y : Rat} {N d : Nat} (hd : d ≠ 0) (hy : y * d = N) (a : Nat) : ((a : Rat) ≤ y ↔ a * d ≤ N) ∧ ((a : Rat) < y ↔ a * d < N) ∧ (y < a ↔ N < a * d) ∧ ((a : Rat) = y ↔ a * d = N) := by
  have hp : (0 : Rat) < (d : Rat) := by exact_mod_cast Nat.pos_of_ne_zero hd
  have h1 : (a : Rat) < y ↔ a * d < N := by
    rw [← Rat.mul_lt_mul_right hp, hy]
    exact_mod_cast Iff.rfl
  have h2 : y < a ↔ N < a * d := by
    rw [← Rat.mul_lt_mul_right hp, hy]
    exact_mod_cast Iff.rfl
  have h3 : (a : Rat) ≤ y ↔ a * d ≤ N := by
    rw [← Rat.not_lt, h2]; omega
  refine ⟨h3, h1, h2, ?_⟩
  constructor
  · intro h
    have := h3.1 (by rw [h]; exact Rat.le_refl)
    have : ¬ a * d < N := fun h' => by have := h1.2 h'; rw [h] at this; exact Rat.lt_irrefl this
    omega
  · intro h
    have e1 := h3.2 (by omega)
    have e2 : ¬ (a : Rat) < y := fun h' => by have := h1.1 h'; omega
    rcases Rat.le_iff_lt_or_eq.1 e1 with e | e
    · exact absurd e e2
    · exact e

theorem Rnd.at_rat {n d k : Nat} {a : Int} (h : Rnd n d k a) {y : Rat} (hd : d ≠ 0) (hy : y * d = ((n * TT : Nat) : Rat)) : At y k a := by
  have s := scaled hd hy
  have hy2 : (2 * y) * d = ((2 * (n * TT) : Nat) : Rat) := by rw [Rat.mul_assoc, hy]; push_cast; rfl
  have s2 := scaled hd hy2 (U k + U (k + 1))
  have c : ((U k + U (k + 1) : Nat) : Rat) = (U k : Rat) + U (k + 1) := by push_cast; rfl
  rw [c] at s2
  have hlt := U_lt_succ k
  refine ⟨h.le, (s _).1.2 h.lo, h.hi.imp id fun h => (s _).2.2.1.2 h, ?_⟩
  have ha := h.at_
  by_cases h0 : U k * d = n * TT
  · rw [if_pos h0] at ha
    exact Or.inl ⟨ha, (s _).2.2.2.2 h0⟩
  · rw [if_neg h0, sgn_nat] at ha
    have hl : (U k : Rat) < y := (s _).2.1.2 (by have := h.lo; omega)
    by_cases h1 : 2 * (n * TT) < (U k + U (k + 1)) * d
    · rw [if_pos h1] at ha
      exact Or.inr (Or.inl ⟨by omega, hl, s2.2.2.1.2 h1⟩)
    · rw [if_neg h1] at ha
      by_cases h2 : 2 * (n * TT) = (U k + U (k + 1)) * d
      · rw [if_pos h2] at ha
        exact Or.inr (Or.inr (Or.inl ⟨by omega, hl, (s2.2.2.2.2 h2.symm).symm⟩))
      · rw [if_neg h2] at ha
        exact Or.inr (Or.inr (Or.inr ⟨by omega, hl, s2.2.1.2 (by omega)⟩))

theorem Flo.at_rat {n d k : Nat} {is : Bool} (h : Flo n d k is) {y : Rat} (hd : d ≠ 0) (hy : y * d = ((n * TT : Nat) : Rat)) : ∃ a, At y k a ∧ is = decide (a = -1) := by
  have s := scaled hd hy
  have h0 := h.is
  have lo : (U k : Rat) ≤ y := (s _).1.2 h.lo
  have hi : k = 9218868437227405311 ∨ y < (U (k + 1) : Rat) := h.hi.imp id fun h => (s _).2.2.1.2 h
  rcases Rat.le_iff_lt_or_eq.1 lo with h1 | h1
  · have hf : is = false := by
      rw [h0]
      apply decide_eq_false
      intro he
      have := (s _).2.2.2.2 he
      rw [this] at h1
      exact Rat.lt_irrefl h1
    rcases (show 2 * y < (U k : Rat) + U (k + 1) ∨ 2 * y = (U k : Rat) + U (k + 1) ∨ (U k : Rat) + U (k + 1) < 2 * y by grind) with h2 | h2 | h2
    · exact ⟨0, ⟨h.le, lo, hi, Or.inr (Or.inl ⟨rfl, h1, h2⟩)⟩, by rw [hf]; rfl⟩
    · exact ⟨1, ⟨h.le, lo, hi, Or.inr (Or.inr (Or.inl ⟨rfl, h1, h2⟩))⟩, by rw [hf]; rfl⟩
    · exact ⟨2, ⟨h.le, lo, hi, Or.inr (Or.inr (Or.inr ⟨rfl, h1, h2⟩))⟩, by rw [hf]; rfl⟩
  · refine ⟨-1, ⟨h.le, lo, hi, Or.inl ⟨rfl, h1⟩⟩, ?_⟩
    rw [h0]
    simp [(s _).2.2.2.1 h1]

theorem mkRat_mul_den {z : Int} {d : Nat} (hd : d ≠ 0) : mkRat z d * (d : Rat) = (z : Rat) := by
  rw [Rat.mkRat_eq_div]
  exact Rat.div_mul_cancel (by exact_mod_cast hd)

theorem abs_mul_den {p : Rat} {z : Int} {d : Nat} (hd : d ≠ 0) (h : mkRat z d = p) : p.abs * (TT : Rat) * d = ((z.natAbs * TT : Nat) : Rat) := by
  have h1 := mkRat_mul_den (z := z) hd
  rw [h] at h1
  have hp : (0 : Rat) < (d : Rat) := by exact_mod_cast Nat.pos_of_ne_zero hd
  have h2 : p.abs * (d : Rat) = (z.natAbs : Rat) := by
    rcases Int.le_total 0 z with hz | hz
    · have e : (z.natAbs : Rat) = (z : Rat) := by
        rw [← Rat.intCast_natCast, Int.natAbs_of_nonneg hz]
      have : 0 ≤ p := by
        have hz' : (0 : Rat) ≤ (z : Rat) := by exact_mod_cast hz
        rw [← h1] at hz'
        rcases Rat.le_total (a := 0) (b := p) with h | h
        · exact h
        · have : p * (d : Rat) ≤ 0 * (d : Rat) := Rat.mul_le_mul_of_nonneg_right h (Rat.le_of_lt hp)
          rw [Rat.zero_mul] at this
          have h0 : p * (d : Rat) = 0 := Rat.le_antisymm this hz'
          have : p = 0 := by
            rcases Rat.mul_eq_zero.1 h0 with h | h
            · exact h
            · rw [h] at hp; exact absurd hp Rat.lt_irrefl
          rw [this]; exact Rat.le_refl
      rw [Rat.abs_of_nonneg this, h1, e]
    · have e : (z.natAbs : Rat) = -(z : Rat) := by
        rw [← Rat.intCast_natCast, ← Rat.intCast_neg]
        congr 1
        omega
      have : p ≤ 0 := by
        have hz' : (z : Rat) ≤ 0 := by exact_mod_cast hz
        rw [← h1] at hz'
        rcases Rat.le_total (a := p) (b := 0) with h | h
        · exact h
        · have : 0 * (d : Rat) ≤ p * (d : Rat) := Rat.mul_le_mul_of_nonneg_right h (Rat.le_of_lt hp)
          rw [Rat.zero_mul] at this
          have h0 : p * (d : Rat) = 0 := Rat.le_antisymm hz' this
          have : p = 0 := by
            rcases Rat.mul_eq_zero.1 h0 with h | h
            · exact h
            · rw [h] at hp; exact absurd hp Rat.lt_irrefl
          rw [this]; exact Rat.le_refl
      rw [Rat.abs_of_nonpos this, Rat.neg_mul, h1, e]
  rw [Rat.mul_assoc, Rat.mul_comm (TT : Rat), ← Rat.mul_assoc, h2]
  push_cast
  rfl

/-! ### What the two answer -/
def fb (s : Bool) (k : Nat) : Nat := if s then k + 9223372036854775808 else k
def nr (k : Nat) (a : Int) : Nat := if a = 2 ∨ (a = 1 ∧ k % 2 = 1) then k + 1 else k
def nrB (p : Rat) (k : Nat) (a : Int) : Nat := fb (decide (p < 0)) (nr k a)
/-- Where the number p stands. -/
abbrev Pl (p : Rat) (k : Nat) (a : Int) : Prop := At (p.abs * (TT : Rat)) k a

theorem num_abs (p : Rat) : 0 ≤ p.abs.num := Rat.num_nonneg.2 Rat.abs_nonneg

theorem rounded_at {M : Nat} {p : Rat} (hl : LQ p.abs ≤ M) (hM : M ≤ 1000000000000) : ∃ k a, Pl p k a ∧ Ev (fun f => approx_rounded.f f (rat p.abs)) ((k : Int), a) := by
  obtain ⟨k, a, hk, hev⟩ := rounded_ev (num_abs p) hl hM
  refine ⟨k, a, hk.at_rat p.abs.den_nz ?_, hev⟩
  have := abs_mul_den (z := p.abs.num) p.abs.den_nz (Rat.mkRat_self p.abs)
  rw [Rat.abs_of_nonneg (Rat.abs_nonneg (x := p))] at this
  exact this

theorem sign_neg_dec (p : Rat) : decide (p.num.sign < 0) = decide (p < 0) := decide_eq_decide.2 (num_sign_neg p)

theorem Pl.lt {p : Rat} {k : Nat} {a : Int} (h : Pl p k a) : k < 9223372036854775807 := by have := h.le; omega

theorem float_ev {k : Nat} (hk : k < 9223372036854775808) (s : Int) : Ev (fun f => approx_float.f f (k : Int) s) (fb (decide (s < 0)) k) := by
  have p7 : ∀ j : Nat, Ev (fun f => approx_float.p7 f (j : Int)) j := fun j => by
    refine Ev.turn (fun f => approx_float.p7_succ f _) ?_
    unfold approx_float.e7 math_Float64frombits.f
    rw [Int.toNat_natCast]
    exact Ev.bind Ev.pure Ev.pure
  unfold approx_float.f approx_float.e fb
  by_cases h : s < 0
  · rw [dec_t h, if_pos rfl, bits_set hk]
    exact Ev.tru rfl (p7 _)
  · rw [dec_f h, if_neg (by simp)]
    exact Ev.fls rfl (p7 _)

theorem if_iff {p q : Prop} [Decidable p] [Decidable q] (h : p ↔ q) {x y : Nat} : (if p then x else y) = if q then x else y := by
  by_cases c : p
  · rw [if_pos c, if_pos (h.1 c)]
  · rw [if_neg c, if_neg (fun c' => c (h.2 c'))]

theorem Rt.pl {M : Nat} {r : RR} {p : Rat} (hr : Rt M r p) (h1 : 1 ≤ M) (hM : M ≤ 400000000000) : ∃ k a, Pl p k a ∧ Ev (fun f => approx_rounded.f f (rat p.abs)) ((k : Int), a) :=
  rounded_at (M := 2 * M) (by rw [LQ_abs]; exact hr.LQ h1) (by omega)

theorem Rt.nearest {M : Nat} {r : RR} {p : Rat} (hr : Rt M r p) (h1 : 1 ≤ M) (hM : M ≤ 400000000000) {k : Nat} {a : Int} (h : Pl p k a) : Ev (fun f => approx_Nearest.f f r) (nrB p k a) := by
  obtain ⟨k', a', h', hev⟩ := hr.pl h1 hM
  obtain ⟨rfl, rfl⟩ := h.unique h'
  have hk := h.lt
  have p9 : ∀ j : Nat, j < 9223372036854775808 → Ev (fun f => approx_Nearest.p9 f r (j : Int)) (fb (decide (p < 0)) j) := fun j hj => by
    refine Ev.turn (fun f => approx_Nearest.p9_succ f _ _) ?_
    unfold approx_Nearest.e9
    have := float_ev hj p.num.sign
    rw [sign_neg_dec] at this
    exact Ev.bind (hr.sign h1 (by omega)) (Ev.bind this Ev.pure)
  have p7 : Ev (fun f => approx_Nearest.p7 f r (k : Int)) (fb (decide (p < 0)) (k + 1)) := by
    refine Ev.turn (fun f => approx_Nearest.p7_succ f _ _) ?_
    unfold approx_Nearest.e7
    rw [show (k : Int) + 1 = ((k + 1 : Nat) : Int) by omega, w64n (by omega)]
    exact p9 _ (by omega)
  unfold approx_Nearest.f approx_Nearest.e nrB nr
  refine Ev.bind (hr.abs h1 (by omega)) (Ev.bind hev ?_)
  rw [bits_odd (by omega)]
  by_cases c1 : a = 2
  · rw [if_pos (Or.inl c1)]
    exact Ev.tru (dec_t c1) p7
  · refine Ev.fls (dec_f c1) ?_
    by_cases c2 : a = 1
    · refine Ev.tru (dec_t c2) ?_
      by_cases c3 : k % 2 = 1
      · rw [if_pos (Or.inr ⟨c2, c3⟩)]
        exact Ev.tru (dec_t (by show ((k % 2 : Nat) : Int) = 1; omega)) p7
      · rw [if_neg (by omega)]
        exact Ev.fls (dec_f (by show ¬ ((k % 2 : Nat) : Int) = 1; omega)) (p9 _ (by omega))
    · rw [if_neg (by omega)]
      exact Ev.fls (dec_f c2) (p9 _ (by omega))

theorem Pl.zero {k : Nat} {a : Int} (h : Pl 0 k a) : k = 0 ∧ a = -1 := by
  have g : At ((0 : Rat).abs * (TT : Rat)) 0 (-1) := by
    rw [Rat.abs_zero, Rat.zero_mul]
    have e : (U 0 : Rat) = 0 := rfl
    have e1 : (U (0 + 1) : Rat) = 1 := rfl
    exact ⟨by omega, by rw [e]; exact Rat.le_refl, Or.inr (by rw [e1]; decide), Or.inl ⟨rfl, e⟩⟩
  exact h.unique g

end Go.FK


/- Nearest, Down, Up of the reference. -/
namespace Go.FK
open Flt
set_option exponentiation.threshold 5000

theorem Rt.ntn {M : Nat} {r : RR} {p : Rat} (hr : Rt M r p) : Nt M r.1.2 (V r.1.2).toNat := ⟨hr.num, (V_norm_lim hr.num).2.symm, hr.nlen⟩

theorem Zv_abs {a : Bool × List Int} (h : Lim a.2) : (Zv a).natAbs = (V a.2).toNat := by
  have := V_nonneg h
  unfold Zv
  split <;> omega

theorem Rt.raw {M : Nat} {r : RR} {p : Rat} (hr : Rt M r p) :
    (((V r.1.2).toNat = 0 ∨ (V r.2).toNat = 0) → p = 0) ∧ ((V r.1.2).toNat ≠ 0 → (V r.2).toNat ≠ 0 → (p < 0 ↔ r.1.1 = true) ∧ p.abs * (TT : Rat) * ((V r.2).toNat : Rat) = (((V r.1.2).toNat * TT : Nat) : Rat)) := by
  have hv := hr.val
  have ha := Zv_abs (a := r.1) hr.num
  unfold Qv at hv
  constructor
  · rintro (h | h)
    · rw [← hv, show Zv r.1 = 0 by omega, Rat.zero_mkRat]
    · rw [← hv, h, Rat.mkRat_zero]
  · intro hn hd
    have := abs_mul_den hd hv
    rw [ha] at this
    refine ⟨?_, this⟩
    have h1 := mkRat_mul_den (z := Zv r.1) hd
    rw [hv] at h1
    have hp : (0 : Rat) < ((V r.2).toNat : Rat) := by exact_mod_cast Nat.pos_of_ne_zero hd
    have h2 : p < 0 ↔ Zv r.1 < 0 := by
      rw [← Rat.mul_lt_mul_right hp, h1, Rat.zero_mul]
      exact_mod_cast Iff.rfl
    rw [h2]
    have hV := V_nonneg hr.num
    unfold Zv
    cases hb : r.1.1
    · simp only [Bool.false_eq_true, if_false, iff_false]; omega
    · simp only [if_true, iff_true]; omega

def sg (p : Rat) : Int := if p < 0 then 9223372036854775808 else 0

theorem Rt.amount {M : Nat} {r : RR} {p : Rat} (hr : Rt M r p) (hM : M ≤ 1000000000000) : Ev (fun f => ref04_amount.f f r) (((false, r.1.2), r.2), sg p) := by
  obtain ⟨h0, h1⟩ := hr.raw
  obtain ⟨rn, hbn, hen⟩ := hr.ntn.rbits (by omega)
  obtain ⟨rd, hbd, hed⟩ := hr.nt.rbits (by omega)
  have zn := hbn.zero_iff
  have zd := hbd.zero_iff
  have p9 : p < 0 ∨ Ev (fun f => ref04_amount.p9 f ((false, ([] : List Int)), ([] : List Int)) ((false, r.1.2), r.2)) (((false, r.1.2), r.2), sg p) := by
    by_cases h : p < 0
    · exact Or.inl h
    · right
      refine Ev.turn (fun f => ref04_amount.p9_succ f _ _) ?_
      unfold ref04_amount.e9 sg
      rw [if_neg h]
      exact Ev.pure
  have n0 : p = 0 → ¬ p < 0 := fun h => by rw [h]; exact Rat.lt_irrefl
  unfold ref04_amount.f ref04_amount.e
  cases hb : r.1.1
  · have : ¬ p < 0 := by
      intro hlt
      by_cases hn : (V r.1.2).toNat = 0
      · exact n0 (h0 (Or.inl hn)) hlt
      · by_cases hd : (V r.2).toNat = 0
        · exact n0 (h0 (Or.inr hd)) hlt
        · have := (h1 hn hd).1.1 hlt
          rw [hb] at this; cases this
    exact Ev.fls rfl (p9.resolve_left this)
  · refine Ev.tru rfl (Ev.bind hen ?_)
    by_cases hn : (V r.1.2).toNat = 0
    · exact Ev.fls (dec_f (by omega)) (p9.resolve_left (n0 (h0 (Or.inl hn))))
    · refine Ev.tru (dec_t (by omega)) (Ev.bind hed ?_)
      by_cases hd : (V r.2).toNat = 0
      · exact Ev.fls (dec_f (by omega)) (p9.resolve_left (n0 (h0 (Or.inr hd))))
      · refine Ev.tru (dec_t (by omega)) ?_
        unfold sg
        rw [if_pos ((h1 hn hd).1.2 hb)]
        exact Ev.pure

theorem Rt.below {M : Nat} {r : RR} {p : Rat} (hr : Rt M r p) (hM : M ≤ 1000000000000) {k : Nat} {a : Int} (h : Pl p k a) : Ev (fun f => ref04_below.f f ((false, r.1.2), r.2)) ((k : Int), decide (a = -1)) := by
  obtain ⟨h0, h1⟩ := hr.raw
  by_cases hz : (V r.1.2).toNat = 0 ∨ (V r.2).toNat = 0
  · have := h0 hz
    subst this
    obtain ⟨rfl, rfl⟩ := h.zero
    exact below_zero (r := ((false, r.1.2), r.2)) hr.ntn hr.nt hz hM
  · obtain ⟨hn, hd⟩ : (V r.1.2).toNat ≠ 0 ∧ (V r.2).toNat ≠ 0 := by omega
    obtain ⟨k', is, hk, hev⟩ := below_ev (r := ((false, r.1.2), r.2)) hr.ntn hr.nt hd hn hM
    obtain ⟨a', ha, hi⟩ := hk.at_rat hd (h1 hn hd).2
    obtain ⟨rfl, rfl⟩ := h.unique ha
    rw [← hi]
    exact hev

theorem frombits (k : Nat) : Ev (fun f => math_Float64frombits.f f (k : Int)) k := by
  unfold math_Float64frombits.f
  rw [Int.toNat_natCast]
  exact Ev.pure

/-! ### Nearest -/
theorem parts_ev {k : Nat} (hk : k < 9223372036854775808) : Ev (fun f => ref04_parts.f f (k : Int)) ((mOf k : Int), (eOf k : Int) - 1074) := by
  unfold ref04_parts.f ref04_parts.e mOf eOf
  have e1 : IntKind.i64.wrap (Int.fdiv (k : Int) (2 ^ 52)) = ((k / 4503599627370496 : Nat) : Int) := by
    rw [Int.fdiv_eq_ediv_of_nonneg _ (by omega), wrap_i64 (by omega) (by omega)]; omega
  rw [e1, bits_frac (by omega)]
  by_cases c : k < 4503599627370496
  · rw [if_pos c, show k % 4503599627370496 = k by omega, show k / 4503599627370496 - 1 = 0 by omega]
    exact Ev.tru (dec_t (by omega)) Ev.pure
  · rw [if_neg c]
    refine Ev.fls (dec_f (by omega)) ?_
    have e2 : ((k % 4503599627370496 : Nat) : Int) + 4503599627370496 = ((4503599627370496 + k % 4503599627370496 : Nat) : Int) := by omega
    have e3 : IntKind.i64.wrap (((k / 4503599627370496 : Nat) : Int) - 1075) = ((k / 4503599627370496 - 1 : Nat) : Int) - 1074 := by rw [wrap_i64 (by omega) (by omega)]; omega
    rw [e2, w64n (by omega), e3]
    exact Ev.pure

/-- a against m times 2 to the e less 1075. -/
theorem against_ev {M n d m e : Nat} {r : RR} (ha : Nt M r.1.2 n) (hb : Nt M r.2 d) (hM : M ≤ 1000000000000) (hm : m < 18446744073709551616) (he : e ≤ 3000) :
    Ev (fun f => ref04_against.f f r (FK.lim m) ((e : Int) - 1075)) (sgn ((2 * (n * TT) : Nat) : Int) ((m * 2 ^ e * d : Nat) : Int)) := by
  have lm : FK.L m ≤ 2 := L_le (by omega)
  have la := ha.L
  have lb := hb.L
  have nm : Nt 2 (FK.lim m) m := Nt.of lm
  have nmd : Nt (M + 2) (FK.lim (m * d)) (m * d) := Nt.of (Nat.le_trans (L_mul m d) (by omega))
  have hT : 2 * TT = 2 ^ 1075 := by unfold TT; rw [Nat.pow_succ 2 1074, Nat.mul_comm]
  unfold ref04_against.f ref04_against.e
  refine Ev.bind ((nm.mono (show 2 ≤ M + 2 by omega)).rmul (hb.mono (show M ≤ M + 2 by omega)) (by omega)) ?_
  by_cases c : e < 1075
  · refine Ev.tru (dec_t (by omega)) ?_
    have e1 : IntKind.i64.wrap (0 - ((e : Int) - 1075)) = ((1075 - e : Nat) : Int) := by rw [wrap_i64 (by omega) (by omega)]; omega
    rw [e1]
    refine Ev.bind (ha.rshift_up (by omega) (1075 - e) (by omega)) ?_
    refine Ev.turn (fun f => ref04_against.p13_succ f _ _) ?_
    unfold ref04_against.e13
    have hs := L_shift n (1075 - e)
    have nn : Nt (M + 200) (FK.lim (n * 2 ^ (1075 - e))) (n * 2 ^ (1075 - e)) := Nt.of (by omega)
    refine Ev.bind ?_ Ev.pure
    have := nn.rcmp (nmd.mono (show M + 2 ≤ M + 200 by omega)) (by omega)
    rw [sgn_nat] at this ⊢
    have hc : 0 < 2 ^ e := Nat.pow_pos (by omega)
    have k1 : 2 * (n * TT) = n * 2 ^ (1075 - e) * 2 ^ e := by
      rw [Nat.mul_assoc, ← Nat.pow_add, show 1075 - e + e = 1075 by omega, ← hT]
      rw [Nat.mul_left_comm]
    have k2 : m * 2 ^ e * d = m * d * 2 ^ e := Nat.mul_right_comm _ _ _
    have d1 : 2 * (n * TT) < m * 2 ^ e * d ↔ n * 2 ^ (1075 - e) < m * d := by
      rw [k1, k2]
      exact ⟨fun h => Nat.lt_of_mul_lt_mul_right h, fun h => Nat.mul_lt_mul_of_pos_right h hc⟩
    have d2 : 2 * (n * TT) = m * 2 ^ e * d ↔ n * 2 ^ (1075 - e) = m * d := by
      rw [k1, k2]
      exact ⟨fun h => Nat.eq_of_mul_eq_mul_right hc h, fun h => by rw [h]⟩
    simp only [d1, d2]
    exact this
  · refine Ev.fls (dec_f (by omega)) ?_
    have e1 : ((e : Int) - 1075) = ((e - 1075 : Nat) : Int) := by omega
    rw [e1]
    refine Ev.bind (nmd.rshift_up (by omega) (e - 1075) (by omega)) ?_
    refine Ev.turn (fun f => ref04_against.p13_succ f _ _) ?_
    unfold ref04_against.e13
    have hs := L_shift (m * d) (e - 1075)
    have hs2 := nmd.L
    have nn : Nt (M + 200) (FK.lim (m * d * 2 ^ (e - 1075))) (m * d * 2 ^ (e - 1075)) := Nt.of (by omega)
    refine Ev.bind ?_ Ev.pure
    have := (ha.mono (show M ≤ M + 200 by omega)).rcmp nn (by omega)
    rw [sgn_nat] at this ⊢
    have hc : 0 < 2 * TT := Nat.mul_pos (by omega) TT_pos
    have k1 : 2 * (n * TT) = n * (2 * TT) := by rw [Nat.mul_left_comm]
    have k2 : m * 2 ^ e * d = m * d * 2 ^ (e - 1075) * (2 * TT) := by
      rw [hT, Nat.mul_assoc (m * d), ← Nat.pow_add, show e - 1075 + 1075 = e by omega, Nat.mul_right_comm]
    have d1 : 2 * (n * TT) < m * 2 ^ e * d ↔ n < m * d * 2 ^ (e - 1075) := by
      rw [k1, k2]
      exact ⟨fun h => Nat.lt_of_mul_lt_mul_right h, fun h => Nat.mul_lt_mul_of_pos_right h hc⟩
    have d2 : 2 * (n * TT) = m * 2 ^ e * d ↔ n = m * d * 2 ^ (e - 1075) := by
      rw [k1, k2]
      exact ⟨fun h => Nat.eq_of_mul_eq_mul_right hc h, fun h => by rw [h]⟩
    simp only [d1, d2]
    exact this

theorem next_parts (k : Nat) : mOf k + mOf (k + 1) * 2 ^ (eOf (k + 1) - eOf k) = 2 * mOf k + 1 ∧ eOf k ≤ eOf (k + 1) ∧ eOf (k + 1) ≤ eOf k + 1 := by
  have h1 : eOf k ≤ eOf (k + 1) ∧ eOf (k + 1) ≤ eOf k + 1 := by unfold eOf; omega
  refine ⟨?_, h1⟩
  rcases (show eOf (k + 1) = eOf k ∨ eOf (k + 1) = eOf k + 1 by omega) with h | h
  · rw [show eOf (k + 1) - eOf k = 0 by omega, Nat.pow_zero, Nat.mul_one]
    unfold eOf mOf at *
    split <;> split <;> omega
  · rw [show eOf (k + 1) - eOf k = 1 by omega, Nat.pow_one]
    unfold eOf mOf at *
    split <;> split <;> omega

theorem U_mid (k : Nat) : U k + U (k + 1) = (2 * mOf k + 1) * 2 ^ eOf k := by
  rw [U_next, U_parts k, ← Nat.add_mul]
  congr 1
  omega

theorem Pl.pos {p : Rat} {k : Nat} {a : Int} (_h : Pl p k a) : (0 : Rat) ≤ p.abs * (TT : Rat) := Rat.mul_nonneg Rat.abs_nonneg Rat.natCast_nonneg

theorem Rt.rnearBits {M : Nat} {r : RR} {p : Rat} (hr : Rt M r p) (hM : M ≤ 400000000000) {k : Nat} {a : Int} (h : Pl p k a) : Ev (fun f => ref04_NearestBits.f f r) ((nrB p k a : Nat) : Int) := by
  obtain ⟨h0, h1⟩ := hr.raw
  have hk := h.lt
  have hsg : ∀ j : Nat, j < 9223372036854775808 → bitsI .or .u64 (sg p) (j : Int) = ((fb (decide (p < 0)) j : Nat) : Int) := fun j hj => by
    unfold sg fb
    by_cases hp : p < 0
    · rw [if_pos hp, dec_t hp, if_pos rfl, bits_set' hj]
    · rw [if_neg hp, dec_f hp, if_neg (by simp), bits_or_zero (by omega)]
  have p17 : ∀ j : Nat, j < 9223372036854775808 → Ev (fun f => ref04_NearestBits.p17 f (sg p) (j : Int)) ((fb (decide (p < 0)) j : Nat) : Int) := fun j hj => by
    refine Ev.turn (fun f => ref04_NearestBits.p17_succ f _ _) ?_
    unfold ref04_NearestBits.e17
    rw [hsg j hj]
    exact Ev.pure
  have p29 : ∀ j : Nat, j < 9223372036854775808 → Ev (fun f => ref04_NearestBits.p29 f (sg p) (j : Int)) ((fb (decide (p < 0)) j : Nat) : Int) := fun j hj => by
    refine Ev.turn (fun f => ref04_NearestBits.p29_succ f _ _) ?_
    unfold ref04_NearestBits.e29
    rw [hsg j hj]
    exact Ev.pure
  have p27 : Ev (fun f => ref04_NearestBits.p27 f (sg p) (k : Int)) ((fb (decide (p < 0)) (k + 1) : Nat) : Int) := by
    refine Ev.turn (fun f => ref04_NearestBits.p27_succ f _ _) ?_
    unfold ref04_NearestBits.e27
    rw [show (k : Int) + 1 = ((k + 1 : Nat) : Int) by omega, w64n (by omega)]
    exact p29 _ (by omega)
  obtain ⟨rd, hbd, hed⟩ := hr.nt.rbits (by omega)
  have zd := hbd.zero_iff
  have hof : ∀ m : Nat, m < 18446744073709551616 → Ev (fun f => ref01_Of.f f (m : Int)) (FK.lim m) := fun m hm => by
    have := rOf_ev (n := (m : Int)) (by omega)
    rw [Int.toNat_natCast] at this
    exact this
  unfold ref04_NearestBits.f ref04_NearestBits.e
  refine Ev.bind (hr.amount (by omega)) (Ev.bind hed ?_)
  by_cases hd : (V r.2).toNat = 0
  · have hp0 := h0 (Or.inr hd)
    subst hp0
    obtain ⟨rfl, rfl⟩ := h.zero
    exact Ev.tru (dec_t (by omega)) Ev.pure
  · refine Ev.fls (dec_f (by omega)) (Ev.bind (hof 18014398509481983 (by omega)) ?_)
    have ag : ∀ (m e : Nat), m < 18446744073709551616 → e ≤ 3000 → ∃ s, Ev (fun f => ref04_against.f f ((false, r.1.2), r.2) (FK.lim m) ((e : Int) - 1075)) s ∧ (s > 0 ↔ ((m * 2 ^ e : Nat) : Rat) < 2 * (p.abs * (TT : Rat))) ∧ (s = 0 ↔ ((m * 2 ^ e : Nat) : Rat) = 2 * (p.abs * (TT : Rat))) := by
      intro m e hm he
      refine ⟨_, against_ev (r := ((false, r.1.2), r.2)) hr.ntn hr.nt (by omega) hm he, ?_⟩
      have hy : (2 * (p.abs * (TT : Rat))) * ((V r.2).toNat : Rat) = ((2 * ((V r.1.2).toNat * TT) : Nat) : Rat) := by
        by_cases hn : (V r.1.2).toNat = 0
        · rw [h0 (Or.inl hn), hn, Rat.abs_zero, Rat.zero_mul, Rat.mul_zero, Rat.zero_mul]
          rw [Nat.zero_mul, Nat.mul_zero]; rfl
        · rw [Rat.mul_assoc, (h1 hn hd).2]; push_cast; rfl
      have s := scaled hd hy (m * 2 ^ e)
      rw [s.2.1, s.2.2.2, sgn_nat]
      generalize 2 * ((V r.1.2).toNat * TT) = x
      generalize m * 2 ^ e * (V r.2).toNat = z
      constructor
      · split
        · omega
        · split <;> omega
      · split
        · omega
        · split <;> omega
    obtain ⟨s, hs, hs1, hs2⟩ := ag 18014398509481983 2045 (by omega) (by omega)
    have eG : ((18014398509481983 * 2 ^ 2045 : Nat) : Rat) = (U 9218868437227405311 : Rat) + U (9218868437227405311 + 1) := by
      rw [← Rat.natCast_add, U_mid, show mOf 9218868437227405311 = 9007199254740991 by decide, show eOf 9218868437227405311 = 2045 by decide]
    rw [eG] at hs1 hs2
    refine Ev.bind hs ?_
    have hat := h.at_
    have hm := U_mid k
    have hmR : (((2 * mOf k + 1) * 2 ^ eOf k : Nat) : Rat) = (U k : Rat) + U (k + 1) := by rw [← hm]; push_cast; rfl
    have hGk : k ≠ 9218868437227405311 → (U (k + 1) : Rat) ≤ U 9218868437227405311 ∧ (U 9218868437227405311 : Rat) < U (9218868437227405311 + 1) := fun hne => by
      have h5 := h.le
      have h6 : U (k + 1) ≤ U 9218868437227405311 := U_mono (by omega)
      have h7 := U_lt_succ 9218868437227405311
      exact ⟨by exact_mod_cast h6, by exact_mod_cast h7⟩
    by_cases cs : s ≥ 0
    · refine Ev.tru (dec_t cs) ?_
      have hge : (U 9218868437227405311 : Rat) + U (9218868437227405311 + 1) ≤ 2 * (p.abs * (TT : Rat)) := by
        rcases (show s > 0 ∨ s = 0 by omega) with h2 | h2
        · exact Rat.le_of_lt (hs1.1 h2)
        · rw [hs2.1 h2]; exact Rat.le_refl
      have hkG : k = 9218868437227405311 := by
        apply Classical.byContradiction
        intro hne
        have := hGk hne
        have h3 := h.hi.resolve_left hne
        grind
      subst hkG
      have hnr : nr 9218868437227405311 a = 9218868437227405312 := by
        unfold nr
        have h7 := U_lt_succ 9218868437227405311
        have h7' : (U 9218868437227405311 : Rat) < U (9218868437227405311 + 1) := by exact_mod_cast h7
        have : a = 2 ∨ (a = 1 ∧ 9218868437227405311 % 2 = 1) := by
          rcases hat with ⟨_, h2⟩ | ⟨_, h2, h3⟩ | ⟨h1, _⟩ | ⟨h1, _⟩
          · grind
          · grind
          · exact Or.inr ⟨h1, by decide⟩
          · exact Or.inl h1
        rw [if_pos this]
      have := hsg 9218868437227405312 (by omega)
      unfold nrB
      rw [hnr, ← this]
      exact Ev.pure
    · refine Ev.fls (dec_f cs) (Ev.bind (hr.below (by omega) h) ?_)
      have hlt : 2 * (p.abs * (TT : Rat)) < (U 9218868437227405311 : Rat) + U (9218868437227405311 + 1) := by
        have c1 : ¬ s > 0 := by omega
        have c2 : ¬ s = 0 := by omega
        rw [hs1] at c1
        rw [hs2] at c2
        grind
      unfold nrB
      by_cases ca : a = -1
      · have : nr k a = k := by unfold nr; rw [if_neg (by omega)]
        rw [this]
        exact Ev.tru (dec_t ca) (p17 _ (by omega))
      · refine Ev.fls (dec_f ca) ?_
        by_cases cG : k = 9218868437227405311
        · subst cG
          have : nr 9218868437227405311 a = 9218868437227405311 := by
            unfold nr
            rw [if_neg]
            rintro (h2 | ⟨h2, _⟩)
            · rcases hat with ⟨h3, _⟩ | ⟨h3, _⟩ | ⟨h3, _⟩ | ⟨_, _, h3⟩
              · omega
              · omega
              · omega
              · grind
            · rcases hat with ⟨h3, _⟩ | ⟨h3, _⟩ | ⟨_, _, h3⟩ | ⟨h3, _⟩
              · omega
              · omega
              · grind
              · omega
          rw [this]
          exact Ev.tru (by simp) (p17 9218868437227405311 (by omega))
        · refine Ev.fls (dec_f (by omega)) (Ev.bind (parts_ev (by omega)) ?_)
          rw [show (k : Int) + 1 = ((k + 1 : Nat) : Int) by omega, w64n (by omega)]
          refine Ev.bind (parts_ev (by omega)) ?_
          obtain ⟨np, np1, np2⟩ := next_parts k
          have hpo := parts_ok k
          have hpo2 := parts_ok (k + 1)
          have heo : eOf k ≤ 2045 := by have := h.le; unfold eOf; omega
          have w1 : IntKind.i64.wrap ((eOf (k + 1) : Int) - 1074 - ((eOf k : Int) - 1074)) = ((eOf (k + 1) - eOf k : Nat) : Int) := by rw [wrap_i64 (by omega) (by omega)]; omega
          have w2 : IntKind.i64.wrap ((eOf k : Int) - 1074 - 1) = (eOf k : Int) - 1075 := by rw [wrap_i64 (by omega) (by omega)]; omega
          simp only [w1, w2]
          rw [w64n (x := eOf (k + 1) - eOf k) (by omega), Int.toNat_natCast, Nat.min_eq_left (by omega)]
          have w3 : (mOf (k + 1) : Int) * 2 ^ (eOf (k + 1) - eOf k) = ((mOf (k + 1) * 2 ^ (eOf (k + 1) - eOf k) : Nat) : Int) := by push_cast; rfl
          rw [w3, w64n (by omega), ← Int.natCast_add, np, w64n (by omega)]
          refine Ev.fls (dec_f (by omega)) (Ev.bind (hof _ (by omega)) ?_)
          obtain ⟨t, ht, ht1, ht2⟩ := ag (2 * mOf k + 1) (eOf k) (by omega) (by omega)
          rw [hmR] at ht1 ht2
          refine Ev.bind ht ?_
          have hnr : nr k a = if t > 0 ∨ (t = 0 ∧ k % 2 = 1) then k + 1 else k := by
            unfold nr
            apply if_iff
            rw [ht1, ht2]
            rcases hat with ⟨h3, _⟩ | ⟨h3, h4, h5⟩ | ⟨h3, h4, h5⟩ | ⟨h3, h4, h5⟩
            · omega
            · subst h3
              constructor
              · rintro (h6 | ⟨h6, _⟩) <;> omega
              · rintro (h6 | ⟨h6, _⟩)
                · exfalso; grind
                · exfalso; grind
            · subst h3
              rw [h5]
              simp [Rat.lt_irrefl]
            · subst h3
              constructor
              · intro _; exact Or.inl h5
              · intro _; exact Or.inl rfl
          rw [hnr]
          by_cases c1 : t > 0
          · rw [if_pos (Or.inl c1)]
            exact Ev.tru (dec_t c1) p27
          · refine Ev.fls (dec_f c1) ?_
            by_cases c2 : t = 0
            · refine Ev.tru (dec_t c2) ?_
              have e2 : Int.tmod (k : Int) 2 = ((k % 2 : Nat) : Int) := by rw [Int.tmod_eq_emod_of_nonneg (by omega)]; omega
              rw [e2]
              by_cases c3 : k % 2 = 1
              · rw [if_pos (Or.inr ⟨c2, c3⟩)]
                exact Ev.tru (dec_t (by omega)) p27
              · rw [if_neg (by omega)]
                exact Ev.fls (dec_f (by omega)) (p29 _ (by omega))
            · rw [if_neg (by omega)]
              exact Ev.fls (dec_f c2) (p29 _ (by omega))

end Go.FK


/- What a float is: its comparison, its number; neighbours. ApproxRounds, ApproxSteps. -/
namespace Go.FK
open Flt
set_option exponentiation.threshold 5000

/-! ### Comparison -/
theorem cmp_lt {a b : Int} : (some (compare a b) == some Ordering.lt) = decide (a < b) := by
  rw [cmpI]
  by_cases h : a < b
  · rw [if_pos h, dec_t h]; rfl
  · rw [if_neg h, dec_f h]; split <;> rfl
theorem cmp_eq {a b : Int} : (some (compare a b) == some Ordering.eq) = decide (a = b) := by
  rw [cmpI]
  by_cases h : a < b
  · rw [if_pos h, dec_f (by omega)]; rfl
  · rw [if_neg h]
    by_cases h2 : a = b
    · rw [if_pos h2, dec_t h2]; rfl
    · rw [if_neg h2, dec_f h2]; rfl
theorem cmp_gt {a b : Int} : (some (compare a b) == some Ordering.gt) = decide (a > b) := by
  rw [cmpI]
  by_cases h : a < b
  · rw [if_pos h, dec_f (by omega)]; rfl
  · rw [if_neg h]
    by_cases h2 : a = b
    · rw [if_pos h2, dec_f (by omega)]; rfl
    · rw [if_neg h2, dec_t (by omega)]; rfl
theorem fLt_eq {x y : Nat} (hx : isN x = false) (hy : isN y = false) : fLt x y = decide (R x < R y) := by unfold fLt; rw [order_eq x y hx hy]; exact cmp_lt
theorem fEq_eq {x y : Nat} (hx : isN x = false) (hy : isN y = false) : fEq x y = decide (R x = R y) := by unfold fEq; rw [order_eq x y hx hy]; exact cmp_eq
theorem fGt_eq {x y : Nat} (hx : isN x = false) (hy : isN y = false) : fGt x y = decide (R x > R y) := by unfold fGt; rw [order_eq x y hx hy]; exact cmp_gt
theorem fEq_nan {x y : Nat} (h : isN x = true ∨ isN y = true) : fEq x y = false := by unfold fEq; rw [order_nan x y h]; rfl
theorem fGt_nan {x y : Nat} (h : isN x = true ∨ isN y = true) : fGt x y = false := by unfold fGt; rw [order_nan x y h]; rfl
theorem isN_zero : isN 0 = false := by decide
theorem R_zero : R 0 = 0 := by decide
theorem fNeg_eq {x : Nat} (hx : x < 18446744073709551616) : fNeg x = if x < 9223372036854775808 then x + 9223372036854775808 else x - 9223372036854775808 := neg_eq x hx
def isI (x : Nat) : Bool := decide (x % 9223372036854775808 = 9218868437227405312)
/-- A finite float. -/
def Fin (x : Nat) : Prop := x % 9223372036854775808 ≤ 9218868437227405311
theorem Fin.nan {x : Nat} (h : Fin x) : isN x = false := by unfold Fin at h; unfold isN; exact dec_f (by omega)
theorem Fin.inf {x : Nat} (h : Fin x) : isI x = false := by unfold Fin at h; unfold isI; exact dec_f (by omega)

theorem isNaN_ev (x : Nat) : Ev (fun f => math_IsNaN.f f x) (isN x) := by
  unfold math_IsNaN.f math_IsNaN.e
  cases h : isN x
  · rw [fEq_eq h h, dec_t rfl]; exact Ev.pure
  · rw [fEq_nan (Or.inl h)]; exact Ev.pure

theorem isInf_p11 (x : Nat) : Ev (fun f => math_IsInf.p11 f x) (fGt x 9218868437227405311) := by
  refine Ev.turn (fun f => math_IsInf.p11_succ f _) ?_
  unfold math_IsInf.e11
  exact Ev.pure

theorem isN_max : isN 9218868437227405311 = false := by decide
theorem R_max : R 9218868437227405311 = 9218868437227405311 := by decide

theorem isInf_ev {x : Nat} (hx : x < 18446744073709551616) : Ev (fun f => math_IsInf.f f x 0) (isI x) := by
  unfold math_IsInf.f math_IsInf.e
  refine Ev.tru (by simp) ?_
  unfold math_Abs.f math_Abs.e
  simp only [math_Float64bits.f, Option.bind_some]
  rw [bits_clear hx]
  refine Ev.bind (Ev.bind (frombits _) Ev.pure) ?_
  have : fGt (x % 9223372036854775808) 9218868437227405311 = isI x := by
    unfold isI
    cases h : isN x
    · have h' : isN (x % 9223372036854775808) = false := by unfold isN at *; rw [show x % 9223372036854775808 % 9223372036854775808 = x % 9223372036854775808 by omega]; exact h
      rw [fGt_eq h' isN_max, R_max]
      apply decide_eq_decide.2
      unfold R
      unfold isN at h
      have h2 := of_decide_eq_false h
      rw [if_neg (by omega)]
      omega
    · have h' : isN (x % 9223372036854775808) = true := by unfold isN at *; rw [show x % 9223372036854775808 % 9223372036854775808 = x % 9223372036854775808 by omega]; exact h
      rw [fGt_nan (Or.inl h')]
      unfold isN at h
      have h2 := of_decide_eq_true h
      rw [dec_f (by omega)]
  rw [← this]
  exact isInf_p11 _

theorem risNaN_ev {x : Nat} (hx : x < 18446744073709551616) : Ev (fun f => ref04_IsNaN.f f (x : Int)) (isN x) := by
  unfold ref04_IsNaN.f ref04_IsNaN.e isN
  rw [bits_clear hx, decide_eq_decide.2 (show ((x % 9223372036854775808 : Nat) : Int) > 9218868437227405312 ↔ 9218868437227405312 < x % 9223372036854775808 by omega)]
  exact Ev.pure
theorem risInf_ev {x : Nat} (hx : x < 18446744073709551616) : Ev (fun f => ref04_IsInf.f f (x : Int)) (isI x) := by
  unfold ref04_IsInf.f ref04_IsInf.e isI
  rw [bits_clear hx, decide_eq_decide.2 (show ((x % 9223372036854775808 : Nat) : Int) = 9218868437227405312 ↔ x % 9223372036854775808 = 9218868437227405312 by omega)]
  exact Ev.pure

theorem fin_iff {x : Nat} : (!isN x && !isI x) = true ↔ Fin x := by
  unfold isN isI Fin
  simp
  omega

/-! ### A float's number -/
/-- A power of 2, in the reference's hands. -/
def pw (e : Nat) : Rat := ((2 ^ e : Nat) : Rat) / (TT : Rat)
theorem TT_ne : (TT : Rat) ≠ 0 := by have := TT_pos; exact_mod_cast (by omega : TT ≠ 0)
theorem TT_posR : (0 : Rat) < (TT : Rat) := by exact_mod_cast TT_pos

theorem eq_div {x a : Rat} (h : x * (TT : Rat) = a) : x = a / (TT : Rat) := by rw [← h, Rat.mul_div_cancel TT_ne]
theorem div_mul {a : Rat} : a / (TT : Rat) * (TT : Rat) = a := Rat.div_mul_cancel TT_ne

theorem one_ntf {M : Nat} (h1 : 1 ≤ M) : Nt M [1] 1 := ⟨Lim.mk (by simp [B]) Lim.nil, by simp [V], by simpa using h1⟩

theorem L_pow (n : Nat) : FK.L (2 ^ n) ≤ n / 32 + 1 := by
  refine L_le ?_
  rw [show (4294967296 : Nat) = 2 ^ 32 by decide, ← Nat.pow_mul]
  exact Nat.pow_lt_pow_right (by omega) (by omega)

theorem mk_pw_neg {s e : Nat} (h : s + e = 1074) : mkRat 1 (2 ^ s) = pw e := by
  have hz : (2 ^ s : Nat) ≠ 0 := Nat.ne_of_gt (Nat.pow_pos (by omega))
  apply eq_div
  have h1 := mkRat_mul_den (z := 1) hz
  have h2 : (TT : Rat) = ((2 ^ s : Nat) : Rat) * ((2 ^ e : Nat) : Rat) := by
    rw [← Rat.natCast_mul, ← Nat.pow_add, h]; rfl
  rw [h2, ← Rat.mul_assoc, h1]
  show (1 : Rat) * _ = _
  rw [Rat.one_mul]
theorem mk_pw_pos {s e : Nat} (h : e = s + 1074) : mkRat ((2 ^ s : Nat) : Int) 1 = pw e := by
  apply eq_div
  have h1 := mkRat_mul_den (z := ((2 ^ s : Nat) : Int)) (d := 1) (by omega)
  have h2 : mkRat ((2 ^ s : Nat) : Int) 1 = ((2 ^ s : Nat) : Rat) := by
    rw [← Rat.mul_one (mkRat _ 1)]
    exact h1
  rw [h2, ← Rat.natCast_mul]
  unfold TT
  rw [← Nat.pow_add, h]

theorem LQ_pw {e : Nat} (he : e ≤ 3000) : LQ (pw e) ≤ 200 := by
  have o1 : Nt 100 [1] 1 := one_ntf (by omega)
  by_cases h : e < 1074
  · rw [← mk_pw_neg (s := 1074 - e) (e := e) (by omega)]
    exact (Rt.mk2 (M := 100) (Zt.pos o1) (Nt.of (Nat.le_trans (L_pow _) (by omega)))).LQ (by omega)
  · rw [← mk_pw_pos (s := e - 1074) (e := e) (by omega)]
    exact (Rt.mk2 (M := 100) (Zt.pos (Nt.of (Nat.le_trans (L_pow _) (by omega)))) o1).LQ (by omega)

/-- A signed number of the least floats. -/
def num (s : Bool) (k : Nat) : Rat := (S s k : Rat) / (TT : Rat)
/-- What a finite float is. -/
def val (x : Nat) : Rat := num (x / 9223372036854775808 % 2 == 1) (x % 9223372036854775808)

theorem num_parts (k : Nat) : (mOf k : Rat) * pw (eOf k) = num false k := by
  unfold pw num S
  rw [if_neg (by simp), U_parts]
  apply eq_div
  rw [Rat.mul_assoc, div_mul]
  push_cast
  rfl
theorem num_neg (k : Nat) : num true k = - num false k := by
  unfold num S
  rw [if_pos rfl, if_neg (by simp), Rat.intCast_neg, Rat.div_def, Rat.div_def, Rat.neg_mul]

theorem mkRat_one (z : Int) : mkRat z 1 = (z : Rat) := Rat.mkRat_self (z : Rat)

theorem LQ_num_k {k : Nat} (hk : k ≤ 9218868437227405312) : LQ (num false k) ≤ 250 := by
  rw [← num_parts]
  have h1 := LQ_mul (mOf k : Rat) (pw (eOf k))
  have h2 := LQ_pw (e := eOf k) (by unfold eOf; omega)
  have h3 : LQ (mOf k : Rat) ≤ 3 := by
    have := parts_ok k
    have : FK.L (mOf k) ≤ 2 := L_le (by omega)
    have e : LQ ((mOf k : Nat) : Rat) = FK.L (mOf k) + 1 := by
      unfold LQ
      rw [Rat.num_natCast, Rat.den_natCast, L_one]
      rfl
    omega
  omega
theorem two_ev {e : Nat} (he : e ≤ 3000) : Ev (fun f => approx_two.f f ((e : Int) - 1074)) (rat (pw e)) := by
  have p11 : ∀ x, Ev (fun f => approx_two.p11 f ((false, ([] : List Int)), ([] : List Int)) x) x := fun x => by
    refine Ev.turn (fun f => approx_two.p11_succ f _ _) ?_
    unfold approx_two.e11
    exact Ev.pure
  have hof : Ev (fun f => nat_Of.f f 1) (FK.lim 1) := by
    have := nat_Of_ev (n := 1) (by omega)
    exact this
  have n1 : Nt 100 (FK.lim 1) 1 := Nt.of (by rw [L_one]; omega)
  have hz1 : Zt 100 (int 1) 1 := Zt.of (by show FK.L 1 ≤ 100; rw [L_one]; omega)
  unfold approx_two.f approx_two.e
  refine Ev.bind hof ?_
  by_cases h : e < 1074
  · have e1 : IntKind.i64.wrap (0 - ((e : Int) - 1074)) = ((1074 - e : Nat) : Int) := by rw [wrap_i64 (by omega) (by omega)]; omega
    rw [e1, dec_t (by omega), cond_true]
    have hs := n1.shift_up (by omega) (1074 - e) (by omega)
    rw [Nat.one_mul] at hs
    refine Ev.bind hs (Ev.bind (whole_Of_ev (by omega)) ?_)
    have nz : Zt 100 (false, FK.lim (2 ^ (1074 - e))) ((2 ^ (1074 - e) : Nat) : Int) := Zt.pos (Nt.of (Nat.le_trans (L_pow _) (by omega)))
    have := nz.of_ev hz1 (by omega) (by omega)
    refine Ev.bind this (Ev.tru (dec_t (by omega)) ?_)
    have e2 : Rat.divInt ((2 ^ (1074 - e) : Nat) : Int) 1 = ((2 ^ (1074 - e) : Nat) : Rat) := by
      have : Rat.divInt ((2 ^ (1074 - e) : Nat) : Int) ((1 : Nat) : Int) = _ := Rat.divInt_ofNat _ _
      rw [show ((1 : Nat) : Int) = 1 from rfl] at this
      rw [this, mkRat_one]
      rfl
    have hL : LQ ((2 ^ (1074 - e) : Nat) : Rat) ≤ 200 := by
      have e5 : LQ ((2 ^ (1074 - e) : Nat) : Rat) = FK.L (2 ^ (1074 - e)) + 1 := by
        unfold LQ
        rw [Rat.num_natCast, Rat.den_natCast, L_one]
        rfl
      have := L_pow (1074 - e)
      omega
    have hne : ((2 ^ (1074 - e) : Nat) : Rat) ≠ 0 := by
      have : (2 ^ (1074 - e) : Nat) ≠ 0 := Nat.ne_of_gt (Nat.pow_pos (by omega))
      exact_mod_cast this
    simp only [e2]
    have hinv := (Rt.of hL).inv (by omega) (by omega) hne
    have e3 : ((2 ^ (1074 - e) : Nat) : Rat)⁻¹ = pw e := by
      rw [← mk_pw_neg (s := 1074 - e) (e := e) (by omega), Rat.mkRat_eq_div, Rat.div_def]
      show _ = (1 : Rat) * _
      rw [Rat.one_mul]
    rw [e3] at hinv
    exact Ev.bind hinv (p11 _)
  · have e1 : IntKind.i64.wrap (0 - ((e : Int) - 1074)) = -((e - 1074 : Nat) : Int) := by rw [wrap_i64 (by omega) (by omega)]; omega
    rw [e1, dec_f (by omega), cond_false]
    have e0 : ((e : Int) - 1074) = ((e - 1074 : Nat) : Int) := by omega
    rw [e0]
    have hs := n1.shift_up (by omega) (e - 1074) (by omega)
    rw [Nat.one_mul] at hs
    refine Ev.bind hs (Ev.bind (whole_Of_ev (by omega)) ?_)
    have nz : Zt 100 (false, FK.lim (2 ^ (e - 1074))) ((2 ^ (e - 1074) : Nat) : Int) := Zt.pos (Nt.of (Nat.le_trans (L_pow _) (by omega)))
    have := nz.of_ev hz1 (by omega) (by omega)
    have e2 : Rat.divInt ((2 ^ (e - 1074) : Nat) : Int) 1 = pw e := by
      have : Rat.divInt ((2 ^ (e - 1074) : Nat) : Int) ((1 : Nat) : Int) = _ := Rat.divInt_ofNat _ _
      rw [show ((1 : Nat) : Int) = 1 from rfl] at this
      rw [this]
      exact mk_pw_pos (s := e - 1074) (e := e) (by omega)
    rw [e2] at this
    exact Ev.bind this (Ev.fls (dec_f (by omega)) (p11 _))

end Go.FK


/- Exact, Next, Prev: ApproxSteps. -/
namespace Go.FK
open Flt

/-! ### Sameness -/
/-! ### Exact -/
theorem R_neg_iff {x : Nat} (_hx : x < 18446744073709551616) : R x < 0 ↔ (x / 9223372036854775808 % 2 == 1) = true ∧ x % 9223372036854775808 ≠ 0 := by
  unfold R
  rw [beq_iff_eq]
  split <;> omega

theorem val_parts {x : Nat} (hx : x < 18446744073709551616) : (((if R x < 0 then -(mOf (x % 9223372036854775808) : Int) else (mOf (x % 9223372036854775808) : Int)) : Int) : Rat) * pw (eOf (x % 9223372036854775808)) = val x := by
  unfold val
  have h := R_neg_iff hx
  have hz : x % 9223372036854775808 = 0 → mOf (x % 9223372036854775808) = 0 := fun h => by rw [h]; rfl
  have hz2 : x % 9223372036854775808 = 0 → num false (x % 9223372036854775808) = 0 := fun h => by rw [h]; unfold num S; simp [U_zero, Rat.div_def, Rat.zero_mul]
  cases hs : (x / 9223372036854775808 % 2 == 1)
  · rw [hs] at h
    rw [if_neg (by simp [h]), ← num_parts]
    rfl
  · rw [hs] at h
    by_cases h0 : x % 9223372036854775808 = 0
    · rw [if_neg (by simp [h, h0]), num_neg, hz h0, hz2 h0]
      simp [Rat.zero_mul]
    · rw [if_pos (h.2 ⟨rfl, h0⟩), num_neg, ← num_parts, Rat.intCast_neg, Rat.neg_mul]
      rfl

theorem exact_ev {x : Nat} (hx : x < 18446744073709551616) (hf : Fin x) : Ev (fun f => approx_Exact.f f x) (rat (val x), (0 : Int)) := by
  have hnan := hf.nan
  have hinf := hf.inf
  unfold Fin at hf
  have hlt := fLt_eq (x := x) (y := 0) (Fin.nan hf) isN_zero
  rw [R_zero] at hlt
  have hk : x % 9223372036854775808 < 9223372036854775808 := by omega
  have hv := val_parts hx
  have hR : R x < 0 → mOf (x % 9223372036854775808) ≠ 0 := fun h h0 => by
    have := (R_neg_iff hx).1 h
    unfold mOf at h0
    split at h0 <;> omega
  have p21 : Ev (fun f => approx_Exact.p21 f ((false, ([] : List Int)), ([] : List Int)) x (mOf (x % 9223372036854775808) : Int) (eOf (x % 9223372036854775808) : Int)) (rat (val x), (0 : Int)) := by
    rw [← hv]
    have hp := parts_ok (x % 9223372036854775808)
    have he : eOf (x % 9223372036854775808) ≤ 2045 := by unfold eOf; omega
    generalize mOf (x % 9223372036854775808) = m at *
    generalize eOf (x % 9223372036854775808) = e at *
    refine Ev.turn (fun f => approx_Exact.p21_succ f _ _ _ _) ?_
    unfold approx_Exact.e21
    have hof := nat_Of_ev (n := (m : Int)) (by omega)
    rw [Int.toNat_natCast] at hof
    have hm : FK.L m ≤ 2 := L_le (by omega)
    have zt : Zt 100 (fLt x 0, FK.lim m) (if R x < 0 then -(m : Int) else (m : Int)) := by
      rw [hlt]
      refine ⟨Lim_lim m, ?_, Nat.le_trans hm (by omega)⟩
      unfold Zv
      by_cases h : R x < 0
      · rw [dec_t h, if_pos rfl, if_pos h, V_lim]
      · rw [dec_f h, if_neg (by simp), if_neg h, V_lim]
    generalize hz : (if R x < 0 then -(m : Int) else (m : Int)) = z at *
    have hz1 : Zt 100 (int 1) 1 := Zt.of (by show FK.L 1 ≤ 100; rw [L_one]; omega)
    have hr := zt.of_ev hz1 (by omega) (by omega)
    have e2 : Rat.divInt z 1 = (z : Rat) := by
      have : Rat.divInt z ((1 : Nat) : Int) = _ := Rat.divInt_ofNat _ _
      rw [show ((1 : Nat) : Int) = 1 from rfl] at this
      rw [this, mkRat_one]
    rw [e2] at hr
    have w : IntKind.i64.wrap ((e : Int) + -1074) = (e : Int) - 1074 := by rw [wrap_i64 (by omega) (by omega)]; omega
    rw [w]
    have lz : LQ (z : Rat) ≤ 200 := by
      unfold LQ
      rw [Rat.num_intCast, Rat.den_intCast, L_one]
      have : LZ z ≤ 2 := L_le (by omega)
      omega
    have := (Rt.of lz).mul (Rt.of (LQ_pw (e := e) (by omega))) (by omega) (by omega)
    exact Ev.bind hof (Ev.bind (whole_Of_ev (by omega)) (Ev.bind hr (Ev.bind (two_ev (by omega)) (Ev.bind this Ev.pure))))
  unfold approx_Exact.f approx_Exact.e
  simp only [math_Float64bits.f, Option.bind_some]
  rw [bits_clear hx]
  generalize x % 9223372036854775808 = k at *
  have e1 : IntKind.i64.wrap (Int.fdiv (k : Int) (2 ^ 52)) = ((k / 4503599627370496 : Nat) : Int) := by
    rw [Int.fdiv_eq_ediv_of_nonneg _ (by omega), wrap_i64 (by omega) (by omega)]; omega
  rw [e1, bits_frac (by omega)]
  refine Ev.bind (isNaN_ev x) (Ev.fls hnan (Ev.bind (isInf_ev hx) (Ev.fls hinf ?_)))
  by_cases c : k < 4503599627370496
  · refine Ev.fls (dec_f (by omega)) ?_
    unfold mOf eOf at p21
    rw [if_pos c, show k / 4503599627370496 - 1 = k / 4503599627370496 by omega] at p21
    rw [show k % 4503599627370496 = k by omega]
    exact p21
  · refine Ev.tru (dec_t (by omega)) ?_
    unfold mOf eOf at p21
    rw [if_neg c] at p21
    have e3 : IntKind.i64.wrap (((k / 4503599627370496 : Nat) : Int) - 1) = ((k / 4503599627370496 - 1 : Nat) : Int) := by rw [wrap_i64 (by omega) (by omega)]; omega
    rw [bits_hidden (by omega), e3, Nat.add_comm]
    exact p21

theorem exact_nan {x : Nat} (h : isN x = true) : Ev (fun f => approx_Exact.f f x) (noRat, (40 : Int)) := by
  unfold approx_Exact.f approx_Exact.e
  exact Ev.bind (isNaN_ev x) (Ev.tru h Ev.pure)
theorem exact_inf {x : Nat} (hx : x < 18446744073709551616) (h : isI x = true) : Ev (fun f => approx_Exact.f f x) (noRat, (41 : Int)) := by
  have hn : isN x = false := by unfold isI at h; unfold isN; have := of_decide_eq_true h; exact dec_f (by omega)
  unfold approx_Exact.f approx_Exact.e
  exact Ev.bind (isNaN_ev x) (Ev.fls hn (Ev.bind (isInf_ev hx) (Ev.tru h Ev.pure)))
/-! ### Next and Prev -/
end Go.FK


/- What Nearest, Down, Up are among the floats: nearest, monotone, beside one another. No program in sight. -/
namespace Go.FK
open Flt

theorem fb_mod {s : Bool} {k : Nat} (hk : k < 9223372036854775808) : fb s k % 9223372036854775808 = k := by unfold fb; split <;> omega
theorem fb_sign {s : Bool} {k : Nat} (hk : k < 9223372036854775808) : (fb s k / 9223372036854775808 % 2 == 1) = s := by
  unfold fb
  cases s
  · rw [if_neg (by simp), show k / 9223372036854775808 = 0 by omega]; rfl
  · rw [if_pos rfl, show (k + 9223372036854775808) / 9223372036854775808 = 1 by omega]; rfl
theorem fb_lt {s : Bool} {k : Nat} (hk : k < 9223372036854775808) : fb s k < 18446744073709551616 := by unfold fb; split <;> omega
theorem R_fb {s : Bool} {k : Nat} (hk : k < 9223372036854775808) : R (fb s k) = if s = true then -(k : Int) else (k : Int) := by
  unfold R
  rw [fb_mod hk]
  have := fb_sign (s := s) hk
  cases s
  · rw [beq_eq_false_iff_ne] at this; rw [if_neg this, if_neg (by simp)]
  · rw [beq_iff_eq] at this; rw [if_pos this, if_pos rfl]
theorem isN_fb {s : Bool} {k : Nat} (hk : k ≤ 9218868437227405312) : isN (fb s k) = false := by unfold isN; rw [fb_mod (by omega)]; exact dec_f (by omega)
theorem fin_fb {s : Bool} {k : Nat} (hk : k < 9223372036854775808) : Fin (fb s k) ↔ k ≤ 9218868437227405311 := by unfold Fin; rw [fb_mod hk]
theorem val_fb {s : Bool} {k : Nat} (hk : k < 9223372036854775808) : val (fb s k) = num s k := by unfold val; rw [fb_mod hk, fb_sign hk]
theorem num_TT (s : Bool) (k : Nat) : num s k * (TT : Rat) = (S s k : Rat) := div_mul
theorem S_false (k : Nat) : ((S false k : Int) : Rat) = (U k : Rat) := by unfold S; rw [if_neg (by simp)]; rfl
theorem abs_if (x : Rat) : x.abs = if x < 0 then -x else x := by
  split
  · exact Rat.abs_of_nonpos (Rat.le_of_lt ‹_›)
  · exact Rat.abs_of_nonneg (Rat.not_lt.1 ‹_›)
theorem At.cases {y : Rat} {k : Nat} {a : Int} (h : At y k a) : a = -1 ∨ a = 0 ∨ a = 1 ∨ a = 2 := by
  rcases h.at_ with ⟨h1, _⟩ | ⟨h1, _⟩ | ⟨h1, _⟩ | ⟨h1, _⟩ <;> omega

/-- What is greater stands no lower. -/
theorem At.mono {y y' : Rat} {k k' : Nat} {a a' : Int} (h : At y k a) (g : At y' k' a') (hy : y ≤ y') : k < k' ∨ (k = k' ∧ a ≤ a') := by
  by_cases c : k < k'
  · exact Or.inl c
  · right
    have e : k = k' := by
      apply Classical.byContradiction
      intro hne
      have h1 := g.hi
      have h2 := h.le
      rcases h1 with h1 | h1
      · omega
      · have h3 : U (k' + 1) ≤ U k := U_mono (by omega)
        have h4 : (U (k' + 1) : Rat) ≤ U k := by exact_mod_cast h3
        have h5 := h.lo
        grind
    subst e
    refine ⟨rfl, ?_⟩
    have h3 := h.at_
    have h4 := g.at_
    grind

theorem nr_le {k : Nat} {a : Int} : nr k a ≤ k + 1 ∧ k ≤ nr k a := by unfold nr; split <;> omega

theorem nr_mono {k : Nat} {a a' : Int} (h : a ≤ a') (ha' : a' ≤ 2) : nr k a ≤ nr k a' := by unfold nr; split <;> split <;> omega

end Go.FK


/- ApproxTies, ApproxNear, ApproxBeside, ApproxRises, ApproxMiddles. -/
namespace Go.FK
open Flt
set_option exponentiation.threshold 5000

/-! ### Ties -/
/-! ### Near -/
/-! ### Beside -/
theorem Pl.above {p : Rat} {k : Nat} {a : Int} (h : Pl p k a) (ha : a ≠ -1) : (U k : Rat) < p.abs * (TT : Rat) := by
  rcases h.at_ with ⟨h1, _⟩ | ⟨_, h1, _⟩ | ⟨_, h1, _⟩ | ⟨_, h1, _⟩
  · exact absurd h1 ha
  all_goals exact h1

/-! ### Rises -/
/-! ### Middles -/
/-! ### The laws -/
end Go.FK
