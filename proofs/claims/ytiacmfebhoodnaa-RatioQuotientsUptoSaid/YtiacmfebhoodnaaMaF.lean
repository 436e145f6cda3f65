/- The plain law: bits, and the guess of a quotient's digit. -/
import Derived.Test.YtiacmfebhoodnaaMaE
namespace Go.FK

theorem V_setN : ∀ (l : List Int) (i : Nat) (v : Int), i < l.length → V (setN v l i) = V l + B ^ i * (v - nthD 0 l i)
  | [], _, _, h => by simp at h
  | x :: xs, 0, v, _ => by simp only [setN, V, nthD, Int.pow_zero]; omega
  | x :: xs, i + 1, v, h => by
    have ih := V_setN xs i v (by simpa using h)
    simp only [setN, V, nthD, ih, Int.pow_succ]
    rw [Int.mul_add, Int.mul_comm (B ^ i) B, Int.mul_assoc]; omega

theorem Lim.set {l : List Int} (h : Lim l) {i : Nat} {v : Int} (hv : 0 ≤ v ∧ v < B) : Lim (setN v l i) := by
  intro x hx
  rw [setN_eq] at hx
  rcases List.mem_or_eq_of_mem_set hx with h1 | h1
  · exact h x h1
  · rw [h1]; exact hv

theorem nthD_beyond {l : List Int} {i : Nat} (h : l.length ≤ i) : nthD 0 l i = 0 := by
  rw [nthD_eq, List.getD_eq_getElem?_getD]
  simp [h]
theorem Lim.get' {a : List Int} (h : Lim a) (n : Nat) : 0 ≤ nthD 0 a n ∧ nthD 0 a n < B := by
  by_cases hn : n < a.length
  · exact h.get hn
  · rw [nthD_beyond (by omega)]; simp [B]

theorem drop_setN {l : List Int} {i m : Nat} {v : Int} (h : i < m) : (setN v l i).drop m = l.drop m := by
  rw [setN_eq, List.drop_set]; simp; omega
theorem take_setN {l : List Int} {i m : Nat} {v : Int} (h : m ≤ i) : (setN v l i).take m = l.take m := by
  rw [setN_eq]
  apply List.ext_getElem?
  intro j
  rw [List.getElem?_take, List.getElem?_take, List.getElem?_set]
  by_cases hj : j < m
  · rw [if_pos hj, if_pos hj, if_neg (by omega)]
  · rw [if_neg hj, if_neg hj]

theorem V_split (l : List Int) (m : Nat) (h : m ≤ l.length) : V l = V (l.take m) + B ^ m * V (l.drop m) := by
  have := V_append (l.take m) (l.drop m)
  rw [List.take_append_drop] at this
  have e : (l.take m).length = m := by simp; omega
  rw [e] at this
  exact this

theorem V_replicate_zero : ∀ n, V (List.replicate n 0) = 0
  | 0 => rfl
  | n + 1 => by simp [List.replicate_succ, V, V_replicate_zero n]
theorem Lim_replicate_zero (n : Nat) : Lim (List.replicate n (0 : Int)) := fun x hx => by
  have := (List.mem_replicate.1 hx).2
  subst this
  simp [B]

/-! ### Bits -/
theorem bits_or64 {a b : Int} (ha : 0 ≤ a ∧ a < 18446744073709551616) (hb : 0 ≤ b ∧ b < 18446744073709551616) : bitsI .or .u64 a b = ((a.toNat ||| b.toNat : Nat) : Int) := by
  have e1 : a.toNat < 2 ^ 64 := by omega
  have e2 : b.toNat < 2 ^ 64 := by omega
  have e3 : a.toNat ||| b.toNat < 2 ^ 64 := Nat.or_lt_two_pow e1 e2
  have e4 : (a % 18446744073709551616).toNat = a.toNat := by omega
  have e5 : (b % 18446744073709551616).toNat = b.toNat := by omega
  show IntKind.u64.wrap (((BitVec.ofInt 64 a ||| BitVec.ofInt 64 b).toNat : Nat) : Int) = _
  rw [BitVec.toNat_or, BitVec.toNat_ofInt, BitVec.toNat_ofInt, wrap_u64]
  simp only [Nat.reducePow, Int.reducePow, Int.cast_ofNat_Int] at *
  rw [e4, e5]
  omega
theorem bits_or32 {a b : Int} (ha : 0 ≤ a ∧ a < 4294967296) (hb : 0 ≤ b ∧ b < 4294967296) : bitsI .or .u32 a b = ((a.toNat ||| b.toNat : Nat) : Int) := by
  have e1 : a.toNat < 2 ^ 32 := by omega
  have e2 : b.toNat < 2 ^ 32 := by omega
  have e3 : a.toNat ||| b.toNat < 2 ^ 32 := Nat.or_lt_two_pow e1 e2
  have e4 : (a % 4294967296).toNat = a.toNat := by omega
  have e5 : (b % 4294967296).toNat = b.toNat := by omega
  show IntKind.u32.wrap (((BitVec.ofInt 32 a ||| BitVec.ofInt 32 b).toNat : Nat) : Int) = _
  rw [BitVec.toNat_or, BitVec.toNat_ofInt, BitVec.toNat_ofInt, wrap_u32]
  simp only [Nat.reducePow, Int.reducePow, Int.cast_ofNat_Int] at *
  rw [e4, e5]
  omega
theorem bits_and32 {a b : Int} (ha : 0 ≤ a ∧ a < 4294967296) (hb : 0 ≤ b ∧ b < 4294967296) : bitsI .and .u32 a b = ((a.toNat &&& b.toNat : Nat) : Int) := by
  have e1 : a.toNat < 2 ^ 32 := by omega
  have e2 : b.toNat < 2 ^ 32 := by omega
  have e3 : a.toNat &&& b.toNat < 2 ^ 32 := Nat.and_lt_two_pow _ e2
  have e4 : (a % 4294967296).toNat = a.toNat := by omega
  have e5 : (b % 4294967296).toNat = b.toNat := by omega
  show IntKind.u32.wrap (((BitVec.ofInt 32 a &&& BitVec.ofInt 32 b).toNat : Nat) : Int) = _
  rw [BitVec.toNat_and, BitVec.toNat_ofInt, BitVec.toNat_ofInt, wrap_u32]
  simp only [Nat.reducePow, Int.reducePow, Int.cast_ofNat_Int] at *
  rw [e4, e5]
  omega
theorem bits_xor32 {a b : Int} (ha : 0 ≤ a ∧ a < 4294967296) (hb : 0 ≤ b ∧ b < 4294967296) : bitsI .xor .u32 a b = ((a.toNat ^^^ b.toNat : Nat) : Int) := by
  have e1 : a.toNat < 2 ^ 32 := by omega
  have e2 : b.toNat < 2 ^ 32 := by omega
  have e3 : a.toNat ^^^ b.toNat < 2 ^ 32 := Nat.xor_lt_two_pow e1 e2
  have e4 : (a % 4294967296).toNat = a.toNat := by omega
  have e5 : (b % 4294967296).toNat = b.toNat := by omega
  show IntKind.u32.wrap (((BitVec.ofInt 32 a ^^^ BitVec.ofInt 32 b).toNat : Nat) : Int) = _
  rw [BitVec.toNat_xor, BitVec.toNat_ofInt, BitVec.toNat_ofInt, wrap_u32]
  simp only [Nat.reducePow, Int.reducePow, Int.cast_ofNat_Int] at *
  rw [e4, e5]
  omega

/-- Two limbs put together. -/
theorem or_limbs {x y : Int} (hx : 0 ≤ x ∧ x < B) (hy : 0 ≤ y ∧ y < B) : bitsI .or .u64 (IntKind.u64.wrap (x * 4294967296)) y = x * B + y := by
  simp only [B] at *
  have e : IntKind.u64.wrap (x * 4294967296) = x * 4294967296 := by rw [wrap_u64]; omega
  rw [e, bits_or64 (by omega) (by omega)]
  have h := Nat.two_pow_add_eq_or_of_lt (i := 32) (b := y.toNat) (by omega) x.toNat
  have e2 : (x * 4294967296).toNat = 2 ^ 32 * x.toNat := by omega
  rw [e2, ← h]
  omega

theorem top31 {n : Nat} (h : n < 4294967296) : n / 2147483648 = (n.testBit 31).toNat := by
  rw [Nat.testBit_eq_decide_div_mod_eq]
  by_cases h1 : n / 2 ^ 31 % 2 = 1
  · simp [h1]; omega
  · simp [h1]; omega
theorem bit31 {n : Nat} (h : n < 4294967296) : n.testBit 31 = decide (2147483648 ≤ n) := by
  rw [Nat.testBit_eq_decide_div_mod_eq]
  apply Bool.eq_iff_iff.2
  simp
  omega

/-! ### The guess -/
/-- A guess that the two highest limbs show too great. -/
theorem guess_over {β W U v1 v2 vr top u2 ur g r q : Int} (hβ : 0 ≤ β) (hW : W = (v1 * B + v2) * β + vr) (hvr : 0 ≤ vr) (hU : U = (top * B + u2) * β + ur) (hur : ur < β)
    (hq : q * W ≤ U) (hgr : g * v1 + r = top) (hg : 0 ≤ g) (hW0 : 0 ≤ W) (hbig : r * B + u2 < g * v2) : q < g := by
  apply Int.not_le.1
  intro hle
  have h1 : top * B + u2 + 1 ≤ g * (v1 * B + v2) := by
    rw [← hgr]
    have : g * (v1 * B + v2) = g * v1 * B + g * v2 := by rw [Int.mul_add, Int.mul_assoc]
    rw [this, Int.add_mul]
    omega
  have h2 : (top * B + u2 + 1) * β ≤ g * (v1 * B + v2) * β := Int.mul_le_mul_of_nonneg_right h1 hβ
  have h3 : g * W = g * (v1 * B + v2) * β + g * vr := by rw [hW, Int.mul_add, Int.mul_assoc]
  have h4 : 0 ≤ g * vr := Int.mul_nonneg hg hvr
  have h5 : g * W ≤ q * W := Int.mul_le_mul_of_nonneg_right hle hW0
  have h6 : (top * B + u2 + 1) * β = (top * B + u2) * β + β := by rw [Int.add_mul]; omega
  omega

/-- A guess that they don't is at most one too great. -/
theorem guess_near {β W U v1 v2 vr top u2 ur g r q : Int} (hβ : 0 ≤ β) (hW : W = (v1 * B + v2) * β + vr) (hvr : vr ≤ β) (hU : U = (top * B + u2) * β + ur) (hur : 0 ≤ ur)
    (hq0 : 0 ≤ q) (hq : U < (q + 1) * W) (hgr : g * v1 + r = top) (hg : g ≤ B) (hv1 : 1 ≤ v1) (hv2 : 0 ≤ v2) (hW0 : 0 < W) (hsm : g * v2 ≤ r * B + u2) : g ≤ q + 1 := by
  apply Int.not_lt.1
  intro hlt
  have h1 : g * (v1 * B + v2) ≤ top * B + u2 := by
    rw [← hgr]
    have : g * (v1 * B + v2) = g * v1 * B + g * v2 := by rw [Int.mul_add, Int.mul_assoc]
    rw [this, Int.add_mul]
    omega
  have h2 : g * (v1 * B + v2) * β ≤ (top * B + u2) * β := Int.mul_le_mul_of_nonneg_right h1 hβ
  have h3 : (g - 1) * W = g * (v1 * B + v2) * β - (v1 * B + v2) * β + (g - 1) * vr := by rw [hW]; grind
  have h5 : (q + 1) * W ≤ (g - 1) * W := Int.mul_le_mul_of_nonneg_right (by omega) (by omega)
  have h6 : B * β ≤ (v1 * B + v2) * β := Int.mul_le_mul_of_nonneg_right (by simp only [B]; omega) hβ
  have h7 : (g - 1) * vr ≤ (g - 1) * β := Int.mul_le_mul_of_nonneg_left hvr (by omega)
  have h8 : (g - 1) * β ≤ B * β := Int.mul_le_mul_of_nonneg_right (by omega) hβ
  omega

end Go.FK
