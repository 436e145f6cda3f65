/- The plain law: how many limbs a number has; whole and rational numbers by their limbs. -/
import Derived.Test.YtiacmfebhoodnaaMaF
namespace Go.FK

/-- How many limbs a number has. -/
def L (n : Nat) : Nat := (lim n).length

theorem L_lt (n : Nat) : n < 4294967296 ^ L n := by
  have h : V (lim n) < B ^ (lim n).length := V_lt (Lim_lim n)
  rw [V_lim] at h
  have h3 : (n : Int) < ((4294967296 ^ (lim n).length : Nat) : Int) := by rw [Int.natCast_pow]; exact h
  exact Int.ofNat_lt.1 h3
theorem L_le {n m : Nat} (h : n < 4294967296 ^ m) : L n ≤ m := lim_length h
theorem L_mono {m n : Nat} (h : m ≤ n) : L m ≤ L n := L_le (Nat.lt_of_le_of_lt h (L_lt n))
theorem L_zero : L 0 = 0 := by simp [L, lim_zero]
theorem L_one : L 1 = 1 := by
  have : lim 1 = [1] := by rw [lim_pos (by omega), show 1 / 4294967296 = 0 by rfl, lim_zero]; rfl
  simp [L, this]
theorem L_pos {n : Nat} (h : n ≠ 0) : 1 ≤ L n := by unfold L; rw [lim_pos h]; simp
theorem L_eq_zero {n : Nat} (h : L n = 0) : n = 0 := by
  apply Classical.byContradiction
  intro h0
  have := L_pos h0
  omega
theorem L_small {n : Nat} (h : n < 4294967296) : L n ≤ 1 := L_le (by simpa using h)
theorem L_add (m n : Nat) : L (m + n) ≤ max (L m) (L n) + 1 := by
  apply L_le
  have h1 := Nat.lt_of_lt_of_le (L_lt m) (Nat.pow_le_pow_right (n := 4294967296) (by omega) (Nat.le_max_left (L m) (L n)))
  have h2 := Nat.lt_of_lt_of_le (L_lt n) (Nat.pow_le_pow_right (n := 4294967296) (by omega) (Nat.le_max_right (L m) (L n)))
  rw [Nat.pow_succ]
  omega
theorem L_mul (m n : Nat) : L (m * n) ≤ L m + L n := by
  apply L_le
  rw [Nat.pow_add]
  exact Nat.mul_lt_mul'' (L_lt m) (L_lt n)
theorem L_div (m n : Nat) : L (m / n) ≤ L m := L_mono (Nat.div_le_self m n)
theorem L_sub (m n : Nat) : L (m - n) ≤ L m := L_mono (Nat.sub_le m n)

def LZ (z : Int) : Nat := L z.natAbs
theorem LZ_neg (z : Int) : LZ (-z) = LZ z := by unfold LZ; rw [Int.natAbs_neg]
theorem LZ_zero : LZ 0 = 0 := L_zero
theorem LZ_add (a b : Int) : LZ (a + b) ≤ max (LZ a) (LZ b) + 1 := Nat.le_trans (L_mono (Int.natAbs_add_le a b)) (L_add _ _)
theorem LZ_sub (a b : Int) : LZ (a - b) ≤ max (LZ a) (LZ b) + 1 := by
  have := LZ_add a (-b)
  rw [LZ_neg] at this
  exact this
theorem LZ_mul (a b : Int) : LZ (a * b) ≤ LZ a + LZ b := by unfold LZ; rw [Int.natAbs_mul]; exact L_mul _ _
theorem LZ_nat (n : Nat) : LZ (n : Int) = L n := rfl
theorem LZ_div (a : Int) (n : Nat) : LZ (a / (n : Int)) ≤ LZ a + 1 := by
  unfold LZ
  have : (a / (n : Int)).natAbs ≤ a.natAbs := by exact Int.natAbs_ediv_le_natAbs a n
  have := L_mono this
  omega

def LQ (q : Rat) : Nat := LZ q.num + L q.den

theorem LQ_num (q : Rat) : LZ q.num ≤ LQ q := Nat.le_add_right _ _
theorem LQ_den (q : Rat) : L q.den ≤ LQ q := Nat.le_add_left _ _
theorem LQ_zero : LQ 0 = 1 := by simp [LQ, LZ, L_zero, L_one]
theorem LQ_neg (q : Rat) : LQ (-q) = LQ q := by simp [LQ, LZ_neg]
theorem LQ_mkRat (z : Int) (d : Nat) : LQ (mkRat z d) ≤ LZ z + max (L d) 1 := by
  unfold LQ
  rw [Rat.num_mkRat, Rat.den_mkRat]
  by_cases h : d = 0
  · simp only [h, if_true, LZ_zero, L_one, L_zero]; omega
  · simp only [h, if_false]
    have h1 : LZ (z / (d.gcd z.natAbs : Nat)) ≤ LZ z := by
      unfold LZ
      exact L_mono (Int.natAbs_ediv_le_natAbs z _)
    have h2 := L_div d (d.gcd z.natAbs)
    omega
theorem LQ_add (a b : Rat) : LQ (a + b) ≤ 2 * LQ a + 2 * LQ b + 1 := by
  rw [Rat.add_def']
  have h := LQ_mkRat (a.num * b.den + b.num * a.den) (a.den * b.den)
  have h1 := LZ_add (a.num * b.den) (b.num * a.den)
  have h2 := LZ_mul a.num b.den
  have h3 := LZ_mul b.num a.den
  have h4 := L_mul a.den b.den
  have h5 := L_pos a.den_nz
  rw [LZ_nat] at h2 h3
  unfold LQ at *
  omega
theorem LQ_mul (a b : Rat) : LQ (a * b) ≤ LQ a + LQ b := by
  rw [Rat.mul_def']
  have h := LQ_mkRat (a.num * b.num) (a.den * b.den)
  have h2 := LZ_mul a.num b.num
  have h4 := L_mul a.den b.den
  have h5 := L_pos a.den_nz
  unfold LQ at *
  omega
theorem LQ_sub (a b : Rat) : LQ (a - b) ≤ 2 * LQ a + 2 * LQ b + 1 := by
  rw [Rat.sub_eq_add_neg]
  have := LQ_add a (-b)
  rw [LQ_neg] at this
  exact this
theorem LQ_inv (a : Rat) : LQ a⁻¹ ≤ LQ a + 1 := by
  unfold LQ
  rw [Rat.num_inv, Rat.den_inv]
  by_cases h : a.num = 0
  · simp only [h, if_true, Int.sign_zero, Int.zero_mul, LZ_zero, L_one]; omega
  · simp only [h, if_false]
    have h1 : LZ (a.num.sign * a.den) = L a.den := by
      unfold LZ
      rw [Int.natAbs_mul, Int.natAbs_sign_of_ne_zero h]
      simp
    rw [h1]
    unfold LZ
    omega

/-! ### Numbers in Go's hands -/
/-- Limbs of a natural number, at most M of them. -/
structure Nt (M : Nat) (a : List Int) (n : Nat) : Prop where
  lim : Lim a
  val : V a = n
  len : a.length ≤ M

theorem Nt.mk' {a : List Int} (h : Lim a) : Nt a.length a (V a).toNat := ⟨h, (V_norm_lim h).2.symm, Nat.le_refl _⟩
theorem Nt.of {M n : Nat} (h : L n ≤ M) : Nt M (FK.lim n) n := ⟨Lim_lim n, V_lim n, h⟩
theorem Nt.norm {M : Nat} {a : List Int} {n : Nat} (h : Nt M a n) : FK.norm a = FK.lim n := by
  rw [norm_eq_lim h.lim, h.val]; rfl
theorem Nt.L {M : Nat} {a : List Int} {n : Nat} (h : Nt M a n) : L n ≤ M := by
  have : V a < B ^ a.length := V_lt h.lim
  rw [h.val] at this
  have h2 : n < 4294967296 ^ a.length := by
    apply Int.ofNat_lt.1
    rw [Int.natCast_pow]
    exact this
  exact Nat.le_trans (L_le h2) h.len
theorem Nt.mono {M M' : Nat} {a : List Int} {n : Nat} (h : Nt M a n) (hM : M ≤ M') : Nt M' a n := ⟨h.lim, h.val, Nat.le_trans h.len hM⟩
theorem Nt.own {M : Nat} {a : List Int} {n : Nat} (h : Nt M a n) (hM : M ≤ 70368744177664) : Ev (fun k => nat_own.f k a) (FK.lim n) := by
  rw [← h.norm]
  exact own_ev a (Nat.le_trans h.len hM)
theorem Nt.trim {M : Nat} {a : List Int} {n : Nat} (h : Nt M a n) (hM : M ≤ 70368744177664) : Ev (fun k => nat_trim.f k a) (FK.lim n) := by
  rw [← h.norm]
  exact trim_ev a (by have := h.len; omega)

/-- A whole number that Go's data say. -/
def Zv (a : Bool × List Int) : Int := if a.1 then -V a.2 else V a.2
/-- Limbs of a whole number. -/
def int (z : Int) : Bool × List Int := (decide (z < 0), lim z.natAbs)

structure Zt (M : Nat) (a : Bool × List Int) (z : Int) : Prop where
  lim : Lim a.2
  val : Zv a = z
  len : a.2.length ≤ M

theorem Zt.of {M : Nat} {z : Int} (h : LZ z ≤ M) : Zt M (int z) z := by
  refine ⟨Lim_lim _, ?_, h⟩
  unfold Zv int
  simp only [decide_eq_true_eq, V_lim]
  split <;> omega
theorem Zt.nt {M : Nat} {a : Bool × List Int} {z : Int} (h : Zt M a z) : Nt M a.2 z.natAbs := by
  refine ⟨h.lim, ?_, h.len⟩
  have h1 := h.val
  have h2 := V_nonneg h.lim
  unfold Zv at h1
  split at h1 <;> omega
theorem Zt.LZ {M : Nat} {a : Bool × List Int} {z : Int} (h : Zt M a z) : LZ z ≤ M := h.nt.L
theorem Zt.mono {M M' : Nat} {a : Bool × List Int} {z : Int} (h : Zt M a z) (hM : M ≤ M') : Zt M' a z := ⟨h.lim, h.val, Nat.le_trans h.len hM⟩
theorem Zt.pos {M : Nat} {a : List Int} {n : Nat} (h : Nt M a n) : Zt M (false, a) n := ⟨h.lim, by simp [Zv, h.val], h.len⟩

/-- Limbs of a rational number. -/
def rat (q : Rat) : (Bool × List Int) × List Int := (int q.num, lim q.den)
def Qv (r : (Bool × List Int) × List Int) : Rat := mkRat (Zv r.1) (V r.2).toNat

structure Rt (M : Nat) (r : (Bool × List Int) × List Int) (q : Rat) : Prop where
  num : Lim r.1.2
  den : Lim r.2
  nlen : r.1.2.length ≤ M
  dlen : r.2.length ≤ M
  val : Qv r = q

theorem Rt.of {M : Nat} {q : Rat} (h : LQ q ≤ M) : Rt M (rat q) q := by
  refine ⟨Lim_lim _, Lim_lim _, Nat.le_trans (LQ_num q) h, Nat.le_trans (LQ_den q) h, ?_⟩
  have : Zv (int q.num) = q.num := (Zt.of (Nat.le_refl (LZ q.num))).val
  unfold Qv rat
  simp only [this, V_lim, Int.toNat_natCast]
  exact Rat.mkRat_self q
theorem Rt.mono {M M' : Nat} {a : (Bool × List Int) × List Int} {q : Rat} (h : Rt M a q) (hM : M ≤ M') : Rt M' a q :=
  ⟨h.num, h.den, Nat.le_trans h.nlen hM, Nat.le_trans h.dlen hM, h.val⟩
theorem Rt.zt {M : Nat} {r : (Bool × List Int) × List Int} {q : Rat} (h : Rt M r q) : Zt M r.1 (Zv r.1) := ⟨h.num, rfl, h.nlen⟩
theorem Rt.nt {M : Nat} {r : (Bool × List Int) × List Int} {q : Rat} (h : Rt M r q) : Nt M r.2 (V r.2).toNat := ⟨h.den, (V_norm_lim h.den).2.symm, h.dlen⟩
theorem Rt.LQ {M : Nat} {r : (Bool × List Int) × List Int} {q : Rat} (h : Rt M r q) (hM : 1 ≤ M) : LQ q ≤ 2 * M := by
  rw [← h.val]
  have h1 := LQ_mkRat (Zv r.1) (V r.2).toNat
  have h2 := h.zt.LZ
  have h3 := h.nt.L
  unfold Qv
  omega

end Go.FK
