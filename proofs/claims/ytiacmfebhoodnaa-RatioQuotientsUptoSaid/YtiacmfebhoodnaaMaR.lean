/- The plain law: the reference's digits, shifts, division and greatest common divisor. -/
import Derived.Test.YtiacmfebhoodnaaMaQ
namespace Go.FK

theorem get_V : ∀ {l : List Int}, Lim l → ∀ (j : Nat), nthD 0 l j = V l / B ^ j % B
  | [], _, j => by simp [nthD, V]
  | x :: xs, h, 0 => by
    have h1 := h.cons.1
    simp only [nthD, V, Int.pow_zero, Int.ediv_one, B] at *
    omega
  | x :: xs, h, j + 1 => by
    have ih := get_V h.cons.2 j
    have h1 := h.cons.1
    simp only [nthD, V]
    rw [ih, Int.pow_succ, Int.mul_comm (B ^ j) B, ← Int.ediv_ediv_of_nonneg (by simp [B])]
    congr 2
    simp only [B] at *
    omega

theorem Nt.get {M m : Nat} {a : List Int} (ha : Nt M a m) (j : Nat) : nthD 0 a j = ((m / 2 ^ (32 * j) % 4294967296 : Nat) : Int) := by
  rw [get_V ha.lim, ha.val]
  have : B ^ j = ((2 ^ (32 * j) : Nat) : Int) := by rw [Nat.pow_mul, Int.natCast_pow]; rfl
  rw [this]
  rfl

theorem bit_eq {k : Nat} {M m : Nat} {a : List Int} (ha : Nt M a m) (hM : M ≤ 35184372088832) (i : Nat) (hi : i ≤ 1152921504606846976) : ref01_Bit.f k a (i : Int) = some (m.testBit i) := by
  have la := ha.len
  unfold ref01_Bit.f ref01_Bit.e
  have e1 : IntKind.i64.wrap (Int.tdiv (i : Int) 32) = ((i / 32 : Nat) : Int) := by
    rw [Int.tdiv_eq_ediv_of_nonneg (by omega), wrap_i64 (by omega) (by omega)]; omega
  have e2 : IntKind.u64.wrap (Int.tmod (i : Int) 32) = ((i % 32 : Nat) : Int) := by
    rw [Int.tmod_eq_emod_of_nonneg (by omega), wrap_u64_id (by omega) (by omega)]; omega
  simp only [e1, e2, Int.toNat_natCast]
  rw [dec_t (by omega)]
  simp only [cond_true]
  by_cases h : i / 32 < a.length
  · simp (disch := omega) only [dec_t, dec_f, cond_true, cond_false, Bool.and_true]
    have hg := ha.get (i / 32)
    have e3 : Int.fdiv (nthD 0 a (i / 32)) (2 ^ min (i % 32) 32) = ((m / 2 ^ (32 * (i / 32)) % 4294967296 / 2 ^ (i % 32) : Nat) : Int) := by
      rw [hg, Nat.min_eq_left (by omega), Int.fdiv_eq_ediv_of_nonneg _ (Int.le_of_lt (Int.pow_pos (by omega))), Int.natCast_ediv, Int.natCast_pow]; rfl
    rw [e3]
    have hlt : m / 2 ^ (32 * (i / 32)) % 4294967296 / 2 ^ (i % 32) < 4294967296 := Nat.lt_of_le_of_lt (Nat.div_le_self _ _) (Nat.mod_lt _ (by omega))
    have e5 : bitsI .and .u32 ((m / 2 ^ (32 * (i / 32)) % 4294967296 / 2 ^ (i % 32) : Nat) : Int) 1 = ((m / 2 ^ (32 * (i / 32)) % 4294967296 / 2 ^ (i % 32) % 2 : Nat) : Int) := by
      generalize m / 2 ^ (32 * (i / 32)) % 4294967296 / 2 ^ (i % 32) = z at *
      rw [bits_and32 (by omega) (by omega)]
      simp only [Int.toNat_natCast, Int.toNat_one, Nat.and_one_is_mod]
    rw [e5]
    congr 1
    have e4 : m.testBit i = (m / 2 ^ (32 * (i / 32)) % 2 ^ 32).testBit (i % 32) := by
      rw [Nat.testBit_mod_two_pow, Nat.testBit_div_two_pow, dec_t (by omega), Bool.true_and]
      congr 1
      omega
    rw [e4, Nat.testBit_eq_decide_div_mod_eq]
    apply decide_eq_decide.2
    show ((m / 2 ^ (32 * (i / 32)) % 4294967296 / 2 ^ (i % 32) % 2 : Nat) : Int) = 1 ↔ m / 2 ^ (32 * (i / 32)) % 4294967296 / 2 ^ (i % 32) % 2 = 1
    generalize m / 2 ^ (32 * (i / 32)) % 4294967296 / 2 ^ (i % 32) = z
    omega
  · have hz : m < 2 ^ i := by
      have h1 : V a < B ^ a.length := V_lt ha.lim
      rw [ha.val] at h1
      have h2 : m < 4294967296 ^ a.length := by
        apply Int.ofNat_lt.1
        rw [Int.natCast_pow]
        exact h1
      have h3 : (4294967296 : Nat) ^ a.length = 2 ^ (32 * a.length) := by rw [Nat.pow_mul]
      have h4 : 2 ^ (32 * a.length) ≤ 2 ^ i := Nat.pow_le_pow_right (by omega) (by omega)
      omega
    rw [Nat.testBit_lt_two_pow hz, dec_f (by omega)]
    rfl

/-! ### Shifts -/
/-- A part of a number moved by s bits and w limbs. -/
def shv (T : Int) (J K : Nat) : Int := T * B ^ J / B ^ K

theorem or_high {u : Nat} {x h : Int} (hu : u ≤ 32) (hx : x = 0) (hh : 0 ≤ h ∧ h < B) : bitsI .or .u32 x h = h := by
  subst hx
  simp only [B] at hh
  rw [bits_or32 (by omega) hh, Int.toNat_zero, Nat.zero_or]
  omega

section
variable (a : List Int) (s : Nat) (J K S : Nat)

/-- What the row is when i limbs have been moved. -/
structure Shi (i : Nat) (o : List Int) : Prop where
  lim : Lim o
  len : o.length = S
  val : V o = V (a.take i) * 2 ^ s * B ^ J / B ^ K
  edge : K ≤ i + J → nthD 0 o (i + J - K) < 2 ^ s
  zero : ∀ j, i + J < j + K → nthD 0 o j = 0

variable {a s J K S}

theorem lo_hi {y : Int} (hs : s < 32) (hy : 0 ≤ y ∧ y < B) : 0 ≤ y * 2 ^ s % B ∧ y * 2 ^ s % B + 2 ^ s ≤ B ∧ 0 ≤ y * 2 ^ s / B ∧ y * 2 ^ s / B < 2 ^ s ∧ y * 2 ^ s % B + B * (y * 2 ^ s / B) = y * 2 ^ s ∧ y * 2 ^ s < 18446744073709551616 ∧ 0 ≤ y * 2 ^ s ∧ (2 : Int) ^ s ≤ 2147483648 := by
  have hp : (2 : Int) ^ s * 2 ^ (32 - s) = B := by rw [← Int.pow_add, show s + (32 - s) = 32 by omega]; rfl
  have hp0 : (0 : Int) < 2 ^ s := Int.pow_pos (by omega)
  have hp1 : (0 : Int) < 2 ^ (32 - s) := Int.pow_pos (by omega)
  have e4 : y * 2 ^ s / B = y / 2 ^ (32 - s) := by rw [← hp, Int.mul_comm y, Int.mul_ediv_mul_of_pos _ _ hp0]
  have h1 : 0 ≤ y / 2 ^ (32 - s) := Int.ediv_nonneg hy.1 (by omega)
  have h2 : y / 2 ^ (32 - s) < 2 ^ s := Int.ediv_lt_of_lt_mul hp1 (by rw [hp]; exact hy.2)
  have hd : (y * 2 ^ s) % B = 2 ^ s * (y % 2 ^ (32 - s)) := by rw [← hp, Int.mul_comm y, Int.mul_emod_mul_of_pos _ _ hp0]
  have h6 := Int.emod_lt_of_pos y hp1
  have h7 : 2 ^ s * (y % 2 ^ (32 - s) + 1) ≤ 2 ^ s * 2 ^ (32 - s) := Int.mul_le_mul_of_nonneg_left h6 (by omega)
  rw [hp, Int.mul_add] at h7
  have h8 : (2 : Int) ^ s ≤ 2147483648 := by
    have h9 : (2 : Nat) ^ s ≤ 2 ^ 31 := Nat.pow_le_pow_right (by omega) (by omega)
    have h10 : ((2 ^ s : Nat) : Int) ≤ ((2 ^ 31 : Nat) : Int) := Int.ofNat_le.2 h9
    rw [Int.natCast_pow] at h10
    exact h10
  have h11 : y * 2 ^ s ≤ y * 2147483648 := Int.mul_le_mul_of_nonneg_left h8 hy.1
  have h12 : 0 ≤ y * 2 ^ s := Int.mul_nonneg hy.1 (by omega)
  refine ⟨Int.emod_nonneg _ (by simp [B]), by rw [hd]; omega, by rw [e4]; exact h1, by rw [e4]; exact h2, Int.emod_add_mul_ediv _ _, ?_, h12, h8⟩
  simp only [B] at hy
  omega

theorem T_lt (ha : Lim a) (i : Nat) : 0 ≤ V (a.take i) * 2 ^ s ∧ V (a.take i) * 2 ^ s + 2 ^ s ≤ B ^ i * 2 ^ s := by
  have h := V_bounds' ha i
  have hp0 : (0 : Int) < 2 ^ s := Int.pow_pos (by omega)
  have h2 : (V (a.take i) + 1) * 2 ^ s ≤ B ^ i * 2 ^ s := Int.mul_le_mul_of_nonneg_right h.2 (by omega)
  rw [Int.add_mul] at h2
  exact ⟨Int.mul_nonneg h.1 (by omega), by omega⟩

/-- A limb moved: to a place in the row, between, or ahead of it. -/
theorem Shi.next (ha : Lim a) (hs : s < 32) (hJK : J = 0 ∨ K = 0) {i : Nat} {o : List Int} (h : Shi a s J K S i o) (hi : i < a.length)
    (lo hi' : Int) (hlo : lo = nthD 0 a i * 2 ^ s % B) (hhi : hi' = nthD 0 a i * 2 ^ s / B) :
    (∀ p, i + J = p + K → p + 1 < S → Shi a s J K S (i + 1) (setN hi' (setN (nthD 0 o p + lo) o p) (p + 1))) ∧
    (∀ p, i + J = p + K → p + 1 = S → hi' = 0 → Shi a s J K S (i + 1) (setN (nthD 0 o p + lo) o p)) ∧
    (i + 1 + J = K → 0 < S → Shi a s J K S (i + 1) (setN hi' o 0)) ∧
    (i + 1 + J < K → Shi a s J K S (i + 1) o) := by
  have hy := ha.get' i
  obtain ⟨l0, l1, h0, h1, hsum, _, _, _⟩ := lo_hi (s := s) hs hy
  rw [← hlo] at l0 l1
  rw [← hhi] at h0 h1
  rw [← hlo, ← hhi] at hsum
  have hT := T_lt (s := s) ha i
  have hp0 : (0 : Int) < 2 ^ s := Int.pow_pos (by omega)
  have hBK := Bpow_pos K
  have hval : V (a.take (i + 1)) * 2 ^ s * B ^ J = V (a.take i) * 2 ^ s * B ^ J + (lo + B * hi') * B ^ (i + J) := by
    rw [V_take_succ', hsum, Int.pow_add]
    grind
  have hin : ∀ p, i + J = p + K → V (a.take (i + 1)) * 2 ^ s * B ^ J / B ^ K = V o + (lo + B * hi') * B ^ p := by
    intro p hp
    rw [hval, h.val, hp, Int.pow_add]
    rw [show (lo + B * hi') * (B ^ p * B ^ K) = (lo + B * hi') * B ^ p * B ^ K by rw [Int.mul_assoc]]
    rw [Int.add_mul_ediv_right _ _ (by omega)]
  refine ⟨?_, ?_, ?_, ?_⟩
  · intro p hp hpS
    have hx := h.lim.get' p
    have hxe := h.edge (by omega)
    rw [show i + J - K = p by omega] at hxe
    have hz := h.zero (p + 1) (by omega)
    refine ⟨(h.lim.set ⟨by omega, by omega⟩).set ⟨h0, by omega⟩, by rw [length_setN, length_setN]; exact h.len, ?_, ?_, ?_⟩
    · rw [hin p hp, V_setN _ _ _ (by rw [length_setN, h.len]; omega), V_setN _ _ _ (by rw [h.len]; omega), nthD_setN, if_neg (by omega), hz, Int.pow_succ]
      grind
    · intro _
      rw [show i + 1 + J - K = p + 1 by omega, nthD_setN, if_pos ⟨rfl, by rw [length_setN, h.len]; omega⟩]
      exact h1
    · intro j hj
      rw [nthD_setN, if_neg (by omega), nthD_setN, if_neg (by omega)]
      exact h.zero j (by omega)
  · intro p hp hpS h00
    have hx := h.lim.get' p
    have hxe := h.edge (by omega)
    rw [show i + J - K = p by omega] at hxe
    refine ⟨h.lim.set ⟨by omega, by omega⟩, by rw [length_setN]; exact h.len, ?_, ?_, ?_⟩
    · rw [hin p hp, V_setN _ _ _ (by rw [h.len]; omega), h00]
      grind
    · intro _
      rw [show i + 1 + J - K = p + 1 by omega, nthD_beyond (by rw [length_setN, h.len]; omega)]
      exact hp0
    · intro j hj
      rw [nthD_setN, if_neg (by omega)]
      exact h.zero j (by omega)
  · intro hK hS
    have hJ : J = 0 := by omega
    subst hJ
    have hz := h.zero 0 (by omega)
    have hVo : V o = 0 := by
      rw [h.val]
      apply Int.ediv_eq_zero_of_lt
      · rw [Int.pow_zero, Int.mul_one]; exact hT.1
      · rw [Int.pow_zero, Int.mul_one, ← hK, Nat.add_zero, Int.pow_succ]
        have : B ^ i * 2 ^ s ≤ B ^ i * B := Int.mul_le_mul_of_nonneg_left (by omega) (Int.le_of_lt (Bpow_pos i))
        omega
    refine ⟨h.lim.set ⟨h0, by omega⟩, by rw [length_setN]; exact h.len, ?_, ?_, ?_⟩
    · rw [V_setN _ _ _ (by rw [h.len]; omega), hVo, hz, hval, ← hK]
      simp only [Int.pow_zero, Int.mul_one, Nat.add_zero, Int.one_mul, Int.sub_zero, Int.zero_add]
      have e : V (a.take i) * 2 ^ s + (lo + B * hi') * B ^ i = (V (a.take i) * 2 ^ s + lo * B ^ i) + hi' * B ^ (i + 1) := by rw [Int.pow_succ]; grind
      rw [e, Int.add_mul_ediv_right _ _ (by have := Bpow_pos (i + 1); omega), Int.ediv_eq_zero_of_lt, Int.zero_add]
      · have := Int.mul_nonneg l0 (Int.le_of_lt (Bpow_pos i)); omega
      · have h9 : (lo + 2 ^ s) * B ^ i ≤ B * B ^ i := Int.mul_le_mul_of_nonneg_right l1 (Int.le_of_lt (Bpow_pos i))
        rw [Int.add_mul, Int.mul_comm (2 ^ s)] at h9
        rw [Int.pow_succ, Int.mul_comm (B ^ i) B]
        omega
    · intro _
      rw [show i + 1 + 0 - K = 0 by omega, nthD_setN, if_pos ⟨rfl, by rw [h.len]; omega⟩]
      exact h1
    · intro j hj
      rw [nthD_setN, if_neg (by omega)]
      exact h.zero j (by omega)
  · intro hK
    have hJ : J = 0 := by omega
    subst hJ
    refine ⟨h.lim, h.len, ?_, fun h2 => by omega, fun j hj => h.zero j (by omega)⟩
    have small : ∀ t : Nat, t + 1 ≤ K → V (a.take t) * 2 ^ s * B ^ 0 / B ^ K = 0 := by
      intro t ht
      have hT' := T_lt (s := s) ha t
      rw [Int.pow_zero, Int.mul_one]
      apply Int.ediv_eq_zero_of_lt hT'.1
      have h3 : B ^ t * 2 ^ s ≤ B ^ t * B := Int.mul_le_mul_of_nonneg_left (by omega) (Int.le_of_lt (Bpow_pos t))
      rw [← Int.pow_succ] at h3
      have h4 := Bpow_le ht
      exact Int.lt_of_lt_of_le (by omega) (Int.le_trans h3 h4)
    rw [h.val, small i (by omega), small (i + 1) (by omega)]
end

end Go.FK
