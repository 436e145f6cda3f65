/- The plain law: limbs and the numbers that they say. -/
import Derived.Test.YtiacmfebhoodnaaMaA
namespace Go.FK

abbrev B : Int := 4294967296

/-- The number that limbs say, the lowest first. -/
def V : List Int → Int
  | [] => 0
  | x :: xs => x + B * V xs

/-- Limbs: 32 bits each. -/
def Lim (l : List Int) : Prop := ∀ x ∈ l, 0 ≤ x ∧ x < B

/-- Without noughts at the end. -/
def norm : List Int → List Int
  | [] => []
  | x :: xs => match norm xs with
    | [] => if x = 0 then [] else [x]
    | y :: ys => x :: y :: ys

theorem Lim.cons {x : Int} {xs : List Int} (h : Lim (x :: xs)) : (0 ≤ x ∧ x < B) ∧ Lim xs := ⟨h x (by simp), fun y hy => h y (by simp [hy])⟩
theorem Lim.mk {x : Int} {xs : List Int} (h1 : 0 ≤ x ∧ x < B) (h2 : Lim xs) : Lim (x :: xs) := fun y hy => by
  rcases List.mem_cons.1 hy with h | h
  · rw [h]; exact h1
  · exact h2 y h
theorem Lim.nil : Lim [] := fun _ h => by cases h

theorem V_nonneg : ∀ {l : List Int}, Lim l → 0 ≤ V l
  | [], _ => Int.le_refl _
  | x :: xs, h => by
    have h1 := h.cons.1
    have h2 := V_nonneg h.cons.2
    simp only [V, B] at *
    omega

theorem V_norm : ∀ l : List Int, V (norm l) = V l
  | [] => rfl
  | x :: xs => by
    have ih := V_norm xs
    simp only [norm]
    split
    · rename_i e
      rw [e] at ih
      simp only [V] at ih ⊢
      rw [← ih]
      split
      · rename_i hx; subst hx; simp [V]
      · simp [V]
    · rename_i y ys e
      rw [e] at ih
      simp only [V] at ih ⊢
      rw [ih]

theorem Lim_norm : ∀ {l : List Int}, Lim l → Lim (norm l)
  | [], _ => Lim.nil
  | x :: xs, h => by
    have ih := Lim_norm h.cons.2
    simp only [norm]
    split
    · split
      · exact Lim.nil
      · exact Lim.mk h.cons.1 Lim.nil
    · rename_i e
      rw [e] at ih
      exact Lim.mk h.cons.1 ih

/-- A number's limbs. -/
def lim (n : Nat) : List Int := if h : n = 0 then [] else ((n % 4294967296 : Nat) : Int) :: lim (n / 4294967296)
termination_by n
decreasing_by omega

theorem lim_zero : lim 0 = [] := by rw [lim]; simp
theorem lim_pos {n : Nat} (h : n ≠ 0) : lim n = ((n % 4294967296 : Nat) : Int) :: lim (n / 4294967296) := by rw [lim]; simp [h]

theorem Lim_lim (n : Nat) : Lim (lim n) := by
  induction n using Nat.strongRecOn with
  | _ n ih =>
    by_cases h : n = 0
    · rw [h, lim_zero]; exact Lim.nil
    · rw [lim_pos h]
      exact Lim.mk (by simp only [B]; omega) (ih _ (by omega))

theorem V_lim (n : Nat) : V (lim n) = n := by
  induction n using Nat.strongRecOn with
  | _ n ih =>
    by_cases h : n = 0
    · rw [h, lim_zero]; rfl
    · rw [lim_pos h]
      simp only [V, ih _ (show n / 4294967296 < n by omega), B]
      omega

theorem norm_eq_lim : ∀ {l : List Int}, Lim l → norm l = lim (V l).toNat
  | [], _ => by simp [norm, V, lim_zero]
  | x :: xs, h => by
    have ih := norm_eq_lim h.cons.2
    have h1 := h.cons.1
    have h2 := V_nonneg h.cons.2
    simp only [B] at h1
    simp only [norm, ih, V, B]
    by_cases h0 : V xs = 0
    · rw [h0]
      simp only [Int.toNat_zero, lim_zero]
      by_cases hx : x = 0
      · subst hx; simp [lim_zero]
      · rw [if_neg hx, lim_pos (by omega)]
        have e1 : (x + 4294967296 * 0).toNat / 4294967296 = 0 := by omega
        rw [e1, lim_zero]
        congr 1
        omega
    · have hn : (V xs).toNat ≠ 0 := by omega
      have hn2 : (x + 4294967296 * V xs).toNat ≠ 0 := by omega
      rw [lim_pos hn, lim_pos hn2]
      simp only
      have e1 : (x + 4294967296 * V xs).toNat / 4294967296 = (V xs).toNat := by omega
      have e2 : (((x + 4294967296 * V xs).toNat % 4294967296 : Nat) : Int) = x := by omega
      rw [e1, e2, lim_pos hn]

theorem lim_length {n m : Nat} (h : n < 4294967296 ^ m) : (lim n).length ≤ m := by
  induction m generalizing n with
  | zero =>
    have : n = 0 := by simpa using h
    rw [this, lim_zero]; exact Nat.le_refl _
  | succ m ih =>
    by_cases h0 : n = 0
    · rw [h0, lim_zero]; exact Nat.zero_le _
    · rw [lim_pos h0]
      have : n / 4294967296 < 4294967296 ^ m := by
        rw [Nat.pow_succ] at h
        exact Nat.div_lt_of_lt_mul (by rw [Nat.mul_comm]; exact h)
      have := ih this
      simp; omega

theorem V_lt : ∀ {l : List Int}, Lim l → V l < B ^ l.length
  | [], _ => by simp [V]
  | x :: xs, h => by
    have ih := V_lt h.cons.2
    have h1 := h.cons.1
    simp only [V, List.length_cons, Int.pow_succ]
    have : V xs + 1 ≤ B ^ xs.length := ih
    have h3 : B * (V xs + 1) ≤ B * B ^ xs.length := Int.mul_le_mul_of_nonneg_left this (by simp [B])
    have h4 : B * (V xs + 1) = B * V xs + B := by rw [Int.mul_add, Int.mul_one]
    rw [Int.mul_comm (B ^ xs.length) B]
    omega

end Go.FK
