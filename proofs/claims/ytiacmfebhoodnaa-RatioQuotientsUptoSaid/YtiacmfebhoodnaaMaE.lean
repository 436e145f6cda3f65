/- The plain law: comparing. -/
import Derived.Test.YtiacmfebhoodnaaMaD
namespace Go.FK

theorem V_append : ∀ (l m : List Int), V (l ++ m) = V l + B ^ l.length * V m
  | [], m => by simp [V]
  | x :: xs, m => by
    simp only [List.cons_append, V, V_append xs m, List.length_cons, Int.pow_succ]
    rw [Int.mul_add, Int.mul_comm (B ^ xs.length) B, Int.mul_assoc, Int.add_assoc]

theorem V_take_succ {a : List Int} {n : Nat} (h : n < a.length) : V (a.take (n + 1)) = V (a.take n) + B ^ n * nthD 0 a n := by
  rw [take_succ_get h, V_append]
  have : (a.take n).length = n := by simp; omega
  rw [this]
  simp [V]

theorem Lim.take {a : List Int} (h : Lim a) (n : Nat) : Lim (a.take n) := fun x hx => h x (List.mem_of_mem_take hx)
theorem Lim.get {a : List Int} (h : Lim a) {n : Nat} (hn : n < a.length) : 0 ≤ nthD 0 a n ∧ nthD 0 a n < B := by
  rw [nthD_eq, List.getD_eq_getElem?_getD]
  simp only [hn, List.getElem?_eq_getElem, Option.getD_some]
  exact h _ (List.getElem_mem hn)

theorem Bpow_pos (n : Nat) : 0 < B ^ n := Int.pow_pos (by simp [B])

def sgn (x y : Int) : Int := if x < y then -1 else if x = y then 0 else 1

theorem sgn_top {n : Nat} {u v x y : Int} (hu : 0 ≤ u ∧ u < B ^ n) (hv : 0 ≤ v ∧ v < B ^ n) : sgn (u + B ^ n * x) (v + B ^ n * y) = if x = y then sgn u v else if x < y then -1 else 1 := by
  have hB := Bpow_pos n
  unfold sgn
  by_cases h : x = y
  · subst h
    rw [if_pos rfl]
    by_cases h1 : u < v
    · rw [if_pos h1, if_pos (by omega)]
    · rw [if_neg h1, if_neg (by omega)]
      by_cases h2 : u = v
      · rw [if_pos h2, if_pos (by omega)]
      · rw [if_neg h2, if_neg (by omega)]
  · rw [if_neg h]
    by_cases h1 : x < y
    · have : B ^ n * (x + 1) ≤ B ^ n * y := Int.mul_le_mul_of_nonneg_left h1 (by omega)
      rw [Int.mul_add, Int.mul_one] at this
      rw [if_pos h1, if_pos (by omega)]
    · have : B ^ n * (y + 1) ≤ B ^ n * x := Int.mul_le_mul_of_nonneg_left (by omega) (by omega)
      rw [Int.mul_add, Int.mul_one] at this
      rw [if_neg h1, if_neg (by omega), if_neg (by omega)]

theorem V_bounds {a : List Int} (h : Lim a) (n : Nat) (hn : n ≤ a.length) : 0 ≤ V (a.take n) ∧ V (a.take n) < B ^ n := by
  have h1 := V_nonneg (h.take n)
  have h2 := V_lt (h.take n)
  have : (a.take n).length = n := by simp; omega
  rw [this] at h2
  exact ⟨h1, h2⟩

theorem cmp_p0 (a b : List Int) (ha : Lim a) (hb : Lim b) (hl : a.length ≤ 9223372036854775807) : ∀ (n : Nat), n ≤ a.length → n ≤ b.length → Ev (fun k => nat_Cmp.p0 k a b ((n : Int) - 1)) (sgn (V (a.take n)) (V (b.take n))) := by
  intro n
  induction n with
  | zero =>
    intro _ _
    refine Ev.turn (fun k => nat_Cmp.p0_succ k a b _) ?_
    unfold nat_Cmp.e0
    refine Ev.fls (by simp) ?_
    simp [V, sgn]
    exact Ev.pure
  | succ n ih =>
    intro h1 h2
    refine Ev.turn (fun k => nat_Cmp.p0_succ k a b _) ?_
    unfold nat_Cmp.e0
    have e0 : ((n + 1 : Nat) : Int) - 1 = (n : Int) := by omega
    have e : IntKind.i64.wrap ((n : Int) - 1) = (n : Int) - 1 := by rw [wrap_i64 (by omega) (by omega)]
    simp only [e0, e, Int.toNat_natCast]
    rw [V_take_succ (by omega), V_take_succ (by omega), sgn_top (V_bounds ha n (by omega)) (V_bounds hb n (by omega))]
    refine Ev.tru (by simp) (Ev.tru (by simp; omega) (Ev.tru (by simp; omega) ?_))
    by_cases h : nthD 0 a n = nthD 0 b n
    · rw [if_pos h]
      exact Ev.fls (by simp [h]) (ih (by omega) (by omega))
    · rw [if_neg h]
      refine Ev.tru (by simp [h]) (Ev.tru (by simp; omega) (Ev.tru (by simp; omega) ?_))
      by_cases h3 : nthD 0 a n < nthD 0 b n
      · rw [if_pos h3]; exact Ev.tru (by simp [h3]) Ev.pure
      · rw [if_neg h3]; exact Ev.fls (by simp [h3]) Ev.pure

theorem lim_low {n : Nat} (h : n ≠ 0) : 4294967296 ^ ((lim n).length - 1) ≤ n := by
  induction n using Nat.strongRecOn with
  | _ n ih =>
    rw [lim_pos h]
    simp only [List.length_cons, Nat.add_sub_cancel]
    by_cases h0 : n / 4294967296 = 0
    · rw [h0, lim_zero]; simp; omega
    · have := ih _ (by omega) h0
      have hl : (lim (n / 4294967296)).length = ((lim (n / 4294967296)).length - 1) + 1 := by
        rw [lim_pos h0]; simp
      rw [hl, Nat.pow_succ]
      have : 4294967296 ^ ((lim (n / 4294967296)).length - 1) * 4294967296 ≤ n / 4294967296 * 4294967296 := Nat.mul_le_mul_right _ this
      omega

theorem lim_lt_of_length {m n : Nat} (h : (lim m).length < (lim n).length) : m < n := by
  have hn : n ≠ 0 := by
    intro e
    rw [e, lim_zero] at h
    simp at h
  have h1 := lim_low hn
  have h2 : V (lim m) < B ^ (lim m).length := V_lt (Lim_lim m)
  rw [V_lim] at h2
  have h3 : (m : Int) < ((4294967296 ^ (lim m).length : Nat) : Int) := by rw [Int.natCast_pow]; exact h2
  have h4 : m < 4294967296 ^ (lim m).length := by omega
  have h5 : 4294967296 ^ (lim m).length ≤ 4294967296 ^ ((lim n).length - 1) := Nat.pow_le_pow_right (by omega) (by omega)
  omega

theorem V_norm_lim {a : List Int} (h : Lim a) : norm a = lim (V a).toNat ∧ ((V a).toNat : Int) = V a := ⟨norm_eq_lim h, Int.toNat_of_nonneg (V_nonneg h)⟩

theorem nat_Cmp_ev {a b : List Int} (ha : Lim a) (hb : Lim b) (hla : a.length ≤ 9223372036854775807) (hlb : b.length ≤ 9223372036854775807) : Ev (fun k => nat_Cmp.f k a b) (sgn (V a) (V b)) := by
  unfold nat_Cmp.f nat_Cmp.e
  refine Ev.bind (trim_ev a hla) (Ev.bind (trim_ev b hlb) ?_)
  have ea := V_norm_lim ha
  have eb := V_norm_lim hb
  have na := norm_length a
  have nb := norm_length b
  by_cases h : (norm a).length = (norm b).length
  · refine Ev.fls (by simp [h]) ?_
    have e : IntKind.i64.wrap (((norm a).length : Int) - 1) = ((norm a).length : Int) - 1 := wrap_i64 (by omega) (by omega)
    rw [e]
    have := cmp_p0 (norm a) (norm b) (Lim_norm ha) (Lim_norm hb) (by omega) (norm a).length (Nat.le_refl _) (by omega)
    rw [List.take_length, h, List.take_length, V_norm, V_norm] at this
    rw [h]
    exact this
  · refine Ev.tru (by simp; omega) ?_
    rw [ea.1, eb.1] at h ⊢
    have pa := V_nonneg ha
    have pb := V_nonneg hb
    by_cases hlt : (lim (V a).toNat).length < (lim (V b).toNat).length
    · have := lim_lt_of_length hlt
      refine Ev.tru (by simp; omega) ?_
      have : sgn (V a) (V b) = -1 := by unfold sgn; rw [if_pos (by omega)]
      rw [this]
      exact Ev.pure
    · have := lim_lt_of_length (m := (V b).toNat) (n := (V a).toNat) (by omega)
      refine Ev.fls (by simp; omega) ?_
      have : sgn (V a) (V b) = 1 := by unfold sgn; rw [if_neg (by omega), if_neg (by omega)]
      rw [this]
      exact Ev.pure

end Go.FK
