/- The plain law: dividing by one limb; moving by bits; how many bits. -/
import Derived.Test.YtiacmfebhoodnaaMaI
namespace Go.FK

theorem Div32_ev {hi lo y : Int} (hh : 0 ≤ hi ∧ hi < y) (hl : 0 ≤ lo ∧ lo < B) (hy : y < B) : Ev (fun k => bits_Div32.f k hi lo y) ((hi * B + lo) / y, (hi * B + lo) % y) := by
  have hb : hi < B := by omega
  unfold bits_Div32.f bits_Div32.e
  refine Ev.tru (by simp; omega) (Ev.fls (by simp; omega) ?_)
  refine Ev.turn (fun k => bits_Div32.p7_succ k _ _ _) ?_
  unfold bits_Div32.e7
  have e1 : IntKind.u64.wrap y = y := wrap_u64_id (by omega) (by simp only [B] at *; omega)
  have e2 : IntKind.u64.wrap hi = hi := wrap_u64_id (by omega) (by simp only [B] at *; omega)
  have e3 : IntKind.u64.wrap lo = lo := wrap_u64_id (by omega) (by simp only [B] at *; omega)
  have e4 := or_limbs (x := hi) (y := lo) ⟨hh.1, hb⟩ hl
  have e5 : (2 : Int) ^ 32 = 4294967296 := rfl
  rw [e1, e2, e3, e5, e4]
  refine Ev.fls (by simp; omega) (Ev.fls (by simp; omega) ?_)
  have h0 : 0 ≤ hi * B + lo := by simp only [B] at *; omega
  have h1 : hi * B + lo < y * B := by
    have : (hi + 1) * B ≤ y * B := Int.mul_le_mul_of_nonneg_right (by omega) (by simp [B])
    rw [Int.add_mul] at this
    omega
  rw [Int.tdiv_eq_ediv_of_nonneg h0, Int.tmod_eq_emod_of_nonneg h0]
  have h2 : 0 ≤ (hi * B + lo) / y := Int.ediv_nonneg h0 (by omega)
  have h3 : (hi * B + lo) / y < B := Int.ediv_lt_of_lt_mul (by omega) (by have := Int.mul_comm y B; omega)
  have h4 := Int.emod_nonneg (hi * B + lo) (show y ≠ 0 by omega)
  have h5 := Int.emod_lt_of_pos (hi * B + lo) (show 0 < y by omega)
  rw [wrap_u64_id h2 (by simp only [B] at *; omega), wrap_u32_id h2 h3, wrap_u32_id h4 (by simp only [B] at *; omega)]
  exact Ev.pure

theorem short_p0 (a : List Int) (b : Int) (ha : Lim a) (hl : a.length ≤ 17592186044416) (hb : 0 < b ∧ b < B) : ∀ (n : Nat) (q : List Int) (r : Int), n ≤ a.length → q.length = a.length → Lim q → (∀ j, j < n → nthD 0 q j = 0) → 0 ≤ r ∧ r < b →
    V q * b + B ^ n * r + V (a.take n) = V a → ∃ q', Ev (fun k => nat_short.p0 k q a b r ((n : Int) - 1)) (q', V a % b) ∧ q'.length = a.length ∧ Lim q' ∧ V q' = V a / b := by
  intro n
  induction n with
  | zero =>
    intro q r hn hq hlq hz hr hV
    simp only [Int.pow_zero, Int.one_mul, List.take_zero, V, Int.add_zero] at hV
    have h1 : V a / b = V q ∧ V a % b = r := by
      rw [Int.ediv_emod_unique (by omega)]
      refine ⟨?_, hr.1, hr.2⟩
      rw [← hV, Int.mul_comm]; omega
    refine ⟨q, ?_, hq, hlq, h1.1.symm⟩
    rw [h1.2]
    refine Ev.turn (fun k => nat_short.p0_succ k _ _ _ _ _) ?_
    unfold nat_short.e0
    exact Ev.fls (by simp) Ev.pure
  | succ n ih =>
    intro q r hn hq hlq hz hr hV
    have hx := ha.get' n
    have e1 : IntKind.i64.wrap ((n : Int) - 1) = (n : Int) - 1 := wrap_i64 (by omega) (by omega)
    have hd := Div32_ev (hi := r) (lo := nthD 0 a n) (y := b) hr hx hb.2
    have h0 : 0 ≤ r * B + nthD 0 a n := by simp only [B] at *; omega
    have h1 : r * B + nthD 0 a n < b * B := by
      have : (r + 1) * B ≤ b * B := Int.mul_le_mul_of_nonneg_right (by omega) (by simp [B])
      rw [Int.add_mul] at this
      omega
    have h2 : 0 ≤ (r * B + nthD 0 a n) / b := Int.ediv_nonneg h0 (by omega)
    have h3 : (r * B + nthD 0 a n) / b < B := Int.ediv_lt_of_lt_mul (by omega) (by have := Int.mul_comm b B; omega)
    have h4 := Int.emod_nonneg (r * B + nthD 0 a n) (show b ≠ 0 by omega)
    have h5 := Int.emod_lt_of_pos (r * B + nthD 0 a n) (show 0 < b by omega)
    have h6 := Int.emod_add_mul_ediv (r * B + nthD 0 a n) b
    have hV2 : V (setN ((r * B + nthD 0 a n) / b) q n) * b + B ^ n * ((r * B + nthD 0 a n) % b) + V (a.take n) = V a := by
      rw [V_setN _ _ _ (by omega), hz n (by omega)]
      rw [V_take_succ', Int.pow_succ] at hV
      generalize (r * B + nthD 0 a n) / b = d at *
      generalize (r * B + nthD 0 a n) % b = s at *
      grind
    obtain ⟨q', k1, k2⟩ := ih (setN ((r * B + nthD 0 a n) / b) q n) ((r * B + nthD 0 a n) % b) (by omega) (by rw [length_setN]; exact hq) (hlq.set ⟨h2, h3⟩)
      (fun j hj => by rw [nthD_setN, if_neg (by omega)]; exact hz j (by omega)) ⟨h4, h5⟩ hV2
    refine ⟨q', ?_, k2⟩
    refine Ev.turn (fun k => nat_short.p0_succ k _ _ _ _ _) ?_
    unfold nat_short.e0
    have e0 : ((n + 1 : Nat) : Int) - 1 = (n : Int) := by omega
    rw [e0]
    simp only [Int.toNat_natCast, e1]
    refine Ev.tru (by simp) (Ev.tru (by simp; omega) (Ev.bind hd ?_))
    refine Ev.tru (by simp; omega) ?_
    exact k1

theorem Nt.short {M m : Nat} {a : List Int} {b : Nat} (ha : Nt M a m) (hM : M ≤ 17592186044416) (hb : 0 < b) (hb2 : (b : Int) < B) : ∃ q, Ev (fun k => nat_short.f k a b) (q, ((m % b : Nat) : Int)) ∧ Nt M q (m / b) := by
  have la := ha.len
  obtain ⟨q, h1, h2, h3, h4⟩ := short_p0 a b ha.lim (by omega) ⟨by omega, hb2⟩ a.length (List.replicate a.length 0) 0 (Nat.le_refl _) (by simp) (Lim_replicate_zero _)
    (fun j hj => by rw [nthD_eq, List.getD_eq_getElem?_getD]; by_cases h : j < a.length <;> simp [List.getElem?_replicate, h]) (by omega) (by simp [V_replicate_zero])
  refine ⟨q, ?_, h3, by rw [h4, ha.val]; simp, by omega⟩
  unfold nat_short.f nat_short.e
  have e1 : IntKind.i64.wrap ((a.length : Int) - 1) = (a.length : Int) - 1 := wrap_i64 (by omega) (by omega)
  rw [e1]
  simp only [Int.toNat_natCast]
  refine Ev.tru (by simp; omega) ?_
  rw [ha.val] at h1
  exact h1

/-! ### Moving by bits -/
theorem or_low {u : Nat} {x y : Int} (hu : u ≤ 32) (hx : 0 ≤ x ∧ x < 2 ^ u) (hy : 0 ≤ y) : bitsI .or .u32 x ((y * 2 ^ u) % B) = x + (y * 2 ^ u) % B := by
  obtain ⟨n, rfl⟩ : ∃ n : Nat, x = n := ⟨x.toNat, by omega⟩
  obtain ⟨m, rfl⟩ : ∃ m : Nat, y = m := ⟨y.toNat, by omega⟩
  have hn : n < 2 ^ u := by have := hx.2; exact_mod_cast this
  have hp : 2 ^ u ≤ 2 ^ 32 := Nat.pow_le_pow_right (by omega) hu
  have e : ((m : Int) * 2 ^ u) % B = ((2 ^ u * (m % 2 ^ (32 - u)) : Nat) : Int) := by
    have e2 : 2 ^ u * (m % 2 ^ (32 - u)) = m * 2 ^ u % 4294967296 := by
      rw [← Nat.mul_mod_mul_left, ← Nat.pow_add, show u + (32 - u) = 32 by omega, Nat.mul_comm (2 ^ u) m]
    rw [e2]
    simp [B]
  have hlt : 2 ^ u * (m % 2 ^ (32 - u)) < 4294967296 := by
    have : m % 2 ^ (32 - u) < 2 ^ (32 - u) := Nat.mod_lt _ (Nat.pow_pos (by omega))
    have h2 : 2 ^ u * (m % 2 ^ (32 - u)) < 2 ^ u * 2 ^ (32 - u) := Nat.mul_lt_mul_of_pos_left this (Nat.pow_pos (by omega))
    rw [← Nat.pow_add, show u + (32 - u) = 32 by omega] at h2
    exact h2
  rw [e, bits_or32 (by omega) (by omega)]
  simp only [Int.toNat_natCast]
  rw [Nat.or_comm, ← Nat.two_pow_add_eq_or_of_lt hn]
  omega

theorem moved_p0 (a : List Int) (ha : Lim a) (hl : a.length ≤ 17592186044416) (u : Nat) (hu : u < 32) : ∀ (m i : Nat) (c : List Int), m + i = a.length → c.length = a.length + 1 → Lim c → nthD 0 c i < 2 ^ u → V (c.take (i + 1)) = V (a.take i) * 2 ^ u → (∀ j, i < j → nthD 0 c j = 0) →
    ∃ c', Ev (fun k => nat_moved.p0 k c a (u : Int) (a.length : Int) (i : Int)) c' ∧ c'.length = a.length + 1 ∧ Lim c' ∧ V c' = V a * 2 ^ u := by
  intro m
  induction m with
  | zero =>
    intro i c hi hc hlc hx hV hz
    have hi : i = a.length := by omega
    subst hi
    rw [List.take_of_length_le (by omega), List.take_of_length_le (Nat.le_refl _)] at hV
    refine ⟨c, ?_, hc, hlc, hV⟩
    refine Ev.turn (fun k => nat_moved.p0_succ k _ _ _ _ _) ?_
    unfold nat_moved.e0
    exact Ev.fls (by simp) Ev.pure
  | succ m ih =>
    intro i c hi hc hlc hx hV hz
    have hy := ha.get' i
    have hc0 := hlc.get' i
    have e1 : IntKind.i64.wrap ((i : Int) + 1) = ((i + 1 : Nat) : Int) := by rw [wrap_i64 (by omega) (by omega)]; omega
    have e2 : IntKind.i64.wrap ((32 : Int) - (u : Int)) = ((32 - u : Nat) : Int) := by rw [wrap_i64 (by omega) (by omega)]; omega
    have hp : (2 : Int) ^ u * 2 ^ (32 - u) = B := by rw [← Int.pow_add, show u + (32 - u) = 32 by omega]; rfl
    have hp0 : (0 : Int) < 2 ^ u := Int.pow_pos (by omega)
    have hp1 : (0 : Int) < 2 ^ (32 - u) := Int.pow_pos (by omega)
    have e3 : bitsI .or .u32 (nthD 0 c i) (IntKind.u32.wrap (nthD 0 a i * 2 ^ min (Int.toNat (u : Int)) 32)) = nthD 0 c i + (nthD 0 a i * 2 ^ u) % B := by
      rw [Int.toNat_natCast, Nat.min_eq_left (by omega), wrap_u32]
      exact or_low (by omega) ⟨hc0.1, hx⟩ hy.1
    have e4 : nthD 0 a i * 2 ^ u / B = nthD 0 a i / 2 ^ (32 - u) := by
      rw [← hp, Int.mul_comm (nthD 0 a i), Int.mul_ediv_mul_of_pos _ _ hp0]
    have h1 : 0 ≤ nthD 0 a i / 2 ^ (32 - u) := Int.ediv_nonneg hy.1 (by omega)
    have h2 : nthD 0 a i / 2 ^ (32 - u) < 2 ^ u := Int.ediv_lt_of_lt_mul hp1 (by rw [hp]; exact hy.2)
    have h3 : (2 : Int) ^ u ≤ B := by
      have : (2 : Int) ^ u * 1 ≤ 2 ^ u * 2 ^ (32 - u) := Int.mul_le_mul_of_nonneg_left hp1 (by omega)
      rw [hp] at this
      omega
    have e5 : IntKind.u32.wrap (Int.fdiv (IntKind.u64.wrap (nthD 0 a i)) (2 ^ min (32 - u) 64)) = nthD 0 a i * 2 ^ u / B := by
      rw [Nat.min_eq_left (by omega), wrap_u64_id hy.1 (by simp only [B] at *; omega), Int.fdiv_eq_ediv_of_nonneg _ (by omega), e4]
      exact wrap_u32_id h1 (by simp only [B] at *; omega)
    have h4 := Int.emod_nonneg (nthD 0 a i * 2 ^ u) (show B ≠ 0 by simp [B])
    have h4b := Int.emod_lt_of_pos (nthD 0 a i * 2 ^ u) (show 0 < B by simp [B])
    have h5 := Int.emod_add_mul_ediv (nthD 0 a i * 2 ^ u) B
    have hor : nthD 0 c i + (nthD 0 a i * 2 ^ u) % B < B := by
      have hd : (nthD 0 a i * 2 ^ u) % B = 2 ^ u * (nthD 0 a i % 2 ^ (32 - u)) := by rw [← hp, Int.mul_comm (nthD 0 a i), Int.mul_emod_mul_of_pos _ _ hp0]
      have h6 := Int.emod_lt_of_pos (nthD 0 a i) hp1
      have h7 : 2 ^ u * (nthD 0 a i % 2 ^ (32 - u) + 1) ≤ 2 ^ u * 2 ^ (32 - u) := Int.mul_le_mul_of_nonneg_left h6 (by omega)
      rw [hp, Int.mul_add] at h7
      omega
    obtain ⟨c', k1, k2⟩ := ih (i + 1) (setN (nthD 0 a i * 2 ^ u / B) (setN (nthD 0 c i + (nthD 0 a i * 2 ^ u) % B) c i) (i + 1)) (by omega) (by rw [length_setN, length_setN]; exact hc)
      ((hlc.set ⟨by omega, hor⟩).set ⟨by omega, by omega⟩) (by rw [nthD_setN, if_pos ⟨rfl, by rw [length_setN]; omega⟩]; omega)
      (by
        rw [V_take_setN (by rw [length_setN]; omega), V_take_setN (by omega), V_take_succ', Int.pow_succ]
        rw [V_take_succ'] at hV
        generalize (nthD 0 a i * 2 ^ u) / B = d at *
        generalize (nthD 0 a i * 2 ^ u) % B = s at *
        grind)
      (fun j hj => by rw [nthD_setN, if_neg (by omega), nthD_setN, if_neg (by omega)]; exact hz j (by omega))
    refine ⟨c', ?_, k2⟩
    refine Ev.turn (fun k => nat_moved.p0_succ k _ _ _ _ _) ?_
    unfold nat_moved.e0
    simp only [Int.toNat_natCast] at e3 e5 ⊢
    simp only [e5, e2, e1, e3, Int.toNat_natCast]
    simp (disch := first | omega | (simp only [length_setN]; omega)) only [dec_t, dec_f, cond_true, cond_false, Bool.and_true]
    exact k1

theorem Nt.moved {M m : Nat} {a : List Int} (ha : Nt M a m) (hM : M ≤ 17592186044416) {u : Nat} (hu : u < 32) : ∃ c, Ev (fun k => nat_moved.f k a (u : Int)) c ∧ Lim c ∧ V c = ((m * 2 ^ u : Nat) : Int) ∧ c.length = a.length + 1 := by
  have la := ha.len
  have e1 : IntKind.i64.wrap ((a.length : Int) + 1) = ((a.length + 1 : Nat) : Int) := by rw [wrap_i64 (by omega) (by omega)]; omega
  have hz : ∀ j, nthD 0 (List.replicate (a.length + 1) (0 : Int)) j = 0 := fun j => by rw [nthD_eq, List.getD_eq_getElem?_getD]; by_cases h : j < a.length + 1 <;> simp [List.getElem?_replicate, h]
  obtain ⟨c, h1, h2, h3, h4⟩ := moved_p0 a ha.lim (by omega) u hu a.length 0 (List.replicate (a.length + 1) 0) (by omega) (by simp) (Lim_replicate_zero _) (by rw [hz]; exact Int.pow_pos (by omega))
    (by rw [V_take_succ', hz]; simp [V]) (fun j _ => hz j)
  refine ⟨c, ?_, h3, by rw [h4, ha.val]; simp, h2⟩
  unfold nat_moved.f nat_moved.e
  rw [e1]
  simp only [Int.toNat_natCast]
  refine Ev.tru (by simp; omega) ?_
  exact h1

end Go.FK
