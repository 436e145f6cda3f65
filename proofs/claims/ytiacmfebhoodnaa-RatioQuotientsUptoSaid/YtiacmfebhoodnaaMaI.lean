/- The plain law: differences and products of natural numbers. -/
import Derived.Test.YtiacmfebhoodnaaMaH
namespace Go.FK

theorem Nt.cmp {M m n : Nat} {a b : List Int} (ha : Nt M a m) (hb : Nt M b n) (hM : M ≤ 35184372088832) : Ev (fun k => nat_Cmp.f k a b) (sgn m n) := by
  have := nat_Cmp_ev ha.lim hb.lim (by have := ha.len; omega) (by have := hb.len; omega)
  rw [ha.val, hb.val] at this
  exact this

theorem sgn_lt {x y : Int} (h : x < y) : sgn x y = -1 := by unfold sgn; rw [if_pos h]
theorem sgn_eq {x y : Int} (h : x = y) : sgn x y = 0 := by unfold sgn; rw [if_neg (by omega), if_pos h]
theorem sgn_gt {x y : Int} (h : y < x) : sgn x y = 1 := by unfold sgn; rw [if_neg (by omega), if_neg (by omega)]

theorem Nt.toNat {a : List Int} {M : Nat} {z : Int} (h1 : Lim a) (h2 : V a = z) (h3 : a.length ≤ M) : Nt M a z.toNat := ⟨h1, by
  rw [h2, Int.toNat_of_nonneg]
  rw [← h2]; exact V_nonneg h1, h3⟩

theorem Sub_p0 (a b : List Int) (ha : Lim a) (hb : Lim b) (hl : a.length ≤ 35184372088832) (hbl : b.length ≤ a.length) (hle : V b ≤ V a) : ∀ (m i : Nat) (c : List Int) (r : Int), m + i = a.length → c.length = a.length → Lim c → 0 ≤ r ∧ r ≤ 1 →
    V (c.take i) - B ^ i * r = V (a.take i) - V (b.take i) → Ev (fun k => nat_Sub.p0 k c a b r (a.length : Int) (i : Int)) (lim (V a - V b).toNat, (0 : Int)) := by
  intro m
  induction m with
  | zero =>
    intro i c r hi hc hlc hr hV
    refine Ev.turn (fun k => nat_Sub.p0_succ k _ _ _ _ _ _) ?_
    unfold nat_Sub.e0
    have hi : i = a.length := by omega
    subst hi
    simp (disch := omega) only [dec_t, dec_f, cond_true, cond_false, Bool.and_true, Int.toNat_natCast]
    rw [List.take_of_length_le (by omega), List.take_of_length_le (Nat.le_refl _), List.take_of_length_le hbl] at hV
    have h1 : V c < B ^ a.length := by have := V_lt hlc; rw [hc] at this; exact this
    have h2 := V_nonneg hlc
    have h0 : r = 0 := by
      rcases (show r = 0 ∨ r = 1 by omega) with h | h
      · exact h
      · rw [h] at hV; omega
    rw [h0] at hV
    have h3 : Nt a.length c (V a - V b).toNat := Nt.toNat hlc (by omega) (by omega)
    exact Ev.bind (h3.own (by omega)) Ev.pure
  | succ m ih =>
    intro i c r hi hc hlc hr hV
    have hx := ha.get' i
    have hy := hb.get' i
    have go : Ev (fun k => nat_Sub.p25 k c a b r (i : Int) (nthD 0 b i) (a.length : Int) (i : Int)) (lim (V a - V b).toNat, (0 : Int)) := by
      refine Ev.turn (fun k => nat_Sub.p25_succ k _ _ _ _ _ _ _ _) ?_
      unfold nat_Sub.e25
      simp (disch := omega) only [dec_t, dec_f, cond_true, cond_false, Bool.and_true, Int.toNat_natCast, Sub32_eq, Option.bind_some, wrap_i64]
      refine ih (i + 1) _ _ (by omega) (by rw [length_setN]; exact hc) (hlc.set (by simp only [B] at *; omega)) (by split <;> omega) ?_
      rw [V_take_setN (by omega), V_take_succ', V_take_succ', Int.pow_succ]
      have e : (nthD 0 a i - nthD 0 b i - r) % B = nthD 0 a i - nthD 0 b i - r + B * (if nthD 0 a i < nthD 0 b i + r then 1 else 0) := by
        simp only [B] at *
        split <;> omega
      generalize (if nthD 0 a i < nthD 0 b i + r then (1 : Int) else 0) = q at *
      generalize (nthD 0 a i - nthD 0 b i - r) % B = s at *
      grind
    refine Ev.turn (fun k => nat_Sub.p0_succ k _ _ _ _ _ _) ?_
    unfold nat_Sub.e0
    refine Ev.tru (by simp; omega) ?_
    by_cases h : i < b.length
    · simp (disch := omega) only [dec_t, dec_f, cond_true, cond_false, Bool.and_true, Int.toNat_natCast]
      exact go
    · rw [nthD_beyond (by omega)] at go
      simp (disch := omega) only [dec_t, dec_f, cond_true, cond_false, Bool.and_true, Int.toNat_natCast]
      exact go

theorem Nt.sub {M m n : Nat} {a b : List Int} (ha : Nt M a m) (hb : Nt M b n) (hM : M ≤ 35184372088832) (h : n ≤ m) : Ev (fun k => nat_Sub.f k a b) (FK.lim (m - n), (0 : Int)) := by
  have la := ha.len
  have e : FK.lim (m - n) = FK.lim (V a - V (FK.lim n)).toNat := by rw [ha.val, V_lim]; congr 1; omega
  rw [e]
  unfold nat_Sub.f nat_Sub.e
  refine Ev.bind (ha.cmp hb hM) ?_
  refine Ev.fls ?_ ?_
  · unfold sgn
    by_cases h1 : (m : Int) = n
    · rw [if_neg (by omega), if_pos h1]; rfl
    · rw [if_neg (by omega), if_neg h1]; rfl
  refine Ev.bind (hb.trim (by omega)) ?_
  have hL : (FK.lim n).length ≤ a.length := by
    have h1 : V a < B ^ a.length := V_lt ha.lim
    rw [ha.val] at h1
    apply lim_length
    apply Int.ofNat_lt.1
    rw [Int.natCast_pow]
    exact Int.lt_of_le_of_lt (by omega) h1
  simp (disch := omega) only [dec_t, dec_f, cond_true, cond_false, Bool.and_true, Int.toNat_natCast, wrap_i64]
  refine Sub_p0 a _ ha.lim (Lim_lim n) (by omega) hL (by rw [ha.val, V_lim]; omega) a.length 0 _ 0 (by omega) (by simp) (Lim_replicate_zero _) (by omega) ?_
  simp [V]
theorem Nt.sub_below {M m n : Nat} {a b : List Int} (ha : Nt M a m) (hb : Nt M b n) (hM : M ≤ 35184372088832) (h : m < n) : Ev (fun k => nat_Sub.f k a b) ([], (10 : Int)) := by
  unfold nat_Sub.f nat_Sub.e
  refine Ev.bind (ha.cmp hb hM) ?_
  refine Ev.tru ?_ Ev.pure
  rw [sgn_lt (by omega)]; rfl

/-! ### Products -/
theorem mul_limb {x y z c : Int} (hx : 0 ≤ x ∧ x < B) (hy : 0 ≤ y ∧ y < B) (hz : 0 ≤ z ∧ z < B) (hc : 0 ≤ c ∧ c < B) : 0 ≤ x * y ∧ x * y ≤ 18446744065119617025 ∧ 0 ≤ (x * y + z + c) / B ∧ (x * y + z + c) / B < B := by
  have h1 : 0 ≤ x * y := Int.mul_nonneg hx.1 hy.1
  have h2 : x * y ≤ 4294967295 * 4294967295 := by
    have h3 : x * y ≤ 4294967295 * y := Int.mul_le_mul_of_nonneg_right (by simp only [B] at *; omega) hy.1
    have h4 : 4294967295 * y ≤ 4294967295 * 4294967295 := Int.mul_le_mul_of_nonneg_left (by simp only [B] at *; omega) (by omega)
    omega
  simp only [B] at *
  refine ⟨h1, by omega, by omega, by omega⟩

theorem Mul_p4 (a b : List Int) (ha : Lim a) (hb : Lim b) (hl : a.length ≤ 17592186044416) (hlb : b.length ≤ 17592186044416) (i : Nat) (hi : i < a.length) (C0 : Int) (R : List Int)
    (hK : ∀ c : List Int, c.length = a.length + b.length → Lim c → (∀ j, i + 1 + b.length ≤ j → nthD 0 c j = 0) → V c = C0 + B ^ i * (nthD 0 a i * V b) → Ev (fun k => nat_Mul.p0 k c a b (a.length : Int) ((i + 1 : Nat) : Int)) R) :
    ∀ (m t : Nat) (c : List Int) (r : Int), m + t = b.length → c.length = a.length + b.length → Lim c → 0 ≤ r ∧ r < B → (∀ j, i + b.length ≤ j → nthD 0 c j = 0) →
      V c + B ^ (i + t) * r = C0 + B ^ i * (nthD 0 a i * V (b.take t)) → Ev (fun k => nat_Mul.p4 k c a b (i : Int) r (a.length : Int) (i : Int) (b.length : Int) (t : Int)) R := by
  intro m
  induction m with
  | zero =>
    intro t c r ht hc hlc hr hz hV
    refine Ev.turn (fun k => nat_Mul.p4_succ k _ _ _ _ _ _ _ _ _) ?_
    unfold nat_Mul.e4
    have ht : t = b.length := by omega
    subst ht
    simp only [B] at hr
    have e1 : IntKind.i64.wrap ((i : Int) + (b.length : Int)) = ((i + b.length : Nat) : Int) := by rw [wrap_i64 (by omega) (by omega)]; omega
    have e2 : IntKind.i64.wrap ((i : Int) + 1) = ((i + 1 : Nat) : Int) := by rw [wrap_i64 (by omega) (by omega)]; omega
    rw [e1, e2, wrap_u32_id hr.1 hr.2]
    simp (disch := omega) only [dec_t, dec_f, cond_true, cond_false, Bool.and_true, Int.toNat_natCast]
    refine hK _ (by rw [length_setN]; exact hc) (hlc.set (by simp only [B]; omega)) ?_ ?_
    · intro j hj
      rw [nthD_setN, if_neg (by omega)]
      exact hz j (by omega)
    · rw [V_setN _ _ _ (by omega), hz _ (Nat.le_refl _)]
      rw [List.take_of_length_le (Nat.le_refl _)] at hV
      rw [← hV]
      simp
  | succ m ih =>
    intro t c r ht hc hlc hr hz hV
    refine Ev.turn (fun k => nat_Mul.p4_succ k _ _ _ _ _ _ _ _ _) ?_
    unfold nat_Mul.e4
    have hx := ha.get' i
    have hy := hb.get' t
    have hw := hlc.get' (i + t)
    have hm := mul_limb hx hy hw hr
    have e1 : IntKind.i64.wrap ((i : Int) + (t : Int)) = ((i + t : Nat) : Int) := by rw [wrap_i64 (by omega) (by omega)]; omega
    have e2 : IntKind.i64.wrap ((t : Int) + 1) = ((t + 1 : Nat) : Int) := by rw [wrap_i64 (by omega) (by omega)]; omega
    rw [e1, e2]
    simp only [Int.toNat_natCast]
    generalize hxy : nthD 0 a i * nthD 0 b t = xy at *
    have e3 : IntKind.u64.wrap (IntKind.u64.wrap (IntKind.u64.wrap (IntKind.u64.wrap (nthD 0 a i) * IntKind.u64.wrap (nthD 0 b t)) + IntKind.u64.wrap (nthD 0 c (i + t))) + r) = xy + nthD 0 c (i + t) + r := by
      simp only [B] at hx hy hw hr
      rw [wrap_u64_id hx.1 (by omega), wrap_u64_id hy.1 (by omega), wrap_u64_id hw.1 (by omega), hxy]
      simp (disch := omega) only [wrap_u64_id]
    rw [e3, wrap_u32, Int.fdiv_eq_ediv_of_nonneg _ (by omega)]
    simp (disch := omega) only [dec_t, dec_f, cond_true, cond_false, Bool.and_true]
    refine ih (t + 1) _ _ (by omega) (by rw [length_setN]; exact hc) (hlc.set (by simp only [B]; omega)) (by simp only [B] at *; omega) ?_ ?_
    · intro j hj
      rw [nthD_setN, if_neg (by omega)]
      exact hz j hj
    · have e4 := Int.emod_add_mul_ediv (xy + nthD 0 c (i + t) + r) B
      show V (setN ((xy + nthD 0 c (i + t) + r) % B) c (i + t)) + B ^ (i + (t + 1)) * ((xy + nthD 0 c (i + t) + r) / B) = _
      rw [V_setN _ _ _ (by omega), V_take_succ']
      generalize (xy + nthD 0 c (i + t) + r) / B = q at *
      generalize (xy + nthD 0 c (i + t) + r) % B = s at *
      rw [show i + (t + 1) = (i + t) + 1 by omega, Int.pow_succ]
      rw [Int.pow_add] at *
      grind

theorem Mul_p0 (a b : List Int) (ha : Lim a) (hb : Lim b) (hl : a.length ≤ 17592186044416) (hlb : b.length ≤ 17592186044416) : ∀ (m i : Nat) (c : List Int), m + i = a.length → c.length = a.length + b.length → Lim c → (∀ j, i + b.length ≤ j → nthD 0 c j = 0) →
    V c = V (a.take i) * V b → Ev (fun k => nat_Mul.p0 k c a b (a.length : Int) (i : Int)) (lim (V a * V b).toNat) := by
  intro m
  induction m with
  | zero =>
    intro i c hi hc hlc hz hV
    refine Ev.turn (fun k => nat_Mul.p0_succ k _ _ _ _ _) ?_
    unfold nat_Mul.e0
    refine Ev.fls (by simp; omega) ?_
    rw [List.take_of_length_le (by omega)] at hV
    exact Ev.bind ((Nt.toNat hlc hV (Nat.le_refl _)).own (by omega)) Ev.pure
  | succ m ih =>
    intro i c hi hc hlc hz hV
    refine Ev.turn (fun k => nat_Mul.p0_succ k _ _ _ _ _) ?_
    unfold nat_Mul.e0
    refine Ev.tru (by simp; omega) ?_
    refine Mul_p4 a b ha hb hl hlb i (by omega) (V (a.take i) * V b) _ ?_ b.length 0 c 0 (by omega) hc hlc (by simp [B]) hz ?_
    · intro c' h1 h2 h3 h4
      refine ih (i + 1) c' (by omega) h1 h2 h3 ?_
      rw [h4, V_take_succ', Int.add_mul, Int.mul_assoc]
    · simp [V, hV]

theorem Nt.mul {M m n : Nat} {a b : List Int} (ha : Nt M a m) (hb : Nt M b n) (hM : M ≤ 17592186044416) : Ev (fun k => nat_Mul.f k a b) (FK.lim (m * n)) := by
  have e : FK.lim (m * n) = FK.lim (V (FK.lim m) * V (FK.lim n)).toNat := by
    rw [V_lim, V_lim]; congr 1
  have la := ha.L
  have lb := hb.L
  unfold FK.L at la lb
  rw [e]
  unfold nat_Mul.f nat_Mul.e
  refine Ev.bind (ha.trim (by omega)) (Ev.bind (hb.trim (by omega)) ?_)
  simp (disch := omega) only [dec_t, dec_f, cond_true, cond_false, Bool.and_true, wrap_i64]
  refine Mul_p0 _ _ (Lim_lim m) (Lim_lim n) (by omega) (by omega) (FK.lim m).length 0 _ (by omega) (by simp; omega) (Lim_replicate_zero _) ?_ ?_
  · intro j _
    rw [nthD_eq, List.getD_eq_getElem?_getD]
    by_cases h : j < (Int.toNat (((FK.lim m).length : Int) + (FK.lim n).length)) <;> simp [List.getElem?_replicate, h]
  · simp [V, V_replicate_zero]

end Go.FK
