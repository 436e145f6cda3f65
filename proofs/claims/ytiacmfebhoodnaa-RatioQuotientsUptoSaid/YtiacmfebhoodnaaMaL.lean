/- The plain law: one digit of a long division. -/
import Derived.Test.YtiacmfebhoodnaaMaK
namespace Go.FK

theorem nthD_drop (l : List Int) (m j : Nat) : nthD 0 (l.drop m) j = nthD 0 l (m + j) := by
  rw [nthD_eq, nthD_eq, List.getD_eq_getElem?_getD, List.getD_eq_getElem?_getD, List.getElem?_drop]
theorem Lim.drop {a : List Int} (h : Lim a) (n : Nat) : Lim (a.drop n) := fun x hx => h x (List.mem_of_mem_drop hx)

theorem V_lt_of_drop {l : List Int} (h : Lim l) {m : Nat} (hm : m ≤ l.length) (hz : V (l.drop m) = 0) : V l < B ^ m := by
  have h1 := V_split l m hm
  have h2 := V_bounds h m hm
  rw [hz] at h1
  omega
theorem drop_zero_of_lt {l : List Int} (h : Lim l) {m : Nat} (hm : m ≤ l.length) (hz : V l < B ^ m) : V (l.drop m) = 0 := by
  have h1 := V_split l m hm
  have h2 := V_bounds h m hm
  have h3 := V_nonneg (h.drop m)
  rcases (show V (l.drop m) = 0 ∨ 1 ≤ V (l.drop m) by omega) with h4 | h4
  · exact h4
  · have h5 : B ^ m * 1 ≤ B ^ m * V (l.drop m) := Int.mul_le_mul_of_nonneg_left h4 (Int.le_of_lt (Bpow_pos m))
    omega

section
variable (u v : List Int) (lo n : Nat)

/-- What the division of a window by v knows. -/
structure Dig (u v : List Int) (lo n : Nat) (q : Int) : Prop where
  lu : Lim u
  lv : Lim v
  hn : v.length = n
  n2 : 2 ≤ n
  len : lo + n + 1 ≤ u.length
  big : u.length ≤ 35184372088832
  top : 0 < nthD 0 v (n - 1)
  lt : V u < B ^ (lo + 1) * V v
  q0 : 0 ≤ q
  ql : q * (B ^ lo * V v) ≤ V u
  qh : V u < (q + 1) * (B ^ lo * V v)

variable {u v lo n}

theorem Dig.pos {q : Int} (h : Dig u v lo n q) : 0 < V v := by
  have h1 := V_take_succ' v (n - 1)
  have h2 := V_bounds h.lv (n - 1) (by have := h.hn; omega)
  rw [show n - 1 + 1 = n by have := h.n2; omega, List.take_of_length_le (by have := h.hn; omega)] at h1
  have h3 := Int.mul_pos (Bpow_pos (n - 1)) h.top
  omega

theorem Dig.q_lt {q : Int} (h : Dig u v lo n q) : q < B := by
  have h1 : q * (B ^ lo * V v) < B * (B ^ lo * V v) := by
    have := h.ql
    have h2 := h.lt
    have e : B ^ (lo + 1) * V v = B * (B ^ lo * V v) := by rw [Int.pow_succ, Int.mul_comm (B ^ lo) B, Int.mul_assoc]
    omega
  exact Int.lt_of_mul_lt_mul_right h1 (Int.mul_nonneg (Int.le_of_lt (Bpow_pos lo)) (Int.le_of_lt h.pos))

/-- The window's parts. -/
theorem Dig.parts {q : Int} (h : Dig u v lo n q) : ∃ W U β vr ur : Int, W = V v ∧ 0 ≤ β ∧ W = (nthD 0 v (n - 1) * B + nthD 0 v (n - 2)) * β + vr ∧ 0 ≤ vr ∧ vr < β ∧
    U = ((nthD 0 u (lo + n) * B + nthD 0 u (lo + (n - 1))) * B + nthD 0 u (lo + (n - 2))) * β + ur ∧ 0 ≤ ur ∧ ur < β ∧ q * W ≤ U ∧ U < (q + 1) * W ∧ U < B * W := by
  have n2 := h.n2
  have hn := h.hn
  have len := h.len
  refine ⟨V v, V (u.drop lo), B ^ (n - 2), V (v.take (n - 2)), V ((u.drop lo).take (n - 2)), rfl, Int.le_of_lt (Bpow_pos _), ?_, ?_, ?_, ?_, ?_, ?_, ?_, ?_, ?_⟩
  · have h1 := V_take_succ' v (n - 1)
    have h2 := V_take_succ' v (n - 2)
    rw [show n - 1 + 1 = n by omega, List.take_of_length_le (by omega)] at h1
    rw [show n - 2 + 1 = n - 1 by omega] at h2
    rw [h1, h2, show n - 1 = (n - 2) + 1 by omega, Int.pow_succ]
    grind
  · exact (V_bounds h.lv _ (by omega)).1
  · exact (V_bounds h.lv _ (by omega)).2
  · have hz : V ((u.drop lo).drop (n + 1)) = 0 := by
      rw [List.drop_drop]
      apply drop_zero_of_lt h.lu (by omega)
      have h1 := h.lt
      have h2 : V v < B ^ n := by have := V_lt h.lv; rw [hn] at this; exact this
      have h3 : B ^ (lo + 1) * V v ≤ B ^ (lo + 1) * B ^ n := Int.mul_le_mul_of_nonneg_left (by omega) (Int.le_of_lt (Bpow_pos _))
      rw [← Int.pow_add] at h3
      rw [show lo + (n + 1) = lo + 1 + n by omega]
      omega
    have h0 := V_split (u.drop lo) (n + 1) (by simp; omega)
    rw [hz] at h0
    have h1 := V_take_succ' (u.drop lo) n
    have h2 := V_take_succ' (u.drop lo) (n - 1)
    have h3 := V_take_succ' (u.drop lo) (n - 2)
    rw [show n - 1 + 1 = n by omega] at h2
    rw [show n - 2 + 1 = n - 1 by omega] at h3
    rw [nthD_drop] at h1 h2 h3
    rw [h0, h1, h2, h3]
    rw [show B ^ n = B ^ (n - 2) * B * B by rw [show n = (n - 2) + 1 + 1 by omega, Int.pow_succ, Int.pow_succ]; rfl, show B ^ (n - 1) = B ^ (n - 2) * B by rw [show n - 1 = (n - 2) + 1 by omega, Int.pow_succ]]
    grind
  · exact (V_bounds (h.lu.drop lo) _ (by simp; omega)).1
  · exact (V_bounds (h.lu.drop lo) _ (by simp; omega)).2
  · have h1 := V_split u lo (by omega)
    have h2 := V_bounds h.lu lo (by omega)
    have h3 := h.ql
    apply Int.le_of_lt_add_one
    apply Int.lt_of_mul_lt_mul_left (a := B ^ lo) _ (Int.le_of_lt (Bpow_pos lo))
    rw [Int.mul_add, Int.mul_one]
    have e : B ^ lo * (q * V v) = q * (B ^ lo * V v) := by grind
    omega
  · have h1 := V_split u lo (by omega)
    have h2 := V_bounds h.lu lo (by omega)
    have h3 := h.qh
    apply Int.lt_of_mul_lt_mul_left (a := B ^ lo) _ (Int.le_of_lt (Bpow_pos lo))
    have e : B ^ lo * ((q + 1) * V v) = (q + 1) * (B ^ lo * V v) := by grind
    omega
  · have h1 := V_split u lo (by omega)
    have h2 := V_bounds h.lu lo (by omega)
    have h3 := h.lt
    apply Int.lt_of_mul_lt_mul_left (a := B ^ lo) _ (Int.le_of_lt (Bpow_pos lo))
    have e : B ^ lo * (B * V v) = B ^ (lo + 1) * V v := by rw [Int.pow_succ]; grind
    omega

/-- The guess is made less while it is seen to be too great. -/
theorem Dig.guess {q : Int} (h : Dig u v lo n q) (R : List Int × Int)
    (hK : ∀ g : Int, q ≤ g → g ≤ q + 1 → g < B → Ev (fun k => nat_digit.p4 k u lo (n + 1) v (n : Int) g 0 0 (n : Int) 0) R) :
    ∀ (m : Nat) (g r : Int), B ≤ r + m → q ≤ g → g ≤ 2 * B → 0 ≤ r → r < B → g * nthD 0 v (n - 1) + r = nthD 0 u (lo + n) * B + nthD 0 u (lo + (n - 1)) →
      Ev (fun k => nat_digit.p0 k u lo (n + 1) v (n : Int) g r) R := by
  have n2 := h.n2
  have hn := h.hn
  have len := h.len
  have big := h.big
  have hq0 := h.q0
  have hqB := h.q_lt
  have hv1 := h.lv.get' (n - 1)
  have hv2 := h.lv.get' (n - 2)
  have hu2 := h.lu.get' (lo + (n - 2))
  have hu1 := h.lu.get' (lo + (n - 1))
  have hu0 := h.lu.get' (lo + n)
  have hW0 := h.pos
  have htop := h.top
  obtain ⟨W, U, β, vr, ur, rfl, hβ, hW, hvr0, hvr, hU, hur0, hur, hql, hqh, hUB⟩ := h.parts
  generalize hv1e : nthD 0 v (n - 1) = v1 at *
  generalize hv2e : nthD 0 v (n - 2) = v2 at *
  have htl : nthD 0 u (lo + n) * B + nthD 0 u (lo + (n - 1)) < v1 * B + B := by
    generalize nthD 0 u (lo + n) * B + nthD 0 u (lo + (n - 1)) = top at *
    have a1 : B * V v ≤ B * ((v1 * B + v2 + 1) * β) := by
      apply Int.mul_le_mul_of_nonneg_left _ (by simp [B])
      have e : (v1 * B + v2 + 1) * β = (v1 * B + v2) * β + β := by rw [Int.add_mul]; omega
      omega
    have a2 : (top * B + nthD 0 u (lo + (n - 2))) * β < (B * (v1 * B + v2 + 1)) * β := by rw [Int.mul_assoc]; omega
    have a3 := Int.lt_of_mul_lt_mul_right a2 hβ
    simp only [B] at *
    omega
  -- a step: the guess is too great
  have step : ∀ (m : Nat) (g r : Int), (∀ (g r : Int), B ≤ r + m → q ≤ g → g ≤ 2 * B → 0 ≤ r → r < B → g * v1 + r = nthD 0 u (lo + n) * B + nthD 0 u (lo + (n - 1)) → Ev (fun k => nat_digit.p0 k u lo (n + 1) v (n : Int) g r) R) →
      B ≤ r + (m + 1 : Nat) → q < g → g ≤ 2 * B → 0 ≤ r → r < B → g * v1 + r = nthD 0 u (lo + n) * B + nthD 0 u (lo + (n - 1)) → Ev (fun k => nat_digit.p11 k u lo (n + 1) v (n : Int) g r) R := by
    intro m g r ih hm hg hgB hr hrB hgr
    refine Ev.turn (fun k => nat_digit.p11_succ k _ _ _ _ _ _ _) ?_
    unfold nat_digit.e11
    have e1 : IntKind.i64.wrap ((n : Int) - 1) = ((n - 1 : Nat) : Int) := by rw [wrap_i64 (by omega) (by omega)]; omega
    simp only [e1, Int.toNat_natCast, hv1e]
    have hgr2 : (g - 1) * v1 + (r + v1) = nthD 0 u (lo + n) * B + nthD 0 u (lo + (n - 1)) := by rw [Int.sub_mul]; omega
    simp only [B] at hv1 hrB hgB hqB hm
    have e2 : IntKind.u64.wrap v1 = v1 := wrap_u64_id hv1.1 (by omega)
    have e3 : IntKind.u64.wrap (r + v1) = r + v1 := wrap_u64_id (by omega) (by omega)
    have e4 : IntKind.u64.wrap (g - 1) = g - 1 := wrap_u64_id (by omega) (by omega)
    rw [e2, e3, e4, Int.fdiv_eq_ediv_of_nonneg _ (by omega)]
    refine Ev.tru (by simp; omega) ?_
    by_cases hbr : 4294967296 ≤ r + v1
    · refine Ev.tru ?_ ?_
      · have : (r + v1) / 2 ^ 32 ≠ 0 := by omega
        simpa using this
      · have hgl : g - 1 < B := by
          have b0 : (g - 1) * v1 < B * v1 := by
            simp only [B] at *
            rw [Int.mul_comm 4294967296 v1]
            omega
          exact Int.lt_of_mul_lt_mul_right b0 (by omega)
        refine hK (g - 1) (by omega) ?_ hgl
        refine guess_near (Int.le_of_lt (by omega)) hW (Int.le_of_lt hvr) hU hur0 hq0 hqh hgr2 (Int.le_of_lt hgl) htop hv2.1 hW0 ?_
        have b1 : (g - 1) * v2 ≤ (g - 1) * B := Int.mul_le_mul_of_nonneg_left (Int.le_of_lt hv2.2) (by omega)
        simp only [B] at *
        omega
    · refine Ev.fls ?_ ?_
      · have : (r + v1) / 2 ^ 32 = 0 := by omega
        simpa using this
      · exact ih (g - 1) (r + v1) (by simp only [B]; omega) (by omega) (by simp only [B]; omega) (by omega) (by simp only [B]; omega) hgr2
  intro m
  induction m with
  | zero => intro g r h1 _ _ _ h2 _; omega
  | succ m ih =>
    intro g r hm hg hgB hr hrB hgr
    refine Ev.turn (fun k => nat_digit.p0_succ k _ _ _ _ _ _ _) ?_
    unfold nat_digit.e0
    rw [Int.fdiv_eq_ediv_of_nonneg _ (by omega)]
    by_cases hbig : B ≤ g
    · refine Ev.tru ?_ ?_
      · have : g / 2 ^ 32 ≠ 0 := by simp only [B] at *; omega
        simpa using this
      · exact step m g r ih hm (by omega) hgB hr hrB hgr
    · refine Ev.fls ?_ ?_
      · have : g / 2 ^ 32 = 0 := by simp only [B] at *; omega
        simpa using this
      have e1 : IntKind.i64.wrap ((n : Int) - 2) = ((n - 2 : Nat) : Int) := by rw [wrap_i64 (by omega) (by omega)]; omega
      simp only [e1, Int.toNat_natCast, hv2e]
      have hgv : 0 ≤ g * v2 := Int.mul_nonneg (by omega) hv2.1
      have hgv2 : g * v2 ≤ g * B := Int.mul_le_mul_of_nonneg_left (Int.le_of_lt hv2.2) (by omega)
      have e2 : IntKind.u64.wrap v2 = v2 := wrap_u64_id hv2.1 (by simp only [B] at *; omega)
      have e3 : IntKind.u64.wrap (g * v2) = g * v2 := wrap_u64_id hgv (by simp only [B] at *; omega)
      have e4 : IntKind.u64.wrap (nthD 0 u (lo + (n - 2))) = nthD 0 u (lo + (n - 2)) := wrap_u64_id hu2.1 (by simp only [B] at *; omega)
      have e5 := or_limbs (x := r) (y := nthD 0 u (lo + (n - 2))) ⟨hr, hrB⟩ hu2
      have e6 : (2 : Int) ^ 32 = 4294967296 := rfl
      rw [e2, e3, e4, e6, e5]
      refine Ev.tru (by simp; omega) (Ev.tru (by simp; omega) ?_)
      by_cases hov : r * B + nthD 0 u (lo + (n - 2)) < g * v2
      · refine Ev.tru (dec_t hov) ?_
        exact step m g r ih hm (guess_over hβ hW hvr0 hU hur hql hgr (by omega) (Int.le_of_lt hW0) hov) hgB hr hrB hgr
      · refine Ev.fls (dec_f hov) ?_
        exact hK g hg (guess_near hβ hW (Int.le_of_lt hvr) hU hur0 hq0 hqh hgr (by omega) htop hv2.1 hW0 (by omega)) (by omega)
end
end Go.FK
