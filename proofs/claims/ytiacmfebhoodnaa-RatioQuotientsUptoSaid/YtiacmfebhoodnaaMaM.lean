/- The plain law: one digit of a long division: the product taken off, and what was too much put back. -/
import Derived.Test.YtiacmfebhoodnaaMaL
namespace Go.FK

variable {u v : List Int} {lo n : Nat}

theorem Bpow_le {a b : Nat} (h : a ≤ b) : B ^ a ≤ B ^ b := by
  obtain ⟨d, rfl⟩ : ∃ d, b = a + d := ⟨b - a, by omega⟩
  rw [Int.pow_add]
  have h1 := Bpow_pos a
  have h2 := Bpow_pos d
  have : B ^ a * 1 ≤ B ^ a * B ^ d := Int.mul_le_mul_of_nonneg_left h2 (by omega)
  omega

/-- What the row is when the digit is done. -/
def Dig.Done (u v : List Int) (lo : Nat) (q : Int) (u' : List Int) : Prop := Lim u' ∧ u'.length = u.length ∧ V u' = V u - q * (B ^ lo * V v)

theorem Dig.back {q : Int} (h : Dig u v lo n q) (g' : Int) (hg' : 0 ≤ g' ∧ g' < B) : ∀ (m i : Nat) (w : List Int) (c : Int), m + i = n → Lim w → w.length = u.length → V (w.drop (lo + n + 1)) = 0 → 0 ≤ c ∧ c ≤ 1 →
    V w + B ^ (lo + i) * c = V u - (q + 1) * (B ^ lo * V v) + B ^ (lo + n + 1) + B ^ lo * V (v.take i) →
    ∃ w', Ev (fun k => nat_digit.p8 k w lo (n + 1) v (n : Int) g' c (n : Int) (i : Int)) (w', g') ∧ Dig.Done u v lo q w' := by
  have n2 := h.n2
  have hn := h.hn
  have len := h.len
  have big := h.big
  intro m
  induction m with
  | zero =>
    intro i w c hi hlw hw hz hc hV
    have hi : i = n := by omega
    subst hi
    rw [List.take_of_length_le (by omega)] at hV
    have hx := hlw.get' (lo + i)
    simp only [B] at hx hg'
    refine ⟨setN ((nthD 0 w (lo + i) + c) % 4294967296) w (lo + i), ?_, hlw.set (by simp only [B]; omega), by rw [length_setN]; exact hw, ?_⟩
    · refine Ev.turn (fun k => nat_digit.p8_succ k _ _ _ _ _ _ _ _ _) ?_
      unfold nat_digit.e8
      simp only [Int.toNat_natCast, wrap_u32]
      rw [Int.emod_eq_of_lt hg'.1 hg'.2]
      simp (disch := omega) only [dec_t, dec_f, cond_true, cond_false, Bool.and_true]
      exact Ev.pure
    · rw [V_setN _ _ _ (by omega)]
      have hz2 : V ((setN ((nthD 0 w (lo + i) + c) % 4294967296) w (lo + i)).drop (lo + i + 1)) = 0 := by rw [drop_setN (by omega)]; exact hz
      have hl2 : Lim (setN ((nthD 0 w (lo + i) + c) % 4294967296) w (lo + i)) := hlw.set (by simp only [B]; omega)
      have hlt := V_lt_of_drop hl2 (by rw [length_setN]; omega) hz2
      have hge := V_nonneg hl2
      rw [V_setN _ _ _ (by omega)] at hlt hge
      have e : (nthD 0 w (lo + i) + c) % 4294967296 = nthD 0 w (lo + i) + c - B * ((nthD 0 w (lo + i) + c) / 4294967296) := by simp only [B]; omega
      have ht : (nthD 0 w (lo + i) + c) / 4294967296 = 0 ∨ (nthD 0 w (lo + i) + c) / 4294967296 = 1 := by omega
      rw [e] at hlt hge ⊢
      generalize (nthD 0 w (lo + i) + c) / 4294967296 = t at *
      have hp := Int.pow_succ B (lo + i)
      have hql := h.ql
      have hq1 : (q + 1) * (B ^ lo * V v) = q * (B ^ lo * V v) + B ^ lo * V v := by rw [Int.add_mul, Int.one_mul]
      rw [hq1] at hV
      generalize q * (B ^ lo * V v) = X at *
      generalize B ^ lo * V v = Y at *
      rcases ht with rfl | rfl
      · exfalso
        have e2 : nthD 0 w (lo + i) + c - B * 0 - nthD 0 w (lo + i) = c := by omega
        rw [e2] at hlt
        omega
      · have e2 : nthD 0 w (lo + i) + c - B * 1 - nthD 0 w (lo + i) = c - B := by omega
        rw [e2, Int.mul_sub]
        rw [hp] at hV
        omega
  | succ m ih =>
    intro i w c hi hlw hw hz hc hV
    have hx := hlw.get' (lo + i)
    have hy := h.lv.get' i
    have e1 : IntKind.i64.wrap ((i : Int) + 1) = ((i + 1 : Nat) : Int) := by rw [wrap_i64 (by omega) (by omega)]; omega
    have hadd := fun k => Add32_eq (k := k) hx hy hc
    obtain ⟨w', k1, k2⟩ := ih (i + 1) (setN ((nthD 0 w (lo + i) + nthD 0 v i + c) % B) w (lo + i)) ((nthD 0 w (lo + i) + nthD 0 v i + c) / B) (by omega) (hlw.set (by simp only [B]; omega)) (by rw [length_setN]; exact hw)
      (by rw [drop_setN (by omega)]; exact hz) (by simp only [B] at *; omega)
      (by
        rw [V_setN _ _ _ (by omega), V_take_succ', show lo + (i + 1) = (lo + i) + 1 by omega, Int.pow_succ]
        have e := Int.emod_add_mul_ediv (nthD 0 w (lo + i) + nthD 0 v i + c) B
        generalize (nthD 0 w (lo + i) + nthD 0 v i + c) / B = d at *
        generalize (nthD 0 w (lo + i) + nthD 0 v i + c) % B = s at *
        have hp := Int.pow_add B lo i
        grind)
    refine ⟨w', ?_, k2⟩
    refine Ev.turn (fun k => nat_digit.p8_succ k _ _ _ _ _ _ _ _ _) ?_
    unfold nat_digit.e8
    simp only [Int.toNat_natCast, hadd, Option.bind_some, e1]
    simp (disch := omega) only [dec_t, dec_f, cond_true, cond_false, Bool.and_true]
    exact k1

theorem Dig.off {q : Int} (h : Dig u v lo n q) (g : Int) (hg : q ≤ g) (hg1 : g ≤ q + 1) (hgB : g < B) : ∀ (m i : Nat) (w : List Int) (b c : Int), m + i = n → Lim w → w.length = u.length → V (w.drop (lo + n + 1)) = 0 → 0 ≤ b ∧ b ≤ 1 → 0 ≤ c ∧ c < B →
    V w - B ^ (lo + i) * (b + c) = V u - g * (B ^ lo * V (v.take i)) →
    ∃ w', Ev (fun k => nat_digit.p4 k w lo (n + 1) v (n : Int) g b c (n : Int) (i : Int)) (w', q) ∧ Dig.Done u v lo q w' := by
  have n2 := h.n2
  have hn := h.hn
  have len := h.len
  have big := h.big
  have hq0 := h.q0
  intro m
  induction m with
  | zero =>
    intro i w b c hi hlw hw hz hb hc hV
    have hi : i = n := by omega
    subst hi
    rw [List.take_of_length_le (by omega)] at hV
    have hx := hlw.get' (lo + i)
    have hsub := fun k => Sub32_eq (k := k) hx hc hb
    have hB := hgB
    simp only [B] at hB hc
    have hr : 0 ≤ (nthD 0 w (lo + i) - c - b) % B ∧ (nthD 0 w (lo + i) - c - b) % B < B := by simp only [B]; omega
    have e : (nthD 0 w (lo + i) - c - b) % B = nthD 0 w (lo + i) - c - b + B * (if nthD 0 w (lo + i) < c + b then 1 else 0) := by
      simp only [B] at *
      split <;> omega
    have hz2 : V ((setN ((nthD 0 w (lo + i) - c - b) % B) w (lo + i)).drop (lo + i + 1)) = 0 := by rw [drop_setN (by omega)]; exact hz
    have hl2 : Lim (setN ((nthD 0 w (lo + i) - c - b) % B) w (lo + i)) := hlw.set hr
    have hlt := V_lt_of_drop hl2 (by rw [length_setN]; omega) hz2
    have hge := V_nonneg hl2
    have hv2 : V (setN ((nthD 0 w (lo + i) - c - b) % B) w (lo + i)) = V u - g * (B ^ lo * V v) + B ^ (lo + i + 1) * (if nthD 0 w (lo + i) < c + b then 1 else 0) := by
      rw [V_setN _ _ _ (by omega), e]
      generalize (if nthD 0 w (lo + i) < c + b then (1 : Int) else 0) = d at *
      have hp := Int.pow_succ B (lo + i)
      grind
    have hWp : 0 < B ^ lo * V v := Int.mul_pos (Bpow_pos lo) h.pos
    by_cases hbor : nthD 0 w (lo + i) < c + b
    · rw [if_pos hbor, Int.mul_one] at hv2
      have hgq : g = q + 1 := by
        apply Int.le_antisymm hg1
        apply Int.not_lt.1
        intro hlt2
        have : g = q := by omega
        subst this
        have := h.ql
        omega
      obtain ⟨w', k1, k2⟩ := h.back q ⟨hq0, h.q_lt⟩ i 0 (setN ((nthD 0 w (lo + i) - c - b) % B) w (lo + i)) 0 (by omega) hl2 (by rw [length_setN]; exact hw) hz2 (by omega)
        (by rw [hv2, hgq]; simp [V])
      refine ⟨w', ?_, k2⟩
      refine Ev.turn (fun k => nat_digit.p4_succ k _ _ _ _ _ _ _ _ _ _) ?_
      unfold nat_digit.e4
      have e1 : IntKind.u32.wrap c = c := wrap_u32_id hc.1 hc.2
      have e2 : IntKind.u64.wrap (g - 1) = q := by rw [wrap_u64_id (by omega) (by omega)]; omega
      simp only [Int.toNat_natCast, e1, e2, hsub, Option.bind_some, if_pos hbor]
      simp (disch := omega) only [dec_t, dec_f, cond_true, cond_false, Bool.and_true]
      exact k1
    · rw [if_neg hbor, Int.mul_zero, Int.add_zero] at hv2
      have hgq : g = q := by
        apply Int.le_antisymm _ hg
        apply Int.not_lt.1
        intro hlt2
        have : g = q + 1 := by omega
        subst this
        have := h.qh
        omega
      subst hgq
      refine ⟨_, ?_, hl2, by rw [length_setN]; exact hw, hv2⟩
      refine Ev.turn (fun k => nat_digit.p4_succ k _ _ _ _ _ _ _ _ _ _) ?_
      unfold nat_digit.e4
      have e1 : IntKind.u32.wrap c = c := wrap_u32_id hc.1 hc.2
      have e2 : IntKind.u32.wrap g = g := wrap_u32_id hq0 hB
      simp only [Int.toNat_natCast, e1, e2, hsub, Option.bind_some, if_neg hbor]
      simp (disch := omega) only [dec_t, dec_f, cond_true, cond_false, Bool.and_true]
      exact Ev.pure
  | succ m ih =>
    intro i w b c hi hlw hw hz hb hc hV
    have hx := hlw.get' (lo + i)
    have hy := h.lv.get' i
    have hm := mul_limb (x := g) (y := nthD 0 v i) (z := 0) (c := c) ⟨by omega, hgB⟩ hy (by simp [B]) hc
    have e1 : IntKind.i64.wrap ((i : Int) + 1) = ((i + 1 : Nat) : Int) := by rw [wrap_i64 (by omega) (by omega)]; omega
    generalize hxy : g * nthD 0 v i = xy at *
    rw [Int.add_zero] at hm
    have e2 : IntKind.u64.wrap (IntKind.u64.wrap (g * IntKind.u64.wrap (nthD 0 v i)) + c) = xy + c := by
      have hy2 := hy.2
      have hc2 := hc.2
      simp only [B] at hy2 hc2
      rw [wrap_u64_id hy.1 (by omega), hxy, wrap_u64_id (n := xy) (by omega) (by omega), wrap_u64_id (by omega) (by omega)]
    have e3 : Int.fdiv (xy + c) (2 ^ 32) = (xy + c) / B := by rw [Int.fdiv_eq_ediv_of_nonneg _ (by omega)]; rfl
    have hl4 : 0 ≤ (xy + c) % B ∧ (xy + c) % B < B := by simp only [B]; omega
    have hsub := fun k => Sub32_eq (k := k) hx hl4 hb
    have e4 : IntKind.u32.wrap (xy + c) = (xy + c) % B := wrap_u32 _
    have hr : 0 ≤ (nthD 0 w (lo + i) - (xy + c) % B - b) % B ∧ (nthD 0 w (lo + i) - (xy + c) % B - b) % B < B := by simp only [B]; omega
    obtain ⟨w', k1, k2⟩ := ih (i + 1) (setN ((nthD 0 w (lo + i) - (xy + c) % B - b) % B) w (lo + i)) (if nthD 0 w (lo + i) < (xy + c) % B + b then 1 else 0) ((xy + c) / B) (by omega) (hlw.set hr)
      (by rw [length_setN]; exact hw) (by rw [drop_setN (by omega)]; exact hz) (by split <;> omega) ⟨hm.2.2.1, hm.2.2.2⟩
      (by
        rw [V_setN _ _ _ (by omega), V_take_succ', show lo + (i + 1) = (lo + i) + 1 by omega, Int.pow_succ]
        have e := Int.emod_add_mul_ediv (xy + c) B
        have e5 : (nthD 0 w (lo + i) - (xy + c) % B - b) % B = nthD 0 w (lo + i) - (xy + c) % B - b + B * (if nthD 0 w (lo + i) < (xy + c) % B + b then 1 else 0) := by
          simp only [B] at *
          split <;> omega
        rw [e5]
        generalize (if nthD 0 w (lo + i) < (xy + c) % B + b then (1 : Int) else 0) = d at *
        generalize (xy + c) / B = e at *
        generalize (xy + c) % B = s at *
        have hp := Int.pow_add B lo i
        grind)
    refine ⟨w', ?_, k2⟩
    refine Ev.turn (fun k => nat_digit.p4_succ k _ _ _ _ _ _ _ _ _ _) ?_
    unfold nat_digit.e4
    simp only [Int.toNat_natCast, e1, e2, e3, e4, hsub, Option.bind_some]
    simp (disch := omega) only [dec_t, dec_f, cond_true, cond_false, Bool.and_true]
    exact k1

theorem Dig.ev {q : Int} (h : Dig u v lo n q) : ∃ u', Ev (fun k => nat_digit.f k u lo (n + 1) v) (u', q) ∧ Dig.Done u v lo q u' := by
  have n2 := h.n2
  have hn := h.hn
  have len := h.len
  have big := h.big
  have hq0 := h.q0
  have hv1 := h.lv.get' (n - 1)
  have htop := h.top
  have hu1 := h.lu.get' (lo + (n - 1))
  have hu0 := h.lu.get' (lo + n)
  have hz : V (u.drop (lo + n + 1)) = 0 := by
    apply drop_zero_of_lt h.lu (by omega)
    have h1 := h.lt
    have h2 : V v < B ^ n := by have := V_lt h.lv; rw [hn] at this; exact this
    have h3 : B ^ (lo + 1) * V v ≤ B ^ (lo + 1) * B ^ n := Int.mul_le_mul_of_nonneg_left (by omega) (Int.le_of_lt (Bpow_pos _))
    rw [← Int.pow_add] at h3
    rw [show lo + n + 1 = lo + 1 + n by omega]
    omega
  -- the result does not hang on the guess
  have all : ∀ g : Int, q ≤ g → g ≤ q + 1 → g < B → ∃ w', Ev (fun k => nat_digit.p4 k u lo (n + 1) v (n : Int) g 0 0 (n : Int) 0) (w', q) ∧ Dig.Done u v lo q w' := by
    intro g h1 h2 h3
    exact h.off g h1 h2 h3 n 0 u 0 0 (by omega) h.lu rfl hz (by omega) (by simp [B]) (by simp [V])
  have one : ∀ (w1 w2 : List Int), Dig.Done u v lo q w1 → Dig.Done u v lo q w2 → w1 = w2 := by
    intro w1 w2 ⟨l1, n1, v1⟩ ⟨l2, n2, v2⟩
    apply List.ext_getElem (by omega)
    have aux : ∀ (a b : List Int), Lim a → Lim b → a.length = b.length → V a = V b → a = b := by
      intro a
      induction a with
      | nil => intro b _ _ hl _; cases b with
        | nil => rfl
        | cons => simp at hl
      | cons x xs ih =>
        intro b ha hb hl hv
        cases b with
        | nil => simp at hl
        | cons y ys =>
          have hx := ha.cons
          have hy := hb.cons
          simp only [V, B] at hv hx hy
          have p1 := V_nonneg ha.cons.2
          have p2 := V_nonneg hb.cons.2
          have : x = y ∧ V xs = V ys := by omega
          rw [this.1, ih ys ha.cons.2 hb.cons.2 (by simpa using hl) this.2]
    have := aux w1 w2 l1 l2 (by omega) (by omega)
    subst this
    intro i _ _; rfl
  obtain ⟨W, U, β, vr, ur, rfl, hβ, hW, hvr0, hvr, hU, hur0, hur, hql, hqh, hUB⟩ := h.parts
  have hge : q ≤ (nthD 0 u (lo + n) * B + nthD 0 u (lo + (n - 1))) / nthD 0 v (n - 1) := by
    apply Int.le_ediv_of_mul_le htop
    generalize nthD 0 u (lo + n) * B + nthD 0 u (lo + (n - 1)) = top at *
    have hu2 := h.lu.get' (lo + (n - 2))
    have hv2 := h.lv.get' (n - 2)
    have a1 : q * (nthD 0 v (n - 1) * B * β) ≤ q * V v := by
      apply Int.mul_le_mul_of_nonneg_left _ hq0
      rw [hW, Int.add_mul]
      have := Int.mul_nonneg hv2.1 hβ
      omega
    have a2 : U < (top + 1) * (B * β) := by
      rw [hU]
      have a3 : (top * B + nthD 0 u (lo + (n - 2)) + 1) * β ≤ (top * B + B) * β := Int.mul_le_mul_of_nonneg_right (by omega) hβ
      grind
    have a4 : q * nthD 0 v (n - 1) * (B * β) < (top + 1) * (B * β) := by
      have : q * nthD 0 v (n - 1) * (B * β) = q * (nthD 0 v (n - 1) * B * β) := by grind
      omega
    have := Int.lt_of_mul_lt_mul_right a4 (Int.mul_nonneg (by simp [B]) hβ)
    omega
  have htl : nthD 0 u (lo + n) * B + nthD 0 u (lo + (n - 1)) < nthD 0 v (n - 1) * B + B := by
    have hv2 := h.lv.get' (n - 2)
    have hu2 := h.lu.get' (lo + (n - 2))
    generalize nthD 0 u (lo + n) * B + nthD 0 u (lo + (n - 1)) = top at *
    generalize nthD 0 v (n - 1) = v1 at *
    generalize nthD 0 v (n - 2) = v2 at *
    have a1 : B * V v ≤ B * ((v1 * B + v2 + 1) * β) := by
      apply Int.mul_le_mul_of_nonneg_left _ (by simp [B])
      have e : (v1 * B + v2 + 1) * β = (v1 * B + v2) * β + β := by rw [Int.add_mul]; omega
      omega
    have a2 : (top * B + nthD 0 u (lo + (n - 2))) * β < (B * (v1 * B + v2 + 1)) * β := by rw [Int.mul_assoc]; omega
    have a3 := Int.lt_of_mul_lt_mul_right a2 hβ
    simp only [B] at *
    omega
  generalize htp : nthD 0 u (lo + n) * B + nthD 0 u (lo + (n - 1)) = top at *
  have htop0 : 0 ≤ top := by simp only [B] at *; omega
  have hg0 : 0 ≤ top / nthD 0 v (n - 1) := Int.ediv_nonneg htop0 (by omega)
  have hgB : top / nthD 0 v (n - 1) ≤ 2 * B := by
    apply Int.le_of_lt_add_one
    apply Int.ediv_lt_of_lt_mul htop
    have h5 : B ≤ nthD 0 v (n - 1) * B := by
      have := Int.mul_le_mul_of_nonneg_right (show 1 ≤ nthD 0 v (n - 1) by omega) (show 0 ≤ B by simp [B])
      omega
    rw [Int.add_mul, Int.mul_assoc, Int.mul_comm B]
    omega
  have hr0 := Int.emod_nonneg top (show nthD 0 v (n - 1) ≠ 0 by omega)
  have hr1 := Int.emod_lt_of_pos top htop
  have hrr := Int.emod_add_mul_ediv top (nthD 0 v (n - 1))
  obtain ⟨w0, _, hd0⟩ := all q (by omega) (by omega) h.q_lt
  refine ⟨w0, ?_, hd0⟩
  have main := h.guess (w0, q) (fun g a1 a2 a3 => by
    obtain ⟨w', b1, b2⟩ := all g a1 a2 a3
    rw [one w0 w' hd0 b2]
    exact b1) 4294967296 (top / nthD 0 v (n - 1)) (top % nthD 0 v (n - 1)) (by simp only [B]; omega) hge hgB hr0 (by omega) (by rw [htp, Int.mul_comm]; omega)
  unfold nat_digit.f nat_digit.e
  have e1 : IntKind.i64.wrap ((n : Int) - 1) = ((n - 1 : Nat) : Int) := by rw [wrap_i64 (by omega) (by omega)]; omega
  have hv12 := hv1.2
  have hu12 := hu1.2
  have hu02 := hu0.2
  simp only [B] at hv12 hu12 hu02
  have e2 : IntKind.u64.wrap (nthD 0 v (n - 1)) = nthD 0 v (n - 1) := wrap_u64_id hv1.1 (by omega)
  have e3 : IntKind.u64.wrap (nthD 0 u (lo + n)) = nthD 0 u (lo + n) := wrap_u64_id hu0.1 (by omega)
  have e4 : IntKind.u64.wrap (nthD 0 u (lo + (n - 1))) = nthD 0 u (lo + (n - 1)) := wrap_u64_id hu1.1 (by omega)
  have e5 := or_limbs hu0 hu1
  have e6 : (2 : Int) ^ 32 = 4294967296 := rfl
  have e7 : IntKind.u64.wrap (top / nthD 0 v (n - 1)) = top / nthD 0 v (n - 1) := wrap_u64_id hg0 (by simp only [B] at hgB; omega)
  simp only [hn, e1, Int.toNat_natCast, e2, e3, e4, e6, e5, htp, Int.tdiv_eq_ediv_of_nonneg htop0, Int.tmod_eq_emod_of_nonneg htop0, e7]
  simp (disch := omega) only [dec_t, dec_f, cond_true, cond_false, Bool.and_true]
  exact main

end Go.FK
