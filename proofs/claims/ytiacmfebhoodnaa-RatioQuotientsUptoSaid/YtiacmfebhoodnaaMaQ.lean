/- The plain law: natural numbers, the reference's. -/
import Derived.Test.YtiacmfebhoodnaaMaP
namespace Go.FK

theorem V_bounds' {a : List Int} (h : Lim a) (n : Nat) : 0 ≤ V (a.take n) ∧ V (a.take n) < B ^ n := by
  have h1 := V_nonneg (h.take n)
  have h2 := V_lt (h.take n)
  have h3 : B ^ (a.take n).length ≤ B ^ n := Bpow_le (by simp; omega)
  exact ⟨h1, by omega⟩

theorem rNorm_p4 (a : List Int) (n : Nat) (hn : n ≤ a.length) (hl : a.length ≤ 35184372088832) : ∀ (m i : Nat) (c : List Int), m + i = n → c.length = n → c.take i = a.take i → Ev (fun k => ref01_Norm.p4 k c a (n : Int) (i : Int)) (a.take n) := by
  intro m
  induction m with
  | zero =>
    intro i c hi hc ht
    have hi : i = n := by omega
    subst hi
    refine Ev.turn (fun k => ref01_Norm.p4_succ k _ _ _ _) ?_
    unfold ref01_Norm.e4
    refine Ev.fls (by simp) ?_
    rw [← ht, List.take_of_length_le (by omega)]
    exact Ev.pure
  | succ m ih =>
    intro i c hi hc ht
    refine Ev.turn (fun k => ref01_Norm.p4_succ k _ _ _ _) ?_
    unfold ref01_Norm.e4
    have e1 : IntKind.i64.wrap ((i : Int) + 1) = ((i + 1 : Nat) : Int) := by rw [wrap_i64 (by omega) (by omega)]; omega
    simp only [e1, Int.toNat_natCast]
    simp (disch := omega) only [dec_t, dec_f, cond_true, cond_false, Bool.and_true]
    refine ih (i + 1) _ (by omega) (by rw [length_setN]; exact hc) ?_
    rw [take_succ_get (by rw [length_setN]; omega), take_succ_get (by omega), take_setN (Nat.le_refl i), nthD_setN, if_pos ⟨rfl, by omega⟩, ht]
theorem rNorm_p9 (a : List Int) (n : Nat) (hn : n ≤ a.length) (hl : a.length ≤ 35184372088832) : Ev (fun k => ref01_Norm.p9 k a (n : Int)) (a.take n) := by
  refine Ev.turn (fun k => ref01_Norm.p9_succ k _ _) ?_
  unfold ref01_Norm.e9
  refine Ev.tru (by simp; omega) ?_
  exact rNorm_p4 a n hn hl n 0 _ (by omega) (by simp) (by simp)
theorem rNorm_p0 (a : List Int) (hl : a.length ≤ 35184372088832) : ∀ (n : Nat), n ≤ a.length → Ev (fun k => ref01_Norm.p0 k a (n : Int)) (norm (a.take n)) := by
  intro n
  induction n with
  | zero =>
    intro h
    refine Ev.turn (fun k => ref01_Norm.p0_succ k a _) ?_
    unfold ref01_Norm.e0
    refine Ev.fls (by simp) ?_
    simpa [norm] using rNorm_p9 a 0 h hl
  | succ n ih =>
    intro h
    refine Ev.turn (fun k => ref01_Norm.p0_succ k a _) ?_
    unfold ref01_Norm.e0
    have e : IntKind.i64.wrap (((n + 1 : Nat) : Int) - 1) = (n : Int) := by rw [wrap_i64 (by omega) (by omega)]; omega
    simp only [e]
    refine Ev.tru (by simp) ?_
    refine Ev.tru (by simp; omega) ?_
    rw [take_succ_get (by omega)]
    by_cases h0 : nthD 0 a n = 0
    · refine Ev.tru (by simp [h0]) ?_
      rw [h0, norm_snoc_zero]
      exact ih (by omega)
    · refine Ev.fls (by simp [h0]) ?_
      rw [norm_snoc_ne _ h0, ← take_succ_get (by omega)]
      exact rNorm_p9 a (n + 1) h hl
theorem Nt.rNorm {M n : Nat} {a : List Int} (h : Nt M a n) (hM : M ≤ 35184372088832) : Ev (fun k => ref01_Norm.f k a) (FK.lim n) := by
  have := rNorm_p0 a (by have := h.len; omega) a.length (Nat.le_refl _)
  rw [List.take_length, h.norm] at this
  exact this

theorem at_eq {k : Nat} {a : List Int} (ha : Lim a) (i : Nat) : ref01_at.f k a (i : Int) = some (nthD 0 a i) := by
  unfold ref01_at.f ref01_at.e
  have h := ha.get' i
  simp only [B] at h
  by_cases h1 : a.length ≤ i
  · rw [nthD_beyond h1]
    simp (disch := omega) only [dec_t, cond_true]
  · simp (disch := omega) only [dec_t, dec_f, cond_true, cond_false, Bool.and_true, Int.toNat_natCast, wrap_u64_id]

theorem rCmp_p0 (a b : List Int) (ha : Lim a) (hb : Lim b) : ∀ (n : Nat), n ≤ 35184372088832 → Ev (fun k => ref01_Cmp.p0 k a b ((n : Int) - 1)) (sgn (V (a.take n)) (V (b.take n))) := by
  intro n
  induction n with
  | zero =>
    intro _
    refine Ev.turn (fun k => ref01_Cmp.p0_succ k a b _) ?_
    unfold ref01_Cmp.e0
    refine Ev.fls (by simp) ?_
    simp [V, sgn]
    exact Ev.pure
  | succ n ih =>
    intro h
    refine Ev.turn (fun k => ref01_Cmp.p0_succ k a b _) ?_
    unfold ref01_Cmp.e0
    have e0 : ((n + 1 : Nat) : Int) - 1 = (n : Int) := by omega
    have e : IntKind.i64.wrap ((n : Int) - 1) = (n : Int) - 1 := by rw [wrap_i64 (by omega) (by omega)]
    simp only [e0, e, at_eq ha, at_eq hb, Option.bind_some]
    rw [V_take_succ', V_take_succ', sgn_top (V_bounds' ha n) (V_bounds' hb n)]
    refine Ev.tru (by simp) ?_
    by_cases h1 : nthD 0 a n < nthD 0 b n
    · rw [if_neg (by omega), if_pos h1]
      exact Ev.tru (dec_t h1) Ev.pure
    · refine Ev.fls (dec_f h1) ?_
      by_cases h2 : nthD 0 a n > nthD 0 b n
      · rw [if_neg (by omega), if_neg h1]
        exact Ev.tru (dec_t h2) Ev.pure
      · rw [if_pos (by omega)]
        exact Ev.fls (dec_f h2) (ih (by omega))
theorem Nt.rcmp {M m n : Nat} {a b : List Int} (ha : Nt M a m) (hb : Nt M b n) (hM : M ≤ 35184372088832) : Ev (fun k => ref01_Cmp.f k a b) (sgn m n) := by
  have la := ha.len
  have lb := hb.len
  have go : ∀ N : Nat, a.length ≤ N → b.length ≤ N → N ≤ M → Ev (fun k => ref01_Cmp.p9 k a b (N : Int)) (sgn m n) := by
    intro N h1 h2 h3
    refine Ev.turn (fun k => ref01_Cmp.p9_succ k a b _) ?_
    unfold ref01_Cmp.e9
    rw [wrap_i64 (by omega) (by omega)]
    have := rCmp_p0 a b ha.lim hb.lim N (by omega)
    rw [List.take_of_length_le h1, List.take_of_length_le h2, ha.val, hb.val] at this
    exact this
  unfold ref01_Cmp.f ref01_Cmp.e
  by_cases h : a.length < b.length
  · exact Ev.tru (dec_t (by omega)) (go _ (by omega) (Nat.le_refl _) lb)
  · exact Ev.fls (dec_f (by omega)) (go _ (Nat.le_refl _) (by omega) la)

theorem rAdd_p0 (a b : List Int) (ha : Lim a) (hb : Lim b) (n : Nat) (hal : a.length ≤ n) (hbl : b.length ≤ n) (hl : n ≤ 35184372088830) : ∀ (m i : Nat) (c : List Int) (r : Int), m + i = n + 1 → c.length = n + 1 → Lim c → 0 ≤ r ∧ r ≤ 1 →
    V (c.take i) + B ^ i * r = V (a.take i) + V (b.take i) → Ev (fun k => ref01_Add.p0 k c a b (n : Int) r (i : Int)) (lim (V a + V b).toNat) := by
  intro m
  induction m with
  | zero =>
    intro i c r hi hc hlc hr hV
    refine Ev.turn (fun k => ref01_Add.p0_succ k _ _ _ _ _ _) ?_
    unfold ref01_Add.e0
    refine Ev.fls (dec_f (by omega)) ?_
    have hi : i = n + 1 := by omega
    subst hi
    rw [List.take_of_length_le (by omega), List.take_of_length_le (by omega), List.take_of_length_le (by omega)] at hV
    have h1 := V_lt ha
    have h2 := V_lt hb
    have h3 := Bpow_le hal
    have h4 := Bpow_le hbl
    have h5 := Int.pow_succ B n
    have h6 := Bpow_pos n
    have h7 := V_nonneg hlc
    have hr0 : r = 0 := by
      rcases (show r = 0 ∨ r = 1 by omega) with h | h
      · exact h
      · exfalso
        rw [h, h5] at hV
        simp only [B] at *
        omega
    rw [hr0] at hV
    have h3 : Nt (n + 1) c (V a + V b).toNat := Nt.toNat hlc (by omega) (by omega)
    exact Ev.bind (h3.rNorm (by omega)) Ev.pure
  | succ m ih =>
    intro i c r hi hc hlc hr hV
    have hx := ha.get' i
    have hy := hb.get' i
    refine Ev.turn (fun k => ref01_Add.p0_succ k _ _ _ _ _ _) ?_
    unfold ref01_Add.e0
    have e1 : IntKind.i64.wrap ((i : Int) + 1) = ((i + 1 : Nat) : Int) := by rw [wrap_i64 (by omega) (by omega)]; omega
    have e2 : IntKind.u64.wrap (IntKind.u64.wrap (nthD 0 a i + nthD 0 b i) + r) = nthD 0 a i + nthD 0 b i + r := by
      simp only [B] at hx hy
      simp (disch := omega) only [wrap_u64_id]
    have e3 : Int.fdiv (nthD 0 a i + nthD 0 b i + r) (2 ^ 32) = (nthD 0 a i + nthD 0 b i + r) / B := by rw [Int.fdiv_eq_ediv_of_nonneg _ (by omega)]; rfl
    simp only [e1, at_eq ha, at_eq hb, Option.bind_some, e2, e3, wrap_u32, Int.toNat_natCast]
    simp (disch := omega) only [dec_t, dec_f, cond_true, cond_false, Bool.and_true]
    refine ih (i + 1) _ _ (by omega) (by rw [length_setN]; exact hc) (hlc.set (by simp only [B] at *; omega)) (by simp only [B] at *; omega) ?_
    rw [V_take_setN (by omega), V_take_succ', V_take_succ', Int.pow_succ]
    have e := Int.emod_add_mul_ediv (nthD 0 a i + nthD 0 b i + r) B
    show V (c.take i) + B ^ i * ((nthD 0 a i + nthD 0 b i + r) % B) + B ^ i * B * ((nthD 0 a i + nthD 0 b i + r) / B) = _
    generalize (nthD 0 a i + nthD 0 b i + r) / B = q at *
    generalize (nthD 0 a i + nthD 0 b i + r) % B = s at *
    grind
theorem Nt.radd {M m n : Nat} {a b : List Int} (ha : Nt M a m) (hb : Nt M b n) (hM : M ≤ 35184372088000) : Ev (fun k => ref01_Add.f k a b) (FK.lim (m + n)) := by
  have la := ha.len
  have lb := hb.len
  have e : FK.lim (m + n) = FK.lim (V a + V b).toNat := by rw [ha.val, hb.val]; rfl
  rw [e]
  have go : ∀ N : Nat, a.length ≤ N → b.length ≤ N → N ≤ M → Ev (fun k => ref01_Add.p9 k a b (N : Int)) (FK.lim (V a + V b).toNat) := by
    intro N h1 h2 h3
    refine Ev.turn (fun k => ref01_Add.p9_succ k a b _) ?_
    unfold ref01_Add.e9
    have e1 : IntKind.i64.wrap ((N : Int) + 1) = ((N + 1 : Nat) : Int) := by rw [wrap_i64 (by omega) (by omega)]; omega
    simp only [e1, Int.toNat_natCast]
    refine Ev.tru (by simp; omega) ?_
    exact rAdd_p0 a b ha.lim hb.lim N h1 h2 (by omega) (N + 1) 0 _ 0 (by omega) (by simp) (Lim_replicate_zero _) (by omega) (by simp [V])
  unfold ref01_Add.f ref01_Add.e
  by_cases h : a.length < b.length
  · exact Ev.tru (dec_t (by omega)) (go _ (by omega) (Nat.le_refl _) lb)
  · exact Ev.fls (dec_f (by omega)) (go _ (Nat.le_refl _) (by omega) la)

theorem rSub_p0 (a b : List Int) (ha : Lim a) (hb : Lim b) (hl : a.length ≤ 35184372088832) (hbz : V (b.take a.length) = V b) (hle : V b ≤ V a) : ∀ (m i : Nat) (c : List Int) (r : Int), m + i = a.length → c.length = a.length → Lim c → 0 ≤ r ∧ r ≤ 1 →
    V (c.take i) - B ^ i * r = V (a.take i) - V (b.take i) → Ev (fun k => ref01_Sub.p0 k c a b r (i : Int)) (lim (V a - V b).toNat, (0 : Int)) := by
  intro m
  induction m with
  | zero =>
    intro i c r hi hc hlc hr hV
    refine Ev.turn (fun k => ref01_Sub.p0_succ k _ _ _ _ _) ?_
    unfold ref01_Sub.e0
    have hi : i = a.length := by omega
    subst hi
    refine Ev.fls (by simp) ?_
    rw [List.take_of_length_le (by omega), List.take_of_length_le (Nat.le_refl _), hbz] at hV
    have h1 : V c < B ^ a.length := by have := V_lt hlc; rw [hc] at this; exact this
    have h2 := V_nonneg hlc
    have h0 : r = 0 := by
      rcases (show r = 0 ∨ r = 1 by omega) with h | h
      · exact h
      · rw [h] at hV; omega
    rw [h0] at hV
    have h3 : Nt a.length c (V a - V b).toNat := Nt.toNat hlc (by omega) (by omega)
    exact Ev.bind (h3.rNorm (by omega)) Ev.pure
  | succ m ih =>
    intro i c r hi hc hlc hr hV
    have hx := ha.get' i
    have hy := hb.get' i
    refine Ev.turn (fun k => ref01_Sub.p0_succ k _ _ _ _ _) ?_
    unfold ref01_Sub.e0
    have e1 : IntKind.i64.wrap ((i : Int) + 1) = ((i + 1 : Nat) : Int) := by rw [wrap_i64 (by omega) (by omega)]; omega
    have e2 : IntKind.u64.wrap (IntKind.u64.wrap (nthD 0 a i - nthD 0 b i) - r) = (nthD 0 a i - nthD 0 b i - r) % 18446744073709551616 := by
      simp only [wrap_u64]; omega
    have e3 : Int.fdiv ((nthD 0 a i - nthD 0 b i - r) % 18446744073709551616) (2 ^ 63) = if nthD 0 a i < nthD 0 b i + r then 1 else 0 := by
      rw [Int.fdiv_eq_ediv_of_nonneg _ (by omega)]
      simp only [B] at hx hy
      split <;> omega
    have e4 : IntKind.u32.wrap ((nthD 0 a i - nthD 0 b i - r) % 18446744073709551616) = (nthD 0 a i - nthD 0 b i - r) % B := by simp only [wrap_u32, B]; omega
    simp only [e1, at_eq ha, at_eq hb, Option.bind_some, e2, e3, e4, Int.toNat_natCast]
    simp (disch := omega) only [dec_t, dec_f, cond_true, cond_false, Bool.and_true]
    refine ih (i + 1) _ _ (by omega) (by rw [length_setN]; exact hc) (hlc.set (by simp only [B] at *; omega)) (by split <;> omega) ?_
    rw [V_take_setN (by omega), V_take_succ', V_take_succ', Int.pow_succ]
    have e : (nthD 0 a i - nthD 0 b i - r) % B = nthD 0 a i - nthD 0 b i - r + B * (if nthD 0 a i < nthD 0 b i + r then 1 else 0) := by
      simp only [B] at *
      split <;> omega
    generalize (if nthD 0 a i < nthD 0 b i + r then (1 : Int) else 0) = q at *
    generalize (nthD 0 a i - nthD 0 b i - r) % B = s at *
    grind
theorem Nt.rsub {M m n : Nat} {a b : List Int} (ha : Nt M a m) (hb : Nt M b n) (hM : M ≤ 35184372088832) (h : n ≤ m) : Ev (fun k => ref01_Sub.f k a b) (FK.lim (m - n), (0 : Int)) := by
  have la := ha.len
  have e : FK.lim (m - n) = FK.lim (V a - V b).toNat := by rw [ha.val, hb.val]; congr 1; omega
  rw [e]
  unfold ref01_Sub.f ref01_Sub.e
  refine Ev.bind (ha.rcmp hb hM) ?_
  refine Ev.fls ?_ ?_
  · unfold sgn
    by_cases h1 : (m : Int) = n
    · rw [if_neg (by omega), if_pos h1]; rfl
    · rw [if_neg (by omega), if_neg h1]; rfl
  have hbz : V (b.take a.length) = V b := by
    by_cases h1 : b.length ≤ a.length
    · rw [List.take_of_length_le h1]
    · have h2 := V_split b a.length (by omega)
      have h3 := V_lt ha.lim
      rw [ha.val] at h3
      have h4 := drop_zero_of_lt hb.lim (m := a.length) (by omega) (by rw [hb.val]; omega)
      rw [h4] at h2
      omega
  refine Ev.tru (by simp; omega) ?_
  exact rSub_p0 a b ha.lim hb.lim (by omega) hbz (by rw [ha.val, hb.val]; omega) a.length 0 _ 0 (by omega) (by simp) (Lim_replicate_zero _) (by omega) (by simp [V])

theorem rMul_p4 (a b : List Int) (ha : Lim a) (hb : Lim b) (hl : a.length ≤ 17592186044416) (hlb : b.length ≤ 17592186044416) (i : Nat) (hi : i < a.length) (C0 : Int) (R : List Int)
    (hK : ∀ c : List Int, c.length = a.length + b.length → Lim c → (∀ j, i + 1 + b.length ≤ j → nthD 0 c j = 0) → V c = C0 + B ^ i * (nthD 0 a i * V b) → Ev (fun k => ref01_Mul.p0 k c a b ((i + 1 : Nat) : Int)) R) :
    ∀ (m t : Nat) (c : List Int) (r : Int), m + t = b.length → c.length = a.length + b.length → Lim c → 0 ≤ r ∧ r < B → (∀ j, i + b.length ≤ j → nthD 0 c j = 0) →
      V c + B ^ (i + t) * r = C0 + B ^ i * (nthD 0 a i * V (b.take t)) → Ev (fun k => ref01_Mul.p4 k c a b (i : Int) r (t : Int)) R := by
  intro m
  induction m with
  | zero =>
    intro t c r ht hc hlc hr hz hV
    refine Ev.turn (fun k => ref01_Mul.p4_succ k _ _ _ _ _ _) ?_
    unfold ref01_Mul.e4
    have ht : t = b.length := by omega
    subst ht
    simp only [B] at hr
    have e1 : IntKind.i64.wrap ((i : Int) + (b.length : Int)) = ((i + b.length : Nat) : Int) := by rw [wrap_i64 (by omega) (by omega)]; omega
    have e2 : IntKind.i64.wrap ((i : Int) + 1) = ((i + 1 : Nat) : Int) := by rw [wrap_i64 (by omega) (by omega)]; omega
    rw [e1, e2, wrap_u32_id hr.1 hr.2]
    simp (disch := omega) only [dec_t, dec_f, cond_true, cond_false, Bool.and_true, Int.toNat_natCast]
    refine hK _ (by rw [length_setN]; exact hc) (hlc.set (by simp only [B]; omega)) ?_ ?_
    · intro j hj
      rw [nthD_setN, if_neg (by omega)]
      exact hz j (by omega)
    · rw [V_setN _ _ _ (by omega), hz _ (Nat.le_refl _)]
      rw [List.take_of_length_le (Nat.le_refl _)] at hV
      rw [← hV]
      simp
  | succ m ih =>
    intro t c r ht hc hlc hr hz hV
    refine Ev.turn (fun k => ref01_Mul.p4_succ k _ _ _ _ _ _) ?_
    unfold ref01_Mul.e4
    have hx := ha.get' i
    have hy := hb.get' t
    have hw := hlc.get' (i + t)
    have hm := mul_limb hx hy hw hr
    have e1 : IntKind.i64.wrap ((i : Int) + (t : Int)) = ((i + t : Nat) : Int) := by rw [wrap_i64 (by omega) (by omega)]; omega
    have e2 : IntKind.i64.wrap ((t : Int) + 1) = ((t + 1 : Nat) : Int) := by rw [wrap_i64 (by omega) (by omega)]; omega
    rw [e1, e2]
    simp only [Int.toNat_natCast]
    generalize hxy : nthD 0 a i * nthD 0 b t = xy at *
    have e3 : IntKind.u64.wrap (IntKind.u64.wrap (IntKind.u64.wrap (IntKind.u64.wrap (nthD 0 a i) * IntKind.u64.wrap (nthD 0 b t)) + IntKind.u64.wrap (nthD 0 c (i + t))) + r) = xy + nthD 0 c (i + t) + r := by
      simp only [B] at hx hy hw hr
      rw [wrap_u64_id hx.1 (by omega), wrap_u64_id hy.1 (by omega), wrap_u64_id hw.1 (by omega), hxy]
      simp (disch := omega) only [wrap_u64_id]
    rw [e3, wrap_u32, Int.fdiv_eq_ediv_of_nonneg _ (by omega)]
    simp (disch := omega) only [dec_t, dec_f, cond_true, cond_false, Bool.and_true]
    refine ih (t + 1) _ _ (by omega) (by rw [length_setN]; exact hc) (hlc.set (by simp only [B]; omega)) (by simp only [B] at *; omega) ?_ ?_
    · intro j hj
      rw [nthD_setN, if_neg (by omega)]
      exact hz j hj
    · have e4 := Int.emod_add_mul_ediv (xy + nthD 0 c (i + t) + r) B
      show V (setN ((xy + nthD 0 c (i + t) + r) % B) c (i + t)) + B ^ (i + (t + 1)) * ((xy + nthD 0 c (i + t) + r) / B) = _
      rw [V_setN _ _ _ (by omega), V_take_succ']
      generalize (xy + nthD 0 c (i + t) + r) / B = q at *
      generalize (xy + nthD 0 c (i + t) + r) % B = s at *
      rw [show i + (t + 1) = (i + t) + 1 by omega, Int.pow_succ]
      rw [Int.pow_add] at *
      grind

theorem rMul_p0 (a b : List Int) (ha : Lim a) (hb : Lim b) (hl : a.length ≤ 17592186044416) (hlb : b.length ≤ 17592186044416) : ∀ (m i : Nat) (c : List Int), m + i = a.length → c.length = a.length + b.length → Lim c → (∀ j, i + b.length ≤ j → nthD 0 c j = 0) →
    V c = V (a.take i) * V b → Ev (fun k => ref01_Mul.p0 k c a b (i : Int)) (lim (V a * V b).toNat) := by
  intro m
  induction m with
  | zero =>
    intro i c hi hc hlc hz hV
    refine Ev.turn (fun k => ref01_Mul.p0_succ k _ _ _ _) ?_
    unfold ref01_Mul.e0
    refine Ev.fls (by simp; omega) ?_
    rw [List.take_of_length_le (by omega)] at hV
    exact Ev.bind ((Nt.toNat hlc hV (Nat.le_refl _)).rNorm (by omega)) Ev.pure
  | succ m ih =>
    intro i c hi hc hlc hz hV
    refine Ev.turn (fun k => ref01_Mul.p0_succ k _ _ _ _) ?_
    unfold ref01_Mul.e0
    refine Ev.tru (by simp; omega) ?_
    refine rMul_p4 a b ha hb hl hlb i (by omega) (V (a.take i) * V b) _ ?_ b.length 0 c 0 (by omega) hc hlc (by simp [B]) hz ?_
    · intro c' h1 h2 h3 h4
      refine ih (i + 1) c' (by omega) h1 h2 h3 ?_
      rw [h4, V_take_succ', Int.add_mul, Int.mul_assoc]
    · simp [V, hV]

theorem Nt.rmul {M m n : Nat} {a b : List Int} (ha : Nt M a m) (hb : Nt M b n) (hM : M ≤ 17592186044416) : Ev (fun k => ref01_Mul.f k a b) (FK.lim (m * n)) := by
  have e : FK.lim (m * n) = FK.lim (V a * V b).toNat := by
    rw [ha.val, hb.val]; congr 1
  have la := ha.len
  have lb := hb.len
  rw [e]
  unfold ref01_Mul.f ref01_Mul.e
  simp (disch := omega) only [dec_t, dec_f, cond_true, cond_false, Bool.and_true, wrap_i64]
  refine rMul_p0 _ _ ha.lim hb.lim (by omega) (by omega) a.length 0 _ (by omega) (by simp; omega) (Lim_replicate_zero _) (fun j _ => nthD_zeros _ _) ?_
  simp [V, V_replicate_zero]

theorem bits_or32_comm {a b : Int} (ha : 0 ≤ a ∧ a < 4294967296) (hb : 0 ≤ b ∧ b < 4294967296) : bitsI .or .u32 a b = bitsI .or .u32 b a := by rw [bits_or32 ha hb, bits_or32 hb ha, Nat.or_comm]

theorem twice_p0 (a : List Int) (ha : Lim a) (hl : a.length ≤ 35184372088000) (g : Int) (hg : 0 ≤ g ∧ g ≤ 1) : ∀ (m i : Nat) (c : List Int) (r : Int), m + i = a.length → c.length = a.length + 1 → Lim c → 0 ≤ r ∧ r ≤ 1 →
    V (c.take i) + B ^ i * r = 2 * V (a.take i) + g → Ev (fun k => ref01_twice.p0 k c a r (i : Int)) (lim (2 * V a + g).toNat) := by
  intro m
  induction m with
  | zero =>
    intro i c r hi hc hlc hr hV
    refine Ev.turn (fun k => ref01_twice.p0_succ k _ _ _ _) ?_
    unfold ref01_twice.e0
    have hi : i = a.length := by omega
    subst hi
    refine Ev.fls (by simp) (Ev.tru (by simp; omega) ?_)
    simp only [Int.toNat_natCast]
    have h2 : V (setN r c a.length) = 2 * V a + g := by
      have := V_take_setN (c := c) (i := a.length) (v := r) (by omega)
      rw [List.take_of_length_le (by rw [length_setN]; omega)] at this
      rw [this, hV, List.take_of_length_le (Nat.le_refl _)]
    have h3 : Nt (a.length + 1) (setN r c a.length) (2 * V a + g).toNat := Nt.toNat (hlc.set (by simp only [B]; omega)) h2 (by rw [length_setN]; omega)
    exact Ev.bind (h3.rNorm (by omega)) Ev.pure
  | succ m ih =>
    intro i c r hi hc hlc hr hV
    have hx := ha.get' i
    refine Ev.turn (fun k => ref01_twice.p0_succ k _ _ _ _) ?_
    unfold ref01_twice.e0
    have e1 : IntKind.i64.wrap ((i : Int) + 1) = ((i + 1 : Nat) : Int) := by rw [wrap_i64 (by omega) (by omega)]; omega
    have e2 : IntKind.u32.wrap (nthD 0 a i * 2 ^ 1) = nthD 0 a i * 2 ^ 1 % B := wrap_u32 _
    have e3 : bitsI .or .u32 (nthD 0 a i * 2 ^ 1 % B) r = r + nthD 0 a i * 2 ^ 1 % B := by
      rw [bits_or32_comm (by simp only [B]; omega) (by omega)]
      exact or_low (u := 1) (by omega) ⟨hr.1, by omega⟩ hx.1
    have e4 : Int.fdiv (nthD 0 a i) (2 ^ 31) = nthD 0 a i * 2 ^ 1 / B := by rw [Int.fdiv_eq_ediv_of_nonneg _ (by omega)]; simp only [B]; omega
    simp only [e1, e2, e3, e4, Int.toNat_natCast]
    simp (disch := omega) only [dec_t, dec_f, cond_true, cond_false, Bool.and_true]
    have e := Int.emod_add_mul_ediv (nthD 0 a i * 2 ^ 1) B
    have hb : 0 ≤ r + nthD 0 a i * 2 ^ 1 % B ∧ r + nthD 0 a i * 2 ^ 1 % B < B := by simp only [B]; omega
    refine ih (i + 1) _ _ (by omega) (by rw [length_setN]; exact hc) (hlc.set hb) (by simp only [B] at *; omega) ?_
    rw [V_take_setN (by omega), V_take_succ', Int.pow_succ]
    generalize (nthD 0 a i * 2 ^ 1) / B = q at *
    generalize (nthD 0 a i * 2 ^ 1) % B = s at *
    grind
theorem Nt.twice {M m : Nat} {a : List Int} (ha : Nt M a m) (hM : M ≤ 35184372088000) (d : Bool) : Ev (fun k => ref01_twice.f k a d) (FK.lim (2 * m + d.toNat)) := by
  have la := ha.len
  have e : FK.lim (2 * m + d.toNat) = FK.lim (2 * V a + d.toNat).toNat := by rw [ha.val]; congr 1
  rw [e]
  have e1 : IntKind.i64.wrap ((a.length : Int) + 1) = ((a.length + 1 : Nat) : Int) := by rw [wrap_i64 (by omega) (by omega)]; omega
  have go : ∀ g : Int, 0 ≤ g ∧ g ≤ 1 → Ev (fun k => ref01_twice.p11 k (List.replicate (a.length + 1) 0) a g) (FK.lim (2 * V a + g).toNat) := by
    intro g hg
    refine Ev.turn (fun k => ref01_twice.p11_succ k _ _ _) ?_
    unfold ref01_twice.e11
    exact twice_p0 a ha.lim (by omega) g hg a.length 0 _ g (by omega) (by simp) (Lim_replicate_zero _) hg (by simp [V])
  unfold ref01_twice.f ref01_twice.e
  simp only [e1, Int.toNat_natCast]
  refine Ev.tru (by simp; omega) ?_
  cases d with
  | true => exact go 1 (by omega)
  | false => exact go 0 (by omega)

theorem rSame_p0 (a b : List Int) (hl : a.length = b.length) (hM : a.length ≤ 35184372088832) : ∀ (m i : Nat), m + i = a.length → a.take i = b.take i → Ev (fun k => ref01_Same.p0 k a b (i : Int)) (decide (a = b)) := by
  intro m
  induction m with
  | zero =>
    intro i hi ht
    refine Ev.turn (fun k => ref01_Same.p0_succ k _ _ _) ?_
    unfold ref01_Same.e0
    refine Ev.fls (dec_f (by omega)) ?_
    rw [List.take_of_length_le (by omega), List.take_of_length_le (by omega)] at ht
    rw [dec_t ht]
    exact Ev.pure
  | succ m ih =>
    intro i hi ht
    refine Ev.turn (fun k => ref01_Same.p0_succ k _ _ _) ?_
    unfold ref01_Same.e0
    have e1 : IntKind.i64.wrap ((i : Int) + 1) = ((i + 1 : Nat) : Int) := by rw [wrap_i64 (by omega) (by omega)]; omega
    simp only [e1, Int.toNat_natCast]
    refine Ev.tru (dec_t (by omega)) (Ev.tru (by simp; omega) (Ev.tru (by simp; omega) ?_))
    by_cases h : nthD 0 a i = nthD 0 b i
    · refine Ev.fls (by simp [h]) (ih (i + 1) (by omega) ?_)
      rw [take_succ_get (by omega), take_succ_get (by omega), ht, h]
    · refine Ev.tru (by simp [h]) ?_
      rw [dec_f (fun h2 => h (by rw [h2]))]
      exact Ev.pure
theorem rSame_ev (a b : List Int) (hM : a.length ≤ 35184372088832) : Ev (fun k => ref01_Same.f k a b) (decide (a = b)) := by
  unfold ref01_Same.f ref01_Same.e
  by_cases h : a.length = b.length
  · exact Ev.fls (by simp [h]) (rSame_p0 a b h hM a.length 0 (by omega) (by simp))
  · refine Ev.tru (by simp; omega) ?_
    rw [dec_f (fun h2 => h (by rw [h2]))]
    exact Ev.pure

theorem r3Same_ev (r s : RR) (h1 : r.1.2.length ≤ 35184372088832) (h2 : r.2.length ≤ 35184372088832) : Ev (fun k => ref03_Same.f k r s) (decide (r = s)) := by
  obtain ⟨⟨x, l⟩, d⟩ := r
  obtain ⟨⟨y, m⟩, e⟩ := s
  unfold ref03_Same.f ref03_Same.e
  by_cases hx : x = y
  · subst hx
    refine Ev.tru (by simp) (Ev.bind (rSame_ev l m h1) ?_)
    by_cases hl : l = m
    · subst hl
      refine Ev.tru (by simp) ?_
      have : decide (((x, l), d) = ((x, l), e)) = decide (d = e) := by simp
      rw [this]
      exact Ev.bind (rSame_ev d e h2) Ev.pure
    · refine Ev.fls (by simpa using hl) ?_
      rw [dec_f (by simp [hl])]
      exact Ev.pure
  · refine Ev.fls (by simpa using hx) ?_
    rw [dec_f (by simp [hx])]
    exact Ev.pure

end Go.FK
