/- The plain law: the reference's shift. -/
import Derived.Test.YtiacmfebhoodnaaMaR
namespace Go.FK

theorem rshift_p0 {a : List Int} {s J K S : Nat} (ha : Lim a) (hl : a.length ≤ 17592186044416) (hJ : J ≤ 17592186044416) (hK : K ≤ 17592186044416) (hSl : S ≤ 35184372088832) (hs : s < 32) (hJK : J = 0 ∨ K = 0)
    (hS : ∀ i p, i < a.length → i + J = p + K → p + 1 < S ∨ (p + 1 = S ∧ nthD 0 a i * 2 ^ s / B = 0)) (hS0 : 0 < a.length → 0 < S) :
    ∀ (m i : Nat) (o : List Int), m + i = a.length → Shi a s J K S i o → Ev (fun k => ref01_Shift.p0 k o a (S : Int) ((J : Int) - (K : Int)) (s : Int) (i : Int)) (lim (V a * 2 ^ s * B ^ J / B ^ K).toNat, (0 : Int)) := by
  intro m
  induction m with
  | zero =>
    intro i o hi h
    refine Ev.turn (fun k => ref01_Shift.p0_succ k _ _ _ _ _ _) ?_
    unfold ref01_Shift.e0
    refine Ev.fls (dec_f (by omega)) ?_
    have hv := h.val
    rw [List.take_of_length_le (by omega)] at hv
    have n1 : Nt S o (V a * 2 ^ s * B ^ J / B ^ K).toNat := Nt.toNat h.lim hv (by rw [h.len]; omega)
    exact Ev.bind (n1.rNorm (by omega)) Ev.pure
  | succ m ih =>
    intro i o hi h
    have hy := ha.get' i
    obtain ⟨l0, l1, h0, h1, hsum, hb, hb0, h31⟩ := lo_hi (s := s) hs hy
    obtain ⟨n1, n2, n3, n4⟩ := h.next ha hs hJK (by omega) _ _ rfl rfl
    have hp0 : (0 : Int) < 2 ^ s := Int.pow_pos (by omega)
    -- behind a step
    have step : ∀ o', Shi a s J K S (i + 1) o' → Ev (fun k => ref01_Shift.p33 k o' a (S : Int) ((J : Int) - (K : Int)) (s : Int) (i : Int)) (lim (V a * 2 ^ s * B ^ J / B ^ K).toNat, (0 : Int)) := by
      intro o' h'
      refine Ev.turn (fun k => ref01_Shift.p33_succ k _ _ _ _ _ _) ?_
      unfold ref01_Shift.e33
      have e1 : IntKind.i64.wrap ((i : Int) + 1) = ((i + 1 : Nat) : Int) := by rw [wrap_i64 (by omega) (by omega)]; omega
      rw [e1]
      exact ih (i + 1) o' (by omega) h'
    have e1 : IntKind.u64.wrap (s : Int) = (s : Int) := wrap_u64_id (by omega) (by omega)
    have e2 : IntKind.u64.wrap (IntKind.u64.wrap (nthD 0 a i) * 2 ^ min s 64) = nthD 0 a i * 2 ^ s := by
      have hy2 := hy.2
      simp only [B] at hy2
      rw [Nat.min_eq_left (by omega), wrap_u64_id hy.1 (by omega), wrap_u64_id hb0 hb]
    have e3 : IntKind.u32.wrap (nthD 0 a i * 2 ^ s) = nthD 0 a i * 2 ^ s % B := wrap_u32 _
    have e4 : IntKind.u32.wrap (Int.fdiv (nthD 0 a i * 2 ^ s) (2 ^ 32)) = nthD 0 a i * 2 ^ s / B := by
      rw [Int.fdiv_eq_ediv_of_nonneg _ (by omega)]
      exact wrap_u32_id h0 (by show nthD 0 a i * 2 ^ s / B < 4294967296; omega)
    refine Ev.turn (fun k => ref01_Shift.p0_succ k _ _ _ _ _ _) ?_
    unfold ref01_Shift.e0
    simp only [e1, e2, e3, Int.toNat_natCast]
    refine Ev.tru (dec_t (by omega)) (Ev.tru (by simp; omega) (Ev.fls (dec_f (by omega)) ?_))
    by_cases hc : K ≤ i + J
    · obtain ⟨p, hp⟩ : ∃ p, i + J = p + K := ⟨i + J - K, by omega⟩
      have e5 : IntKind.i64.wrap ((i : Int) + ((J : Int) - (K : Int))) = (p : Int) := by rw [wrap_i64 (by omega) (by omega)]; omega
      have e6 : IntKind.i64.wrap ((p : Int) + 1) = ((p + 1 : Nat) : Int) := by rw [wrap_i64 (by omega) (by omega)]; omega
      have hx := h.lim.get' p
      have hxe := h.edge hc
      rw [show i + J - K = p by omega] at hxe
      have e7 := or_low (u := s) (x := nthD 0 o p) (y := nthD 0 a i) (by omega) ⟨hx.1, hxe⟩ hy.1
      have hSp := hS i p (by omega) hp
      have hol := h.len
      simp only [e5, Int.toNat_natCast, e7]
      refine Ev.tru (dec_t (by omega)) (Ev.tru (dec_t (by omega)) (Ev.tru (by simp; omega) (Ev.tru (by simp; omega) ?_)))
      refine Ev.turn (fun k => ref01_Shift.p41_succ k _ _ _ _ _ _ _) ?_
      unfold ref01_Shift.e41
      simp only [e5, e6, e4, Int.toNat_natCast]
      refine Ev.tru (dec_t (by omega)) ?_
      rcases hSp with hSp | ⟨hSp, hz⟩
      · have e8 : nthD 0 (setN (nthD 0 o p + nthD 0 a i * 2 ^ s % B) o p) (p + 1) = 0 := by rw [nthD_setN, if_neg (by omega)]; exact h.zero _ (by omega)
        rw [e8, or_high (u := 0) (by omega) rfl ⟨h0, by omega⟩]
        refine Ev.tru (dec_t (by omega)) (Ev.tru (by simp [length_setN]; omega) (Ev.tru (by simp [length_setN]; omega) ?_))
        exact step _ (n1 p hp hSp)
      · refine Ev.fls (dec_f (by omega)) ?_
        exact step _ (n2 p hp hSp hz)
    · have e5 : IntKind.i64.wrap ((i : Int) + ((J : Int) - (K : Int))) = (i : Int) + ((J : Int) - (K : Int)) := wrap_i64 (by omega) (by omega)
      have e6 : IntKind.i64.wrap ((i : Int) + ((J : Int) - (K : Int)) + 1) = (i : Int) + ((J : Int) - (K : Int)) + 1 := wrap_i64 (by omega) (by omega)
      simp only [e5]
      refine Ev.fls (dec_f (by omega)) ?_
      refine Ev.turn (fun k => ref01_Shift.p41_succ k _ _ _ _ _ _ _) ?_
      unfold ref01_Shift.e41
      simp only [e5, e6, e4]
      by_cases hc2 : i + 1 + J = K
      · have hz := h.zero 0 (by omega)
        have e8 : ((i : Int) + ((J : Int) - (K : Int)) + 1).toNat = 0 := by omega
        have hol := h.len
        have hS1 := hS0 (by omega)
        rw [e8, hz, or_high (u := 0) (by omega) rfl ⟨h0, by omega⟩]
        refine Ev.tru (dec_t (by omega)) (Ev.tru (dec_t (by omega)) (Ev.tru (by simp; omega) (Ev.tru (by simp; omega) ?_)))
        exact step _ (n3 hc2 hS1)
      · refine Ev.fls (dec_f (by omega)) ?_
        exact step _ (n4 (by omega))

theorem shi_start {a : List Int} {s J K S : Nat} : Shi a s J K S 0 (List.replicate S 0) :=
  ⟨Lim_replicate_zero _, by simp, by simp [V, V_replicate_zero], fun _ => by rw [nthD_zeros]; exact Int.pow_pos (by omega), fun j _ => nthD_zeros _ _⟩

theorem Nt.rshift_up {M m : Nat} {a : List Int} (ha : Nt M a m) (hM : M ≤ 17592186044415) (n : Nat) (hn : n ≤ 1048576) : Ev (fun k => ref01_Shift.f k a (n : Int)) (FK.lim (m * 2 ^ n), (0 : Int)) := by
  have la := ha.len
  unfold ref01_Shift.f ref01_Shift.e
  refine Ev.fls (dec_f (by omega)) (Ev.fls (dec_f (by omega)) (Ev.bind (ha.rNorm (by omega)) ?_))
  by_cases hm : m = 0
  · subst hm
    rw [lim_zero, Nat.zero_mul, lim_zero]
    exact Ev.tru (by simp) Ev.pure
  · have hL := L_pos hm
    have ha0 : 0 < a.length := by have := ha.L; have h3 := L_mono (Nat.le_refl m); rcases Nat.eq_zero_or_pos a.length with h | h
                                  · exfalso
                                    have h2 := ha.val
                                    rw [List.length_eq_zero_iff.1 h] at h2
                                    simp only [V] at h2
                                    omega
                                  · exact h
    refine Ev.fls (dec_f (by unfold FK.L at hL; omega)) ?_
    have hval : (V a * 2 ^ (n % 32) * B ^ (n / 32) / B ^ 0).toNat = m * 2 ^ n := by
      rw [ha.val, Int.pow_zero, Int.ediv_one]
      have : (B : Int) ^ (n / 32) = ((2 ^ (32 * (n / 32)) : Nat) : Int) := by rw [Nat.pow_mul, Int.natCast_pow]; rfl
      rw [this]
      have e2 : (2 : Int) ^ (n % 32) = ((2 ^ (n % 32) : Nat) : Int) := by rw [Int.natCast_pow]; rfl
      rw [e2, ← Int.natCast_mul, ← Int.natCast_mul, Int.toNat_natCast, Nat.mul_assoc, ← Nat.pow_add, show n % 32 + 32 * (n / 32) = n by omega]
    have e1 : Int.tmod (n : Int) 32 = ((n % 32 : Nat) : Int) := by rw [Int.tmod_eq_emod_of_nonneg (by omega)]; omega
    have e2 : IntKind.i64.wrap (Int.tdiv (n : Int) 32) = ((n / 32 : Nat) : Int) := by rw [Int.tdiv_eq_ediv_of_nonneg (by omega), wrap_i64 (by omega) (by omega)]; omega
    have go : ∀ S : Nat, S ≤ 35184372088832 → a.length ≤ S → (n = 0 ∨ a.length + n / 32 < S) → Ev (fun k => ref01_Shift.p17 k a (n : Int) (S : Int)) (FK.lim (m * 2 ^ n), (0 : Int)) := by
      intro S h1 h2 h3
      refine Ev.turn (fun k => ref01_Shift.p17_succ k _ _ _) ?_
      unfold ref01_Shift.e17
      simp only [e1, e2, Int.toNat_natCast]
      refine Ev.tru (by simp; omega) (Ev.fls (dec_f (by omega)) ?_)
      refine Ev.turn (fun k => ref01_Shift.p29_succ k _ _ _ _ _) ?_
      unfold ref01_Shift.e29
      have := rshift_p0 (a := a) (s := n % 32) (J := n / 32) (K := 0) (S := S) ha.lim (by omega) (by omega) (by omega) h1 (by omega) (Or.inr rfl) (by
        intro i p hi hp
        rcases h3 with h3 | h3
        · by_cases h4 : p + 1 < S
          · exact Or.inl h4
          · refine Or.inr ⟨by omega, ?_⟩
            have hx := ha.lim.get' i
            subst h3
            rw [Int.pow_zero, Int.mul_one]
            exact Int.ediv_eq_zero_of_lt hx.1 hx.2
        · exact Or.inl (by omega)) (by omega) a.length 0 _ (by omega) shi_start
      rw [hval] at this
      simpa using this
    by_cases hn0 : n = 0
    · refine Ev.fls (dec_f (by omega)) ?_
      exact go a.length (by omega) (Nat.le_refl _) (Or.inl hn0)
    · refine Ev.tru (dec_t (by omega)) ?_
      have e3 : IntKind.i64.wrap ((a.length : Int) + IntKind.i64.wrap (((n / 32 : Nat) : Int) + 1)) = ((a.length + (n / 32 + 1) : Nat) : Int) := by
        rw [wrap_i64 (n := ((n / 32 : Nat) : Int) + 1) (by omega) (by omega), wrap_i64 (by omega) (by omega)]; omega
      simp only [e2, e3]
      exact go _ (by omega) (by omega) (Or.inr (by omega))

theorem Nt.rshift_down {M m : Nat} {a : List Int} (ha : Nt M a m) (hM : M ≤ 17592186044415) (n : Nat) (hn : n ≤ 1048576) (hn0 : 0 < n) : Ev (fun k => ref01_Shift.f k a (-(n : Int))) (FK.lim (m / 2 ^ n), (0 : Int)) := by
  have la := ha.len
  unfold ref01_Shift.f ref01_Shift.e
  refine Ev.fls (dec_f (by omega)) (Ev.fls (dec_f (by omega)) (Ev.bind (ha.rNorm (by omega)) ?_))
  by_cases hm : m = 0
  · subst hm
    rw [lim_zero, Nat.zero_div, lim_zero]
    exact Ev.tru (by simp) Ev.pure
  · have hL := L_pos hm
    have ha0 : 0 < a.length := by
      rcases Nat.eq_zero_or_pos a.length with h | h
      · exfalso
        have h2 := ha.val
        rw [List.length_eq_zero_iff.1 h] at h2
        simp only [V] at h2
        omega
      · exact h
    refine Ev.fls (dec_f (by unfold FK.L at hL; omega)) (Ev.fls (dec_f (by omega)) ?_)
    refine Ev.turn (fun k => ref01_Shift.p17_succ k _ _ _) ?_
    unfold ref01_Shift.e17
    have e1 : Int.tmod (-(n : Int)) 32 = -((n % 32 : Nat) : Int) := by rw [Int.neg_tmod, Int.tmod_eq_emod_of_nonneg (by omega)]; omega
    have e2 : IntKind.i64.wrap (Int.tdiv (-(n : Int)) 32) = -((n / 32 : Nat) : Int) := by rw [Int.neg_tdiv, Int.tdiv_eq_ediv_of_nonneg (by omega), wrap_i64 (by omega) (by omega)]; omega
    simp only [e1, e2, Int.toNat_natCast]
    refine Ev.tru (by simp; omega) ?_
    have hval : ∀ s K : Nat, n + s = 32 * K → (V a * 2 ^ s * B ^ 0 / B ^ K).toNat = m / 2 ^ n := by
      intro s K h
      rw [ha.val, Int.pow_zero, Int.mul_one]
      have : (B : Int) ^ K = ((2 ^ (n + s) : Nat) : Int) := by rw [h, Nat.pow_mul, Int.natCast_pow]; rfl
      rw [this]
      have e2 : (2 : Int) ^ s = ((2 ^ s : Nat) : Int) := by rw [Int.natCast_pow]; rfl
      rw [e2, ← Int.natCast_mul, ← Int.natCast_ediv, Int.toNat_natCast, Nat.pow_add, Nat.mul_div_mul_right _ _ (Nat.pow_pos (by omega))]
    by_cases hr : n % 32 = 0
    · refine Ev.fls (dec_f (by omega)) ?_
      refine Ev.turn (fun k => ref01_Shift.p29_succ k _ _ _ _ _) ?_
      unfold ref01_Shift.e29
      have := rshift_p0 (a := a) (s := 0) (J := 0) (K := n / 32) (S := a.length) ha.lim (by omega) (by omega) (by omega) (by omega) (by omega) (Or.inl rfl) (by
        intro i p hi hp
        exact Or.inl (by omega)) (by omega) a.length 0 _ (by omega) shi_start
      rw [hval 0 (n / 32) (by omega)] at this
      simpa [hr] using this
    · refine Ev.tru (dec_t (by omega)) ?_
      refine Ev.turn (fun k => ref01_Shift.p29_succ k _ _ _ _ _) ?_
      unfold ref01_Shift.e29
      have e3 : IntKind.i64.wrap (-((n / 32 : Nat) : Int) - 1) = ((0 : Nat) : Int) - ((n / 32 + 1 : Nat) : Int) := by rw [wrap_i64 (by omega) (by omega)]; omega
      have e4 : IntKind.i64.wrap (-((n % 32 : Nat) : Int) + 32) = ((32 - n % 32 : Nat) : Int) := by rw [wrap_i64 (by omega) (by omega)]; omega
      rw [e3, e4]
      have := rshift_p0 (a := a) (s := 32 - n % 32) (J := 0) (K := n / 32 + 1) (S := a.length) ha.lim (by omega) (by omega) (by omega) (by omega) (by omega) (Or.inl rfl) (by
        intro i p hi hp
        exact Or.inl (by omega)) (by omega) a.length 0 _ (by omega) shi_start
      rw [hval _ _ (by omega)] at this
      exact this

end Go.FK
