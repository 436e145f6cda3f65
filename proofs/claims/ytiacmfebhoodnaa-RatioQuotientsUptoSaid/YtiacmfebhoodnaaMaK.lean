/- The plain law: how many bits; a digit of a quotient. -/
import Derived.Test.YtiacmfebhoodnaaMaJ
namespace Go.FK

/-- r is how many bits x has. -/
structure Bl (x r : Nat) : Prop where
  lt : x < 2 ^ r
  low : x ≠ 0 → 1 ≤ r ∧ 2 ^ (r - 1) ≤ x
  zero : x = 0 → r = 0

theorem Bl.unique {x r s : Nat} (h : Bl x r) (g : Bl x s) : r = s := by
  by_cases h0 : x = 0
  · rw [h.zero h0, g.zero h0]
  · have h1 := h.low h0
    have g1 := g.low h0
    have a1 : 2 ^ (r - 1) < 2 ^ s := Nat.lt_of_le_of_lt h1.2 g.lt
    have a2 : 2 ^ (s - 1) < 2 ^ r := Nat.lt_of_le_of_lt g1.2 h.lt
    have b1 := (Nat.pow_lt_pow_iff_right (by omega : 1 < 2)).1 a1
    have b2 := (Nat.pow_lt_pow_iff_right (by omega : 1 < 2)).1 a2
    omega

theorem Bl.shift {x r j : Nat} (hx : 2 ^ j ≤ x) (h : Bl (x / 2 ^ j) r) : Bl x (r + j) := by
  have hp : 0 < 2 ^ j := Nat.pow_pos (by omega)
  have hne : x / 2 ^ j ≠ 0 := by
    have := Nat.div_pos hx hp
    omega
  have h1 := h.low hne
  refine ⟨?_, fun _ => ⟨by omega, ?_⟩, fun h0 => by omega⟩
  · rw [Nat.pow_add]
    exact (Nat.div_lt_iff_lt_mul hp).1 h.lt
  · rw [show r + j - 1 = (r - 1) + j by omega, Nat.pow_add]
    exact (Nat.le_div_iff_mul_le hp).1 h1.2

def tabOk (v : Nat) : Bool := let r := (btI str_14a5d850c2 (v : Int)).toNat; decide (v < 2 ^ r) && (v == 0 || (decide (1 ≤ r) && decide (2 ^ (r - 1) ≤ v))) && (v != 0 || r == 0) && decide (r ≤ 8) && decide (0 ≤ btI str_14a5d850c2 (v : Int))
theorem tab_ok : ∀ v, v < 256 → tabOk v = true := by decide +kernel
theorem tab_size : str_14a5d850c2.size = 256 := by decide +kernel

theorem tab_bl {v : Nat} (h : v < 256) : Bl v (btI str_14a5d850c2 (v : Int)).toNat ∧ (btI str_14a5d850c2 (v : Int)).toNat ≤ 8 ∧ 0 ≤ btI str_14a5d850c2 (v : Int) := by
  have := tab_ok v h
  simp only [tabOk, Bool.and_eq_true, decide_eq_true_eq, Bool.or_eq_true, beq_iff_eq, bne_iff_ne] at this
  obtain ⟨⟨⟨⟨h1, h2⟩, h3⟩, h4⟩, h5⟩ := this
  refine ⟨⟨h1, fun h0 => ?_, fun h0 => ?_⟩, h4, h5⟩
  · rcases h2 with h2 | h2
    · exact absurd h2 h0
    · exact h2
  · rcases h3 with h3 | h3
    · exact absurd h0 h3
    · exact h3

theorem Len32_p15 {x n r : Nat} (h : x < 256) (hr : Bl x r) (hn : n ≤ 1000) : Ev (fun k => bits_Len32.p15 k (x : Int) (n : Int)) (((n + r : Nat)) : Int) := by
  obtain ⟨h1, h2, h3⟩ := tab_bl h
  have hre := hr.unique h1
  refine Ev.turn (fun k => bits_Len32.p15_succ k _ _) ?_
  unfold bits_Len32.e15
  have e1 : IntKind.u8.wrap (x : Int) = x := by simp [IntKind.wrap, IntKind.signed, IntKind.bits]; omega
  simp only [e1, tab_size]
  refine Ev.tru (by simp; omega) ?_
  have e2 : IntKind.i64.wrap (btI str_14a5d850c2 (x : Int)) = (r : Int) := by rw [wrap_i64 (by omega) (by omega)]; omega
  rw [e2, wrap_i64 (by omega) (by omega)]
  exact Ev.pure
theorem Len32_p9 {x n r : Nat} (h : x < 65536) (hr : Bl x r) (hn : n ≤ 100) : Ev (fun k => bits_Len32.p9 k (x : Int) (n : Int)) (((n + r : Nat)) : Int) := by
  refine Ev.turn (fun k => bits_Len32.p9_succ k _ _) ?_
  unfold bits_Len32.e9
  by_cases h1 : 256 ≤ x
  · refine Ev.tru (by simp; omega) ?_
    have e1 : Int.fdiv (x : Int) (2 ^ 8) = ((x / 2 ^ 8 : Nat) : Int) := by rw [Int.fdiv_eq_ediv_of_nonneg _ (by omega)]; omega
    have e2 : IntKind.i64.wrap ((n : Int) + 8) = ((n + 8 : Nat) : Int) := by rw [wrap_i64 (by omega) (by omega)]; omega
    rw [e1, e2]
    have hne : x / 2 ^ 8 ≠ 0 := by omega
    obtain ⟨g1, g2, g3⟩ := tab_bl (v := x / 2 ^ 8) (by omega)
    have hs := Bl.shift (j := 8) (by omega) g1
    have := hr.unique hs
    have := Len32_p15 (x := x / 2 ^ 8) (n := n + 8) (by omega) g1 (by omega)
    rw [show n + r = n + 8 + (btI str_14a5d850c2 ((x / 2 ^ 8 : Nat) : Int)).toNat by omega]
    exact this
  · refine Ev.fls (by simp; omega) ?_
    exact Len32_p15 (by omega) hr (by omega)
theorem bl_exists (x : Nat) (h : x < 65536) : ∃ r, Bl x r := by
  by_cases h1 : 256 ≤ x
  · exact ⟨_, Bl.shift (j := 8) (by omega) (tab_bl (v := x / 2 ^ 8) (by omega)).1⟩
  · exact ⟨_, (tab_bl (v := x) (by omega)).1⟩
theorem Len32_ev {x : Nat} (h : x < 4294967296) : ∃ r, Bl x r ∧ r ≤ 32 ∧ Ev (fun k => bits_Len32.f k (x : Int)) (r : Int) := by
  have fin : ∀ {r}, Bl x r → r ≤ 32 := fun {r} hr => by
    by_cases h0 : x = 0
    · rw [hr.zero h0]; omega
    · have h1 := hr.low h0
      have a1 : 2 ^ (r - 1) < 2 ^ 32 := Nat.lt_of_le_of_lt h1.2 h
      have b1 := (Nat.pow_lt_pow_iff_right (by omega : 1 < 2)).1 a1
      omega
  unfold bits_Len32.f bits_Len32.e
  by_cases h1 : 65536 ≤ x
  · obtain ⟨r, hr⟩ := bl_exists (x / 2 ^ 16) (by omega)
    have hs := Bl.shift (j := 16) (by omega) hr
    refine ⟨r + 16, hs, fin hs, Ev.tru (by simp; omega) ?_⟩
    have e1 : Int.fdiv (x : Int) (2 ^ 16) = ((x / 2 ^ 16 : Nat) : Int) := by rw [Int.fdiv_eq_ediv_of_nonneg _ (by omega)]; omega
    rw [e1, Nat.add_comm]
    exact Len32_p9 (n := 16) (by omega) hr (by omega)
  · obtain ⟨r, hr⟩ := bl_exists x (by omega)
    refine ⟨r, hr, fin hr, Ev.fls (by simp; omega) ?_⟩
    have := Len32_p9 (n := 0) (by omega) hr (by omega)
    rw [Nat.zero_add] at this
    exact this

theorem lim_snoc {n : Nat} (h : n ≠ 0) : ∃ l x, lim n = l ++ [x] ∧ 0 < x ∧ x < B ∧ Lim l := by
  have hne : lim n ≠ [] := by rw [lim_pos h]; simp
  refine ⟨(lim n).dropLast, (lim n).getLast hne, (List.dropLast_concat_getLast hne).symm, ?_, ?_, ?_⟩
  · have hlim := Lim_lim n
    have h1 := hlim _ (List.getLast_mem hne)
    have h2 : norm (lim n) = lim n := by rw [norm_eq_lim hlim, V_lim]; rfl
    rcases (show (lim n).getLast hne = 0 ∨ 0 < (lim n).getLast hne by omega) with h3 | h3
    · have h4 := List.dropLast_concat_getLast hne
      rw [h3] at h4
      have h5 := congrArg List.length h2
      rw [← h4, norm_snoc_zero] at h5
      have h6 := norm_length (lim n).dropLast
      simp only [List.length_append, List.length_cons, List.length_nil] at h5
      omega
    · exact h3
  · exact ((Lim_lim n) _ (List.getLast_mem hne)).2
  · exact fun x hx => (Lim_lim n) x ((List.dropLast_sublist _).mem hx)

theorem lim_top {n : Nat} (h : n ≠ 0) : 0 < nthD 0 (lim n) (L n - 1) ∧ nthD 0 (lim n) (L n - 1) < B ∧ B ^ (L n - 1) ≤ (n : Int) ∧ 1 ≤ L n := by
  obtain ⟨l, x, e, h1, h2, h3⟩ := lim_snoc h
  have hl : L n = l.length + 1 := by unfold L; rw [e]; simp
  have hx : nthD 0 (lim n) (L n - 1) = x := by rw [hl, e, nthD_eq]; simp
  rw [hx]
  refine ⟨h1, h2, ?_, by omega⟩
  have := lim_low h
  have h4 : ((4294967296 ^ ((lim n).length - 1) : Nat) : Int) ≤ n := by exact_mod_cast this
  rw [Int.natCast_pow] at h4
  exact h4

theorem Nt.bits {M m : Nat} {a : List Int} (ha : Nt M a m) (hM : M ≤ 17592186044416) : ∃ r, Bl m r ∧ r ≤ 32 * M ∧ Ev (fun k => nat_Bits.f k a) (r : Int) := by
  unfold nat_Bits.f nat_Bits.e
  have hL := ha.L
  by_cases h0 : m = 0
  · subst h0
    refine ⟨0, ⟨by simp, fun h => absurd rfl h, fun _ => rfl⟩, by omega, Ev.bind (ha.trim (by omega)) ?_⟩
    rw [lim_zero]
    exact Ev.tru (by simp) Ev.pure
  · have ht := lim_top h0
    unfold FK.L at ht hL
    generalize hx : nthD 0 (FK.lim m) ((FK.lim m).length - 1) = x at ht
    simp only [B] at ht
    obtain ⟨r, hr, hr32, hev⟩ := Len32_ev (x := x.toNat) (by omega)
    have hr1 := hr.low (by omega)
    refine ⟨32 * ((FK.lim m).length - 1) + r, ?_, by omega, Ev.bind (ha.trim (by omega)) ?_⟩
    · have hd : m / 2 ^ (32 * ((FK.lim m).length - 1)) = x.toNat := by
        have h2 := V_take_succ' (FK.lim m) ((FK.lim m).length - 1)
        rw [show (FK.lim m).length - 1 + 1 = (FK.lim m).length by omega, List.take_of_length_le (Nat.le_refl _), V_lim, hx] at h2
        have h3 := V_bounds (Lim_lim m) ((FK.lim m).length - 1) (by omega)
        have h4 : (2 : Nat) ^ (32 * ((FK.lim m).length - 1)) = 4294967296 ^ ((FK.lim m).length - 1) := by rw [Nat.pow_mul]
        rw [h4]
        generalize (FK.lim m).length - 1 = t at *
        have h5 : (B : Int) ^ t = ((4294967296 ^ t : Nat) : Int) := by rw [Int.natCast_pow]; rfl
        rw [h5] at h2 h3
        obtain ⟨v, hv⟩ : ∃ v : Nat, V (List.take t (FK.lim m)) = v := ⟨(V (List.take t (FK.lim m))).toNat, by omega⟩
        obtain ⟨y, rfl⟩ : ∃ y : Nat, x = y := ⟨x.toNat, by omega⟩
        rw [hv] at h2 h3
        have h6 : m = v + 4294967296 ^ t * y := by exact_mod_cast h2
        have h7 : v < 4294967296 ^ t := by exact_mod_cast h3.2
        rw [h6, Nat.add_mul_div_left _ _ (by omega), Nat.div_eq_of_lt h7]
        simp
      have := Bl.shift (x := m) (r := r) (j := 32 * ((FK.lim m).length - 1)) ?_ (by rw [hd]; exact hr)
      · rw [Nat.add_comm] at this
        exact this
      · apply Classical.byContradiction
        intro hlt
        rw [Nat.div_eq_of_lt (Nat.lt_of_not_le hlt)] at hd
        omega
    · refine Ev.fls (dec_f (by omega)) ?_
      have e1 : IntKind.i64.wrap (((FK.lim m).length : Int) - 1) = (((FK.lim m).length - 1 : Nat) : Int) := by rw [wrap_i64 (by omega) (by omega)]; omega
      simp only [e1, Int.toNat_natCast, hx]
      refine Ev.tru (by simp; omega) ?_
      have e2 : x = (x.toNat : Int) := by omega
      rw [e2]
      refine Ev.bind hev ?_
      have e3 : IntKind.i64.wrap (32 * (((FK.lim m).length - 1 : Nat) : Int)) = 32 * (((FK.lim m).length - 1 : Nat) : Int) := wrap_i64 (by omega) (by omega)
      rw [e3, wrap_i64 (by omega) (by omega)]
      have e4 : 32 * (((FK.lim m).length - 1 : Nat) : Int) + (r : Int) = ((32 * ((FK.lim m).length - 1) + r : Nat) : Int) := by omega
      rw [e4]
      exact Ev.pure

end Go.FK
