/- The plain law: the reference's division and greatest common divisor. -/
import Derived.Test.YtiacmfebhoodnaaMaS
namespace Go.FK

theorem V_drop {l : List Int} (h : Lim l) (j : Nat) (hj : j ≤ l.length) : V (l.drop j) = V l / B ^ j := by
  have h1 := V_split l j hj
  have h2 := V_bounds h j hj
  have h3 := Bpow_pos j
  rw [h1, Int.add_mul_ediv_left _ _ (by omega), Int.ediv_eq_zero_of_lt h2.1 h2.2, Int.zero_add]

theorem or_bit {x s c : Nat} (hs : s < 32) (hx : x = 2 ^ (s + 1) * c) (hlt : x < 4294967296) : bitsI .or .u32 (x : Int) (IntKind.u32.wrap (1 * 2 ^ min s 32)) = ((x + 2 ^ s : Nat) : Int) ∧ x + 2 ^ s < 4294967296 := by
  have hp : (2 : Nat) ^ s ≤ 2 ^ 31 := Nat.pow_le_pow_right (by omega) (by omega)
  have hp0 : 0 < (2 : Nat) ^ s := Nat.pow_pos (by omega)
  have hp1 : (2 : Nat) ^ (s + 1) = 2 ^ s * 2 := Nat.pow_succ ..
  have hp2 : (2 : Nat) ^ (s + 1) * 2 ^ (32 - (s + 1)) = 4294967296 := by rw [← Nat.pow_add, show s + 1 + (32 - (s + 1)) = 32 by omega]
  have e1 : IntKind.u32.wrap (1 * 2 ^ min s 32) = ((2 ^ s : Nat) : Int) := by
    rw [Nat.min_eq_left (by omega), Int.one_mul]
    have : (2 : Int) ^ s = ((2 ^ s : Nat) : Int) := by rw [Int.natCast_pow]; rfl
    rw [this, wrap_u32_id (by omega) (by omega)]
  have hc : c < 2 ^ (32 - (s + 1)) := by
    rw [hx, ← hp2] at hlt
    exact Nat.lt_of_mul_lt_mul_left hlt
  have hsum : x + 2 ^ s < 4294967296 := by
    have : 2 ^ (s + 1) * (c + 1) ≤ 2 ^ (s + 1) * 2 ^ (32 - (s + 1)) := Nat.mul_le_mul_left _ hc
    rw [hp2, Nat.mul_add, ← hx] at this
    omega
  refine ⟨?_, hsum⟩
  rw [e1, bits_or32 (by omega) (by omega)]
  simp only [Int.toNat_natCast]
  have hps : (2 : Nat) ^ s < 2 ^ (s + 1) := by omega
  rw [hx, Nat.two_pow_add_eq_or_of_lt hps]

theorem half_step (m t : Nat) : m / 2 ^ t = 2 * (m / 2 ^ (t + 1)) + (m.testBit t).toNat := by
  rw [Nat.pow_succ, ← Nat.div_div_eq_div_mul, Nat.testBit_eq_decide_div_mod_eq]
  by_cases h : m / 2 ^ t % 2 = 1
  · simp [h]; omega
  · simp [h]; omega

theorem rDiv_p0 {m n : Nat} (hn : n ≠ 0) (hm : L m ≤ 17592186044415) (hnL : L n ≤ 17592186044415) : ∀ (t : Nat) (q : List Int), t ≤ 32 * L m → q.length = L m → Lim q → V q = ((m / 2 ^ t / n * 2 ^ t : Nat) : Int) →
    Ev (fun k => ref01_Div.p0 k q (lim m) (lim n) (lim (m / 2 ^ t % n)) ((t : Int) - 1)) (lim (m / n), lim (m % n), (0 : Int)) := by
  have am : Nt (L m) (lim m) m := Nt.of (Nat.le_refl _)
  have bn : Nt (L n) (lim n) n := Nt.of (Nat.le_refl _)
  intro t
  induction t with
  | zero =>
    intro q _ hq hlq hV
    refine Ev.turn (fun k => ref01_Div.p0_succ k _ _ _ _ _) ?_
    unfold ref01_Div.e0
    refine Ev.fls (by simp) ?_
    simp only [Nat.pow_zero, Nat.div_one, Nat.mul_one] at hV ⊢
    have n1 : Nt (L m) q (m / n) := ⟨hlq, hV, by omega⟩
    exact Ev.bind (n1.rNorm (by omega)) Ev.pure
  | succ i ih =>
    intro q hi hq hlq hV
    refine Ev.turn (fun k => ref01_Div.p0_succ k _ _ _ _ _) ?_
    unfold ref01_Div.e0
    have e0 : ((i + 1 : Nat) : Int) - 1 = (i : Int) := by omega
    have e1 : IntKind.i64.wrap (Int.tdiv (i : Int) 32) = ((i / 32 : Nat) : Int) := by
      rw [Int.tdiv_eq_ediv_of_nonneg (by omega), wrap_i64 (by omega) (by omega)]; omega
    have e2 : IntKind.u64.wrap (Int.tmod (i : Int) 32) = ((i % 32 : Nat) : Int) := by
      rw [Int.tmod_eq_emod_of_nonneg (by omega), wrap_u64_id (by omega) (by omega)]; omega
    have hst := half_step m i
    generalize hX : m / 2 ^ (i + 1) = X at *
    generalize hb : (m.testBit i).toNat = b at *
    have hb1 : b ≤ 1 := by rw [← hb]; exact Bool.toNat_le _
    have hr := Nat.mod_lt X (show 0 < n by omega)
    have hrn : Nt (L n) (lim (X % n)) (X % n) := Nt.of (L_mono (by omega))
    have htw := hrn.twice (by omega) (m.testBit i)
    rw [hb] at htw
    have hdm := Nat.div_add_mod X n
    have hL2 : L (2 * (X % n) + b) ≤ L n + 1 := by
      apply Nat.le_trans (L_mono (show 2 * (X % n) + b ≤ n + n by omega))
      have := L_add n n
      omega
    have h2 : Nt (L n + 1) (lim (2 * (X % n) + b)) (2 * (X % n) + b) := Nt.of hL2
    have hcmp := h2.rcmp (bn.mono (by omega)) (by omega)
    -- behind a bit
    have back : ∀ (q' : List Int) (R : Nat), q'.length = L m → Lim q' → V q' = ((m / 2 ^ i / n * 2 ^ i : Nat) : Int) → R = m / 2 ^ i % n →
        Ev (fun k => ref01_Div.p25 k q' (lim m) (lim n) (lim R) (i : Int)) (lim (m / n), lim (m % n), (0 : Int)) := by
      intro q' R h1 h2 h3 h4
      refine Ev.turn (fun k => ref01_Div.p25_succ k _ _ _ _ _) ?_
      unfold ref01_Div.e25
      rw [wrap_i64 (by omega) (by omega), h4]
      exact ih q' (by omega) h1 h2 h3
    simp only [e0, e1, e2, Int.toNat_natCast]
    refine Ev.tru (by simp) ?_
    have hbit : Ev (fun k => ref01_Bit.f k (lim m) (i : Int)) (m.testBit i) := ⟨0, fun k _ => bit_eq am (by omega) i (by omega)⟩
    refine Ev.bind hbit (Ev.bind htw (Ev.bind hcmp ?_))
    have hp0 : 0 < 2 ^ i := Nat.pow_pos (by omega)
    have hpi : 2 ^ (i + 1) = 2 * 2 ^ i := by rw [Nat.pow_succ, Nat.mul_comm]
    by_cases hge : n ≤ 2 * (X % n) + b
    · have hnew : m / 2 ^ i / n = 2 * (X / n) + 1 ∧ m / 2 ^ i % n = 2 * (X % n) + b - n := by
        rw [hst]
        have e : 2 * X + b = (2 * (X % n) + b - n) + n * (2 * (X / n) + 1) := by
          have : n * (2 * (X / n) + 1) = 2 * (n * (X / n)) + n := by rw [Nat.mul_add, Nat.mul_left_comm, Nat.mul_one]
          omega
        have hlt : 2 * (X % n) + b - n < n := by omega
        rw [e, Nat.add_mul_div_left _ _ (Nat.pos_of_ne_zero hn), Nat.add_mul_mod_self_left, Nat.mod_eq_of_lt hlt, Nat.div_eq_of_lt hlt]
        exact ⟨Nat.zero_add _, rfl⟩
      refine Ev.tru (dec_t ?_) ?_
      · unfold sgn
        by_cases h1 : ((2 * (X % n) + b : Nat) : Int) = n
        · rw [if_neg (by omega), if_pos h1]; omega
        · rw [if_neg (by omega), if_neg h1]; omega
      refine Ev.bind (h2.rsub (bn.mono (by omega)) (by omega) hge) ?_
      have nq : Nt (L m) q (X / n * 2 ^ (i + 1)) := ⟨hlq, hV, by omega⟩
      have hg := nq.get (i / 32)
      obtain ⟨c, hc⟩ : ∃ c, X / n * 2 ^ (i + 1) / 2 ^ (32 * (i / 32)) % 4294967296 = 2 ^ (i % 32 + 1) * c := by
        refine ⟨X / n % 2 ^ (32 - (i % 32 + 1)), ?_⟩
        have e3 : i + 1 = (i % 32 + 1) + 32 * (i / 32) := by omega
        have e4 : (4294967296 : Nat) = 2 ^ (i % 32 + 1) * 2 ^ (32 - (i % 32 + 1)) := by rw [← Nat.pow_add, show i % 32 + 1 + (32 - (i % 32 + 1)) = 32 by omega]
        have e5 : X / n * 2 ^ (i + 1) / 2 ^ (32 * (i / 32)) = 2 ^ (i % 32 + 1) * (X / n) := by
          have e6 : 2 ^ (i + 1) = 2 ^ (i % 32 + 1) * 2 ^ (32 * (i / 32)) := by rw [← Nat.pow_add, ← e3]
          rw [e6, ← Nat.mul_assoc, Nat.mul_div_cancel _ (Nat.pow_pos (by omega)), Nat.mul_comm]
        rw [e5, e4, Nat.mul_mod_mul_left]
      obtain ⟨o1, o2⟩ := or_bit (s := i % 32) (by omega) hc (Nat.mod_lt _ (by omega))
      rw [← hg] at o1
      simp only [o1]
      refine Ev.tru (by simp; omega) (Ev.fls (dec_f (by omega)) (Ev.tru (by simp; omega) ?_))
      refine back _ _ (by rw [length_setN]; exact hq) (hlq.set ⟨Int.natCast_nonneg _, Int.ofNat_lt.2 o2⟩) ?_ hnew.2.symm
      rw [V_setN _ _ _ (by omega), hV, hg, hnew.1, hpi]
      have e7 : B ^ (i / 32) = ((2 ^ (32 * (i / 32)) : Nat) : Int) := by rw [Nat.pow_mul, Int.natCast_pow]; rfl
      have e8 : 2 ^ (32 * (i / 32)) * 2 ^ (i % 32) = 2 ^ i := by rw [← Nat.pow_add, show 32 * (i / 32) + i % 32 = i by omega]
      rw [e7]
      generalize X / n * 2 ^ (i + 1) / 2 ^ (32 * (i / 32)) % 4294967296 = y at *
      have e9 : ((y + 2 ^ (i % 32) : Nat) : Int) - (y : Int) = ((2 ^ (i % 32) : Nat) : Int) := by omega
      have e10 : ∀ z : Nat, ((z + 2 ^ (i % 32) : Nat) : Int) - (z : Int) = ((2 ^ (i % 32) : Nat) : Int) := fun z => by omega
      rw [e10, ← Int.natCast_mul, e8, ← Int.natCast_add]
      congr 1
      rw [Nat.add_mul, Nat.one_mul, Nat.mul_assoc 2, Nat.mul_left_comm]
    · have hnew : m / 2 ^ i / n = 2 * (X / n) ∧ m / 2 ^ i % n = 2 * (X % n) + b := by
        rw [hst]
        have e : 2 * X + b = (2 * (X % n) + b) + n * (2 * (X / n)) := by
          have : n * (2 * (X / n)) = 2 * (n * (X / n)) := by rw [Nat.mul_left_comm]
          omega
        have hlt : 2 * (X % n) + b < n := by omega
        rw [e, Nat.add_mul_div_left _ _ (Nat.pos_of_ne_zero hn), Nat.add_mul_mod_self_left, Nat.mod_eq_of_lt hlt, Nat.div_eq_of_lt hlt]
        exact ⟨Nat.zero_add _, rfl⟩
      refine Ev.fls (dec_f (by rw [sgn_lt (by omega)]; omega)) ?_
      refine back _ _ hq hlq ?_ hnew.2.symm
      rw [hV, hnew.1, hpi, Nat.mul_assoc 2, Nat.mul_left_comm]

theorem Nt.rdiv_zero {M m : Nat} {a b : List Int} (_ha : Nt M a m) (hb : Nt M b 0) (hM : M ≤ 17592186044415) : Ev (fun k => ref01_Div.f k a b) ([], [], (11 : Int)) := by
  unfold ref01_Div.f ref01_Div.e
  refine Ev.bind (hb.rNorm (by omega)) ?_
  rw [lim_zero]
  exact Ev.tru (by simp) Ev.pure

theorem Nt.rdiv {M m n : Nat} {a b : List Int} (ha : Nt M a m) (hb : Nt M b n) (hM : M ≤ 17592186044415) (hn : n ≠ 0) : Ev (fun k => ref01_Div.f k a b) (FK.lim (m / n), FK.lim (m % n), (0 : Int)) := by
  have lm := ha.L
  have ln := hb.L
  have hn1 := L_pos hn
  have htop := (lim_top hn).2.2.1
  unfold ref01_Div.f ref01_Div.e
  refine Ev.bind (hb.rNorm (by omega)) ?_
  refine Ev.fls (dec_f (by unfold FK.L at hn1; omega)) (Ev.bind (ha.rNorm (by omega)) ?_)
  refine Ev.tru (by unfold FK.L at lm; simp; omega) ?_
  have hlm : (FK.lim m).length = FK.L m := rfl
  have hln : (FK.lim n).length = FK.L n := rfl
  have go : ∀ high : Nat, high ≤ FK.L m → high ≤ FK.L n - 1 → Ev (fun k => ref01_Div.p19 k (List.replicate (FK.L m) 0) (FK.lim m) (FK.lim n) (high : Int)) (FK.lim (m / n), FK.lim (m % n), (0 : Int)) := by
    intro high h1 h2
    refine Ev.turn (fun k => ref01_Div.p19_succ k _ _ _ _) ?_
    unfold ref01_Div.e19
    have e1 : IntKind.i64.wrap ((FK.L m : Int) - (high : Int)) = ((FK.L m - high : Nat) : Int) := by rw [wrap_i64 (by omega) (by omega)]; omega
    have e2 : IntKind.i64.wrap (IntKind.i64.wrap (32 * ((FK.L m - high : Nat) : Int)) - 1) = ((32 * (FK.L m - high) : Nat) : Int) - 1 := by
      rw [wrap_i64 (n := 32 * ((FK.L m - high : Nat) : Int)) (by omega) (by omega), wrap_i64 (by omega) (by omega)]; omega
    simp only [hlm, e1, e2, Int.toNat_natCast]
    refine Ev.tru (by simp) ?_
    have e3 : List.take (FK.L m) (FK.lim m) = FK.lim m := List.take_of_length_le (by omega)
    rw [e3]
    have hX : V ((FK.lim m).drop (FK.L m - high)) = ((m / 2 ^ (32 * (FK.L m - high)) : Nat) : Int) := by
      rw [V_drop (Lim_lim m) _ (by omega), V_lim]
      have e7 : B ^ (FK.L m - high) = ((2 ^ (32 * (FK.L m - high)) : Nat) : Int) := by rw [Nat.pow_mul, Int.natCast_pow]; rfl
      rw [e7]; rfl
    have n1 : Nt high ((FK.lim m).drop (FK.L m - high)) (m / 2 ^ (32 * (FK.L m - high))) := ⟨(Lim_lim m).drop _, hX, by simp; omega⟩
    have hlt : m / 2 ^ (32 * (FK.L m - high)) < n := by
      have h3 : V ((FK.lim m).drop (FK.L m - high)) < B ^ ((FK.lim m).drop (FK.L m - high)).length := V_lt ((Lim_lim m).drop _)
      rw [hX] at h3
      have h4 : B ^ ((FK.lim m).drop (FK.L m - high)).length ≤ B ^ (FK.L n - 1) := Bpow_le (by simp; omega)
      have h5 : ((m / 2 ^ (32 * (FK.L m - high)) : Nat) : Int) < (n : Int) := by
        exact Int.lt_of_lt_of_le h3 (Int.le_trans h4 htop)
      exact Int.ofNat_lt.1 h5
    refine Ev.bind (n1.rNorm (by omega)) ?_
    have := rDiv_p0 (m := m) hn (by omega) (by omega) (32 * (FK.L m - high)) (List.replicate (FK.L m) 0) (by omega) (by simp) (Lim_replicate_zero _) (by rw [V_replicate_zero, Nat.div_eq_of_lt hlt]; simp)
    rw [Nat.mod_eq_of_lt hlt] at this
    exact this
  have e1 : IntKind.i64.wrap ((FK.L n : Int) - 1) = ((FK.L n - 1 : Nat) : Int) := by rw [wrap_i64 (by omega) (by omega)]; omega
  simp only [hlm, hln, e1, Int.toNat_natCast]
  by_cases h : FK.L m < FK.L n - 1
  · exact Ev.tru (dec_t (by omega)) (go _ (Nat.le_refl _) (by omega))
  · exact Ev.fls (dec_f (by omega)) (go _ (by omega) (Nat.le_refl _))

/-! ### Gcd -/
theorem sgn_zero_iff {x y : Int} : sgn x y = 0 ↔ x = y := by
  unfold sgn
  by_cases h1 : x < y
  · rw [if_pos h1]; omega
  · rw [if_neg h1]
    by_cases h2 : x = y
    · rw [if_pos h2]; omega
    · rw [if_neg h2]; omega
theorem testBit0 (n : Nat) : n.testBit 0 = decide (n % 2 = 1) := by rw [Nat.testBit_eq_decide_div_mod_eq]; simp

theorem gcd_half_left {a b : Nat} (ha : a % 2 = 0) (hb : b % 2 = 1) : Nat.gcd (a / 2) b = Nat.gcd a b := by
  have h : Nat.Coprime 2 b := by
    rw [Nat.coprime_iff_gcd_eq_one, Nat.gcd_rec, hb]
    decide
  have e : a = 2 * (a / 2) := by omega
  conv => rhs; rw [e]
  exact (h.gcd_mul_left_cancel _).symm

section
variable {M : Nat}

theorem rGcd_bit (hM : M ≤ 17592186044415) {a : Nat} (ha : L a ≤ M) : Ev (fun k => ref01_Bit.f k (lim a) 0) (decide (a % 2 = 1)) := by
  have := fun k => bit_eq (k := k) (Nt.of ha) (by omega) 0 (by omega)
  rw [← testBit0]
  exact ⟨0, fun k _ => this k⟩
theorem rGcd_half (hM : M ≤ 17592186044415) {a : Nat} (ha : L a ≤ M) : Ev (fun k => ref01_Shift.f k (lim a) (-1)) (lim (a / 2), (0 : Int)) := by
  have := (Nt.of ha).rshift_down hM 1 (by omega) (by omega)
  simpa using this

theorem rGcd_p16 (hM : M ≤ 17592186044415) (twos : Nat) (ht : twos ≤ 1000000000000000000) (g R : Nat) (hR : R = g * 2 ^ twos) (hL : L R ≤ M) : ∀ (m i : Nat), m + i = twos → Ev (fun k => ref01_Gcd.p16 k (lim (g * 2 ^ i)) (twos : Int) (i : Int)) (lim R) := by
  intro m
  induction m with
  | zero =>
    intro i hi
    have hi : i = twos := by omega
    subst hi
    refine Ev.turn (fun k => ref01_Gcd.p16_succ k _ _ _) ?_
    unfold ref01_Gcd.e16
    rw [hR]
    exact Ev.fls (by simp) Ev.pure
  | succ m ih =>
    intro i hi
    refine Ev.turn (fun k => ref01_Gcd.p16_succ k _ _ _) ?_
    unfold ref01_Gcd.e16
    have hl : L (g * 2 ^ i) ≤ M := Nat.le_trans (L_mono (by rw [hR]; exact Nat.mul_le_mul_left _ (Nat.pow_le_pow_right (by omega) (by omega)))) hL
    have := (Nt.of hl).twice (by omega) false
    have e : 2 * (g * 2 ^ i) + false.toNat = g * 2 ^ (i + 1) := by rw [Nat.pow_succ, Nat.mul_comm (2 ^ i), Nat.mul_left_comm]; simp
    rw [e] at this
    refine Ev.tru (dec_t (by omega)) (Ev.bind this ?_)
    rw [wrap_i64 (by omega) (by omega)]
    have e2 : (i : Int) + 1 = ((i + 1 : Nat) : Int) := by omega
    rw [e2]
    exact ih (i + 1) (by omega)

/-- The loop: one of the two is odd. -/
theorem rGcd_main (hM : M ≤ 17592186044415) (twos : Nat) (ht : twos ≤ 1000000000000000000) (g R : Nat) (hR : R = g * 2 ^ twos) (hLR : L R ≤ M) : ∀ (N a b : Nat), a + b ≤ N → a ≠ 0 → L a ≤ M → L b ≤ M → (a % 2 = 1 ∨ b % 2 = 1) → Nat.gcd a b = g →
    Ev (fun k => ref01_Gcd.p4 k (lim a) (lim b) (twos : Int)) (lim R) ∧ (b ≠ 0 → Ev (fun k => ref01_Gcd.p8 k (lim a) (lim b) (twos : Int)) (lim R)) ∧ (b ≠ 0 → a % 2 = 1 → Ev (fun k => ref01_Gcd.p12 k (lim a) (lim b) (twos : Int)) (lim R)) := by
  intro N
  induction N with
  | zero => intro a b h1 h2; omega
  | succ N ih =>
    intro a b hN ha la lb hodd hg
    -- b made odd, the lesser taken off
    have p12 : b ≠ 0 → a % 2 = 1 → Ev (fun k => ref01_Gcd.p12 k (lim a) (lim b) (twos : Int)) (lim R) := by
      intro hb0 hao
      refine Ev.turn (fun k => ref01_Gcd.p12_succ k _ _ _) ?_
      unfold ref01_Gcd.e12
      refine Ev.bind (rGcd_bit hM lb) ?_
      by_cases hbo : b % 2 = 1
      · refine Ev.fls (by simp [hbo]) (Ev.bind ((Nt.of la).rcmp (Nt.of lb) (by omega)) ?_)
        have sub : ∀ x y : Nat, x ≤ y → x % 2 = 1 → x + y ≤ N + 1 → L x ≤ M → L y ≤ M → Nat.gcd x y = g → Ev (fun k => ref01_Gcd.p45 k (lim x) (lim y) (twos : Int)) (lim R) := by
          intro x y hxy hx1 hs lx ly hg'
          refine Ev.turn (fun k => ref01_Gcd.p45_succ k _ _ _) ?_
          unfold ref01_Gcd.e45
          refine Ev.bind ((Nt.of ly).rsub (Nt.of lx) (by omega) hxy) ?_
          exact (ih x (y - x) (by omega) (by omega) lx (Nat.le_trans (L_sub _ _) ly) (Or.inl hx1) (by rw [Nat.gcd_sub_self_right hxy]; exact hg')).1
        by_cases hgt : b < a
        · rw [sgn_gt (by omega)]
          refine Ev.tru (by simp) ?_
          exact sub b a (by omega) hbo (by omega) lb la (by rw [Nat.gcd_comm]; exact hg)
        · refine Ev.fls (dec_f ?_) (sub a b (by omega) hao (by omega) la lb hg)
          unfold sgn
          by_cases h1 : (a : Int) = b
          · rw [if_neg (by omega), if_pos h1]; omega
          · rw [if_pos (by omega)]; omega
      · refine Ev.tru (by simp; omega) (Ev.bind (rGcd_half hM lb) ?_)
        have hlb : L (b / 2) ≤ M := Nat.le_trans (L_div _ _) lb
        exact (ih a (b / 2) (by omega) ha la hlb (Or.inl hao) (by rw [Nat.gcd_comm, gcd_half_left (by omega) hao, Nat.gcd_comm]; exact hg)).2.2 (by omega) hao
    have p8 : b ≠ 0 → Ev (fun k => ref01_Gcd.p8 k (lim a) (lim b) (twos : Int)) (lim R) := by
      intro hb0
      refine Ev.turn (fun k => ref01_Gcd.p8_succ k _ _ _) ?_
      unfold ref01_Gcd.e8
      refine Ev.bind (rGcd_bit hM la) ?_
      by_cases hao : a % 2 = 1
      · exact Ev.fls (by simp [hao]) (p12 hb0 hao)
      · refine Ev.tru (by simp; omega) (Ev.bind (rGcd_half hM la) ?_)
        have hla : L (a / 2) ≤ M := Nat.le_trans (L_div _ _) la
        exact (ih (a / 2) b (by omega) (by omega) hla lb (by omega) (by rw [gcd_half_left (by omega) (by omega)]; exact hg)).2.1 hb0
    refine ⟨?_, p8, p12⟩
    refine Ev.turn (fun k => ref01_Gcd.p4_succ k _ _ _) ?_
    unfold ref01_Gcd.e4
    by_cases hb0 : b = 0
    · subst hb0
      rw [lim_zero]
      refine Ev.fls (by simp) ?_
      rw [Nat.gcd_zero_right] at hg
      have := rGcd_p16 hM twos ht g R hR hLR twos 0 (by omega)
      rw [Nat.pow_zero, Nat.mul_one] at this
      rw [hg]
      exact this
    · have := L_pos hb0
      refine Ev.tru (dec_t (by unfold L at this; omega)) (p8 hb0)

theorem rGcd_p0 (hM : M ≤ 17592186044415) (R A : Nat) (hA : L A ≤ M) : ∀ (N a b twos : Nat), a + b ≤ N → a ≠ 0 → b ≠ 0 → L a ≤ M → L b ≤ M → a * 2 ^ twos ≤ A → Nat.gcd a b * 2 ^ twos = R → Ev (fun k => ref01_Gcd.p0 k (lim a) (lim b) (twos : Int)) (lim R) := by
  intro N
  induction N with
  | zero => intro a b _ h1 h2; omega
  | succ N ih =>
    intro a b twos hN ha hb la lb hx hR
    have hLR : L R ≤ M := by
      refine Nat.le_trans (L_mono ?_) hA
      rw [← hR]
      exact Nat.le_trans (Nat.mul_le_mul_right _ (Nat.gcd_le_left _ (by omega))) hx
    have ht : twos ≤ 1000000000000000 := by
      have h1 : 2 ^ twos ≤ a * 2 ^ twos := Nat.le_mul_of_pos_left _ (by omega)
      have h2 : 2 ^ twos < 2 ^ (32 * M) := by
        have h3 := L_lt A
        have h4 : (4294967296 : Nat) ^ L A ≤ 4294967296 ^ M := Nat.pow_le_pow_right (by omega) hA
        have h5 : (4294967296 : Nat) ^ M = 2 ^ (32 * M) := by rw [Nat.pow_mul]
        omega
      have := (Nat.pow_lt_pow_iff_right (by omega : 1 < 2)).1 h2
      omega
    refine Ev.turn (fun k => ref01_Gcd.p0_succ k _ _ _) ?_
    unfold ref01_Gcd.e0
    refine Ev.bind (rGcd_bit hM la) ?_
    by_cases hao : a % 2 = 1
    · refine Ev.fls (by simp [hao]) ?_
      exact (rGcd_main hM twos (by omega) _ R hR.symm hLR _ a b (Nat.le_refl _) ha la lb (Or.inl hao) rfl).1
    · refine Ev.tru (by simp; omega) (Ev.bind (rGcd_bit hM lb) ?_)
      by_cases hbo : b % 2 = 1
      · refine Ev.fls (by simp [hbo]) ?_
        exact (rGcd_main hM twos (by omega) _ R hR.symm hLR _ a b (Nat.le_refl _) ha la lb (Or.inr hbo) rfl).1
      · refine Ev.tru (by simp; omega) (Ev.bind (rGcd_half hM la) (Ev.bind (rGcd_half hM lb) ?_))
        have hla : L (a / 2) ≤ M := Nat.le_trans (L_div _ _) la
        have hlb : L (b / 2) ≤ M := Nat.le_trans (L_div _ _) lb
        rw [wrap_i64 (by omega) (by omega)]
        have e2 : (twos : Int) + 1 = ((twos + 1 : Nat) : Int) := by omega
        rw [e2]
        refine ih (a / 2) (b / 2) (twos + 1) (by omega) (by omega) (by omega) hla hlb ?_ ?_
        · refine Nat.le_trans ?_ hx
          rw [Nat.pow_succ, Nat.mul_comm (2 ^ twos), ← Nat.mul_assoc]
          exact Nat.mul_le_mul_right _ (by omega)
        · rw [← hR, Nat.pow_succ, Nat.mul_comm (2 ^ twos), ← Nat.mul_assoc]
          congr 1
          have h1 : a = 2 * (a / 2) := by omega
          have h2 : b = 2 * (b / 2) := by omega
          conv => rhs; rw [h1, h2]
          rw [Nat.gcd_mul_left, Nat.mul_comm]
end

theorem Nt.rgcd {M m n : Nat} {a b : List Int} (ha : Nt M a m) (hb : Nt M b n) (hM : M ≤ 17592186044415) : Ev (fun k => ref01_Gcd.f k a b) (FK.lim (Nat.gcd m n)) := by
  have la := ha.L
  have lb := hb.L
  unfold ref01_Gcd.f ref01_Gcd.e
  refine Ev.bind (ha.rNorm (by omega)) (Ev.bind (hb.rNorm (by omega)) ?_)
  by_cases h0 : m = 0
  · subst h0
    rw [Nat.gcd_zero_left, lim_zero]
    exact Ev.tru (by simp) Ev.pure
  have lm := L_pos h0
  refine Ev.fls (dec_f (by unfold FK.L at lm; omega)) ?_
  by_cases h1 : n = 0
  · subst h1
    rw [Nat.gcd_zero_right, lim_zero]
    exact Ev.tru (by simp) Ev.pure
  have ln := L_pos h1
  refine Ev.fls (dec_f (by unfold FK.L at ln; omega)) ?_
  have one : Nt M [1] 1 := ⟨Lim.mk (by simp [B]) Lim.nil, by simp [V], by simp; omega⟩
  have fin : ∀ {x : List Int}, x = FK.lim (Nat.gcd m n) → Ev (fun k => ref01_Gcd.p19 k x) (FK.lim (Nat.gcd m n)) := by
    intro x hx
    refine Ev.turn (fun k => ref01_Gcd.p19_succ k _) ?_
    unfold ref01_Gcd.e19
    rw [hx]
    exact Ev.pure
  refine Ev.bind ((Nt.of la).rcmp one (by omega)) ?_
  by_cases h2 : m = 1
  · subst h2
    refine Ev.tru (by simp [sgn]) (fin ?_)
    rw [Nat.gcd_one_left, lim_one]
  refine Ev.fls (dec_f (by rw [sgn_zero_iff]; omega)) (Ev.bind ((Nt.of lb).rcmp one (by omega)) ?_)
  by_cases h3 : n = 1
  · subst h3
    refine Ev.tru (by simp [sgn]) (fin ?_)
    rw [Nat.gcd_one_right, lim_one]
  refine Ev.fls (dec_f (by rw [sgn_zero_iff]; omega)) ?_
  exact rGcd_p0 hM (Nat.gcd m n) m la _ m n 0 (Nat.le_refl _) h0 h1 la lb (by simp) (by simp)
end Go.FK
